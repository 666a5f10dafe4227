/- Texts that the claim stands on, one behind another. -/
import Derived.Test.YtdkflofgolehkaaA6
set_option linter.unusedVariables false
set_option linter.unusedSimpArgs false
set_option linter.unnecessarySimpa false
section
set_option maxRecDepth 100000
namespace Ds
open Go Am Go.Proofs.Ytdkflofgolehkaa.Cd
def B7m (t:DrRoom) (person:Int):Option ((Chg × dress_plan) × Int) :=
 (L7 t).bind fun x1 =>
 if (x1.2.2 != 0) = true then some (([],plan0),x1.2.2)
 else (loop (M2 t) (0,[])).bind fun ch =>
  (J2 0 (w64 ((List.length t.Persons:Int) - 1)) [person]).bind fun k =>
  if k = true then some (([],plan0),4)
  else (I7 ⟨t⟩).bind fun w=>(P4 t ch w).bind fun z =>
   if (!z.2) = true then some (([],plan0),9) else some ((ch,z.1),0)
def C68 (N:Nat) (t:DrRoom) (ch:Chg) (p:dress_plan):List AO:=[.cells (A4 t),.cells (A9 p),.cells (A4 t),.map (B0y ch),.cells (A4p t (N + 3)),.cells (A9 p)]
def EnQ (H:A1) (t:DrRoom) (r:(Chg × dress_plan) × Int) (e:Ex) (s:B3) (H1:A1):Prop :=
 (match e with | .exit _=>False | _=>True)∧∃ rs H2,results s H1 [.tmp 4,.cell 5 (some 6),.tmp 6] = some rs∧Q2 H.length H1 rs = some (rs,H2) ∧
  ((r.2 != 0) = true∧rs = [.lit (.pointer none),.agg (A9 plan0),.i r.2]∧trunc H.length rs H2 = H∨r.2 = 0∧rs = [.ptr (H.length + 4) 0,.agg (A9 r.1.2),.i 0]∧trunc H.length rs H2 = H++C68 H.length t r.1.1 r.1.2)
theorem C2o {H:A1} {l:List AO} {s:B3} {t:DrRoom} {e:Int} {x:Chg × dress_plan} (he:(e != 0) = true) (h4:sget s 4 = some (.lit (.pointer none))) (h5:sget s 5 = some (.ptr (H.length + 1) 0)) (h6:sget s 6 = some (.i e)) (hl:l[1]? = some (.cells (A9 plan0))):EnQ H t (x,e) .ret s (H++l) :=
 ⟨trivial,_,_,B1 h4 (P1 (I5 (ds:=A9 plan0) h5 hl rfl rfl) (B1 h6 B7)),A6 rfl (A6 (A1p rfl) (A6 rfl B9)),.inl ⟨he,rfl,by rw [C16 (by rfl),List.append_nil]⟩⟩
theorem D2x {c:Sc} {H:A1} (hscv:S0 c H = true) {t:DrRoom} {person:Int} {r:(Chg × dress_plan) × Int} (h:B7m t person = some r) :
  (r.2 != 0) = true∧G6 tab c H (.fn (.func 64) [] []) [.agg (A4 t),.i person] [.lit (.pointer none),.agg (A9 plan0),.i r.2] H ∨
  r.2 = 0∧G6 tab c H (.fn (.func 64) [] []) [.agg (A4 t),.i person] [.ptr (H.length + 4) 0,.agg (A9 r.1.2),.i 0] (H++C68 H.length t r.1.1 r.1.2):= by
 have key:WP tab c64 (I8 0 [.agg (A4 t),.i person]) (H++[]) ⟨H.length,c.cur :: c.outer⟩ (EnQ H t r):= by
  unfold B7m at h
  refine oB h fun x1 hx1 h=>?_
  refine sg 0 rfl<|A0 (F7 (cs:=A4 t) rfl rfl rfl) rfl<|qm rfl<|A0 E7 rfl<|qm rfl<|es (ra3 rfl rfl rfl) ?_
  by_cases hc1:(x1.2.2 != 0) = true
  ·rw [if_pos hc1] at h
   obtain rfl:=os h
   refine s0<|A0 (C3 rfl rfl rfl) rfl<|P6 (X5 rfl rfl (A2 (D0 rfl) B6) (B77 hx1 hc1) rfl) rfl<|qm rfl<|A0 (A7 rfl rfl) rfl<|A0 (A7 rfl rfl) rfl<|qm rfl<|qm rfl<|es (ra5 rfl rfl rfl rfl rfl)<|B5<|C2<|s0<|qm rfl<|A0 (J4 rfl rfl) rfl<|qm rfl<|es (ra6 rfl rfl rfl rfl rfl rfl)<|S6 rfl hc1<|s0<|A0 (L2 (cs:=A9 plan0) rfl rfl) rfl<|qm rfl<|qm rfl<|I0 (D3 (ds:=A9 plan0) rfl rfl rfl rfl (C8 rfl) rfl) rfl<|qm rfl<|es (ra3 rfl rfl rfl)<|C4<|C2o hc1 rfl rfl rfl rfl
  ·rw [if_neg hc1] at h
   have hc1:(x1.2.2 != 0) = false:=Bool.eq_false_iff.2 hc1
   refine oB h fun ch hch h=>oB h fun k hk h=>?_
   have hlook:G6 tab ⟨H.length,c.cur :: c.outer⟩ (H++[.cells (A4 t),.cells (A9 plan0)]) (.fn (.func 52) [] []) [(.agg (A4 t))] [.ptr (H.length + 4) 0,.i 0] (H++[.cells (A4 t),.cells (A9 plan0),.cells (A4 t),.map (B0y ch),.cells (A4p t (H.length + 3))]):= by
    have:=B78 (c:=⟨H.length,c.cur :: c.outer⟩) (H:=H++[.cells (A4 t),.cells (A9 plan0)]) hx1 hc1 hch
    unfold C9k at this
    rw [List.length_append,List.append_assoc] at this
    exact this
   refine s0<|A0 (C3 rfl rfl rfl) rfl<|P6 (X5 rfl rfl (A2 (D0 rfl) B6) hlook rfl) rfl<|qm rfl<|A0 (A7 rfl rfl) rfl<|A0 (A7 rfl rfl) rfl<|qm rfl<|qm rfl<|es (ra5 rfl rfl rfl rfl rfl)<|B5<|C2<|s0<|qm rfl<|A0 (N6 (v:=(.b false)) rfl rfl rfl) rfl<|qm rfl<|es (ra6 rfl rfl rfl rfl rfl rfl)<|Z8 rfl rfl<|s0<|A0 (D1 rfl) rfl<|A0 (C5 rfl rfl rfl) rfl<|A0 (D2 (f:=A5) rfl) rfl<|A0 (Y4 rfl rfl) rfl<|qm rfl<|A0 (G1 (rows:=List.map cI [person]) rfl rfl (D6 (fun _=>rfl) _)) rfl<|B4 (rs:=[.b k]) rfl rfl (A2 rfl (A2 rfl (A2 rfl B6))) ((M3 hk).frz)<|qm rfl<|es (ra3 rfl rfl rfl)<|wi h rfl (fun hc2 h=>?_) fun hc2 h=>?_
   ·obtain rfl:=os h
    exact s0<|A0 (L2 (cs:=A9 plan0) rfl rfl) rfl<|qm rfl<|I0 (D3 (ds:=A9 plan0) rfl rfl rfl rfl (C8 rfl) rfl) rfl<|qm rfl<|es (ra3 rfl rfl rfl)<|C4<|C2o rfl rfl rfl rfl rfl
   refine oB h fun w hw h=>oB h fun z hz h=>?_
   refine C1<|sg 5 rfl<|qm rfl<|qm rfl<|B4 (rs:=[.i w]) rfl rfl (A2 rfl B6) ((N1 (a0:=⟨t⟩) (D8 rfl) hw).frz)<|B4 (rs:=[(.agg (A9 z.1)),.b z.2]) rfl rfl (A2 rfl (A2 rfl B6)) (B6j (t:=t) (ch:=ch) ⟨_,D8 rfl,A1t rfl⟩ (A12 hscv) hz)<|qm rfl<|A0 (A7 rfl rfl) rfl<|A0 (A7 rfl rfl) rfl<|A0 E7 rfl<|I0 (D3 (ds:=(A9 z.1)) rfl rfl rfl rfl (C8 rfl) rfl) rfl<|qm rfl<|es (ra4 rfl rfl rfl rfl)<|B5<|s0<|qm rfl<|A0 (R9 rfl) rfl<|es (ra4 rfl rfl rfl rfl)<|wi h rfl (fun hc3 h=>?_) fun hc3 h=>?_
   ·obtain rfl:=os h
    exact s0<|A0 (L2 (cs:=A9 plan0) rfl rfl) rfl<|qm rfl<|I0 (D3 (ds:=A9 plan0) rfl rfl rfl rfl (C8 rfl) rfl) rfl<|qm rfl<|es (ra3 rfl rfl rfl)<|C4<|C2o rfl rfl rfl rfl rfl
   ·obtain rfl:=os h
    refine C1<|s0<|qm rfl<|A0 (C3 rfl rfl rfl) rfl<|qm rfl<|I0 (D3 (ds:=(A9 z.1)) rfl rfl rfl rfl (C8 rfl) rfl) rfl<|qm rfl<|es (ra3 rfl rfl rfl)<|C4 ?_
    exact ⟨trivial,_,_,B1 rfl (P1 (I5 (ds:=A9 z.1) rfl rfl rfl rfl) (B1 rfl B7)),A6 rfl (A6 (A1p rfl) (A6 rfl B9)),.inr ⟨rfl,rfl,B9k C8w⟩⟩
 rw [List.append_nil] at key
 obtain ⟨e,S',s',H2,h1,h2,h3,rs,H3,h4,h5,h6⟩:=key _ (Sub.refl _)
 have hrun:∀H',trunc H.length rs H3 = H'→G6 tab c H (.fn (.func 64) [] []) [.agg (A4 t),.i person] rs H':=fun H' hH =>
  G6.fn (af:=a64) (bd:=c64) (aq:=[.agg (A4 t),.i person]) (rs0:=rs) (rs1:=rs) (H1:=H3) (e:=e) (st':=⟨S',H2,⟨H.length,c.cur :: c.outer⟩⟩) rfl rfl rfl rfl rfl rfl h1 (by cases e <;> first | rfl | exact h3.elim) (P0 h2 h4) h5 rfl hH.symm
 rcases h6 with ⟨h6,rfl,h7⟩ | ⟨h6,rfl,h7⟩
 ·exact .inl ⟨h6,hrun _ h7⟩
 ·exact .inr ⟨h6,hrun _ h7⟩
theorem retq0 {H:A1} {s:B3} {rv:List ARes} {rs:List AV} {e:Ex} (h:RetQ H rv rs e s (H++[])):RetQ H rv rs e s H:= by rwa [List.append_nil] at h
theorem D3m {c:Sc} {A B:A1} {b:Nat} {l:List Int} {x r:Int} (hb:A.length = b) (h:M1 l x = some r):E9 tab c (A++(ar1 l :: B)) (.fn (.func 95) [] []) [.asl b l.length,.i x] [.i r]:= by
 subst hb
 unfold M1 at h
 have htk:∀x:AO,(x :: B).take (B.length + 1) = x :: B:=fun x=>List.take_of_length_le (Nat.le_refl _)
 refine B7h (aq:=[.asl A.length l.length,.i x]) rfl rfl rfl ?_
 refine s0<|qm rfl<|es (ra2 rfl rfl)<|B5<|s0<|qm rfl<|A0 (A9i (f:=cI) (j:=0) rfl rfl rfl) rfl<|qm rfl<|es (ra4 rfl rfl rfl rfl)<|C2<|oB h fun o6 ho6 h=>wl (fun s1=>[(0,(.asl (A.length + 0) l.length)),(1,.i x),(7,(.i (List.length l:Int))),(8,.i s1)]) (fun (q2:Unit) s1=>ar1 l :: B) (B.length + 1) (fun r e s' H'=>(match r with | (.inl v)=>e = .ret∧RetQ (A++(ar1 l :: B)) [.tmp 4] [.i v] e s' H' | (.inr v)=>PX 0 [] (A++(ar1 l :: B)) e s' H':Prop)) () ho6 rfl rfl (fun _ _=>rfl) (fun _=>rfl) rfl (fun s1=>(bdc (W1 (Nat.ble_eq_true_of_le (by omega))) (bdc A8 (bdc A8 (bdc A8 bdn))))) (fun q2 s1 ys1 hs1=>?_) ?_
 ·unfold G5 at hs1
  refine s0<|A0 (G3 rfl rfl) rfl<|es (ra5 rfl rfl rfl rfl rfl)<|B5<|wi hs1 rfl (fun hc3 hs1=>?_) fun hc3 hs1=>?_
  ·refine C1<|B5<|C2<|s0<|qm rfl<|qm rfl<|es (ra5 rfl rfl rfl rfl rfl)<|s0<|oB hs1 fun x4 hx4 hs1=>qm rfl<|qm rfl<|qm rfl<|A0 (A9g (f:=cI) rfl rfl rfl rfl hx4) rfl<|A0 (B0l (x:=.i x4) rfl rfl (List.length_map _) (A9w hx4) rfl) rfl<|A0 (F5 rfl rfl) rfl<|es (ra6 rfl rfl rfl rfl rfl rfl)<|wi hs1 rfl (fun hc5 hs1=>?_) fun hc5 hs1=>?_
   ·refine s0<|qm rfl<|qm rfl<|es (ra1 rfl)<|C4 ?_
    obtain rfl:=os hs1
    exact lx rfl (And.intro rfl (retq0 (retq trivial (B1 rfl B7) (A6 rfl B9) (A3 A8 B2)))) (Sub.refl _)
   ·refine C1<|r0<|A0 (E8 rfl rfl) rfl<|qm rfl<|en (ra4 rfl rfl rfl rfl) ?_
    cases hs1
    exact lnT () (htk _) (su4 rfl rfl rfl rfl)
  ·refine F3 ?_
   obtain rfl:=os hs1
   exact lx rfl px (.nil _)
 ·rcases o6 with vo6_0 | vo6_1
  ·rintro e s' H' - ⟨rfl,hret⟩
   cases h
   exact hret
  ·rintro e s' H' - ⟨rfl,rfl,rfl⟩
   refine s0<|qm rfl<|es (ra1 rfl)<|C4 ?_
   obtain rfl:=os h
   exact retq0 (retq trivial (B1 rfl B7) (A6 rfl B9) (A3 A8 B2))
theorem C4l {c:Sc} {A B:A1} {b:Nat} {l:List Int} {x:Int} {r:Bool} (hb:A.length = b) (h:F8 l x = some r):E9 tab c (A++(ar1 l :: B)) (.fn (.func 66) [] []) [.asl b l.length,.i x] [.b r]:= by
 unfold F8 at h
 refine oB h fun x1 hx1 h=>?_
 refine B7h (aq:=[.asl b l.length,.i x]) rfl rfl rfl ?_
 refine s0<|qm rfl<|es (ra2 rfl rfl)<|s0<|qm rfl<|qm rfl<|P6 (A5i (rs:=[.i x1]) rfl rfl ((D3m hb hx1).frz)) rfl<|A0 (A6u rfl rfl) rfl<|qm rfl<|es (ra1 rfl)<|C4 ?_
 obtain rfl:=os h
 exact retq0 (retq trivial (B1 rfl B7) (A6 rfl B9) (A3 A8 B2))
def B48 (person:Int) (best:dress_plan) (l:List dress_plan) (s:Int × List Int):Option ((Int × List Int) ⊕ List Int) :=
 if (decide (s.1 < (List.length l:Int))) = true then
  (idx l s.1).bind fun p=>(idx p.figures_ person).bind fun f =>
  (if (p.cost_ == best.cost_) = true then (F8 s.2 f).bind fun k=>some (!k) else some false).bind fun g =>
  if g = true then (app 8 s.2 [f]).bind fun q=>some (.inl (w64 (s.1 + 1),q))
  else some (.inl (w64 (s.1 + 1),s.2))
 else some (.inr s.2)
def A4v (t:DrRoom) (person:Int):Option (List Int × Int) :=
 (B7m t person).bind fun r =>
 if (r.2 != 0) = true then some ([],r.2)
 else (I7 ⟨t⟩).bind fun w=>(P5 t r.1.1 w).bind fun l =>
  (loop (B48 person r.1.2 l) (0,[])).bind fun o=>(B9e o).bind fun q=>some (q,0)
def B47 (N:Nat) (t:DrRoom) (ch:Chg) (p:dress_plan) (s:List Int):List AO:=[.cells (A4 t),ar1 s,.cells (A9 p),.cells (A4 t),.cells (A9 p),.cells (A4 t),.map (B0y ch),.cells (A4p t (N + 6)),.cells (A9 p)]
theorem B3e {c:Sc} {H:A1} (hscv:S0 c H = true) {a0:DrRoom} {a1:Int} {r:List Int × Int} (h:A4v a0 a1 = some r) :
  R2 tab c H (.fn (.func 28) [] []) [(.agg (A4 a0)),.i a1] [(.seq 1 (List.map cI r.1)),.i r.2]:= by
 unfold A4v at h
 refine oB h fun x hx h=>?_
 refine cF rfl rfl<|sg 0 rfl<|A0 (F7 (cs:=A4 a0) rfl rfl rfl) rfl<|A0 A1x rfl<|qm rfl<|es (ra3 rfl rfl rfl)<|sg 2 rfl<|A0 (C3 rfl rfl rfl) rfl<|qm rfl ?_
 rcases D2x (c:=⟨H.length,c.cur :: c.outer⟩) (H:=H++[.cells (A4 a0),ar1 [],.dead]) (A12 hscv) hx with ⟨hc,hcall⟩ | ⟨hc,hcall⟩
 ·rw [if_pos hc] at h
  obtain rfl:=os h
  refine P6 (X5 rfl rfl (A2 (D0 rfl) (A2 rfl B6)) hcall rfl) rfl<|qm rfl<|A0 (A7 rfl rfl) rfl<|A0 (A7 rfl rfl) rfl<|A0 (A7 rfl rfl) rfl<|A0 E7 rfl<|qm rfl<|I0 (D3 (ds:=A9 plan0) rfl rfl rfl rfl (C8 rfl) rfl) rfl<|qm rfl<|es (ra5 rfl rfl rfl rfl rfl)<|B5<|s0<|qm rfl<|A0 (J4 rfl rfl) rfl<|es (ra6 rfl rfl rfl rfl rfl rfl)<|S6 rfl hc<|sg 3 rfl<|qm rfl<|A0 A1x rfl<|qm rfl<|es (ra2 rfl rfl)<|C4 ?_
  exact ⟨[.fresh 1 (List.map cI []),.i x.2],retq trivial (B1 rfl (B1 rfl B7)) (A6 (A1q rfl (List.length_map _)) (A6 rfl B9)) (A3 T7 (A3 A8 B2)),rfl⟩
 ·obtain ⟨⟨ch,best⟩,e⟩:=x
  dsimp only at hc
  subst hc
  rw [if_neg (by simp)] at h
  refine oB h fun w hw h=>oB h fun l hl h=>oB h fun o ho h=>oB h fun q hq h=>?_
  obtain rfl:=os h
  have hcall:G6 tab ⟨H.length,c.cur :: c.outer⟩ (H++[.cells (A4 a0),ar1 [],.dead]) (.fn (.func 64) [] []) [.agg (A4 a0),.i a1] [.ptr (H.length + 7) 0,.agg (A9 best),.i 0] (H++[.cells (A4 a0),ar1 [],.dead,.cells (A4 a0),.cells (A9 best),.cells (A4 a0),.map (B0y ch),.cells (A4p a0 (H.length + 6)),.cells (A9 best)]):= by
   unfold C68 at hcall
   rw [List.length_append,List.append_assoc] at hcall
   exact hcall
  have hH:∀s:List Int,H++B47 H.length a0 ch best s = (H++[.cells (A4 a0)])++(ar1 s :: (B47 H.length a0 ch best s).drop 2):=fun s=>by simp [B47]
  have hA:(H++[AO.cells (A4 a0)]).length = H.length + 1:= by simp
  refine P6 (X5 rfl rfl (A2 (D0 rfl) (A2 rfl B6)) hcall rfl) rfl<|qm rfl<|A0 (A7 rfl rfl) rfl<|A0 (A7 rfl rfl) rfl<|A0 (A7 rfl rfl) rfl<|A0 E7 rfl<|qm rfl<|I0 (D3 (ds:=A9 best) rfl rfl rfl rfl (C8 rfl) rfl) rfl<|qm rfl<|es (ra5 rfl rfl rfl rfl rfl)<|B5<|s0<|qm rfl<|A0 (N6 (v:=(.b false)) rfl rfl rfl) rfl<|es (ra6 rfl rfl rfl rfl rfl rfl)<|Z8 rfl rfl<|C1<|B5<|s0<|qm rfl<|qm rfl<|B4 (rs:=[.i w]) rfl rfl (A2 rfl B6) ((N1 (a0:=⟨a0⟩) (D8 rfl) hw).frz)<|B4 (rs:=[.seq 6 (l.map A9)]) rfl rfl (A2 rfl (A2 rfl B6)) (C3n (t:=a0) (ch:=ch) ⟨_,D8 rfl,A1t rfl⟩ (A12 hscv) hl)<|A0 (D2 (f:=A9) rfl) rfl<|qm rfl<|es (ra6 rfl rfl rfl rfl rfl rfl)<|C2<|wl (fun s=>[(1,.i a1),(4,.asl (H.length + 1) s.2.length),(7,.ptr (H.length + 2) 0),(24,.seq 6 (l.map A9)),(25,.i (List.length l:Int)),(26,.i s.1)]) (fun (_:Unit) s=>B47 H.length a0 ch best s.2) 9 (fun r e s' H'=>PX 0 [(4,.asl (H.length + 1) r.length)] (H++B47 H.length a0 ch best r) e s' H') () ho rfl rfl (fun _ _=>rfl) (fun _=>rfl) rfl (fun s=>bdc A8 (bdc (W1 rfl) (bdc (F1 rfl) (bdc E3 (bdc A8 (bdc A8 bdn)))))) (fun _ s o hs=>?_) ?_
  ·unfold B48 at hs
   refine s0<|A0 (G3 rfl rfl) rfl<|es (ra7 rfl rfl rfl rfl rfl rfl rfl)<|B5<|wi hs rfl (fun hc hs=>?_) fun hc hs=>?_
   ·refine oB hs fun p hp hs=>oB hs fun f hf hs=>oB hs fun g hg hs=>?_
    refine C1<|B5<|C2<|sg 9 rfl<|A0 (E1 (f:=A9) rfl rfl hp) rfl<|A0 (M7 rfl rfl) rfl<|A0 E7 rfl<|I0 (D3 (ds:=A9 p) rfl rfl rfl rfl (C8 rfl) rfl) rfl<|es (ra7 rfl rfl rfl rfl rfl rfl rfl)<|s0<|A0 (D1 rfl) rfl<|A0 (C5 rfl rfl rfl) rfl<|qm rfl<|A0 (E1 (f:=cI) rfl rfl hf) rfl<|A0 (E4 rfl rfl) rfl<|qm rfl<|es (ra8 rfl rfl rfl rfl rfl rfl rfl rfl)<|s0<|A0 (D1 rfl) rfl<|A0 (C5 (x:=.i p.cost_) rfl rfl rfl) rfl<|A0 (D1 rfl) rfl<|A0 (C5 (x:=.i best.cost_) rfl rfl rfl) rfl<|A0 (F5 rfl rfl) rfl<|qm rfl<|gp 5 45 (.b g) 40 rfl rfl (fun hb=>?_) (fun hb=>?_) ?_
    ·refine oB (bt hg hb) fun k hk hg=>?_
     obtain rfl:=os hg
     have hcon:R2 tab ⟨H.length + 9,(⟨H.length,c.cur :: c.outer⟩:Sc).cur :: (⟨H.length,c.cur :: c.outer⟩:Sc).outer⟩ (H++(B47 H.length a0 ch best s.2++[.cells (A9 p)])) (.fn (.func 66) [] []) [.asl (H.length + 1) s.2.length,.i f] [.b k]:= by
      have:=(C4l (c:=⟨H.length + 9,(⟨H.length,c.cur :: c.outer⟩:Sc).cur :: (⟨H.length,c.cur :: c.outer⟩:Sc).outer⟩) (B:=(B47 H.length a0 ch best s.2).drop 2++[.cells (A9 p)]) hA hk).frz
      rw [show (H++[AO.cells (A4 a0)])++(ar1 s.2 :: ((B47 H.length a0 ch best s.2).drop 2++[.cells (A9 p)])) = H++(B47 H.length a0 ch best s.2++[.cells (A9 p)]) by simp [B47]] at this
      exact this
     exact gT rfl hb<|qm rfl<|gT rfl hb<|qm rfl<|gT rfl hb<|P6 (A5i (rs:=[.b k]) rfl rfl hcon) rfl<|gT rfl hb<|A0 (R9 rfl) rfl<|A0 (C7 rfl hb rfl) rfl<|ge 5 rfl rfl rfl
    ·obtain rfl:=os (bf hg hb)
     exact nT rfl hb rfl<|nT rfl hb rfl<|L5 (G2 rfl (by rw [hb]; rfl)) rfl<|nT rfl hb rfl<|A0 (C6 rfl hb rfl) rfl<|ge 5 rfl rfl rfl
    refine es (ra8 rfl rfl rfl rfl rfl rfl rfl rfl)<|wi hs rfl (fun hc2 hs=>?_) fun hc2 hs=>?_
    ·refine oB hs fun q hq hs=>?_
     refine r0<|qm rfl<|qm rfl<|A0 (G1 (rows:=List.map cI [f]) rfl rfl (D6 (fun _=>rfl) _)) rfl<|P6 (U0 (f:=cI) rfl rfl rfl rfl P7 (fun _=>rfl) hq) rfl<|qm rfl<|en (ra6 rfl rfl rfl rfl rfl rfl)<|r0<|A0 (E8 rfl rfl) rfl<|qm rfl<|en (ra6 rfl rfl rfl rfl rfl rfl) ?_
     cases hs
     exact lnT () rfl (su6 rfl rfl rfl rfl rfl rfl)
    ·refine C1<|r0<|A0 (E8 rfl rfl) rfl<|qm rfl<|en (ra6 rfl rfl rfl rfl rfl rfl) ?_
     cases hs
     exact lnT () rfl (su6 rfl rfl rfl rfl rfl rfl)
   ·refine F3 ?_
    obtain rfl:=os hs
    exact lx rfl px (su1 rfl)
  ·rintro e s' H' - ⟨rfl,rfl,rfl⟩
   have hsort:G6 tab ⟨H.length,c.cur :: c.outer⟩ (H++B47 H.length a0 ch best o) (.fn (.func 67) [] []) [.asl (H.length + 1) o.length] [] (H++B47 H.length a0 ch best q):= by
    have:=D68 (c:=⟨H.length,c.cur :: c.outer⟩) (A:=H++[AO.cells (A4 a0)]) (B:=(B47 H.length a0 ch best o).drop 2) hq
    rw [hA] at this
    rw [hH o,hH q]
    exact this
   refine s0<|qm rfl<|P6 (T4 rfl rfl hsort rfl) rfl<|es (ra1 rfl)<|s0<|qm rfl<|qm rfl<|qm rfl<|es (ra2 rfl rfl)<|C4 ?_
   exact ⟨[.fresh 1 (List.map cI q),.i 0],retq trivial (B1 rfl (B1 rfl B7)) (A6 (A1q rfl (by rw [List.length_map]; exact D1s hq)) (A6 rfl B9)) (A3 T7 (A3 A8 B2)),rfl⟩
end Ds
end
section
set_option maxRecDepth 100000
set_option maxHeartbeats 0
namespace Ds
open Go Am Go.Proofs.Ytdkflofgolehkaa.Cd
def V7 :Option Bool :=
 (A5c 2).bind fun x1 =>
 (A5c 1).bind fun x2 =>
 (A0o x1 0 0).bind fun x3 =>
 (A18 x1 [2,0,1]).bind fun x4 =>
 (A19 x1 [1,0,2]).bind fun x5 =>
 (W2 x1).bind fun x6 =>
 (W2 x2).bind fun x7 =>
 (A4v x1 2).bind fun x8 =>
 (Y5 x1 1).bind fun x9 =>
 (A3g x2).bind fun x10 =>
 (A99 x2).bind fun x11 =>
 (if ((((((((((x3.2.2 == 0) && (x4.2 == 0)) && (x5.2 == 0)) && (x6.2.2 == 0)) && (x7.2.2 == 9)) && (x8.2 == 0)) && (x9.2 == 0)) && (x10.2 == 0)) && (x11.2.2 == 0)) && (x3.1 == 14)) = true then
  (K9 x3.2.1 [0,2]).bind fun x22 =>
  some x22
 else
  some false).bind fun x23 =>
 (if x23 = true then
  (K9 x4.1 [4,(-1)]).bind fun x25 =>
  some x25
 else
  some false).bind fun x26 =>
 (if (x26 && (x5.1 == 14)) = true then
  (K9 x6.1 [1,0,2]).bind fun x29 =>
  some x29
 else
  some false).bind fun x30 =>
 (if (x30 && (x6.2.1 == 14)) = true then
  (K9 x8.1 [2]).bind fun x33 =>
  some x33
 else
  some false).bind fun x34 =>
 (if (x34 && (x9.1 == 10)) = true then
  (K9 x10.1 [0]).bind fun x37 =>
  some x37
 else
  some false).bind fun x38 =>
 (if x38 = true then
  (K9 x11.1 [0,1]).bind fun x40 =>
  some x40
 else
  some false).bind fun x41 =>
 some (x41 && (x11.2.1 == 14))
theorem X3 {c:Sc} {H:A1} (hscv:S0 c H = true)  {r:Bool} (h:V7  = some r) :
  E9 tab c H (.fn (.func 21) [] []) [] [.b r]:= by
 unfold V7 at h
 refine cE rfl rfl<|s0<|qm rfl<|es .n<|sg 0 rfl<|oB h fun x1 hx1 h=>oB h fun x2 hx2 h=>B4 (rs:=[(.agg (A4 x1))]) rfl rfl (A2 rfl B6) ((A6m hx1).frz)<|B4 (rs:=[(.agg (A4 x2))]) rfl rfl (A2 rfl B6) ((A6m hx2).frz)<|A0 E7 rfl<|A0 E7 rfl<|I0 (D3 (ds:=(A4 x1)) rfl rfl rfl rfl (C8 rfl) rfl) rfl<|I0 (D3 (ds:=(A4 x2)) rfl rfl rfl rfl (C8 rfl) rfl) rfl<|es (ra2 rfl rfl)<|s0<|oB h fun x3 hx3 h=>A0 (C3 rfl rfl rfl) rfl<|B4 (rs:=[.i x3.1,(.seq 1 (List.map cI x3.2.1)),.i x3.2.2]) rfl rfl (A2 (D0 rfl) (A2 rfl (A2 rfl B6))) ((A3v hx3).frz)<|qm rfl<|A0 (A7 rfl rfl) rfl<|A0 (A7 rfl rfl) rfl<|A0 (A7 rfl rfl) rfl<|qm rfl<|qm rfl<|qm rfl<|es (ra5 rfl rfl rfl rfl rfl)<|s0<|oB h fun x4 hx4 h=>A0 (C3 rfl rfl rfl) rfl<|A0 (G1 (rows:=List.map cI [2,0,1]) rfl rfl (D6 (fun _=>rfl) _)) rfl<|B4 (rs:=[(.seq 1 (List.map cI x4.1)),.i x4.2]) rfl rfl (A2 (D0 rfl) (A2 rfl B6)) ((A6k hx4).frz)<|qm rfl<|A0 (A7 rfl rfl) rfl<|A0 (A7 rfl rfl) rfl<|qm rfl<|qm rfl<|es (ra7 rfl rfl rfl rfl rfl rfl rfl)<|s0<|oB h fun x5 hx5 h=>A0 (C3 rfl rfl rfl) rfl<|A0 (G1 (rows:=List.map cI [1,0,2]) rfl rfl (D6 (fun _=>rfl) _)) rfl<|B4 (rs:=[.i x5.1,.i x5.2]) rfl rfl (A2 (D0 rfl) (A2 rfl B6)) ((A6l hx5).frz)<|qm rfl<|A0 (A7 rfl rfl) rfl<|A0 (A7 rfl rfl) rfl<|qm rfl<|qm rfl<|es (ra9 rfl rfl rfl rfl rfl rfl rfl rfl rfl)<|s0<|oB h fun x6 hx6 h=>A0 (C3 rfl rfl rfl) rfl<|B4 (rs:=[(.seq 1 (List.map cI x6.1)),.i x6.2.1,.i x6.2.2]) rfl rfl (A2 (D0 rfl) B6) ((A1y (A12 hscv) hx6).frz)<|qm rfl<|A0 (A7 rfl rfl) rfl<|A0 (A7 rfl rfl) rfl<|A0 (A7 rfl rfl) rfl<|qm rfl<|qm rfl<|qm rfl<|es (ra12 rfl rfl rfl rfl rfl rfl rfl rfl rfl rfl rfl rfl)<|s0 ?_
 refine oB h fun x7 hx7 h=>A0 (C3 rfl rfl rfl) rfl<|B4 (rs:=[(.seq 1 (List.map cI x7.1)),.i x7.2.1,.i x7.2.2]) rfl rfl (A2 (D0 rfl) B6) ((A1y (A12 hscv) hx7).frz)<|qm rfl<|A0 (A7 rfl rfl) rfl<|A0 (A7 rfl rfl) rfl<|A0 (A7 rfl rfl) rfl<|qm rfl<|qm rfl<|qm rfl<|es (ra13 rfl rfl rfl rfl rfl rfl rfl rfl rfl rfl rfl rfl rfl)<|s0<|oB h fun x8 hx8 h=>A0 (C3 rfl rfl rfl) rfl<|B4 (rs:=[(.seq 1 (List.map cI x8.1)),.i x8.2]) rfl rfl (A2 (D0 rfl) (A2 rfl B6)) (B3e (A12 hscv) hx8)<|qm rfl<|A0 (A7 rfl rfl) rfl<|A0 (A7 rfl rfl) rfl<|qm rfl<|qm rfl<|es (.k rfl (.k rfl (.k rfl (.k rfl (.k rfl (.k rfl (.k rfl (.k rfl (.k rfl (.k rfl (.k rfl (.k rfl (.k rfl (.k rfl (.k rfl .n)))))))))))))))<|s0<|oB h fun x9 hx9 h=>A0 (C3 rfl rfl rfl) rfl<|B4 (rs:=[.i x9.1,.i x9.2]) rfl rfl (A2 (D0 rfl) (A2 rfl B6)) ((A24 (A12 hscv) hx9).frz)<|qm rfl<|A0 (A7 rfl rfl) rfl<|A0 (A7 rfl rfl) rfl<|qm rfl<|qm rfl<|es (.k rfl (.k rfl (.k rfl (.k rfl (.k rfl (.k rfl (.k rfl (.k rfl (.k rfl (.k rfl (.k rfl (.k rfl (.k rfl (.k rfl (.k rfl (.k rfl .n))))))))))))))))<|s0<|oB h fun x10 hx10 h=>A0 (C3 rfl rfl rfl) rfl<|B4 (rs:=[(.seq 1 (List.map cI x10.1)),.i x10.2]) rfl rfl (A2 (D0 rfl) B6) ((A78 (A12 hscv) hx10).frz)<|qm rfl<|A0 (A7 rfl rfl) rfl<|A0 (A7 rfl rfl) rfl<|qm rfl<|qm rfl<|es (.k rfl (.k rfl (.k rfl (.k rfl (.k rfl (.k rfl (.k rfl (.k rfl (.k rfl (.k rfl (.k rfl (.k rfl (.k rfl (.k rfl (.k rfl (.k rfl (.k rfl (.k rfl .n))))))))))))))))))<|s0<|oB h fun x11 hx11 h=>A0 (C3 rfl rfl rfl) rfl<|B4 (rs:=[(.seq 1 (List.map cI x11.1)),.i x11.2.1,.i x11.2.2]) rfl rfl (A2 (D0 rfl) B6) ((B3d (A12 hscv) hx11).frz)<|qm rfl<|A0 (A7 rfl rfl) rfl<|A0 (A7 rfl rfl) rfl<|A0 (A7 rfl rfl) rfl<|qm rfl<|qm rfl<|qm rfl<|es (.k rfl (.k rfl (.k rfl (.k rfl (.k rfl (.k rfl (.k rfl (.k rfl (.k rfl (.k rfl (.k rfl (.k rfl (.k rfl (.k rfl (.k rfl (.k rfl (.k rfl (.k rfl (.k rfl (.k rfl .n))))))))))))))))))))<|s0<|oB h fun x23 hx23 h=>oB h fun x26 hx26 h=>oB h fun x30 hx30 h=>oB h fun x34 hx34 h=>oB h fun x38 hx38 h=>oB h fun x41 hx41 h=>qm rfl ?_
 refine A0 (F5 rfl rfl) rfl<|qm rfl<|gp 3 83 (.b ((x3.2.2 == 0) && (x4.2 == 0))) 80 rfl rfl (fun hg12=>?_) (fun hg12=>?_) ?_
 ·exact gT rfl hg12<|qm rfl<|gT rfl hg12<|A0 (F5 rfl rfl) rfl<|A0 (C7 rfl hg12 rfl) rfl<|ge 3 (by rw [hg12]; rfl) rfl rfl
 ·exact nT rfl hg12 rfl<|nT rfl hg12 rfl<|A0 (C6 rfl hg12 rfl) rfl<|ge 3 (by rw [hg12]; rfl) rfl rfl
 refine qm rfl<|gp 3 87 (.b (((x3.2.2 == 0) && (x4.2 == 0)) && (x5.2 == 0))) 84 rfl rfl (fun hg13=>?_) (fun hg13=>?_) ?_
 ·exact gT rfl hg13<|qm rfl<|gT rfl hg13<|A0 (F5 rfl rfl) rfl<|A0 (C7 rfl hg13 rfl) rfl<|ge 3 (by rw [hg13]; rfl) rfl rfl
 ·exact nT rfl hg13 rfl<|nT rfl hg13 rfl<|A0 (C6 rfl hg13 rfl) rfl<|ge 3 (by rw [hg13]; rfl) rfl rfl
 refine qm rfl<|gp 3 91 (.b ((((x3.2.2 == 0) && (x4.2 == 0)) && (x5.2 == 0)) && (x6.2.2 == 0))) 88 rfl rfl (fun hg14=>?_) (fun hg14=>?_) ?_
 ·exact gT rfl hg14<|qm rfl<|gT rfl hg14<|A0 (F5 rfl rfl) rfl<|A0 (C7 rfl hg14 rfl) rfl<|ge 3 (by rw [hg14]; rfl) rfl rfl
 ·exact nT rfl hg14 rfl<|nT rfl hg14 rfl<|A0 (C6 rfl hg14 rfl) rfl<|ge 3 (by rw [hg14]; rfl) rfl rfl
 refine qm rfl<|gp 3 95 (.b (((((x3.2.2 == 0) && (x4.2 == 0)) && (x5.2 == 0)) && (x6.2.2 == 0)) && (x7.2.2 == 9))) 92 rfl rfl (fun hg15=>?_) (fun hg15=>?_) ?_
 ·exact gT rfl hg15<|qm rfl<|gT rfl hg15<|A0 (F5 rfl rfl) rfl<|A0 (C7 rfl hg15 rfl) rfl<|ge 3 (by rw [hg15]; rfl) rfl rfl
 ·exact nT rfl hg15 rfl<|nT rfl hg15 rfl<|A0 (C6 rfl hg15 rfl) rfl<|ge 3 (by rw [hg15]; rfl) rfl rfl
 refine qm rfl<|gp 3 99 (.b ((((((x3.2.2 == 0) && (x4.2 == 0)) && (x5.2 == 0)) && (x6.2.2 == 0)) && (x7.2.2 == 9)) && (x8.2 == 0))) 96 rfl rfl (fun hg16=>?_) (fun hg16=>?_) ?_
 ·exact gT rfl hg16<|qm rfl<|gT rfl hg16<|A0 (F5 rfl rfl) rfl<|A0 (C7 rfl hg16 rfl) rfl<|ge 3 (by rw [hg16]; rfl) rfl rfl
 ·exact nT rfl hg16 rfl<|nT rfl hg16 rfl<|A0 (C6 rfl hg16 rfl) rfl<|ge 3 (by rw [hg16]; rfl) rfl rfl
 refine qm rfl<|gp 3 103 (.b (((((((x3.2.2 == 0) && (x4.2 == 0)) && (x5.2 == 0)) && (x6.2.2 == 0)) && (x7.2.2 == 9)) && (x8.2 == 0)) && (x9.2 == 0))) 100 rfl rfl (fun hg17=>?_) (fun hg17=>?_) ?_
 ·exact gT rfl hg17<|qm rfl<|gT rfl hg17<|A0 (F5 rfl rfl) rfl<|A0 (C7 rfl hg17 rfl) rfl<|ge 3 (by rw [hg17]; rfl) rfl rfl
 ·exact nT rfl hg17 rfl<|nT rfl hg17 rfl<|A0 (C6 rfl hg17 rfl) rfl<|ge 3 (by rw [hg17]; rfl) rfl rfl
 refine qm rfl<|gp 3 107 (.b ((((((((x3.2.2 == 0) && (x4.2 == 0)) && (x5.2 == 0)) && (x6.2.2 == 0)) && (x7.2.2 == 9)) && (x8.2 == 0)) && (x9.2 == 0)) && (x10.2 == 0))) 104 rfl rfl (fun hg18=>?_) (fun hg18=>?_) ?_
 ·exact gT rfl hg18<|qm rfl<|gT rfl hg18<|A0 (F5 rfl rfl) rfl<|A0 (C7 rfl hg18 rfl) rfl<|ge 3 (by rw [hg18]; rfl) rfl rfl
 ·exact nT rfl hg18 rfl<|nT rfl hg18 rfl<|A0 (C6 rfl hg18 rfl) rfl<|ge 3 (by rw [hg18]; rfl) rfl rfl
 refine qm rfl<|gp 3 111 (.b (((((((((x3.2.2 == 0) && (x4.2 == 0)) && (x5.2 == 0)) && (x6.2.2 == 0)) && (x7.2.2 == 9)) && (x8.2 == 0)) && (x9.2 == 0)) && (x10.2 == 0)) && (x11.2.2 == 0))) 108 rfl rfl (fun hg19=>?_) (fun hg19=>?_) ?_
 ·exact gT rfl hg19<|qm rfl<|gT rfl hg19<|A0 (F5 rfl rfl) rfl<|A0 (C7 rfl hg19 rfl) rfl<|ge 3 (by rw [hg19]; rfl) rfl rfl
 ·exact nT rfl hg19 rfl<|nT rfl hg19 rfl<|A0 (C6 rfl hg19 rfl) rfl<|ge 3 (by rw [hg19]; rfl) rfl rfl
 refine qm rfl<|gp 3 115 (.b ((((((((((x3.2.2 == 0) && (x4.2 == 0)) && (x5.2 == 0)) && (x6.2.2 == 0)) && (x7.2.2 == 9)) && (x8.2 == 0)) && (x9.2 == 0)) && (x10.2 == 0)) && (x11.2.2 == 0)) && (x3.1 == 14))) 112 rfl rfl (fun hg20=>?_) (fun hg20=>?_) ?_
 ·exact gT rfl hg20<|qm rfl<|gT rfl hg20<|A0 (F5 rfl rfl) rfl<|A0 (C7 rfl hg20 rfl) rfl<|ge 3 (by rw [hg20]; rfl) rfl rfl
 ·exact nT rfl hg20 rfl<|nT rfl hg20 rfl<|A0 (C6 rfl hg20 rfl) rfl<|ge 3 (by rw [hg20]; rfl) rfl rfl
 refine qm rfl<|gp 4 120 (.b x23) 116 rfl rfl (fun hg21=>?_) (fun hg21=>?_) ?_
 ·refine oB (bt hx23 hg21) fun x22 hx22 hx23=>?_
  obtain rfl:=os hx23
  exact gT rfl hg21<|qm rfl<|gT rfl hg21<|A0 (G1 (rows:=List.map cI [0,2]) rfl rfl (D6 (fun _=>rfl) _)) rfl<|gT rfl hg21<|B4 (rs:=[.b x22]) rfl rfl (A2 rfl (A2 rfl B6)) ((K6 hx22).frz)<|A0 (C7 rfl hg21 rfl) rfl<|ge 4 rfl rfl rfl
 ·obtain rfl:=os (bf hx23 hg21)
  exact nT rfl hg21 rfl<|nT rfl hg21 rfl<|L5 (G2 rfl (by rw [hg21]; rfl)) rfl<|A0 (C6 rfl hg21 rfl) rfl<|ge 4 rfl rfl rfl
 refine qm rfl<|gp 4 125 (.b x26) 121 rfl rfl (fun hg24=>?_) (fun hg24=>?_) ?_
 ·refine oB (bt hx26 hg24) fun x25 hx25 hx26=>?_
  obtain rfl:=os hx26
  exact gT rfl hg24<|qm rfl<|gT rfl hg24<|A0 (G1 (rows:=List.map cI [4,(-1)]) rfl rfl (D6 (fun _=>rfl) _)) rfl<|gT rfl hg24<|B4 (rs:=[.b x25]) rfl rfl (A2 rfl (A2 rfl B6)) ((K6 hx25).frz)<|A0 (C7 rfl hg24 rfl) rfl<|ge 4 rfl rfl rfl
 ·obtain rfl:=os (bf hx26 hg24)
  exact nT rfl hg24 rfl<|nT rfl hg24 rfl<|L5 (G2 rfl (by rw [hg24]; rfl)) rfl<|A0 (C6 rfl hg24 rfl) rfl<|ge 4 rfl rfl rfl
 refine qm rfl<|gp 3 129 (.b (x26 && (x5.1 == 14))) 126 rfl rfl (fun hg27=>?_) (fun hg27=>?_) ?_
 ·exact gT rfl hg27<|qm rfl<|gT rfl hg27<|A0 (F5 rfl rfl) rfl<|A0 (C7 rfl hg27 rfl) rfl<|ge 3 (by rw [hg27]; rfl) rfl rfl
 ·exact nT rfl hg27 rfl<|nT rfl hg27 rfl<|A0 (C6 rfl hg27 rfl) rfl<|ge 3 (by rw [hg27]; rfl) rfl rfl
 refine qm rfl<|gp 4 134 (.b x30) 130 rfl rfl (fun hg28=>?_) (fun hg28=>?_) ?_
 ·refine oB (bt hx30 hg28) fun x29 hx29 hx30=>?_
  obtain rfl:=os hx30
  exact gT rfl hg28<|qm rfl<|gT rfl hg28<|A0 (G1 (rows:=List.map cI [1,0,2]) rfl rfl (D6 (fun _=>rfl) _)) rfl<|gT rfl hg28<|B4 (rs:=[.b x29]) rfl rfl (A2 rfl (A2 rfl B6)) ((K6 hx29).frz)<|A0 (C7 rfl hg28 rfl) rfl<|ge 4 rfl rfl rfl
 ·obtain rfl:=os (bf hx30 hg28)
  exact nT rfl hg28 rfl<|nT rfl hg28 rfl<|L5 (G2 rfl (by rw [hg28]; rfl)) rfl<|A0 (C6 rfl hg28 rfl) rfl<|ge 4 rfl rfl rfl
 refine qm rfl<|gp 3 138 (.b (x30 && (x6.2.1 == 14))) 135 rfl rfl (fun hg31=>?_) (fun hg31=>?_) ?_
 ·exact gT rfl hg31<|qm rfl<|gT rfl hg31<|A0 (F5 rfl rfl) rfl<|A0 (C7 rfl hg31 rfl) rfl<|ge 3 (by rw [hg31]; rfl) rfl rfl
 ·exact nT rfl hg31 rfl<|nT rfl hg31 rfl<|A0 (C6 rfl hg31 rfl) rfl<|ge 3 (by rw [hg31]; rfl) rfl rfl
 refine qm rfl<|gp 4 143 (.b x34) 139 rfl rfl (fun hg32=>?_) (fun hg32=>?_) ?_
 ·refine oB (bt hx34 hg32) fun x33 hx33 hx34=>?_
  obtain rfl:=os hx34
  exact gT rfl hg32<|qm rfl<|gT rfl hg32<|A0 (G1 (rows:=List.map cI [2]) rfl rfl (D6 (fun _=>rfl) _)) rfl<|gT rfl hg32<|B4 (rs:=[.b x33]) rfl rfl (A2 rfl (A2 rfl B6)) ((K6 hx33).frz)<|A0 (C7 rfl hg32 rfl) rfl<|ge 4 rfl rfl rfl
 ·obtain rfl:=os (bf hx34 hg32)
  exact nT rfl hg32 rfl<|nT rfl hg32 rfl<|L5 (G2 rfl (by rw [hg32]; rfl)) rfl<|A0 (C6 rfl hg32 rfl) rfl<|ge 4 rfl rfl rfl
 refine qm rfl<|gp 3 147 (.b (x34 && (x9.1 == 10))) 144 rfl rfl (fun hg35=>?_) (fun hg35=>?_) ?_
 ·exact gT rfl hg35<|qm rfl<|gT rfl hg35<|A0 (F5 rfl rfl) rfl<|A0 (C7 rfl hg35 rfl) rfl<|ge 3 (by rw [hg35]; rfl) rfl rfl
 ·exact nT rfl hg35 rfl<|nT rfl hg35 rfl<|A0 (C6 rfl hg35 rfl) rfl<|ge 3 (by rw [hg35]; rfl) rfl rfl
 refine qm rfl<|gp 4 152 (.b x38) 148 rfl rfl (fun hg36=>?_) (fun hg36=>?_) ?_
 ·refine oB (bt hx38 hg36) fun x37 hx37 hx38=>?_
  obtain rfl:=os hx38
  exact gT rfl hg36<|qm rfl<|gT rfl hg36<|A0 (G1 (rows:=List.map cI [0]) rfl rfl (D6 (fun _=>rfl) _)) rfl<|gT rfl hg36<|B4 (rs:=[.b x37]) rfl rfl (A2 rfl (A2 rfl B6)) ((K6 hx37).frz)<|A0 (C7 rfl hg36 rfl) rfl<|ge 4 rfl rfl rfl
 ·obtain rfl:=os (bf hx38 hg36)
  exact nT rfl hg36 rfl<|nT rfl hg36 rfl<|L5 (G2 rfl (by rw [hg36]; rfl)) rfl<|A0 (C6 rfl hg36 rfl) rfl<|ge 4 rfl rfl rfl
 refine qm rfl<|gp 4 157 (.b x41) 153 rfl rfl (fun hg39=>?_) (fun hg39=>?_) ?_
 ·refine oB (bt hx41 hg39) fun x40 hx40 hx41=>?_
  obtain rfl:=os hx41
  exact gT rfl hg39<|qm rfl<|gT rfl hg39<|A0 (G1 (rows:=List.map cI [0,1]) rfl rfl (D6 (fun _=>rfl) _)) rfl<|gT rfl hg39<|B4 (rs:=[.b x40]) rfl rfl (A2 rfl (A2 rfl B6)) ((K6 hx40).frz)<|A0 (C7 rfl hg39 rfl) rfl<|ge 4 rfl rfl rfl
 ·obtain rfl:=os (bf hx41 hg39)
  exact nT rfl hg39 rfl<|nT rfl hg39 rfl<|L5 (G2 rfl (by rw [hg39]; rfl)) rfl<|A0 (C6 rfl hg39 rfl) rfl<|ge 4 rfl rfl rfl
 refine qm rfl<|gp 3 161 (.b (x41 && (x11.2.1 == 14))) 158 rfl rfl (fun hg42=>?_) (fun hg42=>?_) ?_
 ·exact gT rfl hg42<|qm rfl<|gT rfl hg42<|A0 (F5 rfl rfl) rfl<|A0 (C7 rfl hg42 rfl) rfl<|ge 3 (by rw [hg42]; rfl) rfl rfl
 ·exact nT rfl hg42 rfl<|nT rfl hg42 rfl<|A0 (C6 rfl hg42 rfl) rfl<|ge 3 (by rw [hg42]; rfl) rfl rfl
 refine qm rfl<|es (ra1 rfl)<|C4 ?_
 obtain rfl:=os h
 exact retq trivial (B1 rfl B7) (A6 rfl B9) (A3 A8 B2)
end Ds
end
section
set_option maxRecDepth 100000
namespace Ds
theorem awake:V7 = some true:= by decide +kernel
end Ds
end
section
set_option maxRecDepth 100000
set_option maxHeartbeats 0
namespace Ds
open Go Am Go.Proofs.Ytdkflofgolehkaa.Cd
end Ds
end
section
namespace Ds
open Go Am
abbrev Prs:=List (Nat × DrLook)
def cst (r:DrRoom) (x:Nat × DrLook):Int:=one r r.Figures[x.1]! x.2
def hr (r:DrRoom) (c:Nat) (x:Nat × DrLook):Int:=A8k r.Figures[x.1]! x.2 (c:Int)
def A8s (r:DrRoom) (z:Prs):Int:=sm (z.map (cst r))
def E6 (r:DrRoom) (z:Prs) (c:Nat):Int:=r.Ounces.getD c 0 + sm (z.map (hr r c))
def J5 (r:DrRoom) (z:Prs):dress_plan:=⟨ints (z.map (·.1)),A8s r z,⟨E6 r z 0,E6 r z 1,E6 r z 2,E6 r z 3⟩⟩
def B57 (r:DrRoom) (z:Prs):Prop:=z.length≤5∧∀ x ∈ z,x.1 < r.Figures.length∧LkOk r (-1) x.2
theorem D2v {r:DrRoom} (ok:RmOk r) (x:Nat × DrLook):0≤cst r x∧cst r x≤400:=D4a ok _ _
theorem C3p {r:DrRoom} (ok:RmOk r) (z:Prs):0≤A8s r z∧A8s r z≤400 * z.length:= by
 have:=C6h (a:=0) (b:=400) (l:=z.map (cst r)) fun x hx=>by
  obtain ⟨k,_,rfl⟩:=List.mem_map.mp hx
  exact D2v ok k
 rw [List.length_map] at this
 unfold A8s; omega
theorem D7m {r:DrRoom} (ok:RmOk r) (c:Nat) {x:Nat × DrLook} (h:x.1 < r.Figures.length∧LkOk r (-1) x.2):-50≤hr r c x∧hr r c x≤50:= by
 have h1:=(ok.figure _ (J0 h.1)).hair
 have h2:=h.2.hair
 unfold hr A8k
 split
 ·split <;> split <;> omega
 ·omega
theorem C5q {r:DrRoom} (ok:RmOk r) (c:Nat):0≤r.Ounces.getD c 0∧r.Ounces.getD c 0≤50:= by
 rw [List.getD_eq_getElem?_getD]
 by_cases h:c < r.Ounces.length
 ·rw [List.getElem?_eq_getElem h]; exact ok.ounce _ (List.getElem_mem h)
 ·rw [List.getElem?_eq_none (by omega)]; decide
theorem B27 {r:DrRoom} (ok:RmOk r) {z:Prs} (hz:B57 r z) (c:Nat):-250≤E6 r z c∧E6 r z c≤300:= by
 have:=C6h (a:=-50) (b:=50) (l:=z.map (hr r c)) fun x hx=>by
  obtain ⟨k,hk,rfl⟩:=List.mem_map.mp hx
  exact D7m ok c (hz.2 k hk)
 have h2:=C5q ok c
 have h3:=hz.1
 rw [List.length_map] at this
 unfold E6; omega
theorem B57.take {r:DrRoom} {z:Prs} (h:B57 r z) (n:Nat):B57 r (z.take n) :=
 ⟨by have:=h.1; rw [List.length_take]; omega,fun x hx=>h.2 x (List.mem_of_mem_take hx)⟩
theorem D1x (r:DrRoom) (z:Prs) (x:Nat × DrLook):A8s r (z++[x]) = A8s r z + cst r x:= by
 unfold A8s; rw [List.map_append,A41]; simp [sm]
theorem C7l (r:DrRoom) (z:Prs) (x:Nat × DrLook) (c:Nat):E6 r (z++[x]) c = E6 r z c + hr r c x:= by
 unfold E6; rw [List.map_append,A41]; simp [sm]; omega
theorem C94 {r:DrRoom} (ok:RmOk r) {z:Prs} (hz:B57 r z) {f:Nat} {p:DrLook} (hx:f < r.Figures.length∧LkOk r (-1) p):U9 (J5 r z) (f:Int) (chg r r.Figures[f]! p) = some (J5 r (z++[(f,p)])):= by
 have hl:=hz.1
 have hs:=C3p ok z
 have hc:=D4a ok r.Figures[f]! p
 have hb:∀c:Nat,w64 (E6 r z c + A8k r.Figures[f]! p (c:Int)) = E6 r (z++[(f,p)]) c:=fun c=>by
  have h1:=B27 ok hz c
  have h2:=D7m ok c (x:=(f,p)) hx
  rw [C7l]
  have h2':-50≤A8k r.Figures[f]! p (c:Int)∧A8k r.Figures[f]! p (c:Int)≤50:=h2
  exact E0 (by omega)
 unfold U9
 rw [T6 (by omega) (by show (ints _).length + 1≤_; rw [F0,List.length_map]; omega)]
 simp only [Option.bind_some]
 have h0:=hb 0
 have h1:=hb 1
 have h2:=hb 2
 have h3:=hb 3
 have hloop:loop (T9 (chg r r.Figures[f]! p)) (0,(J5 r z).left_) = some (J5 r (z++[(f,p)])).left_:= by
  have:=I4 (b:=T9 (chg r r.Figures[f]! p)) (fun i=>((i:Int),(match i with
   | 0=>⟨E6 r z 0,E6 r z 1,E6 r z 2,E6 r z 3⟩
   | 1=>⟨E6 r (z++[(f,p)]) 0,E6 r z 1,E6 r z 2,E6 r z 3⟩
   | 2=>⟨E6 r (z++[(f,p)]) 0,E6 r (z++[(f,p)]) 1,E6 r z 2,E6 r z 3⟩
   | 3=>⟨E6 r (z++[(f,p)]) 0,E6 r (z++[(f,p)]) 1,E6 r (z++[(f,p)]) 2,E6 r z 3⟩
   | _=>(J5 r (z++[(f,p)])).left_:Ar4 Int))) 4 (r:=(J5 r (z++[(f,p)])).left_) (by omega) (fun i hi=>by
   unfold T9
   generalize r.Figures[f]! = F at h0 h1 h2 h3 ⊢
   rcases (by omega:i = 0∨i = 1∨i = 2∨i = 3) with rfl | rfl | rfl | rfl <;> simp [idx,Ar4.l,Ar4.set,chg,J5]
   ·exact ⟨E0 (by omega),h0⟩
   ·exact ⟨E0 (by omega),h1⟩
   ·exact ⟨E0 (by omega),h2⟩
   ·exact ⟨E0 (by omega),h3⟩) rfl
  exact this
 rw [hloop]
 simp only [Option.bind_some,Option.some.injEq]
 have e1:w64 (A8s r z + one r r.Figures[f]! p) = A8s r (z++[(f,p)]):= by
  rw [D1x]; exact E0 (by omega)
 show (⟨ints (z.map (·.1))++[(f:Int)],w64 (A8s r z + one r r.Figures[f]! p),(J5 r (z++[(f,p)])).left_⟩:dress_plan) = J5 r (z++[(f,p)])
 rw [e1]
 unfold J5 ints
 simp
def below (x:Int):Int:=if x < 0 then -x else 0
def A8l (r:DrRoom) (z:Prs):List Int:=(List.range r.Ounces.length).map fun c=>below (E6 r z c)
def A44 (r:DrRoom) (z:Prs):Bool:=(List.range r.Ounces.length).all fun c=>decide (0≤E6 r z c)
theorem D3e {r:DrRoom} (ok:RmOk r) {x:Nat × DrLook} (h:x.1 < r.Figures.length∧LkOk r (-1) x.2) {c:Nat} (hc:r.Ounces.length≤c):hr r c x = 0:= by
 have h1:=(ok.figure _ (J0 h.1)).col
 have h2:=h.2.col
 unfold hr A8k
 have e1:r.Figures[x.1]!.Looks[0]! ≠ (c:Int):= by omega
 have e2:x.2.Looks[0]! ≠ (c:Int):= by omega
 rw [if_neg e1,if_neg e2]
 simp
theorem C48 {r:DrRoom} (ok:RmOk r) {z:Prs} (hz:B57 r z) {c:Nat} (hc:r.Ounces.length≤c):E6 r z c = 0:= by
 unfold E6
 rw [List.getD_eq_getElem?_getD,List.getElem?_eq_none hc,D66 fun x hx=>D3e ok (hz.2 x hx) hc]; rfl
theorem C0q {x:Int} (h:-1000≤x∧x≤1000):A9f 0 (w64 (0 - x)) = below x:= by
 rw [E0 (by omega)]
 unfold A9f below
 split <;> split <;> omega
theorem B7d {x:Int} (h:-1000≤x∧x≤1000):0≤below x∧below x≤1000:= by
 unfold below; split <;> omega
theorem D3r {r:DrRoom} (ok:RmOk r) {z:Prs} (hz:B57 r z):M5 (J5 r z) = some (⟨below (E6 r z 0),below (E6 r z 1),below (E6 r z 2),below (E6 r z 3)⟩,sm (A8l r z)):= by
 have hb:∀c,-1000≤E6 r z c∧E6 r z c≤1000:=fun c=>by have:=B27 ok hz c; omega
 have m:=fun c=>C0q (hb c)
 have q:=fun c=>B7d (hb c)
 have q0:=q 0
 have q1:=q 1
 have q2:=q 2
 have q3:=q 3
 have hs:sm (A8l r z) = below (E6 r z 0) + below (E6 r z 1) + below (E6 r z 2) + below (E6 r z 3):= by
  have ho:=ok.ounces
  have hf:∀c,r.Ounces.length≤c→below (E6 r z c) = 0:=fun c hc=>by rw [C48 ok hz hc]; rfl
  unfold A8l
  rcases (by omega:r.Ounces.length = 1∨r.Ounces.length = 2∨r.Ounces.length = 3∨r.Ounces.length = 4) with e | e | e | e <;> rw [e] at hf ⊢
  ·rw [hf 1 (by omega),hf 2 (by omega),hf 3 (by omega)]; simp [List.range,List.range.loop,sm]
  ·rw [hf 2 (by omega),hf 3 (by omega)]; simp [List.range,List.range.loop,sm]
  ·rw [hf 3 (by omega)]; simp [List.range,List.range.loop,sm]; omega
  ·simp [List.range,List.range.loop,sm]; omega
 unfold M5
 have m0:=m 0
 rw [Int.zero_sub] at m0
 have m1:=m 1
 rw [Int.zero_sub] at m1
 have m2:=m 2
 rw [Int.zero_sub] at m2
 have m3:=m 3
 rw [Int.zero_sub] at m3
 have:=I4 (b:=S7 (J5 r z)) (fun i=>(match i with
   | 0=>(0,0,⟨0,0,0,0⟩)
   | 1=>(below (E6 r z 0),1,⟨below (E6 r z 0),0,0,0⟩)
   | 2=>(below (E6 r z 0) + below (E6 r z 1),2,⟨below (E6 r z 0),below (E6 r z 1),0,0⟩)
   | 3=>(below (E6 r z 0) + below (E6 r z 1) + below (E6 r z 2),3,⟨below (E6 r z 0),below (E6 r z 1),below (E6 r z 2),0⟩)
   | _=>(sm (A8l r z),4,⟨below (E6 r z 0),below (E6 r z 1),below (E6 r z 2),below (E6 r z 3)⟩):Int × Int × Ar4 Int)) 4 (r:=(sm (A8l r z),⟨below (E6 r z 0),below (E6 r z 1),below (E6 r z 2),below (E6 r z 3)⟩)) (by omega) (fun i hi=>by
  unfold S7
  rcases (by omega:i = 0∨i = 1∨i = 2∨i = 3) with rfl | rfl | rfl | rfl
  ·simp only [J5,idx,Ar4.l,Ar4.set]
   simp [m0]
   first | exact ⟨E0 (by omega),E0 (by omega)⟩ | exact E0 (by omega)
  ·simp only [J5,idx,Ar4.l,Ar4.set]
   simp [m1]
   first | exact ⟨E0 (by omega),E0 (by omega)⟩ | exact E0 (by omega)
  ·simp only [J5,idx,Ar4.l,Ar4.set]
   simp [m2]
   first | exact ⟨E0 (by omega),E0 (by omega)⟩ | exact E0 (by omega)
  ·simp only [J5,idx,Ar4.l,Ar4.set]
   simp [m3,hs]
   first | exact ⟨E0 (by omega),E0 (by omega)⟩ | exact E0 (by omega)) rfl
 rw [show ((0:Int),(0:Int),(Ar4.mk (0:Int) 0 0 0)) = (match (0:Nat) with
   | 0=>(0,0,⟨0,0,0,0⟩)
   | 1=>(below (E6 r z 0),1,⟨below (E6 r z 0),0,0,0⟩)
   | 2=>(below (E6 r z 0) + below (E6 r z 1),2,⟨below (E6 r z 0),below (E6 r z 1),0,0⟩)
   | 3=>(below (E6 r z 0) + below (E6 r z 1) + below (E6 r z 2),3,⟨below (E6 r z 0),below (E6 r z 1),below (E6 r z 2),0⟩)
   | _=>(sm (A8l r z),4,⟨below (E6 r z 0),below (E6 r z 1),below (E6 r z 2),below (E6 r z 3)⟩):Int × Int × Ar4 Int) from rfl,this]; rfl
theorem B7e {x:Int}:(below x == 0) = decide (0≤x):= by
 unfold below
 rw [Bool.eq_iff_iff,beq_iff_eq,decide_eq_true_eq]
 split <;> omega
theorem B7a {r:DrRoom} (ok:RmOk r) {z:Prs} (hz:B57 r z):L8 (J5 r z) = some (A44 r z):= by
 unfold L8
 rw [D3r ok hz]
 simp only [Option.bind_some,B7e,Bool.and_true,Option.some.injEq]
 have ho:=ok.ounces
 have hf:∀c,r.Ounces.length≤c→decide (0≤E6 r z c) = true:=fun c hc=>by rw [C48 ok hz hc]; rfl
 unfold A44
 rcases (by omega:r.Ounces.length = 1∨r.Ounces.length = 2∨r.Ounces.length = 3∨r.Ounces.length = 4) with e | e | e | e <;> rw [e] at hf ⊢
 ·rw [hf 1 (by omega),hf 2 (by omega),hf 3 (by omega)]; simp [List.range,List.range.loop]
 ·rw [hf 2 (by omega),hf 3 (by omega)]; simp [List.range,List.range.loop]
 ·rw [hf 3 (by omega)]; simp [List.range,List.range.loop]
 ·simp [List.range,List.range.loop]
theorem B30 {q:List Nat} {ps:List DrLook} (h:q.length≤ps.length):(q.zip ps).length = q.length:= by
 rw [List.length_zip]; omega
theorem A1u {q:List Nat} {i:Nat} (h:i < q.length):idx (ints q) (i:Int) = some ((q[i]!:Nat):Int) :=
 A32 (by unfold ints; rw [List.getElem?_map,List.getElem?_eq_getElem h,getElem!_pos q i h]; rfl)
structure QOk (r:DrRoom) (q:List Nat):Prop where
 len:q.length≤r.Persons.length
 fig:∀x ∈ q,x < r.Figures.length
def prs (r:DrRoom) (q:List Nat):Prs:=q.zip r.Persons
theorem QOk.pr {r:DrRoom} (ok:RmOk r) {q:List Nat} (h:QOk r q):B57 r (prs r q):= by
 refine ⟨by unfold prs; rw [B30 h.len]; have:=ok.persons; have:=h.len; omega,fun x hx=>?_⟩
 have:=List.of_mem_zip (a:=x.1) (b:=x.2) hx
 exact ⟨h.fig _ this.1,ok.person _ this.2⟩
end Ds
end
section
set_option maxRecDepth 100000
set_option maxHeartbeats 0
namespace Ds
open Go Am Go.Proofs.Ytdkflofgolehkaa.Cd
end Ds
end
section
namespace Ds
open Go Am
def nats (l:List Int):List Nat:=l.map Int.toNat
theorem C36 {r:DrRoom} (ok:RmOk r):begin0 r = J5 r []:= by
 have ho:=ok.ounces
 unfold begin0 J5 cpy4
 simp [ints,A8s,E6,sm,List.getD_eq_getElem?_getD]
section
variable {α β σ ρ:Type}
def X1 (f:α→σ→Option (σ ⊕ ρ)):List α→σ→Option (σ ⊕ ρ)
 | [],s=>some (.inl s)
 | a :: l,s=>(f a s).bind fun x=>match x with
  | .inl s'=>X1 f l s'
  | .inr r=>some (.inr r)
theorem B2p (f:α→σ→Option (σ ⊕ ρ)) (m:List α):∀(l:List α) (s:σ),X1 f (l++m) s = (X1 f l s).bind fun x=>match x with
  | .inl s'=>X1 f m s'
  | .inr r=>some (.inr r)
 | [],s=>rfl
 | a :: l,s=>by
  show (f a s).bind _ = ((f a s).bind _).bind _
  cases f a s with
  | none=>rfl
  | some x=>cases x with
   | inl s'=>exact B2p f m l s'
   | inr r=>rfl
theorem B7u (f:α→σ→Option (σ ⊕ ρ)) (h:β→List α):∀(l:List β) (s:σ),X1 f (l.flatMap h) s = X1 (fun b s=>X1 f (h b) s) l s
 | [],s=>rfl
 | b :: l,s=>by
  rw [List.flatMap_cons,B2p]
  show _ = (X1 f (h b) s).bind _
  cases X1 f (h b) s with
  | none=>rfl
  | some x=>cases x with
   | inl s'=>exact B7u f h l s'
   | inr r=>rfl
theorem A7w (f:α→σ→Option (σ ⊕ ρ)) (p:α→Bool):∀(l:List α) (s:σ),X1 f (l.filter p) s = X1 (fun a s=>if p a then f a s else some (.inl s)) l s
 | [],s=>rfl
 | a :: l,s=>by
  rw [List.filter_cons]
  cases h:p a with
  | false =>
   rw [if_neg (by decide),A7w f p l s]
   show _ = (if p a then f a s else some (.inl s)).bind _
   rw [h]; rfl
  | true =>
   rw [if_pos rfl]
   show (f a s).bind _ = (if p a then f a s else some (.inl s)).bind _
   rw [h,if_pos rfl]
   cases f a s with
   | none=>rfl
   | some x=>cases x with
    | inl s'=>exact A7w f p l s'
    | inr r=>rfl
def E1n (i:Nat):σ ⊕ ρ→(Int × σ) ⊕ (ρ ⊕ σ)
 | .inl s=>.inl (((i + 1:Nat):Int),s)
 | .inr r=>.inr (.inl r)
def C91:σ ⊕ ρ→ρ ⊕ σ
 | .inl s=>.inr s
 | .inr r=>.inl r
end
def A87 (n:Nat) (q:List Nat):List Nat:=(List.range n).filter fun f=>!q.contains f
def DF (n:Nat):Nat→List Nat→List (List Nat)
 | 0,q=>[q]
 | d + 1,q=>(A87 n q).flatMap fun f=>DF n d (q++[f])
def bit (u i:Nat):Bool:=u / 2 ^ i % 2 == 1
def C3q (u:Int) (q:List Nat):Prop:=∃ n:Nat,u = (n:Int)∧n < 64∧∀ f,f < 6→bit n f = q.contains f
theorem C9r:∀u:Nat,u < 64→∀ p:Nat,p < 6→orI (u:Int) ((2 ^ p:Nat):Int) = ((u ||| 2 ^ p:Nat):Int)∧(u ||| 2 ^ p) < 64:= by decide +kernel
theorem D80:∀u:Nat,u < 64→∀ p:Nat,p < 6→∀ t:Nat,t < 6→bit (u ||| 2 ^ p) t = (bit u t || t == p):= by decide +kernel
theorem C8j:C3q 0 []:=⟨0,rfl,by decide,by decide⟩
theorem D1z {u:Int} {q:List Nat} (hu:C3q u q) {p:Nat} (hp:p < 6):C3q (orI u ((2 ^ p:Nat):Int)) (q++[p]):= by
 obtain ⟨n,rfl,h1,h2⟩:=hu
 refine ⟨n ||| 2 ^ p,(C9r n h1 p hp).1,(C9r n h1 p hp).2,fun f hf=>?_⟩
 rw [D80 n h1 p hp f hf,h2 f hf,Bool.eq_iff_iff]
 simp
def B02 (n:Nat) (S k:Nat):List Nat:=(List.range n).filter fun i=>decide (k≤i) && bit S i
def A1k (r:DrRoom) (S k:Nat):List DrLook:=(B02 r.Persons.length S k).map fun i=>r.Persons[i]!
theorem B12 (n S k:Nat):B02 n S k = (List.range' k (n - k)).filter (bit S):= by
 unfold B02
 by_cases h:k≤n
 ·have e:List.range n = List.range k++List.range' k (n - k):= by
   rw [List.range_eq_range',List.range_eq_range',show List.range' k (n - k) = List.range' (0 + 1 * k) (n - k) by simp,List.range'_append]; congr 1; omega
  rw [e,List.filter_append,List.filter_eq_nil_iff.mpr (by
   intro i hi
   have:i < k:= by simpa using hi
   simp; omega),List.nil_append]
  refine List.filter_congr fun i hi=>?_
  rw [List.mem_range'_1] at hi
  rw [decide_eq_true hi.1,Bool.true_and]
 ·rw [show n - k = 0 by omega,List.range'_zero,List.filter_nil,List.filter_eq_nil_iff]
  intro i hi
  have:i < n:= by simpa using hi
  simp; omega
theorem B4z {n S k:Nat} (h:k < n):B02 n S k = if bit S k then k :: B02 n S (k + 1) else B02 n S (k + 1):= by
 rw [B12,B12,show n - k = (n - (k + 1)) + 1 by omega,List.range'_succ,List.filter_cons]
theorem D42 {n S k:Nat} (h:n≤k):B02 n S k = []:= by rw [B12,show n - k = 0 by omega]; rfl
theorem C90 (r:DrRoom) (hP:r.Persons.length≤5) {S:Nat} (hS:S < 64):∀(d k:Nat),k + d = r.Persons.length →
  ∃ k':Nat,loop (B9d r (S:Int)) (k:Int) = some (k':Int)∧k≤k'∧k'≤r.Persons.length∧B02 r.Persons.length S k = B02 r.Persons.length S k'∧(k' < r.Persons.length→bit S k' = true):= by
 intro d k hk
 have key:∀(d k m:Nat),k + d = r.Persons.length→d < m→∃ k':Nat,A4m (B9d r (S:Int)) m (k:Int) = some (k':Int)∧k≤k'∧k'≤r.Persons.length∧B02 r.Persons.length S k = B02 r.Persons.length S k'∧(k' < r.Persons.length→bit S k' = true):= by
  intro d
  induction d with
  | zero =>
   intro k m hk hm
   obtain ⟨m',rfl⟩:∃m',m = m' + 1:=⟨m - 1,by omega⟩
   refine ⟨k,?_,Nat.le_refl _,by omega,rfl,fun c=>by omega⟩
   rw [H8]
   unfold B9d
   rw [if_neg (by simp; omega)]; rfl
  | succ d ih =>
   intro k m hk hm
   obtain ⟨m',rfl⟩:∃m',m = m' + 1:=⟨m - 1,by omega⟩
   have hb:(B1i ((S / 2 ^ k:Nat):Int) 1 == 0) = !bit S k:=and0 (Nat.lt_of_le_of_lt (Nat.div_le_self _ _) hS)
   have e:B9d r (S:Int) (k:Int) = if bit S k then some (.inr (k:Int)) else some (.inl ((k + 1:Nat):Int)):= by
    unfold B9d
    rw [if_pos (by simp; omega),B41 _ _ (by omega)]
    simp only [Option.bind_some]
    rw [hb,E0 (by omega)]
    cases bit S k <;> rfl
   cases hq:bit S k with
   | true =>
    refine ⟨k,?_,Nat.le_refl _,by omega,rfl,fun _=>hq⟩
    rw [H8,e,hq]; rfl
   | false =>
    obtain ⟨k',h1,h2,h3,h4,h5⟩:=ih (k + 1) m' (by omega) (by omega)
    refine ⟨k',?_,by omega,h3,?_,h5⟩
    ·rw [H8,e,hq]; exact h1
    ·rw [B4z (by omega),hq,← h4]; rfl
 exact key d k _ hk (by omega)
section
variable {σ ρ:Type}
theorem D5f {q:List Nat} {ps:List DrLook} {f:Nat} {p:DrLook} {l:List DrLook} (h:ps.drop q.length = p :: l):(q++[f]).zip ps = q.zip ps++[(f,p)]∧ps.drop (q++[f]).length = l:= by
 have hps:ps = ps.take q.length++p :: l:= by rw [← h,List.take_append_drop]
 have hlen:(ps.take q.length).length = q.length:= by
  have:q.length < ps.length:= by
   have:=congrArg List.length h
   rw [List.length_drop] at this; simp at this; omega
  rw [List.length_take]; omega
 constructor
 ·generalize ps.take q.length = a at *
  subst hps
  rw [List.zip_append hlen.symm]
  have:q.zip (a++p :: l) = q.zip a++([]:List Nat).zip (p :: l):= by
   rw [← List.zip_append hlen.symm,List.append_nil]
  rw [this]; simp
 ·rw [List.length_append,← List.drop_drop,h]; rfl
theorem D30 {r:DrRoom} (ok:RmOk r) {ch:Chg} (hch:C3v r ch) {S:Nat} (hS:S < 64) (ps:List DrLook) (hps:∀p ∈ ps,LkOk r (-1) p) (hpl:ps.length≤5) (body:dress_plan→σ→Option (σ ⊕ ρ)) :
  ∀ (d k:Nat) (q:List Nat) (u:Int) (s:σ) (X:σ ⊕ ρ) (m:Nat),ps.drop q.length = A1k r S k→(A1k r S k).length = d→k≤r.Persons.length→C3q u q→(∀ f ∈ q,f < r.Figures.length)→q.length + d = ps.length→d < m →
   X1 (fun q s=>body (J5 r (q.zip ps)) s) (DF r.Figures.length d q) s = some X→A8m r ch (S:Int) body m (k:Int) u (J5 r (q.zip ps)) s = some X:= by
 have hP:=ok.persons
 have hF:=ok.figures
 intro d
 induction d with
 | zero =>
  intro k q u s X m hd hl hk hu hq hlen hm hf
  obtain ⟨m',rfl⟩:∃m',m = m' + 1:=⟨m - 1,by omega⟩
  obtain ⟨k',h1,h2,h3,h4,h5⟩:=C90 r hP hS (r.Persons.length - k) k (by omega)
  have e:k' = r.Persons.length:= by
   by_cases c:k' < r.Persons.length
   ·unfold A1k at hl
    rw [h4,B4z c,h5 c] at hl
    simp at hl
   ·omega
  subst e
  unfold A8m
  rw [h1]
  simp only [Option.bind_some,BEq.rfl,if_true]
  unfold DF at hf
  unfold X1 at hf
  cases hb:body (J5 r (q.zip ps)) s with
  | none=>rw [hb] at hf; cases hf
  | some x=>rw [hb] at hf; cases x <;> cases hf <;> rfl
 | succ d ih =>
  intro k q u s X m hd hl hk hu hq hlen hm hf
  obtain ⟨m',rfl⟩:∃m',m = m' + 1:=⟨m - 1,by omega⟩
  obtain ⟨k',h1,h2,h3,h4,h5⟩:=C90 r hP hS (r.Persons.length - k) k (by omega)
  have c:k' < r.Persons.length:= by
   by_cases c:k' < r.Persons.length
   ·exact c
   ·unfold A1k at hl
    rw [h4,D42 (by omega)] at hl
    simp at hl
  have hsel:A1k r S k = r.Persons[k']! :: A1k r S (k' + 1):= by
   unfold A1k
   rw [h4,B4z c,h5 c]; rfl
  rw [hsel] at hd hl
  have hne:((k':Int) == (r.Persons.length:Int)) = false:= by simp; omega
  have hPk:LkOk r (-1) r.Persons[k']!:=ok.person _ (J0 c)
  have hz:B57 r (q.zip ps):=⟨by rw [List.length_zip]; omega,fun x hx=>by
   have:=List.of_mem_zip (a:=x.1) (b:=x.2) hx
   exact ⟨hq _ this.1,hps _ this.2⟩⟩
  unfold A8m
  rw [h1]
  simp only [Option.bind_some,hne,Bool.false_eq_true,if_false]
  unfold DF A87 at hf
  rw [B7u,A7w] at hf
  have hloop:loop (B93 r ch (A8m r ch (S:Int) body m') (k':Int) u (J5 r (q.zip ps))) (0,s) = some (C91 X):= by
   have key:∀(j i m2:Nat) (s:σ),i + j = r.Figures.length→j < m2→X1 (fun f s=>if (!q.contains f) = true then X1 (fun q s=>body (J5 r (q.zip ps)) s) (DF r.Figures.length d (q++[f])) s else some (.inl s)) ((List.range r.Figures.length).drop i) s = some X →
     A4m (B93 r ch (A8m r ch (S:Int) body m') (k':Int) u (J5 r (q.zip ps))) m2 ((i:Int),s) = some (C91 X):= by
    intro j
    induction j with
    | zero =>
     intro i m2 s hi hm2 h
     obtain ⟨m3,rfl⟩:∃m3,m2 = m3 + 1:=⟨m2 - 1,by omega⟩
     rw [List.drop_of_length_le (by simp; omega)] at h
     cases h
     rw [H8]
     unfold B93
     simp only []
     rw [if_neg (by simp; omega)]; rfl
    | succ j ihj =>
     intro i m2 s hi hm2 h
     obtain ⟨m3,rfl⟩:∃m3,m2 = m3 + 1:=⟨m2 - 1,by omega⟩
     have hi2:i < (List.range r.Figures.length).length:= by simp; omega
     rw [List.drop_eq_getElem_cons hi2,List.getElem_range] at h
     obtain ⟨n,rfl,hn,hbit⟩:=hu
     have hb:(B1i ((n / 2 ^ i:Nat):Int) 1 == 1) = q.contains i:= by
      rw [and1 (Nat.lt_of_le_of_lt (Nat.div_le_self _ _) hn)]; exact hbit i (by omega)
     unfold X1 at h
     cases hc:q.contains i with
     | true =>
      have e:B93 r ch (A8m r ch (S:Int) body m') (k':Int) (n:Int) (J5 r (q.zip ps)) ((i:Int),s) = some (.inl (((i + 1:Nat):Int),s)):= by
       unfold B93
       simp only []
       rw [if_pos (by simp; omega),B41 _ _ (by omega)]
       simp only [Option.bind_some]
       rw [hb,hc,if_pos rfl,E0 (by omega)]; rfl
      rw [hc] at h
      rw [H8,e]
      exact ihj (i + 1) m3 s (by omega) (by omega) h
     | false =>
      rw [hc] at h
      simp only [Bool.not_false,if_true] at h
      obtain ⟨z1,z2⟩:=D5f (f:=i) hd
      cases hX:X1 (fun q s=>body (J5 r (q.zip ps)) s) (DF r.Figures.length d (q++[i])) s with
      | none=>rw [hX] at h; cases h
      | some Y =>
       rw [hX] at h
       have hr:=ih (k' + 1) (q++[i]) (orI (n:Int) ((2 ^ i:Nat):Int)) s Y m' (by rw [z2]) (by simpa using hl) (by omega) (D1z ⟨n,rfl,hn,hbit⟩ (by omega)) (fun f hf=>by
        rcases List.mem_append.mp hf with hf | hf
        ·exact hq f hf
        ·have:f = i:= by simpa using hf
         omega) (by rw [List.length_append]; simp; omega) (by omega) hX
       rw [z1] at hr
       have e:B93 r ch (A8m r ch (S:Int) body m') (k':Int) (n:Int) (J5 r (q.zip ps)) ((i:Int),s) = some (E1n i Y):= by
        unfold B93
        simp only []
        rw [if_pos (by simp; omega),B41 _ _ (by omega)]
        simp only [Option.bind_some]
        rw [hb,hc,if_neg (by decide)]
        have hg:=hch i k' (by omega) c
        unfold A4g
        rw [hg,Option.getD_some,C94 ok hz ⟨by omega,hPk⟩]
        simp only [Option.bind_some]
        rw [A7i i (by omega),E0 (n:=(k':Int) + 1) (by omega)]
        simp only [Option.bind_some]
        rw [show (((k':Nat):Int) + 1) = ((k' + 1:Nat):Int) from rfl,hr]
        cases Y with
        | inl s'=>simp only [Option.bind_some]; rw [E0 (by omega)]; rfl
        | inr x=>rfl
       rw [H8,e]
       cases Y with
       | inl s'=>exact ihj (i + 1) m3 s' (by omega) (by omega) h
       | inr x=>cases h; rfl
   exact key r.Figures.length 0 _ s (by omega) (by omega) hf
  rw [hloop]
  cases X <;> rfl
end
theorem B65 {n:Nat}:∀{d:Nat} {q p:List Nat},p ∈ DF n d q↔∃ t,p = q++t∧t.length = d∧t.Nodup∧∀ x ∈ t,x < n∧x ∉ q
 | 0,q,p=>by
  unfold DF
  rw [List.mem_singleton]
  constructor
  ·rintro rfl; exact ⟨[],by simp⟩
  ·rintro ⟨t,rfl,h,-,-⟩
   rw [List.length_eq_zero_iff.mp h,List.append_nil]
 | d + 1,q,p=>by
  unfold DF A87
  rw [List.mem_flatMap]
  constructor
  ·rintro ⟨f,hf,hp⟩
   obtain ⟨t,rfl,h1,h2,h3⟩:=B65.mp hp
   have hf:=List.mem_filter.mp hf
   have hfn:f < n:= by simpa using hf.1
   have hfq:f ∉ q:= by simpa using hf.2
   refine ⟨f :: t,by simp,by simp [h1],?_,?_⟩
   ·rw [List.nodup_cons]
    exact ⟨fun c=>(h3 f c).2 (by simp),h2⟩
   ·intro x hx
    rcases List.mem_cons.mp hx with rfl | hx
    ·exact ⟨hfn,hfq⟩
    ·have:=h3 x hx
     exact ⟨this.1,fun c=>this.2 (List.mem_append_left _ c)⟩
  ·rintro ⟨t,rfl,h1,h2,h3⟩
   cases t with
   | nil=>cases h1
   | cons f t =>
    rw [List.nodup_cons] at h2
    have hf:=h3 f (List.mem_cons_self ..)
    refine ⟨f,List.mem_filter.mpr ⟨by simpa using hf.1,by simpa using hf.2⟩,B65.mpr ⟨t,by simp,by simpa using h1,h2.2,fun x hx=>⟨(h3 x (List.mem_cons_of_mem _ hx)).1,fun c=>?_⟩⟩⟩
    rcases List.mem_append.mp c with c | c
    ·exact (h3 x (List.mem_cons_of_mem _ hx)).2 c
    ·have:x = f:= by simpa using c
     subst this; exact h2.1 hx
def perms (n d:Nat):List (List Nat):=DF n d []
theorem B0p {n d:Nat} {p:List Nat}:p ∈ perms n d↔p.length = d∧p.Nodup∧∀ x ∈ p,x < n:= by
 unfold perms
 rw [B65]
 constructor
 ·rintro ⟨t,rfl,h1,h2,h3⟩
  exact ⟨h1,h2,fun x hx=>(h3 x hx).1⟩
 ·rintro ⟨h1,h2,h3⟩
  exact ⟨p,rfl,h1,h2,fun x hx=>⟨h3 x hx,by simp⟩⟩
theorem C2r {α β:Type} {f:α→List β} {b:Nat}:∀{l:List α},(∀ x ∈ l,(f x).length≤b)→(l.flatMap f).length≤l.length * b
 | [],_=>by simp
 | x :: l,h=>by
  have h1:=h x (List.mem_cons_self ..)
  have ih:=C2r (l:=l) fun y hy=>h y (List.mem_cons_of_mem _ hy)
  rw [List.flatMap_cons,List.length_append,List.length_cons,Nat.succ_mul]; omega
theorem B6f {n:Nat} (hn:n≤6):∀(d:Nat) (q:List Nat),(DF n d q).length≤6 ^ d
 | 0,q=>by simp [DF]
 | d + 1,q=>by
  unfold DF
  have h1:(A87 n q).length≤6:= by
   unfold A87
   exact Nat.le_trans (List.length_filter_le _ _) (by simpa using hn)
  have:=C2r (l:=A87 n q) (f:=fun f=>DF n d (q++[f])) (b:=6 ^ d) fun f _=>B6f hn d _
  rw [Nat.pow_succ]
  calc _≤(A87 n q).length * 6 ^ d:=this
   _≤6 * 6 ^ d:=Nat.mul_le_mul_right _ h1
   _ = 6 ^ d * 6:=Nat.mul_comm _ _
theorem B10 {n d:Nat} (hn:n≤6) (hd:d≤5):(perms n d).length≤7776 :=
 Nat.le_trans (B6f hn d []) (Nat.le_trans (Nat.pow_le_pow_right (by decide) hd) (by decide))
def fm {α:Type} (k:α→Int):List α→Option α
 | []=>none
 | x :: l=>match fm k l with
  | none=>some x
  | some y=>if k y < k x then some y else some x
section
variable {α:Type} {k:α→Int}
theorem B2n:∀{l:List α},fm k l = none↔l = []
 | []=>⟨fun _=>rfl,fun _=>rfl⟩
 | x :: l=>by
  refine ⟨fun h=>?_,fun h=>by cases h⟩
  unfold fm at h
  split at h
  ·cases h
  ·split at h <;> cases h
theorem B2o:∀{l:List α} {b:α},fm k l = some b→(∀ y ∈ l,k b≤k y)∧∃ A B,l = A++b :: B∧∀ a ∈ A,k b < k a
 | [],b,h=>by cases h
 | x :: l,b,h=>by
  unfold fm at h
  cases hf:fm k l with
  | none =>
   rw [hf] at h; cases h
   rw [B2n.mp hf]
   exact ⟨by simp,[],[],rfl,by simp⟩
  | some y =>
   rw [hf] at h
   obtain ⟨h1,A,B,rfl,h3⟩:=B2o hf
   simp only at h
   split at h
   ·next c =>
    cases h
    refine ⟨fun z hz=>?_,x :: A,B,rfl,fun a ha=>?_⟩
    ·rcases List.mem_cons.mp hz with rfl | hz
     ·omega
     ·exact h1 z hz
    ·rcases List.mem_cons.mp ha with rfl | ha
     ·exact c
     ·exact h3 a ha
   ·next c =>
    cases h
    refine ⟨fun z hz=>?_,[],A++y :: B,rfl,by simp⟩
    rcases List.mem_cons.mp hz with rfl | hz
    ·exact Int.le_refl _
    ·have:=h1 z hz; omega
theorem A86 {l:List α} {b:α} (h:fm k l = some b):b ∈ l:= by
 obtain ⟨_,A,B,rfl,_⟩:=B2o h
 simp
theorem D24 {l:List α} {b:α} (h:fm k l = some b) {y:α} (hy:y ∈ l):k b≤k y:=(B2o h).1 y hy
theorem D5v {l:List α} {x:α} (h:x ∈ l):∃b,fm k l = some b:= by
 cases hf:fm k l with
 | none=>rw [B2n.mp hf] at h; cases h
 | some b=>exact ⟨b,rfl⟩
theorem B6n (y:α):∀(l:List α),fm k (l++[y]) = match fm k l with
  | none=>some y
  | some b=>if k y < k b then some y else some b
 | []=>rfl
 | x :: l=>by
  show (match fm k (l++[y]) with | none=>some x | some z=>if k z < k x then some z else some x) = match (match fm k l with | none=>some x | some z=>if k z < k x then some z else some x) with | none=>some y | some b=>if k y < k b then some y else some b
  rw [B6n y l]
  cases fm k l with
  | none=>rfl
  | some b =>
   simp only
   by_cases c1:k b < k x <;> by_cases c2:k y < k b <;> by_cases c3:k y < k x <;> simp only [c1,c2,c3,if_true,if_false] <;> omega
theorem D25 {β:Type} (g:β→α):∀(l:List β),fm k (l.map g) = (fm (fun x=>k (g x)) l).map g
 | []=>rfl
 | x :: l=>by
  rw [List.map_cons]
  unfold fm
  rw [D25 g l]
  cases fm (fun x=>k (g x)) l with
  | none=>rfl
  | some y =>
   simp only [Option.map_some]
   split <;> rfl
end
theorem D83 {r:DrRoom} {z:Prs} (h:z.length≤5):A2i (J5 r z) = some (J5 r z):= by
 have hl:(ints (z.map (·.1))).length = z.length:= by rw [F0,List.length_map]
 unfold A2i
 show (C1l 8 ((ints (z.map (·.1))).length:Int) 0).bind _ = _
 rw [hl]
 unfold C1l
 rw [if_pos ⟨by omega,by omega,by omega⟩]
 simp only [Option.bind_some,Option.some.injEq]
 have:cpy (List.replicate (z.length:Int).toNat (0:Int)) (ints (z.map (·.1))) = ints (z.map (·.1)):= by
  unfold cpy
  rw [List.length_replicate,Int.toNat_natCast,hl,Nat.min_self,List.take_of_length_le (by omega),List.drop_of_length_le (by simp),List.append_nil]
 show (⟨cpy _ (ints (z.map (·.1))),_,_⟩:dress_plan) = _
 rw [this]; rfl
section
variable {α β ρ:Type}
theorem B07 {f:α→List β→Option (List β ⊕ ρ)} {p:α→Bool} {g:α→β}:∀{l:List α} {s:List β},s.length + l.length≤1000000000→(∀ a ∈ l,∀ s:List β,s.length < 1000000000→f a s = some (.inl (if p a then s++[g a] else s)))→X1 f l s = some (.inl (s++(l.filter p).map g))
 | [],s,_,_=>by simp [X1]
 | a :: l,s,hl,h=>by
  rw [List.length_cons] at hl
  unfold X1
  rw [h a (List.mem_cons_self ..) s (by omega)]
  simp only [Option.bind_some]
  have hq:(if p a then s++[g a] else s).length + l.length≤1000000000:= by
   split
   ·rw [List.length_append,List.length_singleton]; omega
   ·omega
  rw [B07 hq fun b hb=>h b (List.mem_cons_of_mem _ hb),List.filter_cons]
  cases p a <;> simp
end
structure PsOk (r:DrRoom) (ps:List DrLook):Prop where
 len:ps.length≤5
 look:∀p ∈ ps,LkOk r (-1) p
theorem PsOk.pr {r:DrRoom} {ps:List DrLook} (h:PsOk r ps) {q:List Nat} (hq:q ∈ perms r.Figures.length ps.length):B57 r (q.zip ps):= by
 have hq:=B0p.mp hq
 refine ⟨by rw [List.length_zip]; have:=h.len; omega,fun x hx=>?_⟩
 have:=List.of_mem_zip (a:=x.1) (b:=x.2) hx
 exact ⟨hq.2.2 _ this.1,h.look _ this.2⟩
def AL (r:DrRoom) (ps:List DrLook):List (List Nat):=(perms r.Figures.length ps.length).filter fun q=>A44 r (q.zip ps)
theorem C2c {r:DrRoom} {ps:List DrLook} {q:List Nat}:q ∈ AL r ps↔(q.length = ps.length∧q.Nodup∧∀ x ∈ q,x < r.Figures.length)∧A44 r (q.zip ps) = true:= by
 unfold AL; rw [List.mem_filter,B0p]
theorem B6e {r:DrRoom} (ok:RmOk r) {ps:List DrLook} (h:PsOk r ps):(AL r ps).length≤7776 :=
 Nat.le_trans (List.length_filter_le _ _) (B10 ok.figures h.len)
theorem C3l {r:DrRoom} (ok:RmOk r) (S k:Nat):PsOk r (A1k r S k):= by
 refine ⟨?_,fun p hp=>?_⟩
 ·unfold A1k B02
  rw [List.length_map]
  have:=List.length_filter_le (fun i=>decide (k≤i) && bit S i) (List.range r.Persons.length)
  have:=ok.persons
  simp at *; omega
 ·unfold A1k B02 at hp
  obtain ⟨i,hi,rfl⟩:=List.mem_map.mp hp
  have:i < r.Persons.length:= by simpa using (List.mem_filter.mp hi).1
  exact ok.person _ (J0 this)
theorem C7z {σ ρ:Type} {r:DrRoom} (ok:RmOk r) {ch:Chg} (hch:C3v r ch) {S:Nat} (hS:S < 64) (body:dress_plan→σ→Option (σ ⊕ ρ)) {s:σ} {X:σ ⊕ ρ}
  (h:X1 (fun q s=>body (J5 r (q.zip (A1k r S 0))) s) (perms r.Figures.length (A1k r S 0).length) s = some X):B0q r ch (S:Int) σ ρ body s = some X:= by
 have hp:=C3l ok S 0
 unfold B0q
 have:=D30 ok hch hS (A1k r S 0) hp.look hp.len body (A1k r S 0).length 0 [] 0 s X 64 rfl rfl (Nat.zero_le _) C8j (by simp) (by simp) (by have:=hp.len; omega) h
 rw [C36 ok]
 exact this
theorem C3m {r:DrRoom} (ok:RmOk r) {ch:Chg} (hch:C3v r ch) {S:Nat} (hS:S < 64):P5 r ch (S:Int) = some ((AL r (A1k r S 0)).map fun q=>J5 r (q.zip (A1k r S 0))):= by
 have hp:=C3l ok S 0
 have hF:=ok.figures
 have hsz:=B10 hF hp.len
 unfold P5
 rw [C7z ok hch hS B0w (s:=[]) (X:=.inl ((AL r (A1k r S 0)).map fun q=>J5 r (q.zip (A1k r S 0)))) (by
  have:=B07 (ρ:=Unit) (l:=perms r.Figures.length (A1k r S 0).length) (s:=([]:List dress_plan)) (f:=fun q s=>B0w (J5 r (q.zip (A1k r S 0))) s) (p:=fun q=>A44 r (q.zip (A1k r S 0))) (g:=fun q=>J5 r (q.zip (A1k r S 0))) (by simp; omega) (fun q hq s hs=>by
   have hz:=hp.pr hq
   unfold B0w
   rw [B7a ok hz]
   simp only [Option.bind_some]
   cases A44 r (q.zip (A1k r S 0)) with
   | false=>rfl
   | true =>
    rw [if_pos rfl,D83 hz.1]
    simp only [Option.bind_some]
    rw [T6 (by omega) (by simp; omega)]; rfl)
  rw [this]; rfl)]
 rfl
theorem less1 (p q:dress_plan):B76 by1 p q = some (decide (p.cost_ < q.cost_)):= by
 unfold B76
 have h1:∀i:Nat,i = 0→A50 by1 p q (i:Int) = some (if p.cost_ = q.cost_ then .inl 1 else .inr (.inl (decide (p.cost_ < q.cost_)))):= by
  rintro i rfl
  unfold A50
  rw [if_pos (by decide)]
  rw [show idx by1 ((0:Nat):Int) = some (94,V2) from rfl]
  simp only [Option.bind_some,V2]
  by_cases c:p.cost_ = q.cost_
  ·rw [if_neg (by simp [c]),if_pos c]; rfl
  ·rw [if_pos (by simpa using c),if_neg c]
 have h2:A50 by1 p q 1 = some (.inr (.inr ())):= by unfold A50; rw [if_neg (by decide)]
 by_cases c:p.cost_ = q.cost_
 ·have:=I4 (b:=A50 by1 p q) (fun i=>(i:Int)) 1 (r:=.inr ()) (by omega) (fun i hi=>by rw [h1 i (by omega),if_pos c]; congr 2; omega) h2
  rw [show (0:Int) = ((0:Nat):Int) from rfl,this,c]; simp
 ·have:=I4 (b:=A50 by1 p q) (fun i=>(i:Int)) 0 (r:=.inl (decide (p.cost_ < q.cost_))) (by omega) (fun i hi=>absurd hi (Nat.not_lt_zero i)) (by rw [h1 0 rfl,if_neg c])
  rw [show (0:Int) = ((0:Nat):Int) from rfl,this]; rfl
instance:Inhabited dress_plan:=⟨plan0⟩
theorem D0n (l:List dress_plan) (g:dress_plan × dress_plan→Option Bool) (k:dress_plan→Int) (hl:l.length < 1000000000) (hg:∀x ∈ l,∀ y ∈ l,g (x,y) = some (decide (k x < k y))) :
  M4 l g = some (match fm k l with | none=>(plan0,false) | some b=>(b,true)):= by
 unfold M4
 have:=I4 (b:=I6 l g) (fun i=>((match fm k (l.take i) with | none=>(false,(i:Int),plan0) | some b=>(true,(i:Int),b)):Bool × Int × dress_plan)) l.length (r:=match fm k l with | none=>(false,plan0) | some b=>(true,b)) (by omega) (fun i hi=>by
  have hsn:fm k (l.take (i + 1)) = match fm k (l.take i) with | none=>some l[i]! | some b=>if k l[i]! < k b then some l[i]! else some b:= by
   rw [List.take_succ_eq_append_getElem hi,B6n,getElem!_pos l i hi]
   cases fm k (l.take i) <;> rfl
  rw [hsn]
  cases hf:fm k (l.take i) with
  | none =>
   have h0:i = 0:= by
    have:=congrArg List.length (B2n.mp hf)
    rw [List.length_take,List.length_nil] at this; omega
   subst h0
   unfold I6
   simp only []
   rw [if_pos (by simpa using hi),H9 hi]; rfl
  | some b =>
   have h0:i ≠ 0:= by rintro rfl; cases hf
   have hb:b ∈ l:=List.mem_of_mem_take (A86 hf)
   unfold I6
   simp only []
   rw [if_pos (by simpa using hi),H9 hi]
   simp only [Option.bind_some]
   rw [if_neg (by simp; omega),hg _ (J0 hi) b hb,E0 (by omega)]
   simp only [Option.bind_some]
   by_cases c:k l[i]! < k b
   ·rw [if_pos (by simpa using c),if_pos c]; rfl
   ·rw [if_neg (by simpa using c),if_neg c]; rfl) (by
  rw [List.take_length]
  cases fm k l with
  | none=>unfold I6; simp only []; rw [if_neg (by simp)]
  | some b=>unfold I6; simp only []; rw [if_neg (by simp)])
 rw [show ((false,0,(dress_plan.mk ([]:List Int) 0 (Ar4.mk 0 0 0 0))):Bool × Int × dress_plan) = (match fm k (l.take 0) with | none=>(false,((0:Nat):Int),plan0) | some b=>(true,((0:Nat):Int),b)) from rfl,this]
 simp only [Option.bind_some]
 cases fm k l <;> rfl
def A0n (r:DrRoom) (ps:List DrLook) (q:List Nat):Int:=A8s r (q.zip ps)
def W8 (r:DrRoom) (ps:List DrLook):Option (List Nat):=fm (A0n r ps) (AL r ps)
theorem B6i {r:DrRoom} (ok:RmOk r) {ch:Chg} (hch:C3v r ch) {S:Nat} (hS:S < 64) :
  P4 r ch (S:Int) = some (match W8 r (A1k r S 0) with | none=>(plan0,false) | some q=>(J5 r (q.zip (A1k r S 0)),true)):= by
 unfold P4
 rw [C3m ok hch hS]
 simp only [Option.bind_some]
 rw [D0n _ _ (fun p=>p.cost_) (by rw [List.length_map]; have:=B6e ok (C3l ok S 0); omega) (fun x _ y _=>less1 x y),D25]
 unfold W8
 rw [show (fun x=>(J5 r (x.zip (A1k r S 0))).cost_) = A0n r (A1k r S 0) from rfl]
 cases fm (A0n r (A1k r S 0)) (AL r (A1k r S 0)) <;> rfl
end Ds
end
section
set_option maxRecDepth 100000
set_option maxHeartbeats 0
namespace Ds
open Go Am Go.Proofs.Ytdkflofgolehkaa.Cd
end Ds
end
section
set_option maxRecDepth 100000
namespace Ds
open Go Am Go.Proofs.Ytdkflofgolehkaa.Cd
end Ds
end
section
set_option maxRecDepth 100000
set_option maxHeartbeats 0
namespace Ds
open Go Am Go.Proofs.Ytdkflofgolehkaa.Cd
end Ds
end
section
namespace Ds
open Go Am
theorem B25 (q:List Nat) (f:Nat):(ints q).any (· == (f:Int)) = q.contains f:= by
 unfold ints
 rw [List.any_map,Bool.eq_iff_iff,List.any_eq_true]
 simp only [Function.comp_def,beq_iff_eq,List.contains_iff_mem]
 constructor
 ·rintro ⟨x,hx,e⟩
  have:x = f:= by omega
  subst this; exact hx
 ·intro h; exact ⟨f,h,rfl⟩
def B03 (r:DrRoom):List Int × Int × Int :=
 if (chk r).2.2 ≠ 0 then ([],0,(chk r).2.2) else
 match W8 r r.Persons with
 | none=>([],0,9)
 | some q=>(ints q,A0n r r.Persons q,0)
theorem D41 {n S:Nat} (h:∀i,i < n→bit S i = true):B02 n S 0 = List.range n:= by
 unfold B02
 rw [List.filter_eq_self]
 intro i hi
 rw [h i (by simpa using hi)]; simp
theorem B4o {α:Type} [Inhabited α] (l:List α):(List.range l.length).map (fun i=>l[i]!) = l:= by
 apply List.ext_getElem
 ·simp
 ·intro i h1 h2
  rw [List.getElem_map,List.getElem_range,getElem!_pos l i h2]
theorem D43 {r:DrRoom} {S:Nat} (h:∀i,i < r.Persons.length→bit S i = true):A1k r S 0 = r.Persons:= by
 unfold A1k
 rw [D41 h,B4o]
theorem B9q:∀n:Nat,n < 6→∀ i:Nat,i < n→bit (2 ^ n - 1) i = true:= by decide
theorem A91 {r:DrRoom} (ok:RmOk r):I7 ⟨r⟩ = some ((2 ^ r.Persons.length - 1:Nat):Int):= by
 have hP:=ok.persons
 unfold I7
 show (C0h .i64 1 (r.Persons.length:Int)).bind _ = _
 rw [A7i _ (by omega)]
 simp only [Option.bind_some,Option.some.injEq]
 have h1:0 < 2 ^ r.Persons.length:=Nat.two_pow_pos _
 have h2:2 ^ r.Persons.length≤32:=Nat.le_trans (Nat.pow_le_pow_right (by decide) hP) (by decide)
 rw [E0 (by omega)]; omega
theorem B3z {r:DrRoom} (ok:RmOk r):2 ^ r.Persons.length - 1 < 64:= by
 have:2 ^ r.Persons.length≤32:=Nat.le_trans (Nat.pow_le_pow_right (by decide) ok.persons) (by decide)
 omega
theorem A8d {r:DrRoom} (ok:RmOk r):A1k r (2 ^ r.Persons.length - 1) 0 = r.Persons :=
 D43 fun i hi=>B9q _ (by have:=ok.persons; omega) i hi
theorem C96 {q:List Nat} {ps:List DrLook} (h:q.length = ps.length):(q.zip ps).map (·.1) = q:=List.map_fst_zip (by omega)
theorem D14 {r:DrRoom} {ps:List DrLook} {q:List Nat} (h:q ∈ AL r ps):q.length = ps.length:=(C2c.mp h).1.1
theorem C8p (r:DrRoom) (hb:NB r):W2 r = some (B03 r):= by
 unfold W2 B03
 rw [A42 r hb]
 simp only [Option.bind_some]
 by_cases h0:(chk r).2.2 = 0
 ·obtain ⟨ok,-⟩:=(O6 r).mp h0
  obtain ⟨ch,e1,hch⟩:=C0s ok
  have hr:∀(a b:List Int × Int × Int),(if (chk r).2.2 ≠ 0 then a else b) = b:=fun a b=>if_neg (fun c=>c h0)
  rw [hr,if_neg (by simp [h0]),show loop (A6c r) (0,[]) = some ch from e1,A91 ok]
  simp only [Option.bind_some]
  rw [B6i ok hch (B3z ok),A8d ok]
  simp only [Option.bind_some]
  cases hb:W8 r r.Persons with
  | none=>rfl
  | some q =>
   have hl:=D14 (A86 hb)
   show some (ints ((q.zip r.Persons).map (·.1)),_,_) = _
   rw [C96 hl]; rfl
 ·rw [if_pos h0,if_pos (by simpa using h0)]
end Ds
end
section
set_option maxRecDepth 100000
namespace Ds
open Go Am
end Ds
end
section
set_option maxRecDepth 100000
set_option maxHeartbeats 0
namespace Ds
open Go Am Go.Proofs.Ytdkflofgolehkaa.Cd
def X8 (a0:DrRoom) (a1:(List Int)) (s1:(Int × (List DrLook))):Option ((Int × (List DrLook)) ⊕ (List DrLook)) :=
 if (decide (s1.1 < (List.length a0.Persons:Int))) = true then
  (A2k a1 s1.1).bind fun x4 =>
  if (!x4) = true then
  (idx a0.Persons s1.1).bind fun x6 =>
  (app 48 s1.2 [x6]).bind fun x7 =>
  some (.inl ((w64 (s1.1 + 1)),x7))
  else
  some (.inl ((w64 (s1.1 + 1)),s1.2))
 else
  some (.inr s1.2)
def O8 (a0:DrRoom) (a1:(List Int)):Option DrRoom :=
 (loop (X8 a0 a1) (0,([]:List DrLook))).bind fun (o8:(List DrLook)) =>
 some (DrRoom.mk a0.Costs a0.Ounces a0.Figures o8)
theorem A1f {c:Sc} {H:A1} {a0:DrRoom} {a1:(List Int)} {r:DrRoom} (h:O8 a0 a1 = some r) :
  E9 tab c H (.fn (.func 44) [] []) [(.agg (A4 a0)),(.seq 1 (List.map cI a1))] [(.agg [(.seq 1 (List.map cI r.Costs)),(.seq 1 (List.map cI r.Ounces)),(.seq 3 (List.map A5 r.Figures)),(.fresh 3 (List.map A5 r.Persons))])]:= by
 unfold O8 at h
 refine cE rfl rfl<|sg 0 rfl<|A0 (F7 (cs:=A4 a0) rfl rfl rfl) rfl<|A0 E7 rfl<|es (ra3 rfl rfl rfl)<|sg 2 rfl<|A0 A1x rfl<|es (ra4 rfl rfl rfl rfl)<|B5<|s0<|qm rfl<|es (ra5 rfl rfl rfl rfl rfl)<|C2<|oB h fun o8 ho8 h=>wl (fun s1=>[(1,(.seq 1 (List.map cI a1))),(2,(.ptr (H.length + 0) 0)),(4,(.ptr (H.length + 1) 0)),(5,(.asl (H.length + 2) (List.length s1.2))),(6,.i s1.1)]) (fun (q2:Unit) s1=>[(.cells (A4 a0)),(.cells (A4 (DrRoom.mk ([]:List Int) ([]:List Int) ([]:List DrLook) ([]:List DrLook)))),(.arr 3 false (List.map A5 s1.2))]) 3 (fun r e s' H'=>PX 0 [(2,(.ptr (H.length + 0) 0)),(4,(.ptr (H.length + 1) 0)),(5,(.asl (H.length + 2) (List.length r)))] (H++[(.cells (A4 a0)),(.cells (A4 (DrRoom.mk ([]:List Int) ([]:List Int) ([]:List DrLook) ([]:List DrLook)))),(.arr 3 false (List.map A5 r))]) e s' H') () ho8 rfl rfl (fun _ _=>rfl) (fun _=>rfl) rfl (fun s1=>(bdc E3 (bdc (F1 rfl) (bdc (F1 rfl) (bdc (W1 rfl) (bdc A8 bdn)))))) (fun q2 s1 ys1 hs1=>?_) ?_
 ·unfold X8 at hs1
  refine B5<|s0<|qm rfl<|A0 (D1 rfl) rfl<|A0 (C5 rfl rfl rfl) rfl<|A0 (D2 (f:=A5) rfl) rfl<|A0 (G3 rfl rfl) rfl<|es (ra6 rfl rfl rfl rfl rfl rfl)<|wi hs1 rfl (fun hc3 hs1=>?_) fun hc3 hs1=>?_
  ·refine C1<|B5<|C2<|s0<|oB hs1 fun x4 hx4 hs1=>qm rfl<|qm rfl<|B4 (rs:=[.b x4]) rfl rfl (A2 rfl (A2 rfl B6)) ((A4r hx4).frz)<|A0 (R9 rfl) rfl<|es (ra6 rfl rfl rfl rfl rfl rfl)<|wi hs1 rfl (fun hc5 hs1=>?_) fun hc5 hs1=>?_
   ·refine r0<|oB hs1 fun x6 hx6 hs1=>oB hs1 fun x7 hx7 hs1=>qm rfl<|A0 (D1 rfl) rfl<|A0 (C5 rfl rfl rfl) rfl<|qm rfl<|A0 (E1 (f:=A5) rfl rfl hx6) rfl<|A0 (M7 rfl rfl) rfl<|A0 (G1 (rows:=List.map A5 [x6]) rfl rfl (D6 (fun _=>rfl) _)) rfl<|P6 (U0 (f:=A5) rfl rfl rfl rfl P7 (fun _=>rfl) hx7) rfl<|qm rfl<|en (ra5 rfl rfl rfl rfl rfl)<|r0<|qm rfl<|A0 (E8 rfl rfl) rfl<|qm rfl<|en (ra5 rfl rfl rfl rfl rfl) ?_
    cases hs1
    exact lnT () rfl (su5 rfl rfl rfl rfl rfl)
   ·refine C1<|r0<|qm rfl<|A0 (E8 rfl rfl) rfl<|qm rfl<|en (ra5 rfl rfl rfl rfl rfl) ?_
    cases hs1
    exact lnT () rfl (su5 rfl rfl rfl rfl rfl)
  ·refine F3 ?_
   obtain rfl:=os hs1
   exact lx rfl px (su3 rfl rfl rfl)
 ·rintro e s' H' - ⟨rfl,rfl,rfl⟩
  refine s0<|qm rfl<|A0 (D1 rfl) rfl<|I0 (D3 (ds:=[(.seq 1 (List.map cI a0.Costs)),(.seq 1 (List.map cI a0.Ounces)),(.seq 3 (List.map A5 a0.Figures)),(.asl (H.length + 2) (List.length o8))]) rfl rfl rfl rfl (P9 (Nat.le_add_right _ _)) rfl) rfl<|es (ra2 rfl rfl)<|s0<|A0 (I5 (ds:=[(.seq 1 (List.map cI a0.Costs)),(.seq 1 (List.map cI a0.Ounces)),(.seq 3 (List.map A5 a0.Figures)),(.asl (H.length + 2) (List.length o8))]) rfl rfl rfl rfl) rfl<|I0 (D3 (ds:=[(.seq 1 (List.map cI a0.Costs)),(.seq 1 (List.map cI a0.Ounces)),(.seq 3 (List.map A5 a0.Figures)),(.asl (H.length + 2) (List.length o8))]) rfl rfl rfl rfl (P9 (Nat.le_add_right _ _)) rfl) rfl<|es (ra1 rfl)<|C4 ?_
  obtain rfl:=os h
  exact retq trivial (P1 (I5 (ds:=[(.seq 1 (List.map cI a0.Costs)),(.seq 1 (List.map cI a0.Ounces)),(.seq 3 (List.map A5 a0.Figures)),(.asl (H.length + 2) (List.length o8))]) rfl rfl rfl rfl) B7) (A6 (C3b (W9 rfl (W9 rfl (W9 rfl (W9 (C7t rfl (List.length_map _)) C7s))))) B9) (A3 (Y8 rfl) B2)
end Ds
end
section
namespace Ds
open Go Am
def CL (r:DrRoom) (ps:List DrLook) (b:List Nat):List (List Nat):=(AL r ps).filter fun q=>A0n r ps q == A0n r ps b
def wo (r:DrRoom) (X:Nat→Bool):List DrLook:=((List.range r.Persons.length).filter fun i=>!X i).map fun i=>r.Persons[i]!
def woR (r:DrRoom) (X:Nat→Bool):DrRoom:=⟨r.Costs,r.Ounces,r.Figures,wo r X⟩
theorem B1h {r:DrRoom} (hP:r.Persons.length≤5) (l:List Int) (hl:l.length < 9223372036854775808):O8 r l = some (woR r fun i=>l.any (· == (i:Int))):= by
 unfold O8
 have:=I4 (b:=X8 r l) (fun (i:Nat)=>((i:Int),((List.range i).filter fun (j:Nat)=>!l.any (· == (j:Int))).map fun (j:Nat)=>r.Persons[j]!)) r.Persons.length (r:=wo r fun i=>l.any (· == (i:Int))) (by omega) (fun i hi=>by
  unfold X8
  simp only []
  rw [if_pos (by simpa using hi),C2e l _ hl,List.range_succ,List.filter_append,List.map_append,E0 (by omega)]
  simp only [Option.bind_some]
  have hlen:=List.length_filter_le (fun i:Nat=>!l.any (· == (i:Int))) (List.range i)
  rw [List.length_range] at hlen
  cases hc:l.any (· == (i:Int)) with
  | true=>rw [if_neg (by decide),List.filter_cons,hc]; simp
  | false =>
   rw [if_pos (by decide),H9 hi]
   simp only [Option.bind_some]
   rw [T6 (by omega) (by rw [List.length_map]; simp only [List.length_singleton]; omega),List.filter_cons,hc]
   simp) (by
  unfold X8
  simp only []
  rw [if_neg (by simp)]; rfl)
 rw [show ((0:Int),([]:List DrLook)) = (((0:Nat):Int),((List.range 0).filter fun (j:Nat)=>!l.any (· == (j:Int))).map fun (j:Nat)=>r.Persons[j]!) from rfl,this]; rfl
theorem C3s (r:DrRoom) (X:Nat→Bool):(wo r X).Sublist r.Persons:= by
 unfold wo
 have:=(List.filter_sublist (p:=fun i=>!X i) (l:=List.range r.Persons.length)).map fun i=>r.Persons[i]!
 rwa [B4o] at this
theorem C8h {r:DrRoom} (h:(chk r).2.2 = 0) {ps:List DrLook} (hs:ps.Sublist r.Persons):(chk ⟨r.Costs,r.Ounces,r.Figures,ps⟩).2.2 = 0:= by
 obtain ⟨ok,n1,n2⟩:=(O6 r).mp h
 have hl:=hs.length_le
 have hP:=ok.persons
 have hL:∀least x,LkOk r least x→LkOk ⟨r.Costs,r.Ounces,r.Figures,ps⟩ least x:=fun least x o=>⟨o.len,o.col,o.look,o.hair⟩
 refine (O6 _).mpr ⟨⟨ok.costs,ok.cost,ok.ounces,ok.ounce,ok.figures,by show ps.length≤5; omega,fun x hx=>hL _ _ (ok.figure x hx),fun x hx=>hL _ _ (ok.person x (hs.subset hx))⟩,n1,?_⟩
 exact ⟨fun s hs2=>n2.each s ((hs.map _).subset hs2),n2.two.sublist (hs.map _)⟩
theorem C0n:∀n:Nat,n < 6→∀ s:Nat,s < 32→A94 ((2 ^ n - 1:Nat):Int) (s:Int) = ((mask (fun i=>!bit s i) n:Nat):Int):= by decide +kernel
theorem C1k {p:Nat→Bool} {n:Nat} (h:n≤5):mask p n < 64 :=
 Nat.lt_of_lt_of_le (B0k p n) (Nat.le_trans (Nat.pow_le_pow_right (by decide) h) (by decide))
theorem C15 {r:DrRoom} (X:Nat→Bool):A1k r (mask (fun i=>!X i) r.Persons.length) 0 = wo r X:= by
 unfold A1k wo B02
 congr 1
 refine List.filter_congr fun i hi=>?_
 have hi:i < r.Persons.length:= by simpa using hi
 rw [decide_eq_true (Nat.zero_le i),Bool.true_and]
 exact A9d (fun i=>!X i) hi
theorem A92 {r:DrRoom} {X Y:Nat→Bool} (h:∀i,i < r.Persons.length→X i = Y i):wo r X = wo r Y:= by
 unfold wo
 congr 1
 refine List.filter_congr fun i hi=>?_
 rw [h i (by simpa using hi)]
end Ds
end
section
set_option maxRecDepth 100000
set_option maxHeartbeats 0
namespace Ds
open Go Am Go.Proofs.Ytdkflofgolehkaa.Cd
end Ds
end
section
set_option maxRecDepth 100000
namespace Ds
open Go Am Go.Proofs.Ytdkflofgolehkaa.Cd
def arP (p:Bool) (l:List Int):AO:=.arr 1 p (l.map cI)
theorem A4b {α:Type} {l:List α} {i:Nat} {x:α} (h:l[i]? = some x):l.set i x = l:= by
 apply List.ext_getElem?
 intro k
 by_cases e:i = k
 ·subst e; rw [List.getElem?_set_self (List.getElem?_eq_some_iff.1 h).1,h]
 ·rw [List.getElem?_set_ne e]
structure AnyG (room:List AV) where
 L:List AO
 j:Nat
 h0:L[0]? = some (.cells room)
 h2:2 < L.length
 hj:j < L.length
 j0:j ≠ 0
 j2:j ≠ 2
def AnyG.M {room:List AV} (g:AnyG room) (s:Int × List Int × List Int):List AO:=(g.L.set 2 (arP false s.2.1)).set g.j (arP false s.2.2)
end Ds
end
section
set_option maxRecDepth 100000
set_option maxHeartbeats 0
namespace Ds
open Go Am Go.Proofs.Ytdkflofgolehkaa.Cd
def A33 (a0:DrRoom):Option Bool :=
 (R8 a0).bind fun x1 =>
 some (x1.2.2 == 0)
theorem B8k {c:Sc} {H:A1} {a0:DrRoom} {r:Bool} (h:A33 a0 = some r) :
  E9 tab c H (.fn (.func 37) [] []) [(.agg (A4 a0))] [.b r]:= by
 unfold A33 at h
 refine cE rfl rfl<|sg 0 rfl<|A0 (F7 (cs:=A4 a0) rfl rfl rfl) rfl<|qm rfl<|es (ra1 rfl)<|s0<|oB h fun x1 hx1 h=>A0 (C3 rfl rfl rfl) rfl<|B4 (rs:=[.i x1.1,.i x1.2.1,.i x1.2.2]) rfl rfl (A2 (D0 rfl) B6) ((U2 hx1).frz)<|qm rfl<|A0 (A7 rfl rfl) rfl<|A0 (A7 rfl rfl) rfl<|A0 (A7 rfl rfl) rfl<|qm rfl<|qm rfl<|qm rfl<|es (ra1 rfl)<|s0<|qm rfl<|A0 (F5 rfl rfl) rfl<|qm rfl<|es (ra1 rfl)<|C4 ?_
 obtain rfl:=os h
 exact retq trivial (B1 rfl B7) (A6 rfl B9) (A3 A8 B2)
def A0g (a0:(List Int)) (a1:(List Int)) (s1:Int):Option (Int ⊕ (Bool ⊕ Unit)) :=
 if (decide (s1 < (D6h (List.length a0:Int) (List.length a1:Int)))) = true then
  (idx a0 s1).bind fun x4 =>
  (idx a1 s1).bind fun x5 =>
  if (x4 != x5) = true then
  (idx a0 s1).bind fun x7 =>
  (idx a1 s1).bind fun x8 =>
  some (.inr (.inl (decide (x7 < x8))))
  else
  some (.inl (w64 (s1 + 1)))
 else
  some (.inr (.inr ()))
def A5j (a0:(List Int)) (a1:(List Int)):Option Bool :=
 (loop (A0g a0 a1) 0).bind fun (o9:(Bool ⊕ Unit)) =>
 match o9 with
 | (.inl vo9_0) =>
  some vo9_0
 | (.inr vo9_1) =>
  some (decide ((List.length a0:Int) < (List.length a1:Int)))
theorem B98 {c:Sc} {H:A1} {a0:(List Int)} {a1:(List Int)} {r:Bool} (h:A5j a0 a1 = some r) :
  E9 tab c H (.fn (.func 42) [] []) [(.seq 1 (List.map cI a0)),(.seq 1 (List.map cI a1))] [.b r]:= by
 unfold A5j at h
 refine cE rfl rfl<|s0<|qm rfl<|es (ra2 rfl rfl)<|s0<|qm rfl<|A0 (D2 (f:=cI) rfl) rfl<|qm rfl<|A0 (D2 (f:=cI) rfl) rfl<|A0 (D6j rfl rfl) rfl<|qm rfl<|es (ra3 rfl rfl rfl)<|B5<|s0<|qm rfl<|es (ra4 rfl rfl rfl rfl)<|C2<|oB h fun o9 ho9 h=>wl (fun s1=>[(0,(.seq 1 (List.map cI a0))),(1,(.seq 1 (List.map cI a1))),(5,(.i (D6h (List.length a0:Int) (List.length a1:Int)))),(6,.i s1)]) (fun (q2:Unit) s1=>[]) 0 (fun r e s' H'=>(match r with | (.inl v)=>e = .ret∧RetQ H [.tmp 4] [.b v] e s' H' | (.inr v)=>PX 0 [(0,(.seq 1 (List.map cI a0))),(1,(.seq 1 (List.map cI a1)))] (H++[]) e s' H':Prop)) () ho9 rfl rfl (fun _ _=>rfl) (fun _=>rfl) rfl (fun s1=>(bdc E3 (bdc E3 (bdc A8 (bdc A8 bdn))))) (fun q2 s1 ys1 hs1=>?_) ?_
 ·unfold A0g at hs1
  refine B5<|s0<|qm rfl<|qm rfl<|A0 (G3 rfl rfl) rfl<|es (ra5 rfl rfl rfl rfl rfl)<|wi hs1 rfl (fun hc3 hs1=>?_) fun hc3 hs1=>?_
  ·refine C1<|B5<|C2<|s0<|oB hs1 fun x4 hx4 hs1=>oB hs1 fun x5 hx5 hs1=>qm rfl<|qm rfl<|A0 (E1 (f:=cI) rfl rfl hx4) rfl<|A0 (E4 rfl rfl) rfl<|qm rfl<|qm rfl<|A0 (E1 (f:=cI) rfl rfl hx5) rfl<|A0 (E4 rfl rfl) rfl<|A0 (J4 rfl rfl) rfl<|es (ra5 rfl rfl rfl rfl rfl)<|wi hs1 rfl (fun hc6 hs1=>?_) fun hc6 hs1=>?_
   ·refine s0<|oB hs1 fun x7 hx7 hs1=>oB hs1 fun x8 hx8 hs1=>qm rfl<|qm rfl<|A0 (E1 (f:=cI) rfl rfl hx7) rfl<|A0 (E4 rfl rfl) rfl<|qm rfl<|qm rfl<|A0 (E1 (f:=cI) rfl rfl hx8) rfl<|A0 (E4 rfl rfl) rfl<|A0 (G3 rfl rfl) rfl<|qm rfl<|es (ra1 rfl)<|C4 ?_
    obtain rfl:=os hs1
    exact lx rfl (And.intro rfl (retq trivial (B1 rfl B7) (A6 rfl B9) (A3 A8 B2))) (Sub.refl _)
   ·refine C1<|r0<|qm rfl<|A0 (E8 rfl rfl) rfl<|qm rfl<|en (ra4 rfl rfl rfl rfl) ?_
    cases hs1
    exact lnT () rfl (su4 rfl rfl rfl rfl)
  ·refine F3 ?_
   obtain rfl:=os hs1
   exact lx rfl px (su2 rfl rfl)
 ·rcases o9 with vo9_0 | vo9_1
  ·rintro e s' H' - ⟨rfl,hret⟩
   cases h
   exact hret
  ·rintro e s' H' - ⟨rfl,rfl,rfl⟩
   refine s0<|qm rfl<|A0 (D2 (f:=cI) rfl) rfl<|qm rfl<|A0 (D2 (f:=cI) rfl) rfl<|A0 (G3 rfl rfl) rfl<|qm rfl<|es (ra1 rfl)<|C4 ?_
   obtain rfl:=os h
   exact retq trivial (B1 rfl B7) (A6 rfl B9) (A3 A8 B2)
end Ds
end
section
namespace Ds
open Go Am
theorem D47 (h:DrRoom):A33 h = some ((chk h).2.2 == 0):= by
 unfold A33
 rw [Z5]; rfl
theorem A5y (a b:List Nat):ints (a++b) = ints a++ints b:=List.map_append
def A4l:List Nat→List Nat→Bool
 | [],[]=>false
 | [],_ :: _=>true
 | _ :: _,[]=>false
 | a :: l,b :: m=>if a = b then A4l l m else decide (a < b)
theorem D59 (a b:List Nat) (ha:a.length < 1000) (hb:b.length < 1000):∀(d m i:Nat),i + d = min a.length b.length→d < m →
  (A4m (A0g (ints a) (ints b)) m (i:Int)).bind (fun o=>match o with
   | .inl v=>some v
   | .inr _=>some (decide ((List.length (ints a):Int) < (List.length (ints b):Int)))) = some (A4l (a.drop i) (b.drop i)):= by
 intro d
 have hmin:D6h (List.length (ints a):Int) (List.length (ints b):Int) = ((min a.length b.length:Nat):Int):= by
  unfold D6h; rw [F0,F0]; split <;> omega
 induction d with
 | zero =>
  intro m i hi hm
  obtain ⟨m',rfl⟩:∃m',m = m' + 1:=⟨m - 1,by omega⟩
  rw [H8]
  unfold A0g
  rw [hmin,if_neg (by simp; omega)]
  simp only [Option.bind_some]
  rw [F0,F0]
  by_cases c:a.length < b.length
  ·rw [List.drop_of_length_le (show a.length≤i by omega),List.drop_eq_getElem_cons (show i < b.length by omega)]
   simp only [A4l]
   rw [decide_eq_true (by omega)]
  ·rw [List.drop_of_length_le (show b.length≤i by omega),decide_eq_false (by omega)]
   cases a.drop i <;> rfl
 | succ d ih =>
  intro m i hi hm
  obtain ⟨m',rfl⟩:∃m',m = m' + 1:=⟨m - 1,by omega⟩
  have h1:i < a.length:= by omega
  have h2:i < b.length:= by omega
  rw [H8,List.drop_eq_getElem_cons h1,List.drop_eq_getElem_cons h2]
  have e:A0g (ints a) (ints b) (i:Int) = if a[i]! = b[i]! then some (.inl ((i + 1:Nat):Int)) else some (.inr (.inl (decide (a[i]! < b[i]!)))):= by
   unfold A0g
   rw [hmin,if_pos (by simp; omega),A1u h1,A1u h2]
   simp only [Option.bind_some]
   by_cases c:a[i]! = b[i]!
   ·rw [if_pos c,if_neg (by simp [c]),E0 (by omega)]; rfl
   ·rw [if_neg c,if_pos (by rw [bne_iff_ne]; omega)]
    congr 3
    rw [decide_eq_decide]; omega
  rw [e]
  unfold A4l
  rw [← getElem!_pos a i h1,← getElem!_pos b i h2]
  by_cases c:a[i]! = b[i]!
  ·rw [if_pos c,if_pos c]; exact ih m' (i + 1) (by omega) (by omega)
  ·rw [if_neg c,if_neg c]; rfl
theorem D5j (a b:List Nat) (ha:a.length < 1000) (hb:b.length < 1000):A5j (ints a) (ints b) = some (A4l a b):= by
 unfold A5j
 exact D59 a b ha hb (min a.length b.length) _ 0 (by omega) (by omega)
end Ds
end
section
set_option maxRecDepth 100000
set_option maxHeartbeats 0
namespace Ds
open Go Am Go.Proofs.Ytdkflofgolehkaa.Cd
def A9s (a0:Int) (x2:(List (List Int))) (s3:(Int × (List (List Int)))) (s12:(Int × (List (List Int)))):Option ((Int × (List (List Int))) ⊕ (List (List Int))) :=
 if (decide (s12.1 < a0)) = true then
  (idx x2 s3.1).bind fun x15 =>
  (app 8 ([]:List Int) x15).bind fun x16 =>
  (app 8 x16 [s12.1]).bind fun x17 =>
  (app 24 s12.2 [x17]).bind fun x18 =>
  some (.inl ((w64 (s12.1 + 1)),x18))
 else
  some (.inr s12.2)
def A9t (a0:Int) (x2:(List (List Int))) (s3:(Int × (List (List Int)))):Option ((Int × (List (List Int))) ⊕ (List (List Int))) :=
 if (decide (s3.1 < (List.length x2:Int))) = true then
  (idx x2 s3.1).bind fun x6 =>
  (if (decide ((List.length x6:Int) > 0)) = true then
   (idx x2 s3.1).bind fun x9 =>
   (idx x2 s3.1).bind fun x10 =>
   (idx x9 (w64 ((List.length x10:Int) - 1))).bind fun x11 =>
   some x11
  else
   some (-1)).bind fun (p7:Int) =>
  (loop (A9s a0 x2 s3) ((w64 (p7 + 1)),s3.2)).bind fun (o19:(List (List Int))) =>
  some (.inl ((w64 (s3.1 + 1)),o19))
 else
  some (.inr s3.2)
def A6p (g99:((Int × Int)→Option (List (List Int)))) (a0:Int) (a1:Int):Option (List (List Int)) :=
 if (a1 == 0) = true then
  some [([]:List Int)]
 else
  (g99 (a0,(w64 (a1 - 1)))).bind fun x2 =>
  (loop (A9t a0 x2) (0,([]:List (List Int)))).bind fun (o20:(List (List Int))) =>
  some o20
def A6q:Nat→(Int × Int)→Option (List (List Int))
 | 0=>fun _=>none
 | k + 1=>fun y=>A6p (A6q k) y.1 y.2
def A36 (a0:Int) (a1:Int):Option (List (List Int)):=A6q 64 (a0,a1)
end Ds
end
section
set_option maxRecDepth 100000
namespace Ds
open Go Am
def bl (n s:Nat):List Nat:=(List.range n).filter (bit s)
def pk (n m:Nat):List (List Nat):=((A36 (n:Int) (m:Int)).getD []).map nats
def C6y (n:Nat):List (List Nat):=(List.range (n + 1)).flatMap (pk n)
def rank (n s:Nat):Nat:=(C6y n).idxOf (bl n s)
def E1k (a b:List Int):Option Bool :=
 (if (decide ((List.length a:Int) > (List.length b:Int))) = true then
   some true
  else
   (if ((List.length a:Int) == (List.length b:Int)) = true then
   (T2 a b).bind fun x28 =>
   some (decide (x28 > 0))
   else
   some false).bind fun x29 =>
   some x29).bind fun x30 =>
  some x30
theorem A9r:∀n:Nat,n < 6→∀ s:Nat,s < 2 ^ n→(C6y n)[rank n s]? = some (bl n s):= by decide +kernel
theorem D1q:∀n:Nat,n < 6→∀ s:Nat,s < 2 ^ n→∀ t:Nat,t < 2 ^ n→E1k (ints (bl n s)) (ints (bl n t)) = some (decide (rank n t < rank n s)):= by decide +kernel
end Ds
end
section
set_option maxRecDepth 100000
set_option maxHeartbeats 0
namespace Ds
open Go Am Go.Proofs.Ytdkflofgolehkaa.Cd
end Ds
end
section
namespace Ds
open Go Am
theorem A8x {n s i:Nat} (h:i < n):(bl n s).contains i = bit s i:= by
 unfold bl
 rw [Bool.eq_iff_iff,List.contains_iff_mem,List.mem_filter,List.mem_range]
 exact ⟨fun x=>x.2,fun x=>⟨h,x⟩⟩
def A7p (r:DrRoom) (L:List Nat):Bool:=!(AL r (wo r fun i=>L.contains i)).isEmpty
def can (r:DrRoom) (s:Nat):Bool:=A7p r (bl r.Persons.length s)
theorem E1o (r:DrRoom) (s:Nat):wo r (fun i=>(bl r.Persons.length s).contains i) = wo r (bit s):=A92 fun _ hi=>A8x hi
theorem D2s (r:DrRoom) (s:Nat):can r s = !(AL r (wo r (bit s))).isEmpty:= by
 unfold can A7p; rw [E1o]
def rk (n s:Nat):Int:=(rank n s:Int)
def B1y (r:DrRoom) (i:Nat):Option Nat:=fm (rk r.Persons.length) ((List.range i).filter (can r))
def stO (n:Nat) (o:Option Nat) (i:Nat):List Int × Bool × Int:=match o with
 | none=>([],false,(i:Int))
 | some s=>(ints (bl n s),true,(i:Int))
theorem D1c (r:DrRoom) (i:Nat):B1y r (i + 1) = if can r i then (match B1y r i with | none=>some i | some b=>if rk r.Persons.length i < rk r.Persons.length b then some i else some b) else B1y r i:= by
 unfold B1y
 rw [List.range_succ,List.filter_append,List.filter_cons]
 cases can r i with
 | false=>simp
 | true =>
  simp only [if_true,List.filter_nil]
  rw [B6n]
  cases fm (rk r.Persons.length) ((List.range i).filter (can r)) <;> rfl
theorem C29 {r:DrRoom} {i s:Nat} (h:B1y r i = some s):s < i∧can r s = true:= by
 have:=List.mem_filter.mp (A86 h)
 exact ⟨by simpa using this.1,this.2⟩
theorem B36 (n s:Nat):(bl n s).length≤n:= by
 have:=List.length_filter_le (bit s) (List.range n)
 rw [List.length_range] at this
 exact this
theorem D81 {r:DrRoom} (ok:RmOk r) (s15:List Int × Bool × Int) {s:Nat} (e:s15.2.2 = (s:Int)) (hs:s < 64):loop (A05 r s15) (0,[]) = some (ints (bl r.Persons.length s)):= by
 have hP:=ok.persons
 have:=I4 (b:=A05 r s15) (fun i=>((i:Int),ints (bl i s))) r.Persons.length (r:=ints (bl r.Persons.length s)) (by omega) (fun i hi=>by
  have hl:=B36 i s
  unfold A05
  simp only []
  rw [if_pos (by simpa using hi),e,B41 _ _ (by omega)]
  simp only [Option.bind_some]
  rw [and1 (Nat.lt_of_le_of_lt (Nat.div_le_self _ _) hs)]
  have hb:(s / 2 ^ i % 2 == 1) = bit s i:=rfl
  rw [hb,E0 (by omega)]
  have hst:bl (i + 1) s = bl i s++if bit s i then [i] else []:= by
   unfold bl
   rw [List.range_succ,List.filter_append,List.filter_cons]
   cases bit s i <;> rfl
  rw [hst]
  cases bit s i with
  | false=>simp only [Bool.false_eq_true,if_false,List.append_nil]; rfl
  | true =>
   simp only [if_true]
   rw [T6 (by omega) (by rw [F0]; simp only [List.length_singleton]; omega),A5y]; rfl) (by
  unfold A05
  simp only []
  rw [if_neg (by simp)])
 exact this
theorem D82 {r:DrRoom} (ok:RmOk r) {ch:Chg} (hch:C3v r ch) {i:Nat} (hi:i < 2 ^ r.Persons.length) :
  A06 r ch ((2 ^ r.Persons.length:Nat):Int) (stO r.Persons.length (B1y r i) i) = some (.inl (stO r.Persons.length (B1y r (i + 1)) (i + 1))):= by
 have hP:=ok.persons
 have h32:2 ^ r.Persons.length≤32:=Nat.le_trans (Nat.pow_le_pow_right (by decide) hP) (by decide)
 have e0:(stO r.Persons.length (B1y r i) i).2.2 = (i:Int):= by
  cases B1y r i <;> rfl
 have hgo:((I7 ⟨r⟩).bind fun x33=>(P5 r ch (A94 x33 (i:Int))).bind fun x34=>some (decide ((List.length x34:Int) > 0))) = some (can r i):= by
  rw [A91 ok]
  simp only [Option.bind_some]
  rw [C0n _ (by omega) _ (by omega),C3m ok hch (C1k hP),C15]
  simp only [Option.bind_some]
  rw [D2s,List.length_map]
  cases AL r (wo r (bit i)) with
  | nil=>rfl
  | cons x l=>simp
 obtain ⟨x33,g1,g⟩:=Option.bind_eq_some_iff.mp hgo
 obtain ⟨x34,g2,g3⟩:=Option.bind_eq_some_iff.mp g
 have g3:=Option.some.inj g3
 unfold A06
 rw [e0,if_pos (by rw [decide_eq_true_eq]; omega),D81 ok _ e0 (by omega),E0 (by omega),show ((i:Int) + 1) = ((i + 1:Nat):Int) from rfl,D1c]
 simp only [Option.bind_some]
 cases ho:B1y r i with
 | none =>
  simp only [stO,Bool.false_eq_true,if_false,Option.bind_some]
  rw [g1]
  simp only [Option.bind_some]
  rw [g2]
  simp only [Option.bind_some]
  rw [g3]
  cases can r i <;> rfl
 | some b =>
  obtain ⟨hb,-⟩:=C29 ho
  have hsk:=D1q r.Persons.length (by omega) i hi b (by omega)
  simp only [stO,if_true]
  refine Eq.trans (congrArg (fun o=>Option.bind o _) hsk) ?_
  simp only [Option.bind_some]
  by_cases c:rank r.Persons.length b < rank r.Persons.length i
  ·rw [if_pos (by simpa using c)]
   have hn:¬ rk r.Persons.length i < rk r.Persons.length b:= by unfold rk; omega
   rw [if_neg hn]
   cases can r i <;> rfl
  ·rw [if_neg (by simpa using c),g1]
   simp only [Option.bind_some]
   rw [g2]
   simp only [Option.bind_some]
   rw [g3]
   cases can r i with
   | false=>rfl
   | true =>
    simp only [if_true]
    by_cases d:rank r.Persons.length i < rank r.Persons.length b
    ·rw [if_pos (by unfold rk; omega)]
    ·rw [if_neg (by unfold rk; omega)]
     have e:rank r.Persons.length i = rank r.Persons.length b:= by omega
     have r1:=A9r r.Persons.length (by omega) i hi
     have r2:=A9r r.Persons.length (by omega) b (by omega)
     rw [e,r2] at r1
     have:=Option.some.inj r1
     simp only [this]
theorem D2e {r:DrRoom} (ok:RmOk r):A44 r [] = true:= by
 unfold A44
 rw [List.all_eq_true]
 intro c _
 rw [decide_eq_true_eq]
 have:=(C5q ok c).1
 show 0≤r.Ounces.getD c 0 + 0
 omega
theorem nobody {r:DrRoom} (ok:RmOk r) {L:List Nat} (h:∀i,i < r.Persons.length→L.contains i = true):A7p r L = true:= by
 have e:(wo r fun i=>L.contains i) = []:= by
  unfold wo
  rw [List.filter_eq_nil_iff.mpr (fun i hi=>by
   have:=h i (by simpa using hi)
   show ¬ (!L.contains i) = true
   rw [this]; decide)]
  rfl
 unfold A7p
 rw [e]
 have:[] ∈ AL r []:=C2c.mpr ⟨⟨rfl,List.nodup_nil,by simp⟩,D2e ok⟩
 cases hA:AL r [] with
 | nil=>rw [hA] at this; cases this
 | cons x l=>rfl
def C5u (r:DrRoom):Nat:=(B1y r (2 ^ r.Persons.length)).getD 0
theorem C3a {r:DrRoom} (ok:RmOk r):B1y r (2 ^ r.Persons.length) = some (C5u r):= by
 have hP:=ok.persons
 have h1:0 < 2 ^ r.Persons.length:=Nat.two_pow_pos _
 have hm:2 ^ r.Persons.length - 1 ∈ (List.range (2 ^ r.Persons.length)).filter (can r):= by
  rw [List.mem_filter]
  refine ⟨by simp; omega,nobody ok fun i hi=>?_⟩
  rw [A8x hi]
  exact B9q _ (by omega) i hi
 obtain ⟨b,hb⟩:=D5v (k:=rk r.Persons.length) hm
 unfold C5u
 rw [show B1y r (2 ^ r.Persons.length) = some b from hb]; rfl
def D4f (r:DrRoom):List Int × Int:=if (chk r).2.2 ≠ 0 then ([],(chk r).2.2) else (ints (bl r.Persons.length (C5u r)),0)
theorem D7v (r:DrRoom) (hb:NB r):A3g r = some (D4f r):= by
 unfold A3g D4f
 rw [A42 r hb]
 simp only [Option.bind_some]
 by_cases h0:(chk r).2.2 = 0
 ·obtain ⟨ok,-⟩:=(O6 r).mp h0
  have hP:=ok.persons
  have h32:2 ^ r.Persons.length≤32:=Nat.le_trans (Nat.pow_le_pow_right (by decide) hP) (by decide)
  obtain ⟨ch,e1,hch⟩:=C0s ok
  have hr:∀{α:Type} (a b:α),(if (chk r).2.2 ≠ 0 then a else b) = b:=fun a b=>if_neg (fun c=>c h0)
  rw [hr,if_neg (by simp [h0]),show loop (A7s r) (0,[]) = some ch from e1,A7i _ (by omega)]
  simp only [Option.bind_some]
  have:=I4 (b:=A06 r ch ((2 ^ r.Persons.length:Nat):Int)) (fun i=>stO r.Persons.length (B1y r i) i) (2 ^ r.Persons.length) (r:=ints (bl r.Persons.length (C5u r))) (by omega) (fun i hi=>D82 ok hch hi) (by
   rw [C3a ok]
   unfold A06 stO
   simp only []
   rw [if_neg (by simp)])
  rw [show (([]:List Int),false,(0:Int)) = stO r.Persons.length (B1y r 0) 0 from rfl,this]; rfl
 ·rw [if_pos h0,if_pos (by simpa using h0)]
end Ds
end
section
set_option maxRecDepth 100000
set_option maxHeartbeats 0
namespace Ds
open Go Am Go.Proofs.Ytdkflofgolehkaa.Cd
def A35 (a0:(List Int)) (a1:(List Int)):Option Bool :=
 if ((List.length a0:Int) != (List.length a1:Int)) = true then
  some (decide ((List.length a0:Int) < (List.length a1:Int)))
 else
  (A5j a0 a1).bind fun x2 =>
  some x2
theorem B8l {c:Sc} {H:A1} {a0:(List Int)} {a1:(List Int)} {r:Bool} (h:A35 a0 a1 = some r) :
  E9 tab c H (.fn (.func 45) [] []) [(.seq 1 (List.map cI a0)),(.seq 1 (List.map cI a1))] [.b r]:= by
 unfold A35 at h
 refine cE rfl rfl<|s0<|qm rfl<|es (ra2 rfl rfl)<|B5<|s0<|qm rfl<|A0 (D2 (f:=cI) rfl) rfl<|qm rfl<|A0 (D2 (f:=cI) rfl) rfl<|A0 (J4 rfl rfl) rfl<|es (ra3 rfl rfl rfl)<|wi h rfl (fun hc1 h=>?_) fun hc1 h=>?_
 ·refine s0<|qm rfl<|A0 (D2 (f:=cI) rfl) rfl<|qm rfl<|A0 (D2 (f:=cI) rfl) rfl<|A0 (G3 rfl rfl) rfl<|qm rfl<|es (ra1 rfl)<|C4 ?_
  obtain rfl:=os h
  exact retq trivial (B1 rfl B7) (A6 rfl B9) (A3 A8 B2)
 ·refine C1<|s0<|oB h fun x2 hx2 h=>qm rfl<|qm rfl<|B4 (rs:=[.b x2]) rfl rfl (A2 rfl (A2 rfl B6)) ((B98 hx2).frz)<|qm rfl<|es (ra1 rfl)<|C4 ?_
  obtain rfl:=os h
  exact retq trivial (B1 rfl B7) (A6 rfl B9) (A3 A8 B2)
def S3 (a0:DrRoom) (x1:((List Int) × Int)) (s8:Int):Option (Int ⊕ (Bool ⊕ Unit)) :=
 if (decide (s8 < (List.length x1.1:Int))) = true then
  (idx x1.1 s8).bind fun x11 =>
  (if (decide (x11 < 0)) = true then
  some true
  else
  (idx x1.1 s8).bind fun x13 =>
  some (decide (x13 ≥ (List.length a0.Persons:Int)))).bind fun x14 =>
  (if x14 = true then
  some true
  else
  (if (decide (s8 > 0)) = true then
   (idx x1.1 s8).bind fun x17 =>
   (idx x1.1 (w64 (s8 - 1))).bind fun x18 =>
   some (decide (x17≤x18))
  else
   some false).bind fun x19 =>
  some x19).bind fun x20 =>
  if x20 = true then
  some (.inr (.inl false))
  else
  some (.inl (w64 (s8 + 1)))
 else
  some (.inr (.inr ()))
def S4 (a0:DrRoom) (a1:Int) (s23:(Int × (List Int))):Option ((Int × (List Int)) ⊕ (List Int)) :=
 if (decide (s23.1 < (List.length a0.Persons:Int))) = true then
  (B6d .i64 (w64 a1) s23.1).bind fun x26 =>
  if ((Int.tmod x26 2) == 1) = true then
  (app 8 s23.2 [s23.1]).bind fun x28 =>
  some (.inl ((w64 (s23.1 + 1)),x28))
  else
  some (.inl ((w64 (s23.1 + 1)),s23.2))
 else
  some (.inr s23.2)
def A20 (a0:DrRoom) (a1:Int):Option Bool :=
 (A3g a0).bind fun x1 =>
 (A33 a0).bind fun x2 =>
 if (!x2) = true then
  (if ((x1.2 != 0) && ((List.length x1.1:Int) == 0)) = true then
  (V7).bind fun x6 =>
  some x6
  else
  some false).bind fun x7 =>
  some x7
 else
  (loop (S3 a0 x1) 0).bind fun (o22:(Bool ⊕ Unit)) =>
  match o22 with
  | (.inl vo22_0) =>
  some vo22_0
  | (.inr vo22_1) =>
  (loop (S4 a0 a1) (0,([]:List Int))).bind fun (o29:(List Int)) =>
  (O8 a0 x1.1).bind fun x30 =>
  (W2 x30).bind fun x31 =>
  (O8 a0 o29).bind fun x32 =>
  (W2 x32).bind fun x33 =>
  (if ((x1.2 == 0) && (x31.2.2 == 0)) = true then
   (if (x33.2.2 == 9) = true then
   some true
   else
   (if (x33.2.2 == 0) = true then
    (A35 o29 x1.1).bind fun x38 =>
    some (!x38)
   else
    some false).bind fun x39 =>
   some x39).bind fun x40 =>
   some x40
  else
   some false).bind fun x41 =>
  (if x41 = true then
   (V7).bind fun x43 =>
   some x43
  else
   some false).bind fun x44 =>
  some x44
theorem B3h {c:Sc} {H:A1} (hscv:S0 c H = true) {a0:DrRoom} {a1:Int} {r:Bool} (h:A20 a0 a1 = some r) :
  E9 tab c H (.fn (.func 10) [] []) [(.agg (A4 a0)),(.lit (.int .u8 a1))] [.b r]:= by
 unfold A20 at h
 refine cE rfl rfl<|sg 0 rfl<|A0 (F7 (cs:=A4 a0) rfl rfl rfl) rfl<|qm rfl<|es (ra2 rfl rfl)<|s0<|oB h fun x1 hx1 h=>A0 (C3 rfl rfl rfl) rfl<|B4 (rs:=[(.seq 1 (List.map cI x1.1)),.i x1.2]) rfl rfl (A2 (D0 rfl) B6) ((A78 (A12 hscv) hx1).frz)<|qm rfl<|A0 (A7 rfl rfl) rfl<|A0 (A7 rfl rfl) rfl<|qm rfl<|qm rfl<|es (ra4 rfl rfl rfl rfl)<|B5<|s0<|oB h fun x2 hx2 h=>A0 (C3 rfl rfl rfl) rfl<|B4 (rs:=[.b x2]) rfl rfl (A2 (D0 rfl) B6) ((B8k hx2).frz)<|A0 (R9 rfl) rfl<|es (ra5 rfl rfl rfl rfl rfl)<|wi h rfl (fun hc3 h=>?_) fun hc3 h=>?_
 ·refine s0<|oB h fun x7 hx7 h=>qm rfl<|A0 (J4 rfl rfl) rfl<|qm rfl<|gp 4 30 (.b ((x1.2 != 0) && ((List.length x1.1:Int) == 0))) 26 rfl rfl (fun hg4=>?_) (fun hg4=>?_) ?_
  ·exact gT rfl hg4<|qm rfl<|gT rfl hg4<|A0 (D2 (f:=cI) rfl) rfl<|gT rfl hg4<|A0 (F5 rfl rfl) rfl<|A0 (C7 rfl hg4 rfl) rfl<|ge 4 (by rw [hg4]; rfl) rfl rfl
  ·exact nT rfl hg4 rfl<|nT rfl hg4 rfl<|nT rfl hg4 rfl<|A0 (C6 rfl hg4 rfl) rfl<|ge 4 (by rw [hg4]; rfl) rfl rfl
  refine qm rfl<|gp 2 33 (.b x7) 31 rfl rfl (fun hg5=>?_) (fun hg5=>?_) ?_
  ·refine oB (bt hx7 hg5) fun x6 hx6 hx7=>?_
   obtain rfl:=os hx7
   exact gT rfl hg5<|B4 (rs:=[.b x6]) rfl rfl B6 ((X3 (A12 hscv) hx6).frz)<|A0 (C7 rfl hg5 rfl) rfl<|ge 2 rfl rfl rfl
  ·obtain rfl:=os (bf hx7 hg5)
   exact L5 (G2 rfl (by rw [hg5]; rfl)) rfl<|A0 (C6 rfl hg5 rfl) rfl<|ge 2 rfl rfl rfl
  refine qm rfl<|es (ra1 rfl)<|C4 ?_
  obtain rfl:=os h
  exact retq trivial (B1 rfl B7) (A6 rfl B9) (A3 A8 B2)
 ·refine C1<|B5<|s0<|qm rfl<|es (ra5 rfl rfl rfl rfl rfl)<|C2<|oB h fun o22 ho22 h=>wl (fun s8=>[(1,(.lit (.int .u8 a1))),(2,(.ptr (H.length + 0) 0)),(5,(.seq 1 (List.map cI x1.1))),(6,.i x1.2),(7,.i s8)]) (fun (q9:Unit) s8=>[(.cells (A4 a0))]) 1 (fun r e s' H'=>(match r with | (.inl v)=>e = .ret∧RetQ H [.tmp 4] [.b v] e s' H' | (.inr v)=>PX 0 [(1,(.lit (.int .u8 a1))),(2,(.ptr (H.length + 0) 0)),(5,(.seq 1 (List.map cI x1.1))),(6,.i x1.2)] (H++[(.cells (A4 a0))]) e s' H':Prop)) () ho22 rfl rfl (fun _ _=>rfl) (fun _=>rfl) rfl (fun s8=>(bdc A8 (bdc (F1 rfl) (bdc E3 (bdc A8 (bdc A8 bdn)))))) (fun q9 s8 ys8 hs8=>?_) ?_
  ·unfold S3 at hs8
   refine B5<|s0<|qm rfl<|qm rfl<|A0 (D2 (f:=cI) rfl) rfl<|A0 (G3 rfl rfl) rfl<|es (ra6 rfl rfl rfl rfl rfl rfl)<|wi hs8 rfl (fun hc10 hs8=>?_) fun hc10 hs8=>?_
   ·refine C1<|B5<|C2<|s0<|oB hs8 fun x11 hx11 hs8=>oB hs8 fun x14 hx14 hs8=>oB hs8 fun x20 hx20 hs8=>qm rfl<|qm rfl<|A0 (E1 (f:=cI) rfl rfl hx11) rfl<|A0 (E4 rfl rfl) rfl<|A0 (G3 rfl rfl) rfl<|qm rfl<|gp 9 54 (.b x14) 45 rfl rfl (fun hg12=>?_) (fun hg12=>?_) ?_
    ·obtain rfl:=os (bt hx14 hg12)
     exact nF rfl hg12 rfl<|nF rfl hg12 rfl<|nF rfl hg12 rfl<|nF rfl hg12 rfl<|nF rfl hg12 rfl<|nF rfl hg12 rfl<|nF rfl hg12 rfl<|nF rfl hg12 rfl<|A0 (C7 rfl hg12 rfl) rfl<|ge 9 rfl rfl rfl
    ·refine oB (bf hx14 hg12) fun x13 hx13 hx14=>?_
     obtain rfl:=os hx14
     exact gF rfl hg12<|qm rfl<|gF rfl hg12<|qm rfl<|gF rfl hg12<|A0 (E1 (f:=cI) rfl rfl hx13) rfl<|gF rfl hg12<|A0 (E4 rfl rfl) rfl<|gF rfl hg12<|A0 (D1 rfl) rfl<|gF rfl hg12<|A0 (C5 rfl rfl rfl) rfl<|gF rfl hg12<|A0 (D2 (f:=A5) rfl) rfl<|gF rfl hg12<|A0 (A6u rfl rfl) rfl<|A0 (C6 rfl hg12 rfl) rfl<|ge 9 rfl rfl rfl
    refine qm rfl<|gp 15 70 (.b x20) 55 rfl rfl (fun hg15=>?_) (fun hg15=>?_) ?_
    ·obtain rfl:=os (bt hx20 hg15)
     exact nF rfl hg15 rfl<|nF rfl hg15 rfl<|nF rfl hg15 rfl<|nX rfl rfl<|nX rfl rfl<|nX rfl rfl<|nX rfl rfl<|nX rfl rfl<|nX rfl rfl<|nX rfl rfl<|nX rfl rfl<|nX rfl rfl<|nX rfl rfl<|nF rfl hg15 rfl<|A0 (C7 rfl hg15 rfl) rfl<|ge 15 rfl rfl rfl
    ·refine oB (bf hx20 hg15) fun x19 hx19 hx20=>?_
     obtain rfl:=os hx20
     refine gF rfl hg15<|qm rfl<|gF rfl hg15<|A0 (A5u rfl rfl) rfl<|gF rfl hg15<|qm rfl<|gq 11 69 (.b x19) 58 rfl rfl (fun hg16=>?_) (fun hg16=>?_) ?_
     ·refine oB (bt hx19 hg16) fun x17 hx17 hx19=>oB hx19 fun x18 hx18 hx19=>?_
      obtain rfl:=os hx19
      exact gT rfl hg16<|qm rfl<|gT rfl hg16<|qm rfl<|gT rfl hg16<|A0 (E1 (f:=cI) rfl rfl hx17) rfl<|gT rfl hg16<|A0 (E4 rfl rfl) rfl<|gT rfl hg16<|qm rfl<|gT rfl hg16<|qm rfl<|gT rfl hg16<|A0 (Y4 rfl rfl) rfl<|gT rfl hg16<|A0 (E1 (f:=cI) rfl rfl hx18) rfl<|gT rfl hg16<|A0 (E4 rfl rfl) rfl<|gT rfl hg16<|A0 (B7c rfl rfl) rfl<|gF rfl hg15<|A0 (C7 rfl hg16 rfl) rfl<|ge 11 rfl rfl rfl
     ·obtain rfl:=os (bf hx19 hg16)
      exact nT rfl hg16 rfl<|nT rfl hg16 rfl<|nT rfl hg16 rfl<|nT rfl hg16 rfl<|nT rfl hg16 rfl<|nT rfl hg16 rfl<|nT rfl hg16 rfl<|nT rfl hg16 rfl<|nT rfl hg16 rfl<|nT rfl hg16 rfl<|gF rfl hg15<|A0 (C6 rfl hg16 rfl) rfl<|ge 11 rfl rfl rfl
     exact A0 (C6 rfl hg15 rfl) rfl<|ge 5 rfl rfl rfl
    refine es (ra6 rfl rfl rfl rfl rfl rfl)<|wi hs8 rfl (fun hc21 hs8=>?_) fun hc21 hs8=>?_
    ·refine s0<|qm rfl<|es (ra1 rfl)<|C4 ?_
     obtain rfl:=os hs8
     exact lx rfl (And.intro rfl (retq trivial (B1 rfl B7) (A6 rfl B9) (A3 A8 B2))) (Sub.refl _)
    ·refine C1<|r0<|qm rfl<|A0 (E8 rfl rfl) rfl<|qm rfl<|en (ra5 rfl rfl rfl rfl rfl) ?_
     cases hs8
     exact lnT () rfl (su5 rfl rfl rfl rfl rfl)
   ·refine F3 ?_
    obtain rfl:=os hs8
    exact lx rfl px (su4 rfl rfl rfl rfl)
  ·rcases o22 with vo22_0 | vo22_1
   ·rintro e s' H' - ⟨rfl,hret⟩
    cases h
    exact hret
   ·rintro e s' H' - ⟨rfl,rfl,rfl⟩
    refine sg 1 rfl<|A0 A1x rfl<|es (ra5 rfl rfl rfl rfl rfl)<|B5<|s0<|qm rfl<|es (ra6 rfl rfl rfl rfl rfl rfl)<|C2<|oB h fun o29 ho29 h=>wl (fun s23=>[(1,(.lit (.int .u8 a1))),(2,(.ptr (H.length + 0) 0)),(5,(.seq 1 (List.map cI x1.1))),(6,.i x1.2),(8,(.asl (H.length + 1) (List.length s23.2))),(9,.i s23.1)]) (fun (q24:Unit) s23=>[(.cells (A4 a0)),(.arr 1 false (List.map cI s23.2))]) 2 (fun r e s' H'=>PX 2 [(2,(.ptr (H.length + 0) 0)),(5,(.seq 1 (List.map cI x1.1))),(6,.i x1.2),(8,(.asl (H.length + 1) (List.length r)))] (H++[(.cells (A4 a0)),(.arr 1 false (List.map cI r))]) e s' H') () ho29 rfl rfl (fun _ _=>rfl) (fun _=>rfl) rfl (fun s23=>(bdc A8 (bdc (F1 rfl) (bdc E3 (bdc A8 (bdc (W1 rfl) (bdc A8 bdn))))))) (fun q24 s23 ys23 hs23=>?_) ?_
    ·unfold S4 at hs23
     refine B5<|s0<|qm rfl<|A0 (D1 rfl) rfl<|A0 (C5 rfl rfl rfl) rfl<|A0 (D2 (f:=A5) rfl) rfl<|A0 (G3 rfl rfl) rfl<|es (ra7 rfl rfl rfl rfl rfl rfl rfl)<|wi hs23 rfl (fun hc25 hs23=>?_) fun hc25 hs23=>?_
     ·refine C1<|B5<|C2<|s0<|oB hs23 fun x26 hx26 hs23=>qm rfl<|A0 (A76 rfl) rfl<|qm rfl<|A0 (B5l rfl rfl hx26) rfl<|A0 (N6 (v:=(.i (Int.tmod x26 2))) rfl rfl rfl) rfl<|A0 (F5 rfl rfl) rfl<|es (ra7 rfl rfl rfl rfl rfl rfl rfl)<|wi hs23 rfl (fun hc27 hs23=>?_) fun hc27 hs23=>?_
      ·refine r0<|oB hs23 fun x28 hx28 hs23=>qm rfl<|qm rfl<|A0 (G1 (rows:=List.map cI [s23.1]) rfl rfl (D6 (fun _=>rfl) _)) rfl<|P6 (U0 (f:=cI) rfl rfl rfl rfl P7 (fun _=>rfl) hx28) rfl<|qm rfl<|en (ra6 rfl rfl rfl rfl rfl rfl)<|r0<|qm rfl<|A0 (E8 rfl rfl) rfl<|qm rfl<|en (ra6 rfl rfl rfl rfl rfl rfl) ?_
       cases hs23
       exact lnT () rfl (su6 rfl rfl rfl rfl rfl rfl)
      ·refine C1<|r0<|qm rfl<|A0 (E8 rfl rfl) rfl<|qm rfl<|en (ra6 rfl rfl rfl rfl rfl rfl) ?_
       cases hs23
       exact lnT () rfl (su6 rfl rfl rfl rfl rfl rfl)
     ·refine F3 ?_
      obtain rfl:=os hs23
      exact lx rfl px (su4 rfl rfl rfl rfl)
    ·rintro e s' H' - ⟨rfl,rfl,rfl⟩
     refine s0<|oB h fun x30 hx30 h=>oB h fun x31 hx31 h=>A0 (C3 rfl rfl rfl) rfl<|qm rfl<|B4 (rs:=[(.agg (A4 x30))]) rfl rfl (A2 (D0 rfl) (A2 rfl B6)) ((A1f hx30).frz)<|B4 (rs:=[(.seq 1 (List.map cI x31.1)),.i x31.2.1,.i x31.2.2]) rfl rfl (A2 (D0 rfl) B6) ((A1y (A12 hscv) hx31).frz)<|qm rfl<|A0 (A7 rfl rfl) rfl<|A0 (A7 rfl rfl) rfl<|A0 (A7 rfl rfl) rfl<|qm rfl<|qm rfl<|qm rfl<|es (ra5 rfl rfl rfl rfl rfl)<|s0<|oB h fun x32 hx32 h=>oB h fun x33 hx33 h=>A0 (C3 rfl rfl rfl) rfl<|qm rfl<|B4 (rs:=[(.agg (A4 x32))]) rfl rfl (A2 (D0 rfl) (A2 (A6e rfl (List.length_map _)) B6)) ((A1f hx32).frz)<|B4 (rs:=[(.seq 1 (List.map cI x33.1)),.i x33.2.1,.i x33.2.2]) rfl rfl (A2 (D0 rfl) B6) ((A1y (A12 hscv) hx33).frz)<|qm rfl<|A0 (A7 rfl rfl) rfl<|A0 (A7 rfl rfl) rfl<|A0 (A7 rfl rfl) rfl<|qm rfl<|qm rfl<|qm rfl<|es (ra5 rfl rfl rfl rfl rfl)<|B5<|D48 (C3f rfl (A6e rfl (List.length_map _)))<|r0<|oB h fun x41 hx41 h=>oB h fun x44 hx44 h=>qm rfl<|A0 (F5 rfl rfl) rfl<|qm rfl<|gp 3 109 (.b ((x1.2 == 0) && (x31.2.2 == 0))) 106 rfl rfl (fun hg34=>?_) (fun hg34=>?_) ?_
     ·exact gT rfl hg34<|qm rfl<|gT rfl hg34<|A0 (F5 rfl rfl) rfl<|A0 (C7 rfl hg34 rfl) rfl<|ge 3 (by rw [hg34]; rfl) rfl rfl
     ·exact nT rfl hg34 rfl<|nT rfl hg34 rfl<|A0 (C6 rfl hg34 rfl) rfl<|ge 3 (by rw [hg34]; rfl) rfl rfl
     refine qm rfl<|gp 13 123 (.b x41) 110 rfl rfl (fun hg35=>?_) (fun hg35=>?_) ?_
     ·refine oB (bt hx41 hg35) fun x40 hx40 hx41=>?_
      obtain rfl:=os hx41
      refine gT rfl hg35<|qm rfl<|gT rfl hg35<|A0 (F5 rfl rfl) rfl<|gT rfl hg35<|qm rfl<|gq 9 122 (.b x40) 113 rfl rfl (fun hg36=>?_) (fun hg36=>?_) ?_
      ·obtain rfl:=os (bt hx40 hg36)
       exact nF rfl hg36 rfl<|nF rfl hg36 rfl<|nF rfl hg36 rfl<|nX rfl rfl<|nX rfl rfl<|L5 (A5r rfl) rfl<|nX rfl rfl<|nF rfl hg36 rfl<|gT rfl hg35<|A0 (C7 rfl hg36 rfl) rfl<|ge 9 rfl rfl rfl
      ·refine oB (bf hx40 hg36) fun x39 hx39 hx40=>?_
       obtain rfl:=os hx40
       refine gF rfl hg36<|qm rfl<|gF rfl hg36<|A0 (F5 rfl rfl) rfl<|gF rfl hg36<|qm rfl<|gq 5 121 (.b x39) 116 rfl rfl (fun hg37=>?_) (fun hg37=>?_) ?_
       ·refine oB (bt hx39 hg37) fun x38 hx38 hx39=>?_
        obtain rfl:=os hx39
        exact gT rfl hg37<|qm rfl<|gT rfl hg37<|qm rfl<|gT rfl hg37<|B4 (rs:=[.b x38]) rfl rfl (A2 (A6e rfl (List.length_map _)) (A2 rfl B6)) ((B8l hx38).frz)<|gT rfl hg37<|A0 (R9 rfl) rfl<|gF rfl hg36<|A0 (C7 rfl hg37 rfl) rfl<|ge 5 rfl rfl rfl
       ·obtain rfl:=os (bf hx39 hg37)
        exact nT rfl hg37 rfl<|nT rfl hg37 rfl<|L5 (G2 rfl (by rw [hg37]; rfl)) rfl<|nT rfl hg37 rfl<|gF rfl hg36<|A0 (C6 rfl hg37 rfl) rfl<|ge 5 rfl rfl rfl
       exact gT rfl hg35<|A0 (C6 rfl hg36 rfl) rfl<|ge 5 rfl rfl rfl
      exact A0 (C7 rfl hg35 rfl) rfl<|ge 5 rfl rfl rfl
     ·obtain rfl:=os (bf hx41 hg35)
      exact nT rfl hg35 rfl<|nT rfl hg35 rfl<|nT rfl hg35 rfl<|nX rfl rfl<|nX rfl rfl<|nX rfl rfl<|nX rfl rfl<|nX rfl rfl<|L5 (A5r rfl) rfl<|nX rfl rfl<|nX rfl rfl<|nT rfl hg35 rfl<|A0 (C6 rfl hg35 rfl) rfl<|ge 13 rfl rfl rfl
     refine qm rfl<|gp 2 126 (.b x44) 124 rfl rfl (fun hg42=>?_) (fun hg42=>?_) ?_
     ·refine oB (bt hx44 hg42) fun x43 hx43 hx44=>?_
      obtain rfl:=os hx44
      exact gT rfl hg42<|B4 (rs:=[.b x43]) rfl rfl B6 ((X3 (A12 hscv) hx43).frz)<|A0 (C7 rfl hg42 rfl) rfl<|ge 2 rfl rfl rfl
     ·obtain rfl:=os (bf hx44 hg42)
      exact L5 (G2 rfl (by rw [hg42]; rfl)) rfl<|A0 (C6 rfl hg42 rfl) rfl<|ge 2 rfl rfl rfl
     refine qm rfl<|es (ra1 rfl)<|C4 ?_
     obtain rfl:=os h
     exact retq trivial (B1 rfl B7) (A6 rfl B9) (A3 A8 B2)
end Ds
end
section
set_option maxRecDepth 100000
namespace Ds
open Go Am
def D77 (a b:List Nat):Bool:=if a.length ≠ b.length then decide (a.length < b.length) else A4l a b
theorem D15 (a b:List Nat) (ha:a.length < 1000) (hb:b.length < 1000):A35 (ints a) (ints b) = some (D77 a b):= by
 unfold A35 D77
 rw [F0,F0]
 by_cases c:a.length = b.length
 ·rw [if_neg (by simp [c]),if_neg (fun h=>h c),D5j a b ha hb]; rfl
 ·rw [if_pos (by rw [bne_iff_ne]; omega),if_pos c]
  congr 1
  rw [decide_eq_decide]; omega
theorem D21:∀n:Nat,n < 6→∀ s:Nat,s < 2 ^ n→∀ t:Nat,t < 2 ^ n→rank n s≤rank n t→D77 (bl n t) (bl n s) = false:= by decide +kernel
theorem D73:∀n:Nat,n < 6→∀ k:Nat,k < 256→bl n k = bl n (k % 2 ^ n):= by decide +kernel
theorem D72 {n s f:Nat} (h:f ∈ bl n s):f < n:= by
 have:=List.mem_filter.mp h
 simpa using this.1
theorem D4s {l:List Nat} (h:l.Pairwise (· < ·)) {i:Nat} (hi:i + 1 < l.length):l[i]! < l[i + 1]!:= by
 rw [getElem!_pos l i (by omega),getElem!_pos l (i + 1) hi]
 exact List.pairwise_iff_getElem.mp h i (i + 1) (by omega) hi (by omega)
theorem D1d {r:DrRoom} {l:List Nat} {e:Int} (hl:l.length≤6) (h1:∀f ∈ l,f < r.Persons.length) (h2:l.Pairwise (· < ·)):loop (S3 r (ints l,e)) 0 = some (.inr ()):= by
 have:=I4 (b:=S3 r (ints l,e)) (fun i=>(i:Int)) l.length (r:=.inr ()) (by omega) (fun i hi=>by
  have hm:=h1 _ (J0 hi)
  unfold S3
  simp only []
  rw [if_pos (by rw [F0]; simpa using hi),A1u hi]
  simp only [Option.bind_some]
  rw [if_neg (by simp),decide_eq_false (by omega)]
  simp only [Option.bind_some,Bool.false_eq_true,if_false]
  by_cases c:i = 0
  ·subst c
   rw [if_neg (by decide)]; rfl
  ·obtain ⟨j,rfl⟩:∃j,i = j + 1:=⟨i - 1,by omega⟩
   have hp:=D4s h2 hi
   rw [if_pos (by simp),E0 (n:=((j + 1:Nat):Int) - 1) (by omega),show ((j + 1:Nat):Int) - 1 = (j:Int) by omega,A1u (by omega)]
   simp only [Option.bind_some]
   rw [decide_eq_false (by omega),E0 (by omega)]; rfl) (by
  unfold S3
  simp only []
  rw [if_neg (by rw [F0]; simp)])
 exact this
theorem D4h {r:DrRoom} (ok:RmOk r) {k:Nat} (hk:k < 256):loop (S4 r (k:Int)) (0,[]) = some (ints (bl r.Persons.length k)):= by
 have hP:=ok.persons
 have:=I4 (b:=S4 r (k:Int)) (fun i=>((i:Int),ints (bl i k))) r.Persons.length (r:=ints (bl r.Persons.length k)) (by omega) (fun i hi=>by
  have hl:=B36 i k
  have hst:bl (i + 1) k = bl i k++if bit k i then [i] else []:= by
   unfold bl
   rw [List.range_succ,List.filter_append,List.filter_cons]
   cases bit k i <;> rfl
  have hb:(Int.tmod ((k / 2 ^ i:Nat):Int) 2 == 1) = bit k i:= by
   unfold bit
   rw [show Int.tmod ((k / 2 ^ i:Nat):Int) 2 = ((k / 2 ^ i % 2:Nat):Int) from rfl,Bool.eq_iff_iff,beq_iff_eq,beq_iff_eq]
   omega
  unfold S4
  simp only []
  rw [if_pos (by simpa using hi),E0 (n:=(k:Int)) (by omega),B41 _ _ (by omega)]
  simp only [Option.bind_some]
  rw [hb,hst,E0 (by omega)]
  cases bit k i with
  | false=>simp only [Bool.false_eq_true,if_false,List.append_nil]; rfl
  | true =>
   simp only [if_true]
   rw [T6 (by omega) (by rw [F0]; simp only [List.length_singleton]; omega),A5y]; rfl) (by
  unfold S4
  simp only []
  rw [if_neg (by simp)])
 exact this
theorem C8x {r:DrRoom} (hb:NB r) (h0:(chk r).2.2 = 0) (s:Nat):∃u,O8 r (ints (bl r.Persons.length s)) = some u∧∃ x,W2 u = some x∧x.2.2 = if can r s then 0 else 9:= by
 obtain ⟨ok,-⟩:=(O6 r).mp h0
 have hP:=ok.persons
 have hl:=B36 r.Persons.length s
 have hw:woR r (fun i=>(ints (bl r.Persons.length s)).any (· == (i:Int))) = woR r (bit s):= by
  unfold woR
  rw [A92 (X:=fun i=>(ints (bl r.Persons.length s)).any (· == (i:Int))) (Y:=bit s) fun i hi=>(B25 _ i).trans (A8x hi)]
 have hs:=C3s r (bit s)
 have hb2:NB (woR r (bit s)):=⟨hb.1,fun v hv=>hb.2 v (hs.subset hv)⟩
 have hv:=C8h h0 hs
 refine ⟨_,B1h hP _ (by rw [F0]; omega),B03 (woR r (bit s)),by rw [hw]; exact C8p _ hb2,?_⟩
 unfold B03
 rw [if_neg (fun c=>c hv),D2s]
 rw [show W8 (woR r (bit s)) (woR r (bit s)).Persons = W8 r (wo r (bit s)) from rfl]
 cases hq:W8 r (wo r (bit s)) with
 | none =>
  rw [B2n.mp hq]; rfl
 | some b =>
  have:=A86 hq
  cases hA:AL r (wo r (bit s)) with
  | nil=>rw [hA] at this; cases this
  | cons x l=>rfl
theorem B90 {r:DrRoom} {k:Int} (hb:NB r) (hk:0≤k∧k < 256):A20 r k = some true:= by
 unfold A20
 rw [D7v r hb]
 simp only [Option.bind_some]
 rw [D47]
 simp only [Option.bind_some]
 unfold D4f
 by_cases h0:(chk r).2.2 = 0
 ·obtain ⟨ok,-⟩:=(O6 r).mp h0
  have hP:=ok.persons
  obtain ⟨k,rfl⟩:∃n:Nat,k = (n:Int):=⟨k.toNat,by omega⟩
  have hr:∀{α:Type} (a b:α),(if (chk r).2.2 ≠ 0 then a else b) = b:=fun a b=>if_neg (fun c=>c h0)
  have hl:=B36 r.Persons.length (C5u r)
  rw [hr,if_neg (by simp [h0]),D1d (by omega) (fun f hf=>D72 hf) (List.Pairwise.filter _ List.pairwise_lt_range)]
  simp only [Option.bind_some]
  rw [D4h ok (by omega),D73 _ (by omega) _ (by omega)]
  simp only [Option.bind_some]
  generalize hk2:k % 2 ^ r.Persons.length = t
  have ht:t < 2 ^ r.Persons.length:= by rw [← hk2]; exact Nat.mod_lt _ (Nat.two_pow_pos _)
  have hl2:=B36 r.Persons.length t
  have ho:=C3a ok
  obtain ⟨o1,o2⟩:=C29 ho
  obtain ⟨u,w1,x,w2,w3⟩:=C8x hb h0 (C5u r)
  obtain ⟨v,v1,y,v2,v3⟩:=C8x hb h0 t
  rw [w1]
  simp only [Option.bind_some]
  rw [w2]
  simp only [Option.bind_some]
  rw [v1]
  simp only [Option.bind_some]
  rw [v2]
  simp only [Option.bind_some]
  rw [w3,v3,o2,if_pos rfl,if_pos (by decide)]
  cases hc:can r t with
  | false =>
   rw [if_pos (by decide)]
   simp only [Option.bind_some,if_true]
   rw [awake]; rfl
  | true =>
   have hle:=D24 (k:=rk r.Persons.length) ho (y:=t) (List.mem_filter.mpr ⟨by simpa using ht,hc⟩)
   rw [if_neg (by decide),if_pos (by decide),D15 _ _ (by omega) (by omega),D21 _ (by omega) _ o1 _ ht (by unfold rk at hle; omega)]
   simp only [Option.bind_some,Bool.not_false,if_true]
   rw [awake]; rfl
 ·have e:((chk r).2.2 == 0) = false:=beq_eq_false_iff_ne.mpr h0
  rw [e,if_pos (by rfl),if_pos h0,if_pos (by simpa using h0),awake]; rfl
end Ds
end
