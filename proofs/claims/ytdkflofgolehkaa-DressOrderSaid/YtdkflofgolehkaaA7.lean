/- Texts that the claim stands on, one behind another. -/
import Derived.Test.YtdkflofgolehkaaA6
set_option linter.unusedVariables false
set_option linter.unusedSimpArgs false
set_option linter.unnecessarySimpa false
section
set_option maxRecDepth 100000
namespace Ds
open Go Am Go.Proofs.Ytdkflofgolehkaa.Cd
def B7l (t:DrRoom) (person:Int):Option ((Chg × dress_plan) × Int) :=
 (M0 t).bind fun x1 =>
 if (x1.2.2 != 0) = true then some (([],plan0),x1.2.2)
 else (loop (L2 t) (0,[])).bind fun ch =>
  (J6 0 (w64 ((List.length t.Persons:Int) - 1)) [person]).bind fun k =>
  if k = true then some (([],plan0),4)
  else (J8 ⟨t⟩).bind fun w=>(Q2 t ch w).bind fun z =>
   if (!z.2) = true then some (([],plan0),9) else some ((ch,z.1),0)
def C68 (N:Nat) (t:DrRoom) (ch:Chg) (p:dress_plan):List AO:=[.cells (A3 t),.cells (A9 p),.cells (A3 t),.map (B0x ch),.cells (A40 t (N + 3)),.cells (A9 p)]
def EnQ (H:A1) (t:DrRoom) (r:(Chg × dress_plan) × Int) (e:Ex) (s:B3) (H1:A1):Prop :=
 (match e with | .exit _=>False | _=>True)∧∃ rs H2,results s H1 [.tmp 4,.cell 5 (some 6),.tmp 6] = some rs∧Q7 H.length H1 rs = some (rs,H2) ∧
  ((r.2 != 0) = true∧rs = [.lit (.pointer none),.agg (A9 plan0),.i r.2]∧trunc H.length rs H2 = H∨r.2 = 0∧rs = [.ptr (H.length + 4) 0,.agg (A9 r.1.2),.i 0]∧trunc H.length rs H2 = H++C68 H.length t r.1.1 r.1.2)
theorem C2n {H:A1} {l:List AO} {s:B3} {t:DrRoom} {e:Int} {x:Chg × dress_plan} (he:(e != 0) = true) (h4:sget s 4 = some (.lit (.pointer none))) (h5:sget s 5 = some (.ptr (H.length + 1) 0)) (h6:sget s 6 = some (.i e)) (hl:l[1]? = some (.cells (A9 plan0))):EnQ H t (x,e) .ret s (H++l) :=
 ⟨trivial,_,_,B1 h4 (P6 (I8 (ds:=A9 plan0) h5 hl rfl rfl) (B1 h6 B8)),A7 rfl (A7 (A1w rfl) (A7 rfl B9)),.inl ⟨he,rfl,by rw [C15 (by rfl),List.append_nil]⟩⟩
theorem D2w {c:Sc} {H:A1} (hscv:S8 c H = true) {t:DrRoom} {person:Int} {r:(Chg × dress_plan) × Int} (h:B7l t person = some r) :
  (r.2 != 0) = true∧G8 tab c H (.fn (.func 64) [] []) [.agg (A3 t),.i person] [.lit (.pointer none),.agg (A9 plan0),.i r.2] H ∨
  r.2 = 0∧G8 tab c H (.fn (.func 64) [] []) [.agg (A3 t),.i person] [.ptr (H.length + 4) 0,.agg (A9 r.1.2),.i 0] (H++C68 H.length t r.1.1 r.1.2):= by
 have key:WP tab c64 (J0 0 [.agg (A3 t),.i person]) (H++[]) ⟨H.length,c.cur :: c.outer⟩ (EnQ H t r):= by
  unfold B7l at h
  refine oB h fun x1 hx1 h=>?_
  refine sg 0 rfl<|A0 (F6 (cs:=A3 t) rfl rfl rfl) rfl<|qm rfl<|A0 E4 rfl<|qm rfl<|es (ra3 rfl rfl rfl) ?_
  by_cases hc1:(x1.2.2 != 0) = true
  ·rw [if_pos hc1] at h
   obtain rfl:=os h
   refine s0<|A0 (C2 rfl rfl rfl) rfl<|R2 (X8 rfl rfl (A2 (C9 rfl) B5) (B75 hx1 hc1) rfl) rfl<|qm rfl<|A0 (A5 rfl rfl) rfl<|A0 (A5 rfl rfl) rfl<|qm rfl<|qm rfl<|es (ra5 rfl rfl rfl rfl rfl)<|B6<|C3<|s0<|qm rfl<|A0 (J1 rfl rfl) rfl<|qm rfl<|es (ra6 rfl rfl rfl rfl rfl rfl)<|T0 rfl hc1<|s0<|A0 (L6 (cs:=A9 plan0) rfl rfl) rfl<|qm rfl<|qm rfl<|I0 (D1 (ds:=A9 plan0) rfl rfl rfl rfl (C5 rfl) rfl) rfl<|qm rfl<|es (ra3 rfl rfl rfl)<|C4<|C2n hc1 rfl rfl rfl rfl
  ·rw [if_neg hc1] at h
   have hc1:(x1.2.2 != 0) = false:=Bool.eq_false_iff.2 hc1
   refine oB h fun ch hch h=>oB h fun k hk h=>?_
   have hlook:G8 tab ⟨H.length,c.cur :: c.outer⟩ (H++[.cells (A3 t),.cells (A9 plan0)]) (.fn (.func 52) [] []) [(.agg (A3 t))] [.ptr (H.length + 4) 0,.i 0] (H++[.cells (A3 t),.cells (A9 plan0),.cells (A3 t),.map (B0x ch),.cells (A40 t (H.length + 3))]):= by
    have:=B76 (c:=⟨H.length,c.cur :: c.outer⟩) (H:=H++[.cells (A3 t),.cells (A9 plan0)]) hx1 hc1 hch
    unfold C9j at this
    rw [List.length_append,List.append_assoc] at this
    exact this
   refine s0<|A0 (C2 rfl rfl rfl) rfl<|R2 (X8 rfl rfl (A2 (C9 rfl) B5) hlook rfl) rfl<|qm rfl<|A0 (A5 rfl rfl) rfl<|A0 (A5 rfl rfl) rfl<|qm rfl<|qm rfl<|es (ra5 rfl rfl rfl rfl rfl)<|B6<|C3<|s0<|qm rfl<|A0 (O4 (v:=(.b false)) rfl rfl rfl) rfl<|qm rfl<|es (ra6 rfl rfl rfl rfl rfl rfl)<|A0e rfl rfl<|s0<|A0 (D2 rfl) rfl<|A0 (C8 rfl rfl rfl) rfl<|A0 (D4 (f:=A6) rfl) rfl<|A0 (Y8 rfl rfl) rfl<|qm rfl<|A0 (G2 (rows:=List.map cI [person]) rfl rfl (D8 (fun _=>rfl) _)) rfl<|B4 (rs:=[.b k]) rfl rfl (A2 rfl (A2 rfl (A2 rfl B5))) ((M6 hk).frz)<|qm rfl<|es (ra3 rfl rfl rfl)<|wi h rfl (fun hc2 h=>?_) fun hc2 h=>?_
   ·obtain rfl:=os h
    exact s0<|A0 (L6 (cs:=A9 plan0) rfl rfl) rfl<|qm rfl<|I0 (D1 (ds:=A9 plan0) rfl rfl rfl rfl (C5 rfl) rfl) rfl<|qm rfl<|es (ra3 rfl rfl rfl)<|C4<|C2n rfl rfl rfl rfl rfl
   refine oB h fun w hw h=>oB h fun z hz h=>?_
   refine C1<|sg 5 rfl<|qm rfl<|qm rfl<|B4 (rs:=[.i w]) rfl rfl (A2 rfl B5) ((N4 (a0:=⟨t⟩) (D7 rfl) hw).frz)<|B4 (rs:=[(.agg (A9 z.1)),.b z.2]) rfl rfl (A2 rfl (A2 rfl B5)) (B6l (t:=t) (ch:=ch) ⟨_,D7 rfl,A1z rfl⟩ (A1b hscv) hz)<|qm rfl<|A0 (A5 rfl rfl) rfl<|A0 (A5 rfl rfl) rfl<|A0 E4 rfl<|I0 (D1 (ds:=(A9 z.1)) rfl rfl rfl rfl (C5 rfl) rfl) rfl<|qm rfl<|es (ra4 rfl rfl rfl rfl)<|B6<|s0<|qm rfl<|A0 (S7 rfl) rfl<|es (ra4 rfl rfl rfl rfl)<|wi h rfl (fun hc3 h=>?_) fun hc3 h=>?_
   ·obtain rfl:=os h
    exact s0<|A0 (L6 (cs:=A9 plan0) rfl rfl) rfl<|qm rfl<|I0 (D1 (ds:=A9 plan0) rfl rfl rfl rfl (C5 rfl) rfl) rfl<|qm rfl<|es (ra3 rfl rfl rfl)<|C4<|C2n rfl rfl rfl rfl rfl
   ·obtain rfl:=os h
    refine C1<|s0<|qm rfl<|A0 (C2 rfl rfl rfl) rfl<|qm rfl<|I0 (D1 (ds:=(A9 z.1)) rfl rfl rfl rfl (C5 rfl) rfl) rfl<|qm rfl<|es (ra3 rfl rfl rfl)<|C4 ?_
    exact ⟨trivial,_,_,B1 rfl (P6 (I8 (ds:=A9 z.1) rfl rfl rfl rfl) (B1 rfl B8)),A7 rfl (A7 (A1w rfl) (A7 rfl B9)),.inr ⟨rfl,rfl,B9k C8t⟩⟩
 rw [List.append_nil] at key
 obtain ⟨e,S',s',H2,h1,h2,h3,rs,H3,h4,h5,h6⟩:=key _ (Sub.refl _)
 have hrun:∀H',trunc H.length rs H3 = H'→G8 tab c H (.fn (.func 64) [] []) [.agg (A3 t),.i person] rs H':=fun H' hH =>
  G8.fn (af:=a64) (bd:=c64) (aq:=[.agg (A3 t),.i person]) (rs0:=rs) (rs1:=rs) (H1:=H3) (e:=e) (st':=⟨S',H2,⟨H.length,c.cur :: c.outer⟩⟩) rfl rfl rfl rfl rfl rfl h1 (by cases e <;> first | rfl | exact h3.elim) (P5 h2 h4) h5 rfl hH.symm
 rcases h6 with ⟨h6,rfl,h7⟩ | ⟨h6,rfl,h7⟩
 ·exact .inl ⟨h6,hrun _ h7⟩
 ·exact .inr ⟨h6,hrun _ h7⟩
theorem retq0 {H:A1} {s:B3} {rv:List ARes} {rs:List AV} {e:Ex} (h:RetQ H rv rs e s (H++[])):RetQ H rv rs e s H:= by rwa [List.append_nil] at h
theorem D3h {c:Sc} {A B:A1} {b:Nat} {l:List Int} {x r:Int} (hb:A.length = b) (h:M5 l x = some r):F0 tab c (A++(ar1 l :: B)) (.fn (.func 95) [] []) [.asl b l.length,.i x] [.i r]:= by
 subst hb
 unfold M5 at h
 have htk:∀x:AO,(x :: B).take (B.length + 1) = x :: B:=fun x=>List.take_of_length_le (Nat.le_refl _)
 refine B7g (aq:=[.asl A.length l.length,.i x]) rfl rfl rfl ?_
 refine s0<|qm rfl<|es (ra2 rfl rfl)<|B6<|s0<|qm rfl<|A0 (A9m (f:=cI) (j:=0) rfl rfl rfl) rfl<|qm rfl<|es (ra4 rfl rfl rfl rfl)<|C3<|oB h fun o6 ho6 h=>wl (fun s1=>[(0,(.asl (A.length + 0) l.length)),(1,.i x),(7,(.i (List.length l:Int))),(8,.i s1)]) (fun (q2:Unit) s1=>ar1 l :: B) (B.length + 1) (fun r e s' H'=>(match r with | (.inl v)=>e = .ret∧RetQ (A++(ar1 l :: B)) [.tmp 4] [.i v] e s' H' | (.inr v)=>PX 0 [] (A++(ar1 l :: B)) e s' H':Prop)) () ho6 rfl rfl (fun _ _=>rfl) (fun _=>rfl) rfl (fun s1=>(bdc (A0s (Nat.ble_eq_true_of_le (by omega))) (bdc A8 (bdc A8 (bdc A8 bdn))))) (fun q2 s1 ys1 hs1=>?_) ?_
 ·unfold G6 at hs1
  refine s0<|A0 (G3 rfl rfl) rfl<|es (ra5 rfl rfl rfl rfl rfl)<|B6<|wi hs1 rfl (fun hc3 hs1=>?_) fun hc3 hs1=>?_
  ·refine C1<|B6<|C3<|s0<|qm rfl<|qm rfl<|es (ra5 rfl rfl rfl rfl rfl)<|s0<|oB hs1 fun x4 hx4 hs1=>qm rfl<|qm rfl<|qm rfl<|A0 (A9k (f:=cI) rfl rfl rfl rfl hx4) rfl<|A0 (B0m (x:=.i x4) rfl rfl (List.length_map _) (A9x hx4) rfl) rfl<|A0 (F7 rfl rfl) rfl<|es (ra6 rfl rfl rfl rfl rfl rfl)<|wi hs1 rfl (fun hc5 hs1=>?_) fun hc5 hs1=>?_
   ·refine s0<|qm rfl<|qm rfl<|es (ra1 rfl)<|C4 ?_
    obtain rfl:=os hs1
    exact lx rfl (And.intro rfl (retq0 (retq trivial (B1 rfl B8) (A7 rfl B9) (A4 A8 B2)))) (Sub.refl _)
   ·refine C1<|r0<|A0 (E7 rfl rfl) rfl<|qm rfl<|en (ra4 rfl rfl rfl rfl) ?_
    cases hs1
    exact lnT () (htk _) (su4 rfl rfl rfl rfl)
  ·refine F3 ?_
   obtain rfl:=os hs1
   exact lx rfl px (.nil _)
 ·rcases o6 with vo6_0 | vo6_1
  ·rintro e s' H' - ⟨rfl,hret⟩
   cases h
   exact hret
  ·rintro e s' H' - ⟨rfl,rfl,rfl⟩
   refine s0<|qm rfl<|es (ra1 rfl)<|C4 ?_
   obtain rfl:=os h
   exact retq0 (retq trivial (B1 rfl B8) (A7 rfl B9) (A4 A8 B2))
theorem C4h {c:Sc} {A B:A1} {b:Nat} {l:List Int} {x:Int} {r:Bool} (hb:A.length = b) (h:F9 l x = some r):F0 tab c (A++(ar1 l :: B)) (.fn (.func 66) [] []) [.asl b l.length,.i x] [.b r]:= by
 unfold F9 at h
 refine oB h fun x1 hx1 h=>?_
 refine B7g (aq:=[.asl b l.length,.i x]) rfl rfl rfl ?_
 refine s0<|qm rfl<|es (ra2 rfl rfl)<|s0<|qm rfl<|qm rfl<|R2 (A5z (rs:=[.i x1]) rfl rfl ((D3h hb hx1).frz)) rfl<|A0 (A66 rfl rfl) rfl<|qm rfl<|es (ra1 rfl)<|C4 ?_
 obtain rfl:=os h
 exact retq0 (retq trivial (B1 rfl B8) (A7 rfl B9) (A4 A8 B2))
def B5a (person:Int) (best:dress_plan) (l:List dress_plan) (s:Int × List Int):Option ((Int × List Int) ⊕ List Int) :=
 if (decide (s.1 < (List.length l:Int))) = true then
  (idx l s.1).bind fun p=>(idx p.figures_ person).bind fun f =>
  (if (p.cost_ == best.cost_) = true then (F9 s.2 f).bind fun k=>some (!k) else some false).bind fun g =>
  if g = true then (app 8 s.2 [f]).bind fun q=>some (.inl (w64 (s.1 + 1),q))
  else some (.inl (w64 (s.1 + 1),s.2))
 else some (.inr s.2)
def A5a (t:DrRoom) (person:Int):Option (List Int × Int) :=
 (B7l t person).bind fun r =>
 if (r.2 != 0) = true then some ([],r.2)
 else (J8 ⟨t⟩).bind fun w=>(T1 t r.1.1 w).bind fun l =>
  (loop (B5a person r.1.2 l) (0,[])).bind fun o=>(B9e o).bind fun q=>some (q,0)
def B49 (N:Nat) (t:DrRoom) (ch:Chg) (p:dress_plan) (s:List Int):List AO:=[.cells (A3 t),ar1 s,.cells (A9 p),.cells (A3 t),.cells (A9 p),.cells (A3 t),.map (B0x ch),.cells (A40 t (N + 6)),.cells (A9 p)]
theorem B3g {c:Sc} {H:A1} (hscv:S8 c H = true) {a0:DrRoom} {a1:Int} {r:List Int × Int} (h:A5a a0 a1 = some r) :
  U2 tab c H (.fn (.func 28) [] []) [(.agg (A3 a0)),.i a1] [(.seq 1 (List.map cI r.1)),.i r.2]:= by
 unfold A5a at h
 refine oB h fun x hx h=>?_
 refine cF rfl rfl<|sg 0 rfl<|A0 (F6 (cs:=A3 a0) rfl rfl rfl) rfl<|A0 A3e rfl<|qm rfl<|es (ra3 rfl rfl rfl)<|sg 2 rfl<|A0 (C2 rfl rfl rfl) rfl<|qm rfl ?_
 rcases D2w (c:=⟨H.length,c.cur :: c.outer⟩) (H:=H++[.cells (A3 a0),ar1 [],.dead]) (A1b hscv) hx with ⟨hc,hcall⟩ | ⟨hc,hcall⟩
 ·rw [if_pos hc] at h
  obtain rfl:=os h
  refine R2 (X8 rfl rfl (A2 (C9 rfl) (A2 rfl B5)) hcall rfl) rfl<|qm rfl<|A0 (A5 rfl rfl) rfl<|A0 (A5 rfl rfl) rfl<|A0 (A5 rfl rfl) rfl<|A0 E4 rfl<|qm rfl<|I0 (D1 (ds:=A9 plan0) rfl rfl rfl rfl (C5 rfl) rfl) rfl<|qm rfl<|es (ra5 rfl rfl rfl rfl rfl)<|B6<|s0<|qm rfl<|A0 (J1 rfl rfl) rfl<|es (ra6 rfl rfl rfl rfl rfl rfl)<|T0 rfl hc<|sg 3 rfl<|qm rfl<|A0 A3e rfl<|qm rfl<|es (ra2 rfl rfl)<|C4 ?_
  exact ⟨[.fresh 1 (List.map cI []),.i x.2],retq trivial (B1 rfl (B1 rfl B8)) (A7 (A2f rfl (List.length_map _)) (A7 rfl B9)) (A4 V9 (A4 A8 B2)),rfl⟩
 ·obtain ⟨⟨ch,best⟩,e⟩:=x
  dsimp only at hc
  subst hc
  rw [if_neg (by simp)] at h
  refine oB h fun w hw h=>oB h fun l hl h=>oB h fun o ho h=>oB h fun q hq h=>?_
  obtain rfl:=os h
  have hcall:G8 tab ⟨H.length,c.cur :: c.outer⟩ (H++[.cells (A3 a0),ar1 [],.dead]) (.fn (.func 64) [] []) [.agg (A3 a0),.i a1] [.ptr (H.length + 7) 0,.agg (A9 best),.i 0] (H++[.cells (A3 a0),ar1 [],.dead,.cells (A3 a0),.cells (A9 best),.cells (A3 a0),.map (B0x ch),.cells (A40 a0 (H.length + 6)),.cells (A9 best)]):= by
   unfold C68 at hcall
   rw [List.length_append,List.append_assoc] at hcall
   exact hcall
  have hH:∀s:List Int,H++B49 H.length a0 ch best s = (H++[.cells (A3 a0)])++(ar1 s :: (B49 H.length a0 ch best s).drop 2):=fun s=>by simp [B49]
  have hA:(H++[AO.cells (A3 a0)]).length = H.length + 1:= by simp
  refine R2 (X8 rfl rfl (A2 (C9 rfl) (A2 rfl B5)) hcall rfl) rfl<|qm rfl<|A0 (A5 rfl rfl) rfl<|A0 (A5 rfl rfl) rfl<|A0 (A5 rfl rfl) rfl<|A0 E4 rfl<|qm rfl<|I0 (D1 (ds:=A9 best) rfl rfl rfl rfl (C5 rfl) rfl) rfl<|qm rfl<|es (ra5 rfl rfl rfl rfl rfl)<|B6<|s0<|qm rfl<|A0 (O4 (v:=(.b false)) rfl rfl rfl) rfl<|es (ra6 rfl rfl rfl rfl rfl rfl)<|A0e rfl rfl<|C1<|B6<|s0<|qm rfl<|qm rfl<|B4 (rs:=[.i w]) rfl rfl (A2 rfl B5) ((N4 (a0:=⟨a0⟩) (D7 rfl) hw).frz)<|B4 (rs:=[.seq 6 (l.map A9)]) rfl rfl (A2 rfl (A2 rfl B5)) (C3i (t:=a0) (ch:=ch) ⟨_,D7 rfl,A1z rfl⟩ (A1b hscv) hl)<|A0 (D4 (f:=A9) rfl) rfl<|qm rfl<|es (ra6 rfl rfl rfl rfl rfl rfl)<|C3<|wl (fun s=>[(1,.i a1),(4,.asl (H.length + 1) s.2.length),(7,.ptr (H.length + 2) 0),(24,.seq 6 (l.map A9)),(25,.i (List.length l:Int)),(26,.i s.1)]) (fun (_:Unit) s=>B49 H.length a0 ch best s.2) 9 (fun r e s' H'=>PX 0 [(4,.asl (H.length + 1) r.length)] (H++B49 H.length a0 ch best r) e s' H') () ho rfl rfl (fun _ _=>rfl) (fun _=>rfl) rfl (fun s=>bdc A8 (bdc (A0s rfl) (bdc (E8 rfl) (bdc E6 (bdc A8 (bdc A8 bdn)))))) (fun _ s o hs=>?_) ?_
  ·unfold B5a at hs
   refine s0<|A0 (G3 rfl rfl) rfl<|es (ra7 rfl rfl rfl rfl rfl rfl rfl)<|B6<|wi hs rfl (fun hc hs=>?_) fun hc hs=>?_
   ·refine oB hs fun p hp hs=>oB hs fun f hf hs=>oB hs fun g hg hs=>?_
    refine C1<|B6<|C3<|sg 9 rfl<|A0 (E3 (f:=A9) rfl rfl hp) rfl<|A0 (M2 rfl rfl) rfl<|A0 E4 rfl<|I0 (D1 (ds:=A9 p) rfl rfl rfl rfl (C5 rfl) rfl) rfl<|es (ra7 rfl rfl rfl rfl rfl rfl rfl)<|s0<|A0 (D2 rfl) rfl<|A0 (C8 rfl rfl rfl) rfl<|qm rfl<|A0 (E3 (f:=cI) rfl rfl hf) rfl<|A0 (E9 rfl rfl) rfl<|qm rfl<|es (ra8 rfl rfl rfl rfl rfl rfl rfl rfl)<|s0<|A0 (D2 rfl) rfl<|A0 (C8 (x:=.i p.cost_) rfl rfl rfl) rfl<|A0 (D2 rfl) rfl<|A0 (C8 (x:=.i best.cost_) rfl rfl rfl) rfl<|A0 (F7 rfl rfl) rfl<|qm rfl<|gp 5 45 (.b g) 40 rfl rfl (fun hb=>?_) (fun hb=>?_) ?_
    ·refine oB (bt hg hb) fun k hk hg=>?_
     obtain rfl:=os hg
     have hcon:U2 tab ⟨H.length + 9,(⟨H.length,c.cur :: c.outer⟩:Sc).cur :: (⟨H.length,c.cur :: c.outer⟩:Sc).outer⟩ (H++(B49 H.length a0 ch best s.2++[.cells (A9 p)])) (.fn (.func 66) [] []) [.asl (H.length + 1) s.2.length,.i f] [.b k]:= by
      have:=(C4h (c:=⟨H.length + 9,(⟨H.length,c.cur :: c.outer⟩:Sc).cur :: (⟨H.length,c.cur :: c.outer⟩:Sc).outer⟩) (B:=(B49 H.length a0 ch best s.2).drop 2++[.cells (A9 p)]) hA hk).frz
      rw [show (H++[AO.cells (A3 a0)])++(ar1 s.2 :: ((B49 H.length a0 ch best s.2).drop 2++[.cells (A9 p)])) = H++(B49 H.length a0 ch best s.2++[.cells (A9 p)]) by simp [B49]] at this
      exact this
     exact gT rfl hb<|qm rfl<|gT rfl hb<|qm rfl<|gT rfl hb<|R2 (A5z (rs:=[.b k]) rfl rfl hcon) rfl<|gT rfl hb<|A0 (S7 rfl) rfl<|A0 (C7 rfl hb rfl) rfl<|ge 5 rfl rfl rfl
    ·obtain rfl:=os (bf hg hb)
     exact nT rfl hb rfl<|nT rfl hb rfl<|O0 (G7 rfl (by rw [hb]; rfl)) rfl<|nT rfl hb rfl<|A0 (C6 rfl hb rfl) rfl<|ge 5 rfl rfl rfl
    refine es (ra8 rfl rfl rfl rfl rfl rfl rfl rfl)<|wi hs rfl (fun hc2 hs=>?_) fun hc2 hs=>?_
    ·refine oB hs fun q hq hs=>?_
     refine r0<|qm rfl<|qm rfl<|A0 (G2 (rows:=List.map cI [f]) rfl rfl (D8 (fun _=>rfl) _)) rfl<|R2 (V3 (f:=cI) rfl rfl rfl rfl Q3 (fun _=>rfl) hq) rfl<|qm rfl<|en (ra6 rfl rfl rfl rfl rfl rfl)<|r0<|A0 (E7 rfl rfl) rfl<|qm rfl<|en (ra6 rfl rfl rfl rfl rfl rfl) ?_
     cases hs
     exact lnT () rfl (su6 rfl rfl rfl rfl rfl rfl)
    ·refine C1<|r0<|A0 (E7 rfl rfl) rfl<|qm rfl<|en (ra6 rfl rfl rfl rfl rfl rfl) ?_
     cases hs
     exact lnT () rfl (su6 rfl rfl rfl rfl rfl rfl)
   ·refine F3 ?_
    obtain rfl:=os hs
    exact lx rfl px (su1 rfl)
  ·rintro e s' H' - ⟨rfl,rfl,rfl⟩
   have hsort:G8 tab ⟨H.length,c.cur :: c.outer⟩ (H++B49 H.length a0 ch best o) (.fn (.func 67) [] []) [.asl (H.length + 1) o.length] [] (H++B49 H.length a0 ch best q):= by
    have:=D64 (c:=⟨H.length,c.cur :: c.outer⟩) (A:=H++[AO.cells (A3 a0)]) (B:=(B49 H.length a0 ch best o).drop 2) hq
    rw [hA] at this
    rw [hH o,hH q]
    exact this
   refine s0<|qm rfl<|R2 (U1 rfl rfl hsort rfl) rfl<|es (ra1 rfl)<|s0<|qm rfl<|qm rfl<|qm rfl<|es (ra2 rfl rfl)<|C4 ?_
   exact ⟨[.fresh 1 (List.map cI q),.i 0],retq trivial (B1 rfl (B1 rfl B8)) (A7 (A2f rfl (by rw [List.length_map]; exact D1s hq)) (A7 rfl B9)) (A4 V9 (A4 A8 B2)),rfl⟩
end Ds
end
section
set_option maxRecDepth 100000
set_option maxHeartbeats 0
namespace Ds
open Go Am Go.Proofs.Ytdkflofgolehkaa.Cd
def T9 :Option Bool :=
 (A5r 2).bind fun x1 =>
 (A5r 1).bind fun x2 =>
 (A0w x1 0 0).bind fun x3 =>
 (A2b x1 [2,0,1]).bind fun x4 =>
 (A2c x1 [1,0,2]).bind fun x5 =>
 (W8 x1).bind fun x6 =>
 (W8 x2).bind fun x7 =>
 (A5a x1 2).bind fun x8 =>
 (Y9 x1 1).bind fun x9 =>
 (A99 x2).bind fun x10 =>
 (A2o x2).bind fun x11 =>
 (if ((((((((((x3.2.2 == 0) && (x4.2 == 0)) && (x5.2 == 0)) && (x6.2.2 == 0)) && (x7.2.2 == 9)) && (x8.2 == 0)) && (x9.2 == 0)) && (x10.2 == 0)) && (x11.2.2 == 0)) && (x3.1 == 14)) = true then
  (K5 x3.2.1 [0,2]).bind fun x22 =>
  some x22
 else
  some false).bind fun x23 =>
 (if x23 = true then
  (K5 x4.1 [4,(-1)]).bind fun x25 =>
  some x25
 else
  some false).bind fun x26 =>
 (if (x26 && (x5.1 == 14)) = true then
  (K5 x6.1 [1,0,2]).bind fun x29 =>
  some x29
 else
  some false).bind fun x30 =>
 (if (x30 && (x6.2.1 == 14)) = true then
  (K5 x8.1 [2]).bind fun x33 =>
  some x33
 else
  some false).bind fun x34 =>
 (if (x34 && (x9.1 == 10)) = true then
  (K5 x10.1 [0]).bind fun x37 =>
  some x37
 else
  some false).bind fun x38 =>
 (if x38 = true then
  (K5 x11.1 [0,1]).bind fun x40 =>
  some x40
 else
  some false).bind fun x41 =>
 some (x41 && (x11.2.1 == 14))
theorem U7 {c:Sc} {H:A1} (hscv:S8 c H = true)  {r:Bool} (h:T9  = some r) :
  F0 tab c H (.fn (.func 21) [] []) [] [.b r]:= by
 unfold T9 at h
 refine cE rfl rfl<|s0<|qm rfl<|es .n<|sg 0 rfl<|oB h fun x1 hx1 h=>oB h fun x2 hx2 h=>B4 (rs:=[(.agg (A3 x1))]) rfl rfl (A2 rfl B5) ((A60 hx1).frz)<|B4 (rs:=[(.agg (A3 x2))]) rfl rfl (A2 rfl B5) ((A60 hx2).frz)<|A0 E4 rfl<|A0 E4 rfl<|I0 (D1 (ds:=(A3 x1)) rfl rfl rfl rfl (C5 rfl) rfl) rfl<|I0 (D1 (ds:=(A3 x2)) rfl rfl rfl rfl (C5 rfl) rfl) rfl<|es (ra2 rfl rfl)<|s0<|oB h fun x3 hx3 h=>A0 (C2 rfl rfl rfl) rfl<|B4 (rs:=[.i x3.1,(.seq 1 (List.map cI x3.2.1)),.i x3.2.2]) rfl rfl (A2 (C9 rfl) (A2 rfl (A2 rfl B5))) ((A38 hx3).frz)<|qm rfl<|A0 (A5 rfl rfl) rfl<|A0 (A5 rfl rfl) rfl<|A0 (A5 rfl rfl) rfl<|qm rfl<|qm rfl<|qm rfl<|es (ra5 rfl rfl rfl rfl rfl)<|s0<|oB h fun x4 hx4 h=>A0 (C2 rfl rfl rfl) rfl<|A0 (G2 (rows:=List.map cI [2,0,1]) rfl rfl (D8 (fun _=>rfl) _)) rfl<|B4 (rs:=[(.seq 1 (List.map cI x4.1)),.i x4.2]) rfl rfl (A2 (C9 rfl) (A2 rfl B5)) ((A6y hx4).frz)<|qm rfl<|A0 (A5 rfl rfl) rfl<|A0 (A5 rfl rfl) rfl<|qm rfl<|qm rfl<|es (ra7 rfl rfl rfl rfl rfl rfl rfl)<|s0<|oB h fun x5 hx5 h=>A0 (C2 rfl rfl rfl) rfl<|A0 (G2 (rows:=List.map cI [1,0,2]) rfl rfl (D8 (fun _=>rfl) _)) rfl<|B4 (rs:=[.i x5.1,.i x5.2]) rfl rfl (A2 (C9 rfl) (A2 rfl B5)) ((A6z hx5).frz)<|qm rfl<|A0 (A5 rfl rfl) rfl<|A0 (A5 rfl rfl) rfl<|qm rfl<|qm rfl<|es (ra9 rfl rfl rfl rfl rfl rfl rfl rfl rfl)<|s0<|oB h fun x6 hx6 h=>A0 (C2 rfl rfl rfl) rfl<|B4 (rs:=[(.seq 1 (List.map cI x6.1)),.i x6.2.1,.i x6.2.2]) rfl rfl (A2 (C9 rfl) B5) ((A0l (A1b hscv) hx6).frz)<|qm rfl<|A0 (A5 rfl rfl) rfl<|A0 (A5 rfl rfl) rfl<|A0 (A5 rfl rfl) rfl<|qm rfl<|qm rfl<|qm rfl<|es (ra12 rfl rfl rfl rfl rfl rfl rfl rfl rfl rfl rfl rfl)<|s0 ?_
 refine oB h fun x7 hx7 h=>A0 (C2 rfl rfl rfl) rfl<|B4 (rs:=[(.seq 1 (List.map cI x7.1)),.i x7.2.1,.i x7.2.2]) rfl rfl (A2 (C9 rfl) B5) ((A0l (A1b hscv) hx7).frz)<|qm rfl<|A0 (A5 rfl rfl) rfl<|A0 (A5 rfl rfl) rfl<|A0 (A5 rfl rfl) rfl<|qm rfl<|qm rfl<|qm rfl<|es (ra13 rfl rfl rfl rfl rfl rfl rfl rfl rfl rfl rfl rfl rfl)<|s0<|oB h fun x8 hx8 h=>A0 (C2 rfl rfl rfl) rfl<|B4 (rs:=[(.seq 1 (List.map cI x8.1)),.i x8.2]) rfl rfl (A2 (C9 rfl) (A2 rfl B5)) (B3g (A1b hscv) hx8)<|qm rfl<|A0 (A5 rfl rfl) rfl<|A0 (A5 rfl rfl) rfl<|qm rfl<|qm rfl<|es (.k rfl (.k rfl (.k rfl (.k rfl (.k rfl (.k rfl (.k rfl (.k rfl (.k rfl (.k rfl (.k rfl (.k rfl (.k rfl (.k rfl (.k rfl .n)))))))))))))))<|s0<|oB h fun x9 hx9 h=>A0 (C2 rfl rfl rfl) rfl<|B4 (rs:=[.i x9.1,.i x9.2]) rfl rfl (A2 (C9 rfl) (A2 rfl B5)) ((A3f (A1b hscv) hx9).frz)<|qm rfl<|A0 (A5 rfl rfl) rfl<|A0 (A5 rfl rfl) rfl<|qm rfl<|qm rfl<|es (.k rfl (.k rfl (.k rfl (.k rfl (.k rfl (.k rfl (.k rfl (.k rfl (.k rfl (.k rfl (.k rfl (.k rfl (.k rfl (.k rfl (.k rfl (.k rfl .n))))))))))))))))<|s0<|oB h fun x10 hx10 h=>A0 (C2 rfl rfl rfl) rfl<|B4 (rs:=[(.seq 1 (List.map cI x10.1)),.i x10.2]) rfl rfl (A2 (C9 rfl) B5) ((B3f (A1b hscv) hx10).frz)<|qm rfl<|A0 (A5 rfl rfl) rfl<|A0 (A5 rfl rfl) rfl<|qm rfl<|qm rfl<|es (.k rfl (.k rfl (.k rfl (.k rfl (.k rfl (.k rfl (.k rfl (.k rfl (.k rfl (.k rfl (.k rfl (.k rfl (.k rfl (.k rfl (.k rfl (.k rfl (.k rfl (.k rfl .n))))))))))))))))))<|s0<|oB h fun x11 hx11 h=>A0 (C2 rfl rfl rfl) rfl<|B4 (rs:=[(.seq 1 (List.map cI x11.1)),.i x11.2.1,.i x11.2.2]) rfl rfl (A2 (C9 rfl) B5) ((A42 (A1b hscv) hx11).frz)<|qm rfl<|A0 (A5 rfl rfl) rfl<|A0 (A5 rfl rfl) rfl<|A0 (A5 rfl rfl) rfl<|qm rfl<|qm rfl<|qm rfl<|es (.k rfl (.k rfl (.k rfl (.k rfl (.k rfl (.k rfl (.k rfl (.k rfl (.k rfl (.k rfl (.k rfl (.k rfl (.k rfl (.k rfl (.k rfl (.k rfl (.k rfl (.k rfl (.k rfl (.k rfl .n))))))))))))))))))))<|s0<|oB h fun x23 hx23 h=>oB h fun x26 hx26 h=>oB h fun x30 hx30 h=>oB h fun x34 hx34 h=>oB h fun x38 hx38 h=>oB h fun x41 hx41 h=>qm rfl ?_
 refine A0 (F7 rfl rfl) rfl<|qm rfl<|gp 3 83 (.b ((x3.2.2 == 0) && (x4.2 == 0))) 80 rfl rfl (fun hg12=>?_) (fun hg12=>?_) ?_
 ·exact gT rfl hg12<|qm rfl<|gT rfl hg12<|A0 (F7 rfl rfl) rfl<|A0 (C7 rfl hg12 rfl) rfl<|ge 3 (by rw [hg12]; rfl) rfl rfl
 ·exact nT rfl hg12 rfl<|nT rfl hg12 rfl<|A0 (C6 rfl hg12 rfl) rfl<|ge 3 (by rw [hg12]; rfl) rfl rfl
 refine qm rfl<|gp 3 87 (.b (((x3.2.2 == 0) && (x4.2 == 0)) && (x5.2 == 0))) 84 rfl rfl (fun hg13=>?_) (fun hg13=>?_) ?_
 ·exact gT rfl hg13<|qm rfl<|gT rfl hg13<|A0 (F7 rfl rfl) rfl<|A0 (C7 rfl hg13 rfl) rfl<|ge 3 (by rw [hg13]; rfl) rfl rfl
 ·exact nT rfl hg13 rfl<|nT rfl hg13 rfl<|A0 (C6 rfl hg13 rfl) rfl<|ge 3 (by rw [hg13]; rfl) rfl rfl
 refine qm rfl<|gp 3 91 (.b ((((x3.2.2 == 0) && (x4.2 == 0)) && (x5.2 == 0)) && (x6.2.2 == 0))) 88 rfl rfl (fun hg14=>?_) (fun hg14=>?_) ?_
 ·exact gT rfl hg14<|qm rfl<|gT rfl hg14<|A0 (F7 rfl rfl) rfl<|A0 (C7 rfl hg14 rfl) rfl<|ge 3 (by rw [hg14]; rfl) rfl rfl
 ·exact nT rfl hg14 rfl<|nT rfl hg14 rfl<|A0 (C6 rfl hg14 rfl) rfl<|ge 3 (by rw [hg14]; rfl) rfl rfl
 refine qm rfl<|gp 3 95 (.b (((((x3.2.2 == 0) && (x4.2 == 0)) && (x5.2 == 0)) && (x6.2.2 == 0)) && (x7.2.2 == 9))) 92 rfl rfl (fun hg15=>?_) (fun hg15=>?_) ?_
 ·exact gT rfl hg15<|qm rfl<|gT rfl hg15<|A0 (F7 rfl rfl) rfl<|A0 (C7 rfl hg15 rfl) rfl<|ge 3 (by rw [hg15]; rfl) rfl rfl
 ·exact nT rfl hg15 rfl<|nT rfl hg15 rfl<|A0 (C6 rfl hg15 rfl) rfl<|ge 3 (by rw [hg15]; rfl) rfl rfl
 refine qm rfl<|gp 3 99 (.b ((((((x3.2.2 == 0) && (x4.2 == 0)) && (x5.2 == 0)) && (x6.2.2 == 0)) && (x7.2.2 == 9)) && (x8.2 == 0))) 96 rfl rfl (fun hg16=>?_) (fun hg16=>?_) ?_
 ·exact gT rfl hg16<|qm rfl<|gT rfl hg16<|A0 (F7 rfl rfl) rfl<|A0 (C7 rfl hg16 rfl) rfl<|ge 3 (by rw [hg16]; rfl) rfl rfl
 ·exact nT rfl hg16 rfl<|nT rfl hg16 rfl<|A0 (C6 rfl hg16 rfl) rfl<|ge 3 (by rw [hg16]; rfl) rfl rfl
 refine qm rfl<|gp 3 103 (.b (((((((x3.2.2 == 0) && (x4.2 == 0)) && (x5.2 == 0)) && (x6.2.2 == 0)) && (x7.2.2 == 9)) && (x8.2 == 0)) && (x9.2 == 0))) 100 rfl rfl (fun hg17=>?_) (fun hg17=>?_) ?_
 ·exact gT rfl hg17<|qm rfl<|gT rfl hg17<|A0 (F7 rfl rfl) rfl<|A0 (C7 rfl hg17 rfl) rfl<|ge 3 (by rw [hg17]; rfl) rfl rfl
 ·exact nT rfl hg17 rfl<|nT rfl hg17 rfl<|A0 (C6 rfl hg17 rfl) rfl<|ge 3 (by rw [hg17]; rfl) rfl rfl
 refine qm rfl<|gp 3 107 (.b ((((((((x3.2.2 == 0) && (x4.2 == 0)) && (x5.2 == 0)) && (x6.2.2 == 0)) && (x7.2.2 == 9)) && (x8.2 == 0)) && (x9.2 == 0)) && (x10.2 == 0))) 104 rfl rfl (fun hg18=>?_) (fun hg18=>?_) ?_
 ·exact gT rfl hg18<|qm rfl<|gT rfl hg18<|A0 (F7 rfl rfl) rfl<|A0 (C7 rfl hg18 rfl) rfl<|ge 3 (by rw [hg18]; rfl) rfl rfl
 ·exact nT rfl hg18 rfl<|nT rfl hg18 rfl<|A0 (C6 rfl hg18 rfl) rfl<|ge 3 (by rw [hg18]; rfl) rfl rfl
 refine qm rfl<|gp 3 111 (.b (((((((((x3.2.2 == 0) && (x4.2 == 0)) && (x5.2 == 0)) && (x6.2.2 == 0)) && (x7.2.2 == 9)) && (x8.2 == 0)) && (x9.2 == 0)) && (x10.2 == 0)) && (x11.2.2 == 0))) 108 rfl rfl (fun hg19=>?_) (fun hg19=>?_) ?_
 ·exact gT rfl hg19<|qm rfl<|gT rfl hg19<|A0 (F7 rfl rfl) rfl<|A0 (C7 rfl hg19 rfl) rfl<|ge 3 (by rw [hg19]; rfl) rfl rfl
 ·exact nT rfl hg19 rfl<|nT rfl hg19 rfl<|A0 (C6 rfl hg19 rfl) rfl<|ge 3 (by rw [hg19]; rfl) rfl rfl
 refine qm rfl<|gp 3 115 (.b ((((((((((x3.2.2 == 0) && (x4.2 == 0)) && (x5.2 == 0)) && (x6.2.2 == 0)) && (x7.2.2 == 9)) && (x8.2 == 0)) && (x9.2 == 0)) && (x10.2 == 0)) && (x11.2.2 == 0)) && (x3.1 == 14))) 112 rfl rfl (fun hg20=>?_) (fun hg20=>?_) ?_
 ·exact gT rfl hg20<|qm rfl<|gT rfl hg20<|A0 (F7 rfl rfl) rfl<|A0 (C7 rfl hg20 rfl) rfl<|ge 3 (by rw [hg20]; rfl) rfl rfl
 ·exact nT rfl hg20 rfl<|nT rfl hg20 rfl<|A0 (C6 rfl hg20 rfl) rfl<|ge 3 (by rw [hg20]; rfl) rfl rfl
 refine qm rfl<|gp 4 120 (.b x23) 116 rfl rfl (fun hg21=>?_) (fun hg21=>?_) ?_
 ·refine oB (bt hx23 hg21) fun x22 hx22 hx23=>?_
  obtain rfl:=os hx23
  exact gT rfl hg21<|qm rfl<|gT rfl hg21<|A0 (G2 (rows:=List.map cI [0,2]) rfl rfl (D8 (fun _=>rfl) _)) rfl<|gT rfl hg21<|B4 (rs:=[.b x22]) rfl rfl (A2 rfl (A2 rfl B5)) ((K1 hx22).frz)<|A0 (C7 rfl hg21 rfl) rfl<|ge 4 rfl rfl rfl
 ·obtain rfl:=os (bf hx23 hg21)
  exact nT rfl hg21 rfl<|nT rfl hg21 rfl<|O0 (G7 rfl (by rw [hg21]; rfl)) rfl<|A0 (C6 rfl hg21 rfl) rfl<|ge 4 rfl rfl rfl
 refine qm rfl<|gp 4 125 (.b x26) 121 rfl rfl (fun hg24=>?_) (fun hg24=>?_) ?_
 ·refine oB (bt hx26 hg24) fun x25 hx25 hx26=>?_
  obtain rfl:=os hx26
  exact gT rfl hg24<|qm rfl<|gT rfl hg24<|A0 (G2 (rows:=List.map cI [4,(-1)]) rfl rfl (D8 (fun _=>rfl) _)) rfl<|gT rfl hg24<|B4 (rs:=[.b x25]) rfl rfl (A2 rfl (A2 rfl B5)) ((K1 hx25).frz)<|A0 (C7 rfl hg24 rfl) rfl<|ge 4 rfl rfl rfl
 ·obtain rfl:=os (bf hx26 hg24)
  exact nT rfl hg24 rfl<|nT rfl hg24 rfl<|O0 (G7 rfl (by rw [hg24]; rfl)) rfl<|A0 (C6 rfl hg24 rfl) rfl<|ge 4 rfl rfl rfl
 refine qm rfl<|gp 3 129 (.b (x26 && (x5.1 == 14))) 126 rfl rfl (fun hg27=>?_) (fun hg27=>?_) ?_
 ·exact gT rfl hg27<|qm rfl<|gT rfl hg27<|A0 (F7 rfl rfl) rfl<|A0 (C7 rfl hg27 rfl) rfl<|ge 3 (by rw [hg27]; rfl) rfl rfl
 ·exact nT rfl hg27 rfl<|nT rfl hg27 rfl<|A0 (C6 rfl hg27 rfl) rfl<|ge 3 (by rw [hg27]; rfl) rfl rfl
 refine qm rfl<|gp 4 134 (.b x30) 130 rfl rfl (fun hg28=>?_) (fun hg28=>?_) ?_
 ·refine oB (bt hx30 hg28) fun x29 hx29 hx30=>?_
  obtain rfl:=os hx30
  exact gT rfl hg28<|qm rfl<|gT rfl hg28<|A0 (G2 (rows:=List.map cI [1,0,2]) rfl rfl (D8 (fun _=>rfl) _)) rfl<|gT rfl hg28<|B4 (rs:=[.b x29]) rfl rfl (A2 rfl (A2 rfl B5)) ((K1 hx29).frz)<|A0 (C7 rfl hg28 rfl) rfl<|ge 4 rfl rfl rfl
 ·obtain rfl:=os (bf hx30 hg28)
  exact nT rfl hg28 rfl<|nT rfl hg28 rfl<|O0 (G7 rfl (by rw [hg28]; rfl)) rfl<|A0 (C6 rfl hg28 rfl) rfl<|ge 4 rfl rfl rfl
 refine qm rfl<|gp 3 138 (.b (x30 && (x6.2.1 == 14))) 135 rfl rfl (fun hg31=>?_) (fun hg31=>?_) ?_
 ·exact gT rfl hg31<|qm rfl<|gT rfl hg31<|A0 (F7 rfl rfl) rfl<|A0 (C7 rfl hg31 rfl) rfl<|ge 3 (by rw [hg31]; rfl) rfl rfl
 ·exact nT rfl hg31 rfl<|nT rfl hg31 rfl<|A0 (C6 rfl hg31 rfl) rfl<|ge 3 (by rw [hg31]; rfl) rfl rfl
 refine qm rfl<|gp 4 143 (.b x34) 139 rfl rfl (fun hg32=>?_) (fun hg32=>?_) ?_
 ·refine oB (bt hx34 hg32) fun x33 hx33 hx34=>?_
  obtain rfl:=os hx34
  exact gT rfl hg32<|qm rfl<|gT rfl hg32<|A0 (G2 (rows:=List.map cI [2]) rfl rfl (D8 (fun _=>rfl) _)) rfl<|gT rfl hg32<|B4 (rs:=[.b x33]) rfl rfl (A2 rfl (A2 rfl B5)) ((K1 hx33).frz)<|A0 (C7 rfl hg32 rfl) rfl<|ge 4 rfl rfl rfl
 ·obtain rfl:=os (bf hx34 hg32)
  exact nT rfl hg32 rfl<|nT rfl hg32 rfl<|O0 (G7 rfl (by rw [hg32]; rfl)) rfl<|A0 (C6 rfl hg32 rfl) rfl<|ge 4 rfl rfl rfl
 refine qm rfl<|gp 3 147 (.b (x34 && (x9.1 == 10))) 144 rfl rfl (fun hg35=>?_) (fun hg35=>?_) ?_
 ·exact gT rfl hg35<|qm rfl<|gT rfl hg35<|A0 (F7 rfl rfl) rfl<|A0 (C7 rfl hg35 rfl) rfl<|ge 3 (by rw [hg35]; rfl) rfl rfl
 ·exact nT rfl hg35 rfl<|nT rfl hg35 rfl<|A0 (C6 rfl hg35 rfl) rfl<|ge 3 (by rw [hg35]; rfl) rfl rfl
 refine qm rfl<|gp 4 152 (.b x38) 148 rfl rfl (fun hg36=>?_) (fun hg36=>?_) ?_
 ·refine oB (bt hx38 hg36) fun x37 hx37 hx38=>?_
  obtain rfl:=os hx38
  exact gT rfl hg36<|qm rfl<|gT rfl hg36<|A0 (G2 (rows:=List.map cI [0]) rfl rfl (D8 (fun _=>rfl) _)) rfl<|gT rfl hg36<|B4 (rs:=[.b x37]) rfl rfl (A2 rfl (A2 rfl B5)) ((K1 hx37).frz)<|A0 (C7 rfl hg36 rfl) rfl<|ge 4 rfl rfl rfl
 ·obtain rfl:=os (bf hx38 hg36)
  exact nT rfl hg36 rfl<|nT rfl hg36 rfl<|O0 (G7 rfl (by rw [hg36]; rfl)) rfl<|A0 (C6 rfl hg36 rfl) rfl<|ge 4 rfl rfl rfl
 refine qm rfl<|gp 4 157 (.b x41) 153 rfl rfl (fun hg39=>?_) (fun hg39=>?_) ?_
 ·refine oB (bt hx41 hg39) fun x40 hx40 hx41=>?_
  obtain rfl:=os hx41
  exact gT rfl hg39<|qm rfl<|gT rfl hg39<|A0 (G2 (rows:=List.map cI [0,1]) rfl rfl (D8 (fun _=>rfl) _)) rfl<|gT rfl hg39<|B4 (rs:=[.b x40]) rfl rfl (A2 rfl (A2 rfl B5)) ((K1 hx40).frz)<|A0 (C7 rfl hg39 rfl) rfl<|ge 4 rfl rfl rfl
 ·obtain rfl:=os (bf hx41 hg39)
  exact nT rfl hg39 rfl<|nT rfl hg39 rfl<|O0 (G7 rfl (by rw [hg39]; rfl)) rfl<|A0 (C6 rfl hg39 rfl) rfl<|ge 4 rfl rfl rfl
 refine qm rfl<|gp 3 161 (.b (x41 && (x11.2.1 == 14))) 158 rfl rfl (fun hg42=>?_) (fun hg42=>?_) ?_
 ·exact gT rfl hg42<|qm rfl<|gT rfl hg42<|A0 (F7 rfl rfl) rfl<|A0 (C7 rfl hg42 rfl) rfl<|ge 3 (by rw [hg42]; rfl) rfl rfl
 ·exact nT rfl hg42 rfl<|nT rfl hg42 rfl<|A0 (C6 rfl hg42 rfl) rfl<|ge 3 (by rw [hg42]; rfl) rfl rfl
 refine qm rfl<|es (ra1 rfl)<|C4 ?_
 obtain rfl:=os h
 exact retq trivial (B1 rfl B8) (A7 rfl B9) (A4 A8 B2)
end Ds
end
section
set_option maxRecDepth 100000
namespace Ds
theorem awake:T9 = some true:= by decide +kernel
end Ds
end
section
set_option maxRecDepth 100000
set_option maxHeartbeats 0
namespace Ds
open Go Am Go.Proofs.Ytdkflofgolehkaa.Cd
end Ds
end
section
namespace Ds
open Go Am
abbrev Prs:=List (Nat × DrLook)
def cst (r:DrRoom) (x:Nat × DrLook):Int:=one r r.Figures[x.1]! x.2
def hr (r:DrRoom) (c:Nat) (x:Nat × DrLook):Int:=A6d r.Figures[x.1]! x.2 (c:Int)
def A1s (r:DrRoom) (z:Prs):Int:=sm (z.map (cst r))
def E2 (r:DrRoom) (z:Prs) (c:Nat):Int:=r.Ounces.getD c 0 + sm (z.map (hr r c))
def J2 (r:DrRoom) (z:Prs):dress_plan:=⟨ints (z.map (·.1)),A1s r z,⟨E2 r z 0,E2 r z 1,E2 r z 2,E2 r z 3⟩⟩
def B1e (r:DrRoom) (z:Prs):Prop:=z.length≤5∧∀ x ∈ z,x.1 < r.Figures.length∧LkOk r (-1) x.2
theorem D2u {r:DrRoom} (ok:RmOk r) (x:Nat × DrLook):0≤cst r x∧cst r x≤400:=D37 ok _ _
theorem A49 {r:DrRoom} (ok:RmOk r) (z:Prs):0≤A1s r z∧A1s r z≤400 * z.length:= by
 have:=B9d (a:=0) (b:=400) (l:=z.map (cst r)) fun x hx=>by
  obtain ⟨k,_,rfl⟩:=List.mem_map.mp hx
  exact D2u ok k
 rw [List.length_map] at this
 unfold A1s; omega
theorem D7j {r:DrRoom} (ok:RmOk r) (c:Nat) {x:Nat × DrLook} (h:x.1 < r.Figures.length∧LkOk r (-1) x.2):-50≤hr r c x∧hr r c x≤50:= by
 have h1:=(ok.figure _ (I4 h.1)).hair
 have h2:=h.2.hair
 unfold hr A6d
 split
 ·split <;> split <;> omega
 ·omega
theorem D4f {r:DrRoom} (ok:RmOk r) (c:Nat):0≤r.Ounces.getD c 0∧r.Ounces.getD c 0≤50:= by
 rw [List.getD_eq_getElem?_getD]
 by_cases h:c < r.Ounces.length
 ·rw [List.getElem?_eq_getElem h]; exact ok.ounce _ (List.getElem_mem h)
 ·rw [List.getElem?_eq_none (by omega)]; decide
theorem A7f {r:DrRoom} (ok:RmOk r) {z:Prs} (hz:B1e r z) (c:Nat):-250≤E2 r z c∧E2 r z c≤300:= by
 have:=B9d (a:=-50) (b:=50) (l:=z.map (hr r c)) fun x hx=>by
  obtain ⟨k,hk,rfl⟩:=List.mem_map.mp hx
  exact D7j ok c (hz.2 k hk)
 have h2:=D4f ok c
 have h3:=hz.1
 rw [List.length_map] at this
 unfold E2; omega
theorem B1e.take {r:DrRoom} {z:Prs} (h:B1e r z) (n:Nat):B1e r (z.take n) :=
 ⟨by have:=h.1; rw [List.length_take]; omega,fun x hx=>h.2 x (List.mem_of_mem_take hx)⟩
theorem D1x (r:DrRoom) (z:Prs) (x:Nat × DrLook):A1s r (z++[x]) = A1s r z + cst r x:= by
 unfold A1s; rw [List.map_append,A5g]; simp [sm]
theorem C7l (r:DrRoom) (z:Prs) (x:Nat × DrLook) (c:Nat):E2 r (z++[x]) c = E2 r z c + hr r c x:= by
 unfold E2; rw [List.map_append,A5g]; simp [sm]; omega
theorem C94 {r:DrRoom} (ok:RmOk r) {z:Prs} (hz:B1e r z) {f:Nat} {p:DrLook} (hx:f < r.Figures.length∧LkOk r (-1) p):V6 (J2 r z) (f:Int) (chg r r.Figures[f]! p) = some (J2 r (z++[(f,p)])):= by
 have hl:=hz.1
 have hs:=A49 ok z
 have hc:=D37 ok r.Figures[f]! p
 have hb:∀c:Nat,w64 (E2 r z c + A6d r.Figures[f]! p (c:Int)) = E2 r (z++[(f,p)]) c:=fun c=>by
  have h1:=A7f ok hz c
  have h2:=D7j ok c (x:=(f,p)) hx
  rw [C7l]
  have h2':-50≤A6d r.Figures[f]! p (c:Int)∧A6d r.Figures[f]! p (c:Int)≤50:=h2
  exact D9 (by omega)
 unfold V6
 rw [Q8 (by omega) (by show (ints _).length + 1≤_; rw [F5,List.length_map]; omega)]
 simp only [Option.bind_some]
 have h0:=hb 0
 have h1:=hb 1
 have h2:=hb 2
 have h3:=hb 3
 have hloop:loop (U5 (chg r r.Figures[f]! p)) (0,(J2 r z).left_) = some (J2 r (z++[(f,p)])).left_:= by
  have:=H7 (b:=U5 (chg r r.Figures[f]! p)) (fun i=>((i:Int),(match i with
   | 0=>⟨E2 r z 0,E2 r z 1,E2 r z 2,E2 r z 3⟩
   | 1=>⟨E2 r (z++[(f,p)]) 0,E2 r z 1,E2 r z 2,E2 r z 3⟩
   | 2=>⟨E2 r (z++[(f,p)]) 0,E2 r (z++[(f,p)]) 1,E2 r z 2,E2 r z 3⟩
   | 3=>⟨E2 r (z++[(f,p)]) 0,E2 r (z++[(f,p)]) 1,E2 r (z++[(f,p)]) 2,E2 r z 3⟩
   | _=>(J2 r (z++[(f,p)])).left_:Ar4 Int))) 4 (r:=(J2 r (z++[(f,p)])).left_) (by omega) (fun i hi=>by
   unfold U5
   generalize r.Figures[f]! = F at h0 h1 h2 h3 ⊢
   rcases (by omega:i = 0∨i = 1∨i = 2∨i = 3) with rfl | rfl | rfl | rfl <;> simp [idx,Ar4.l,Ar4.set,chg,J2]
   ·exact ⟨D9 (by omega),h0⟩
   ·exact ⟨D9 (by omega),h1⟩
   ·exact ⟨D9 (by omega),h2⟩
   ·exact ⟨D9 (by omega),h3⟩) rfl
  exact this
 rw [hloop]
 simp only [Option.bind_some,Option.some.injEq]
 have e1:w64 (A1s r z + one r r.Figures[f]! p) = A1s r (z++[(f,p)]):= by
  rw [D1x]; exact D9 (by omega)
 show (⟨ints (z.map (·.1))++[(f:Int)],w64 (A1s r z + one r r.Figures[f]! p),(J2 r (z++[(f,p)])).left_⟩:dress_plan) = J2 r (z++[(f,p)])
 rw [e1]
 unfold J2 ints
 simp
def below (x:Int):Int:=if x < 0 then -x else 0
def R4 (r:DrRoom) (z:Prs):List Int:=(List.range r.Ounces.length).map fun c=>below (E2 r z c)
def A5j (r:DrRoom) (z:Prs):Bool:=(List.range r.Ounces.length).all fun c=>decide (0≤E2 r z c)
theorem D29 {r:DrRoom} (ok:RmOk r) {x:Nat × DrLook} (h:x.1 < r.Figures.length∧LkOk r (-1) x.2) {c:Nat} (hc:r.Ounces.length≤c):hr r c x = 0:= by
 have h1:=(ok.figure _ (I4 h.1)).col
 have h2:=h.2.col
 unfold hr A6d
 have e1:r.Figures[x.1]!.Looks[0]! ≠ (c:Int):= by omega
 have e2:x.2.Looks[0]! ≠ (c:Int):= by omega
 rw [if_neg e1,if_neg e2]
 simp
theorem C48 {r:DrRoom} (ok:RmOk r) {z:Prs} (hz:B1e r z) {c:Nat} (hc:r.Ounces.length≤c):E2 r z c = 0:= by
 unfold E2
 rw [List.getD_eq_getElem?_getD,List.getElem?_eq_none hc,D62 fun x hx=>D29 ok (hz.2 x hx) hc]; rfl
theorem C0o {x:Int} (h:-1000≤x∧x≤1000):A9i 0 (w64 (0 - x)) = below x:= by
 rw [D9 (by omega)]
 unfold A9i below
 split <;> split <;> omega
theorem A81 {x:Int} (h:-1000≤x∧x≤1000):0≤below x∧below x≤1000:= by
 unfold below; split <;> omega
theorem A9e {r:DrRoom} (ok:RmOk r) {z:Prs} (hz:B1e r z):I1 (J2 r z) = some (⟨below (E2 r z 0),below (E2 r z 1),below (E2 r z 2),below (E2 r z 3)⟩,sm (R4 r z)):= by
 have hb:∀c,-1000≤E2 r z c∧E2 r z c≤1000:=fun c=>by have:=A7f ok hz c; omega
 have m:=fun c=>C0o (hb c)
 have q:=fun c=>A81 (hb c)
 have q0:=q 0
 have q1:=q 1
 have q2:=q 2
 have q3:=q 3
 have hs:sm (R4 r z) = below (E2 r z 0) + below (E2 r z 1) + below (E2 r z 2) + below (E2 r z 3):= by
  have ho:=ok.ounces
  have hf:∀c,r.Ounces.length≤c→below (E2 r z c) = 0:=fun c hc=>by rw [C48 ok hz hc]; rfl
  unfold R4
  rcases (by omega:r.Ounces.length = 1∨r.Ounces.length = 2∨r.Ounces.length = 3∨r.Ounces.length = 4) with e | e | e | e <;> rw [e] at hf ⊢
  ·rw [hf 1 (by omega),hf 2 (by omega),hf 3 (by omega)]; simp [List.range,List.range.loop,sm]
  ·rw [hf 2 (by omega),hf 3 (by omega)]; simp [List.range,List.range.loop,sm]
  ·rw [hf 3 (by omega)]; simp [List.range,List.range.loop,sm]; omega
  ·simp [List.range,List.range.loop,sm]; omega
 unfold I1
 have m0:=m 0
 rw [Int.zero_sub] at m0
 have m1:=m 1
 rw [Int.zero_sub] at m1
 have m2:=m 2
 rw [Int.zero_sub] at m2
 have m3:=m 3
 rw [Int.zero_sub] at m3
 have:=H7 (b:=T2 (J2 r z)) (fun i=>(match i with
   | 0=>(0,0,⟨0,0,0,0⟩)
   | 1=>(below (E2 r z 0),1,⟨below (E2 r z 0),0,0,0⟩)
   | 2=>(below (E2 r z 0) + below (E2 r z 1),2,⟨below (E2 r z 0),below (E2 r z 1),0,0⟩)
   | 3=>(below (E2 r z 0) + below (E2 r z 1) + below (E2 r z 2),3,⟨below (E2 r z 0),below (E2 r z 1),below (E2 r z 2),0⟩)
   | _=>(sm (R4 r z),4,⟨below (E2 r z 0),below (E2 r z 1),below (E2 r z 2),below (E2 r z 3)⟩):Int × Int × Ar4 Int)) 4 (r:=(sm (R4 r z),⟨below (E2 r z 0),below (E2 r z 1),below (E2 r z 2),below (E2 r z 3)⟩)) (by omega) (fun i hi=>by
  unfold T2
  rcases (by omega:i = 0∨i = 1∨i = 2∨i = 3) with rfl | rfl | rfl | rfl
  ·simp only [J2,idx,Ar4.l,Ar4.set]
   simp [m0]
   first | exact ⟨D9 (by omega),D9 (by omega)⟩ | exact D9 (by omega)
  ·simp only [J2,idx,Ar4.l,Ar4.set]
   simp [m1]
   first | exact ⟨D9 (by omega),D9 (by omega)⟩ | exact D9 (by omega)
  ·simp only [J2,idx,Ar4.l,Ar4.set]
   simp [m2]
   first | exact ⟨D9 (by omega),D9 (by omega)⟩ | exact D9 (by omega)
  ·simp only [J2,idx,Ar4.l,Ar4.set]
   simp [m3,hs]
   first | exact ⟨D9 (by omega),D9 (by omega)⟩ | exact D9 (by omega)) rfl
 rw [show ((0:Int),(0:Int),(Ar4.mk (0:Int) 0 0 0)) = (match (0:Nat) with
   | 0=>(0,0,⟨0,0,0,0⟩)
   | 1=>(below (E2 r z 0),1,⟨below (E2 r z 0),0,0,0⟩)
   | 2=>(below (E2 r z 0) + below (E2 r z 1),2,⟨below (E2 r z 0),below (E2 r z 1),0,0⟩)
   | 3=>(below (E2 r z 0) + below (E2 r z 1) + below (E2 r z 2),3,⟨below (E2 r z 0),below (E2 r z 1),below (E2 r z 2),0⟩)
   | _=>(sm (R4 r z),4,⟨below (E2 r z 0),below (E2 r z 1),below (E2 r z 2),below (E2 r z 3)⟩):Int × Int × Ar4 Int) from rfl,this]; rfl
theorem B7d {x:Int}:(below x == 0) = decide (0≤x):= by
 unfold below
 rw [Bool.eq_iff_iff,beq_iff_eq,decide_eq_true_eq]
 split <;> omega
theorem B7b {r:DrRoom} (ok:RmOk r) {z:Prs} (hz:B1e r z):M1 (J2 r z) = some (A5j r z):= by
 unfold M1
 rw [A9e ok hz]
 simp only [Option.bind_some,B7d,Bool.and_true,Option.some.injEq]
 have ho:=ok.ounces
 have hf:∀c,r.Ounces.length≤c→decide (0≤E2 r z c) = true:=fun c hc=>by rw [C48 ok hz hc]; rfl
 unfold A5j
 rcases (by omega:r.Ounces.length = 1∨r.Ounces.length = 2∨r.Ounces.length = 3∨r.Ounces.length = 4) with e | e | e | e <;> rw [e] at hf ⊢
 ·rw [hf 1 (by omega),hf 2 (by omega),hf 3 (by omega)]; simp [List.range,List.range.loop]
 ·rw [hf 2 (by omega),hf 3 (by omega)]; simp [List.range,List.range.loop]
 ·rw [hf 3 (by omega)]; simp [List.range,List.range.loop]
 ·simp [List.range,List.range.loop]
theorem B4n {r:DrRoom} {z:Prs}:(sm (R4 r z) == 0) = A5j r z:= by
 unfold R4 A5j
 induction (List.range r.Ounces.length) with
 | nil=>rfl
 | cons c l ih =>
  have h0:∀l:List Nat,0≤sm (l.map fun c=>below (E2 r z c)):=fun l=>by
   have:∀x ∈ l.map fun c=>below (E2 r z c),0≤x:=fun x hx=>by
    obtain ⟨k,_,rfl⟩:=List.mem_map.mp hx
    unfold below; split <;> omega
   revert this
   generalize l.map (fun c=>below (E2 r z c)) = m
   intro this
   induction m with
   | nil=>exact Int.le_refl _
   | cons x l ih =>
    have h1:=this x (List.mem_cons_self ..)
    have h2:=ih fun y hy=>this y (List.mem_cons_of_mem _ hy)
    simp only [sm]; omega
  have h1:=h0 l
  have h2:0≤below (E2 r z c):= by unfold below; split <;> omega
  rw [List.all_cons,← ih,← B7d,Bool.eq_iff_iff,Bool.and_eq_true,beq_iff_eq,beq_iff_eq,beq_iff_eq]
  simp only [List.map_cons,sm]
  omega
theorem B31 {q:List Nat} {ps:List DrLook} (h:q.length≤ps.length):(q.zip ps).length = q.length:= by
 rw [List.length_zip]; omega
structure QOk (r:DrRoom) (q:List Nat):Prop where
 len:q.length≤r.Persons.length
 fig:∀x ∈ q,x < r.Figures.length
def prs (r:DrRoom) (q:List Nat):Prs:=q.zip r.Persons
theorem QOk.pr {r:DrRoom} (ok:RmOk r) {q:List Nat} (h:QOk r q):B1e r (prs r q):= by
 refine ⟨by unfold prs; rw [B31 h.len]; have:=ok.persons; have:=h.len; omega,fun x hx=>?_⟩
 have:=List.of_mem_zip (a:=x.1) (b:=x.2) hx
 exact ⟨h.fig _ this.1,ok.person _ this.2⟩
end Ds
end
section
set_option maxRecDepth 100000
set_option maxHeartbeats 0
namespace Ds
open Go Am Go.Proofs.Ytdkflofgolehkaa.Cd
end Ds
end
section
namespace Ds
open Go Am
theorem C30 {r:DrRoom} (ok:RmOk r):begin0 r = J2 r []:= by
 have ho:=ok.ounces
 unfold begin0 J2 cpy4
 simp [ints,A1s,E2,sm,List.getD_eq_getElem?_getD]
section
variable {α β σ ρ:Type}
def X6 (f:α→σ→Option (σ ⊕ ρ)):List α→σ→Option (σ ⊕ ρ)
 | [],s=>some (.inl s)
 | a :: l,s=>(f a s).bind fun x=>match x with
  | .inl s'=>X6 f l s'
  | .inr r=>some (.inr r)
theorem B2r (f:α→σ→Option (σ ⊕ ρ)) (m:List α):∀(l:List α) (s:σ),X6 f (l++m) s = (X6 f l s).bind fun x=>match x with
  | .inl s'=>X6 f m s'
  | .inr r=>some (.inr r)
 | [],s=>rfl
 | a :: l,s=>by
  show (f a s).bind _ = ((f a s).bind _).bind _
  cases f a s with
  | none=>rfl
  | some x=>cases x with
   | inl s'=>exact B2r f m l s'
   | inr r=>rfl
theorem B7t (f:α→σ→Option (σ ⊕ ρ)) (h:β→List α):∀(l:List β) (s:σ),X6 f (l.flatMap h) s = X6 (fun b s=>X6 f (h b) s) l s
 | [],s=>rfl
 | b :: l,s=>by
  rw [List.flatMap_cons,B2r]
  show _ = (X6 f (h b) s).bind _
  cases X6 f (h b) s with
  | none=>rfl
  | some x=>cases x with
   | inl s'=>exact B7t f h l s'
   | inr r=>rfl
theorem A75 (f:α→σ→Option (σ ⊕ ρ)) (p:α→Bool):∀(l:List α) (s:σ),X6 f (l.filter p) s = X6 (fun a s=>if p a then f a s else some (.inl s)) l s
 | [],s=>rfl
 | a :: l,s=>by
  rw [List.filter_cons]
  cases h:p a with
  | false =>
   rw [if_neg (by decide),A75 f p l s]
   show _ = (if p a then f a s else some (.inl s)).bind _
   rw [h]; rfl
  | true =>
   rw [if_pos rfl]
   show (f a s).bind _ = (if p a then f a s else some (.inl s)).bind _
   rw [h,if_pos rfl]
   cases f a s with
   | none=>rfl
   | some x=>cases x with
    | inl s'=>exact A75 f p l s'
    | inr r=>rfl
def E1d (i:Nat):σ ⊕ ρ→(Int × σ) ⊕ (ρ ⊕ σ)
 | .inl s=>.inl (((i + 1:Nat):Int),s)
 | .inr r=>.inr (.inl r)
def C91:σ ⊕ ρ→ρ ⊕ σ
 | .inl s=>.inr s
 | .inr r=>.inl r
end
def A89 (n:Nat) (q:List Nat):List Nat:=(List.range n).filter fun f=>!q.contains f
def DF (n:Nat):Nat→List Nat→List (List Nat)
 | 0,q=>[q]
 | d + 1,q=>(A89 n q).flatMap fun f=>DF n d (q++[f])
def bit (u i:Nat):Bool:=u / 2 ^ i % 2 == 1
def C3k (u:Int) (q:List Nat):Prop:=∃ n:Nat,u = (n:Int)∧n < 64∧∀ f,f < 6→bit n f = q.contains f
theorem C9q:∀u:Nat,u < 64→∀ p:Nat,p < 6→orI (u:Int) ((2 ^ p:Nat):Int) = ((u ||| 2 ^ p:Nat):Int)∧(u ||| 2 ^ p) < 64:= by decide +kernel
theorem D8u:∀u:Nat,u < 64→∀ p:Nat,p < 6→∀ t:Nat,t < 6→bit (u ||| 2 ^ p) t = (bit u t || t == p):= by decide +kernel
theorem C8g:C3k 0 []:=⟨0,rfl,by decide,by decide⟩
theorem D10 {u:Int} {q:List Nat} (hu:C3k u q) {p:Nat} (hp:p < 6):C3k (orI u ((2 ^ p:Nat):Int)) (q++[p]):= by
 obtain ⟨n,rfl,h1,h2⟩:=hu
 refine ⟨n ||| 2 ^ p,(C9q n h1 p hp).1,(C9q n h1 p hp).2,fun f hf=>?_⟩
 rw [D8u n h1 p hp f hf,h2 f hf,Bool.eq_iff_iff]
 simp
def B02 (n:Nat) (S k:Nat):List Nat:=(List.range n).filter fun i=>decide (k≤i) && bit S i
def A1q (r:DrRoom) (S k:Nat):List DrLook:=(B02 r.Persons.length S k).map fun i=>r.Persons[i]!
theorem B1z (n S k:Nat):B02 n S k = (List.range' k (n - k)).filter (bit S):= by
 unfold B02
 by_cases h:k≤n
 ·have e:List.range n = List.range k++List.range' k (n - k):= by
   rw [List.range_eq_range',List.range_eq_range',show List.range' k (n - k) = List.range' (0 + 1 * k) (n - k) by simp,List.range'_append]; congr 1; omega
  rw [e,List.filter_append,List.filter_eq_nil_iff.mpr (by
   intro i hi
   have:i < k:= by simpa using hi
   simp; omega),List.nil_append]
  refine List.filter_congr fun i hi=>?_
  rw [List.mem_range'_1] at hi
  rw [decide_eq_true hi.1,Bool.true_and]
 ·rw [show n - k = 0 by omega,List.range'_zero,List.filter_nil,List.filter_eq_nil_iff]
  intro i hi
  have:i < n:= by simpa using hi
  simp; omega
theorem B40 {n S k:Nat} (h:k < n):B02 n S k = if bit S k then k :: B02 n S (k + 1) else B02 n S (k + 1):= by
 rw [B1z,B1z,show n - k = (n - (k + 1)) + 1 by omega,List.range'_succ,List.filter_cons]
theorem D4z {n S k:Nat} (h:n≤k):B02 n S k = []:= by rw [B1z,show n - k = 0 by omega]; rfl
theorem C9y (r:DrRoom) (hP:r.Persons.length≤5) {S:Nat} (hS:S < 64):∀(d k:Nat),k + d = r.Persons.length →
  ∃ k':Nat,loop (B9c r (S:Int)) (k:Int) = some (k':Int)∧k≤k'∧k'≤r.Persons.length∧B02 r.Persons.length S k = B02 r.Persons.length S k'∧(k' < r.Persons.length→bit S k' = true):= by
 intro d k hk
 have key:∀(d k m:Nat),k + d = r.Persons.length→d < m→∃ k':Nat,A3s (B9c r (S:Int)) m (k:Int) = some (k':Int)∧k≤k'∧k'≤r.Persons.length∧B02 r.Persons.length S k = B02 r.Persons.length S k'∧(k' < r.Persons.length→bit S k' = true):= by
  intro d
  induction d with
  | zero =>
   intro k m hk hm
   obtain ⟨m',rfl⟩:∃m',m = m' + 1:=⟨m - 1,by omega⟩
   refine ⟨k,?_,Nat.le_refl _,by omega,rfl,fun c=>by omega⟩
   rw [H9]
   unfold B9c
   rw [if_neg (by simp; omega)]; rfl
  | succ d ih =>
   intro k m hk hm
   obtain ⟨m',rfl⟩:∃m',m = m' + 1:=⟨m - 1,by omega⟩
   have hb:(B1f ((S / 2 ^ k:Nat):Int) 1 == 0) = !bit S k:=and0 (Nat.lt_of_le_of_lt (Nat.div_le_self _ _) hS)
   have e:B9c r (S:Int) (k:Int) = if bit S k then some (.inr (k:Int)) else some (.inl ((k + 1:Nat):Int)):= by
    unfold B9c
    rw [if_pos (by simp; omega),C3h _ _ (by omega)]
    simp only [Option.bind_some]
    rw [hb,D9 (by omega)]
    cases bit S k <;> rfl
   cases hq:bit S k with
   | true =>
    refine ⟨k,?_,Nat.le_refl _,by omega,rfl,fun _=>hq⟩
    rw [H9,e,hq]; rfl
   | false =>
    obtain ⟨k',h1,h2,h3,h4,h5⟩:=ih (k + 1) m' (by omega) (by omega)
    refine ⟨k',?_,by omega,h3,?_,h5⟩
    ·rw [H9,e,hq]; exact h1
    ·rw [B40 (by omega),hq,← h4]; rfl
 exact key d k _ hk (by omega)
section
variable {σ ρ:Type}
theorem D5b {q:List Nat} {ps:List DrLook} {f:Nat} {p:DrLook} {l:List DrLook} (h:ps.drop q.length = p :: l):(q++[f]).zip ps = q.zip ps++[(f,p)]∧ps.drop (q++[f]).length = l:= by
 have hps:ps = ps.take q.length++p :: l:= by rw [← h,List.take_append_drop]
 have hlen:(ps.take q.length).length = q.length:= by
  have:q.length < ps.length:= by
   have:=congrArg List.length h
   rw [List.length_drop] at this; simp at this; omega
  rw [List.length_take]; omega
 constructor
 ·generalize ps.take q.length = a at *
  subst hps
  rw [List.zip_append hlen.symm]
  have:q.zip (a++p :: l) = q.zip a++([]:List Nat).zip (p :: l):= by
   rw [← List.zip_append hlen.symm,List.append_nil]
  rw [this]; simp
 ·rw [List.length_append,← List.drop_drop,h]; rfl
theorem D3x {r:DrRoom} (ok:RmOk r) {ch:Chg} (hch:C3o r ch) {S:Nat} (hS:S < 64) (ps:List DrLook) (hps:∀p ∈ ps,LkOk r (-1) p) (hpl:ps.length≤5) (body:dress_plan→σ→Option (σ ⊕ ρ)) :
  ∀ (d k:Nat) (q:List Nat) (u:Int) (s:σ) (X:σ ⊕ ρ) (m:Nat),ps.drop q.length = A1q r S k→(A1q r S k).length = d→k≤r.Persons.length→C3k u q→(∀ f ∈ q,f < r.Figures.length)→q.length + d = ps.length→d < m →
   X6 (fun q s=>body (J2 r (q.zip ps)) s) (DF r.Figures.length d q) s = some X→A8r r ch (S:Int) body m (k:Int) u (J2 r (q.zip ps)) s = some X:= by
 have hP:=ok.persons
 have hF:=ok.figures
 intro d
 induction d with
 | zero =>
  intro k q u s X m hd hl hk hu hq hlen hm hf
  obtain ⟨m',rfl⟩:∃m',m = m' + 1:=⟨m - 1,by omega⟩
  obtain ⟨k',h1,h2,h3,h4,h5⟩:=C9y r hP hS (r.Persons.length - k) k (by omega)
  have e:k' = r.Persons.length:= by
   by_cases c:k' < r.Persons.length
   ·unfold A1q at hl
    rw [h4,B40 c,h5 c] at hl
    simp at hl
   ·omega
  subst e
  unfold A8r
  rw [h1]
  simp only [Option.bind_some,BEq.rfl,if_true]
  unfold DF at hf
  unfold X6 at hf
  cases hb:body (J2 r (q.zip ps)) s with
  | none=>rw [hb] at hf; cases hf
  | some x=>rw [hb] at hf; cases x <;> cases hf <;> rfl
 | succ d ih =>
  intro k q u s X m hd hl hk hu hq hlen hm hf
  obtain ⟨m',rfl⟩:∃m',m = m' + 1:=⟨m - 1,by omega⟩
  obtain ⟨k',h1,h2,h3,h4,h5⟩:=C9y r hP hS (r.Persons.length - k) k (by omega)
  have c:k' < r.Persons.length:= by
   by_cases c:k' < r.Persons.length
   ·exact c
   ·unfold A1q at hl
    rw [h4,D4z (by omega)] at hl
    simp at hl
  have hsel:A1q r S k = r.Persons[k']! :: A1q r S (k' + 1):= by
   unfold A1q
   rw [h4,B40 c,h5 c]; rfl
  rw [hsel] at hd hl
  have hne:((k':Int) == (r.Persons.length:Int)) = false:= by simp; omega
  have hPk:LkOk r (-1) r.Persons[k']!:=ok.person _ (I4 c)
  have hz:B1e r (q.zip ps):=⟨by rw [List.length_zip]; omega,fun x hx=>by
   have:=List.of_mem_zip (a:=x.1) (b:=x.2) hx
   exact ⟨hq _ this.1,hps _ this.2⟩⟩
  unfold A8r
  rw [h1]
  simp only [Option.bind_some,hne,Bool.false_eq_true,if_false]
  unfold DF A89 at hf
  rw [B7t,A75] at hf
  have hloop:loop (B91 r ch (A8r r ch (S:Int) body m') (k':Int) u (J2 r (q.zip ps))) (0,s) = some (C91 X):= by
   have key:∀(j i m2:Nat) (s:σ),i + j = r.Figures.length→j < m2→X6 (fun f s=>if (!q.contains f) = true then X6 (fun q s=>body (J2 r (q.zip ps)) s) (DF r.Figures.length d (q++[f])) s else some (.inl s)) ((List.range r.Figures.length).drop i) s = some X →
     A3s (B91 r ch (A8r r ch (S:Int) body m') (k':Int) u (J2 r (q.zip ps))) m2 ((i:Int),s) = some (C91 X):= by
    intro j
    induction j with
    | zero =>
     intro i m2 s hi hm2 h
     obtain ⟨m3,rfl⟩:∃m3,m2 = m3 + 1:=⟨m2 - 1,by omega⟩
     rw [List.drop_of_length_le (by simp; omega)] at h
     cases h
     rw [H9]
     unfold B91
     simp only []
     rw [if_neg (by simp; omega)]; rfl
    | succ j ihj =>
     intro i m2 s hi hm2 h
     obtain ⟨m3,rfl⟩:∃m3,m2 = m3 + 1:=⟨m2 - 1,by omega⟩
     have hi2:i < (List.range r.Figures.length).length:= by simp; omega
     rw [List.drop_eq_getElem_cons hi2,List.getElem_range] at h
     obtain ⟨n,rfl,hn,hbit⟩:=hu
     have hb:(B1f ((n / 2 ^ i:Nat):Int) 1 == 1) = q.contains i:= by
      rw [and1 (Nat.lt_of_le_of_lt (Nat.div_le_self _ _) hn)]; exact hbit i (by omega)
     unfold X6 at h
     cases hc:q.contains i with
     | true =>
      have e:B91 r ch (A8r r ch (S:Int) body m') (k':Int) (n:Int) (J2 r (q.zip ps)) ((i:Int),s) = some (.inl (((i + 1:Nat):Int),s)):= by
       unfold B91
       simp only []
       rw [if_pos (by simp; omega),C3h _ _ (by omega)]
       simp only [Option.bind_some]
       rw [hb,hc,if_pos rfl,D9 (by omega)]; rfl
      rw [hc] at h
      rw [H9,e]
      exact ihj (i + 1) m3 s (by omega) (by omega) h
     | false =>
      rw [hc] at h
      simp only [Bool.not_false,if_true] at h
      obtain ⟨z1,z2⟩:=D5b (f:=i) hd
      cases hX:X6 (fun q s=>body (J2 r (q.zip ps)) s) (DF r.Figures.length d (q++[i])) s with
      | none=>rw [hX] at h; cases h
      | some Y =>
       rw [hX] at h
       have hr:=ih (k' + 1) (q++[i]) (orI (n:Int) ((2 ^ i:Nat):Int)) s Y m' (by rw [z2]) (by simpa using hl) (by omega) (D10 ⟨n,rfl,hn,hbit⟩ (by omega)) (fun f hf=>by
        rcases List.mem_append.mp hf with hf | hf
        ·exact hq f hf
        ·have:f = i:= by simpa using hf
         omega) (by rw [List.length_append]; simp; omega) (by omega) hX
       rw [z1] at hr
       have e:B91 r ch (A8r r ch (S:Int) body m') (k':Int) (n:Int) (J2 r (q.zip ps)) ((i:Int),s) = some (E1d i Y):= by
        unfold B91
        simp only []
        rw [if_pos (by simp; omega),C3h _ _ (by omega)]
        simp only [Option.bind_some]
        rw [hb,hc,if_neg (by decide)]
        have hg:=hch i k' (by omega) c
        unfold A4u
        rw [hg,Option.getD_some,C94 ok hz ⟨by omega,hPk⟩]
        simp only [Option.bind_some]
        rw [B0u i (by omega),D9 (n:=(k':Int) + 1) (by omega)]
        simp only [Option.bind_some]
        rw [show (((k':Nat):Int) + 1) = ((k' + 1:Nat):Int) from rfl,hr]
        cases Y with
        | inl s'=>simp only [Option.bind_some]; rw [D9 (by omega)]; rfl
        | inr x=>rfl
       rw [H9,e]
       cases Y with
       | inl s'=>exact ihj (i + 1) m3 s' (by omega) (by omega) h
       | inr x=>cases h; rfl
   exact key r.Figures.length 0 _ s (by omega) (by omega) hf
  rw [hloop]
  cases X <;> rfl
end
theorem B66 {n:Nat}:∀{d:Nat} {q p:List Nat},p ∈ DF n d q↔∃ t,p = q++t∧t.length = d∧t.Nodup∧∀ x ∈ t,x < n∧x ∉ q
 | 0,q,p=>by
  unfold DF
  rw [List.mem_singleton]
  constructor
  ·rintro rfl; exact ⟨[],by simp⟩
  ·rintro ⟨t,rfl,h,-,-⟩
   rw [List.length_eq_zero_iff.mp h,List.append_nil]
 | d + 1,q,p=>by
  unfold DF A89
  rw [List.mem_flatMap]
  constructor
  ·rintro ⟨f,hf,hp⟩
   obtain ⟨t,rfl,h1,h2,h3⟩:=B66.mp hp
   have hf:=List.mem_filter.mp hf
   have hfn:f < n:= by simpa using hf.1
   have hfq:f ∉ q:= by simpa using hf.2
   refine ⟨f :: t,by simp,by simp [h1],?_,?_⟩
   ·rw [List.nodup_cons]
    exact ⟨fun c=>(h3 f c).2 (by simp),h2⟩
   ·intro x hx
    rcases List.mem_cons.mp hx with rfl | hx
    ·exact ⟨hfn,hfq⟩
    ·have:=h3 x hx
     exact ⟨this.1,fun c=>this.2 (List.mem_append_left _ c)⟩
  ·rintro ⟨t,rfl,h1,h2,h3⟩
   cases t with
   | nil=>cases h1
   | cons f t =>
    rw [List.nodup_cons] at h2
    have hf:=h3 f (List.mem_cons_self ..)
    refine ⟨f,List.mem_filter.mpr ⟨by simpa using hf.1,by simpa using hf.2⟩,B66.mpr ⟨t,by simp,by simpa using h1,h2.2,fun x hx=>⟨(h3 x (List.mem_cons_of_mem _ hx)).1,fun c=>?_⟩⟩⟩
    rcases List.mem_append.mp c with c | c
    ·exact (h3 x (List.mem_cons_of_mem _ hx)).2 c
    ·have:x = f:= by simpa using c
     subst this; exact h2.1 hx
def perms (n d:Nat):List (List Nat):=DF n d []
theorem A2t {n d:Nat} {p:List Nat}:p ∈ perms n d↔p.length = d∧p.Nodup∧∀ x ∈ p,x < n:= by
 unfold perms
 rw [B66]
 constructor
 ·rintro ⟨t,rfl,h1,h2,h3⟩
  exact ⟨h1,h2,fun x hx=>(h3 x hx).1⟩
 ·rintro ⟨h1,h2,h3⟩
  exact ⟨p,rfl,h1,h2,fun x hx=>⟨h3 x hx,by simp⟩⟩
theorem C2q {α β:Type} {f:α→List β} {b:Nat}:∀{l:List α},(∀ x ∈ l,(f x).length≤b)→(l.flatMap f).length≤l.length * b
 | [],_=>by simp
 | x :: l,h=>by
  have h1:=h x (List.mem_cons_self ..)
  have ih:=C2q (l:=l) fun y hy=>h y (List.mem_cons_of_mem _ hy)
  rw [List.flatMap_cons,List.length_append,List.length_cons,Nat.succ_mul]; omega
theorem B6g {n:Nat} (hn:n≤6):∀(d:Nat) (q:List Nat),(DF n d q).length≤6 ^ d
 | 0,q=>by simp [DF]
 | d + 1,q=>by
  unfold DF
  have h1:(A89 n q).length≤6:= by
   unfold A89
   exact Nat.le_trans (List.length_filter_le _ _) (by simpa using hn)
  have:=C2q (l:=A89 n q) (f:=fun f=>DF n d (q++[f])) (b:=6 ^ d) fun f _=>B6g hn d _
  rw [Nat.pow_succ]
  calc _≤(A89 n q).length * 6 ^ d:=this
   _≤6 * 6 ^ d:=Nat.mul_le_mul_right _ h1
   _ = 6 ^ d * 6:=Nat.mul_comm _ _
theorem A30 {n d:Nat} (hn:n≤6) (hd:d≤5):(perms n d).length≤7776 :=
 Nat.le_trans (B6g hn d []) (Nat.le_trans (Nat.pow_le_pow_right (by decide) hd) (by decide))
def fm {α:Type} (k:α→Int):List α→Option α
 | []=>none
 | x :: l=>match fm k l with
  | none=>some x
  | some y=>if k y < k x then some y else some x
section
variable {α:Type} {k:α→Int}
theorem A6b:∀{l:List α},fm k l = none↔l = []
 | []=>⟨fun _=>rfl,fun _=>rfl⟩
 | x :: l=>by
  refine ⟨fun h=>?_,fun h=>by cases h⟩
  unfold fm at h
  split at h
  ·cases h
  ·split at h <;> cases h
theorem B2q:∀{l:List α} {b:α},fm k l = some b→(∀ y ∈ l,k b≤k y)∧∃ A B,l = A++b :: B∧∀ a ∈ A,k b < k a
 | [],b,h=>by cases h
 | x :: l,b,h=>by
  unfold fm at h
  cases hf:fm k l with
  | none =>
   rw [hf] at h; cases h
   rw [A6b.mp hf]
   exact ⟨by simp,[],[],rfl,by simp⟩
  | some y =>
   rw [hf] at h
   obtain ⟨h1,A,B,rfl,h3⟩:=B2q hf
   simp only at h
   split at h
   ·next c =>
    cases h
    refine ⟨fun z hz=>?_,x :: A,B,rfl,fun a ha=>?_⟩
    ·rcases List.mem_cons.mp hz with rfl | hz
     ·omega
     ·exact h1 z hz
    ·rcases List.mem_cons.mp ha with rfl | ha
     ·exact c
     ·exact h3 a ha
   ·next c =>
    cases h
    refine ⟨fun z hz=>?_,[],A++y :: B,rfl,by simp⟩
    rcases List.mem_cons.mp hz with rfl | hz
    ·exact Int.le_refl _
    ·have:=h1 z hz; omega
theorem A2d {l:List α} {b:α} (h:fm k l = some b):b ∈ l:= by
 obtain ⟨_,A,B,rfl,_⟩:=B2q h
 simp
theorem C4q {l:List α} {b:α} (h:fm k l = some b) {y:α} (hy:y ∈ l):k b≤k y:=(B2q h).1 y hy
theorem B6o (y:α):∀(l:List α),fm k (l++[y]) = match fm k l with
  | none=>some y
  | some b=>if k y < k b then some y else some b
 | []=>rfl
 | x :: l=>by
  show (match fm k (l++[y]) with | none=>some x | some z=>if k z < k x then some z else some x) = match (match fm k l with | none=>some x | some z=>if k z < k x then some z else some x) with | none=>some y | some b=>if k y < k b then some y else some b
  rw [B6o y l]
  cases fm k l with
  | none=>rfl
  | some b =>
   simp only
   by_cases c1:k b < k x <;> by_cases c2:k y < k b <;> by_cases c3:k y < k x <;> simp only [c1,c2,c3,if_true,if_false] <;> omega
theorem C4p {k':α→Int}:∀{l:List α},(∀ x ∈ l,k x = k' x)→fm k l = fm k' l
 | [],_=>rfl
 | x :: l,h=>by
  unfold fm
  rw [C4p fun y hy=>h y (List.mem_cons_of_mem _ hy),h x (List.mem_cons_self ..)]
  cases hf:fm k' l with
  | none=>rfl
  | some y=>simp only; rw [h y (List.mem_cons_of_mem _ (A2d hf))]
theorem C7b {β:Type} (g:β→α):∀(l:List β),fm k (l.map g) = (fm (fun x=>k (g x)) l).map g
 | []=>rfl
 | x :: l=>by
  rw [List.map_cons]
  unfold fm
  rw [C7b g l]
  cases fm (fun x=>k (g x)) l with
  | none=>rfl
  | some y =>
   simp only [Option.map_some]
   split <;> rfl
end
theorem D4k {r:DrRoom} {z:Prs} (h:z.length≤5):A2q (J2 r z) = some (J2 r z):= by
 have hl:(ints (z.map (·.1))).length = z.length:= by rw [F5,List.length_map]
 unfold A2q
 show (C1l 8 ((ints (z.map (·.1))).length:Int) 0).bind _ = _
 rw [hl]
 unfold C1l
 rw [if_pos ⟨by omega,by omega,by omega⟩]
 simp only [Option.bind_some,Option.some.injEq]
 have:cpy (List.replicate (z.length:Int).toNat (0:Int)) (ints (z.map (·.1))) = ints (z.map (·.1)):= by
  unfold cpy
  rw [List.length_replicate,Int.toNat_natCast,hl,Nat.min_self,List.take_of_length_le (by omega),List.drop_of_length_le (by simp),List.append_nil]
 show (⟨cpy _ (ints (z.map (·.1))),_,_⟩:dress_plan) = _
 rw [this]; rfl
section
variable {α β ρ:Type}
theorem A6s {f:α→List β→Option (List β ⊕ ρ)} {p:α→Bool} {g:α→β}:∀{l:List α} {s:List β},s.length + l.length≤1000000000→(∀ a ∈ l,∀ s:List β,s.length < 1000000000→f a s = some (.inl (if p a then s++[g a] else s)))→X6 f l s = some (.inl (s++(l.filter p).map g))
 | [],s,_,_=>by simp [X6]
 | a :: l,s,hl,h=>by
  rw [List.length_cons] at hl
  unfold X6
  rw [h a (List.mem_cons_self ..) s (by omega)]
  simp only [Option.bind_some]
  have hq:(if p a then s++[g a] else s).length + l.length≤1000000000:= by
   split
   ·rw [List.length_append,List.length_singleton]; omega
   ·omega
  rw [A6s hq fun b hb=>h b (List.mem_cons_of_mem _ hb),List.filter_cons]
  cases p a <;> simp
end
structure PsOk (r:DrRoom) (ps:List DrLook):Prop where
 len:ps.length≤5
 look:∀p ∈ ps,LkOk r (-1) p
theorem PsOk.pr {r:DrRoom} {ps:List DrLook} (h:PsOk r ps) {q:List Nat} (hq:q ∈ perms r.Figures.length ps.length):B1e r (q.zip ps):= by
 have hq:=A2t.mp hq
 refine ⟨by rw [List.length_zip]; have:=h.len; omega,fun x hx=>?_⟩
 have:=List.of_mem_zip (a:=x.1) (b:=x.2) hx
 exact ⟨hq.2.2 _ this.1,h.look _ this.2⟩
def AL (r:DrRoom) (ps:List DrLook):List (List Nat):=(perms r.Figures.length ps.length).filter fun q=>A5j r (q.zip ps)
theorem C6u {r:DrRoom} {ps:List DrLook} {q:List Nat}:q ∈ AL r ps↔(q.length = ps.length∧q.Nodup∧∀ x ∈ q,x < r.Figures.length)∧A5j r (q.zip ps) = true:= by
 unfold AL; rw [List.mem_filter,A2t]
theorem B6e {r:DrRoom} (ok:RmOk r) {ps:List DrLook} (h:PsOk r ps):(AL r ps).length≤7776 :=
 Nat.le_trans (List.length_filter_le _ _) (A30 ok.figures h.len)
theorem C3g {r:DrRoom} (ok:RmOk r) (S k:Nat):PsOk r (A1q r S k):= by
 refine ⟨?_,fun p hp=>?_⟩
 ·unfold A1q B02
  rw [List.length_map]
  have:=List.length_filter_le (fun i=>decide (k≤i) && bit S i) (List.range r.Persons.length)
  have:=ok.persons
  simp at *; omega
 ·unfold A1q B02 at hp
  obtain ⟨i,hi,rfl⟩:=List.mem_map.mp hp
  have:i < r.Persons.length:= by simpa using (List.mem_filter.mp hi).1
  exact ok.person _ (I4 this)
theorem B8t {σ ρ:Type} {r:DrRoom} (ok:RmOk r) {ch:Chg} (hch:C3o r ch) {S:Nat} (hS:S < 64) (body:dress_plan→σ→Option (σ ⊕ ρ)) {s:σ} {X:σ ⊕ ρ}
  (h:X6 (fun q s=>body (J2 r (q.zip (A1q r S 0))) s) (perms r.Figures.length (A1q r S 0).length) s = some X):A8g r ch (S:Int) σ ρ body s = some X:= by
 have hp:=C3g ok S 0
 unfold A8g
 have:=D3x ok hch hS (A1q r S 0) hp.look hp.len body (A1q r S 0).length 0 [] 0 s X 64 rfl rfl (Nat.zero_le _) C8g (by simp) (by simp) (by have:=hp.len; omega) h
 rw [C30 ok]
 exact this
theorem C90 {r:DrRoom} (ok:RmOk r) {ch:Chg} (hch:C3o r ch) {S:Nat} (hS:S < 64):T1 r ch (S:Int) = some ((AL r (A1q r S 0)).map fun q=>J2 r (q.zip (A1q r S 0))):= by
 have hp:=C3g ok S 0
 have hF:=ok.figures
 have hsz:=A30 hF hp.len
 unfold T1
 rw [B8t ok hch hS B0v (s:=[]) (X:=.inl ((AL r (A1q r S 0)).map fun q=>J2 r (q.zip (A1q r S 0)))) (by
  have:=A6s (ρ:=Unit) (l:=perms r.Figures.length (A1q r S 0).length) (s:=([]:List dress_plan)) (f:=fun q s=>B0v (J2 r (q.zip (A1q r S 0))) s) (p:=fun q=>A5j r (q.zip (A1q r S 0))) (g:=fun q=>J2 r (q.zip (A1q r S 0))) (by simp; omega) (fun q hq s hs=>by
   have hz:=hp.pr hq
   unfold B0v
   rw [B7b ok hz]
   simp only [Option.bind_some]
   cases A5j r (q.zip (A1q r S 0)) with
   | false=>rfl
   | true =>
    rw [if_pos rfl,D4k hz.1]
    simp only [Option.bind_some]
    rw [Q8 (by omega) (by simp; omega)]; rfl)
  rw [this]; rfl)]
 rfl
theorem less1 (p q:dress_plan):B28 by1 p q = some (decide (p.cost_ < q.cost_)):= by
 unfold B28
 have h1:∀i:Nat,i = 0→P3 by1 p q (i:Int) = some (if p.cost_ = q.cost_ then .inl 1 else .inr (.inl (decide (p.cost_ < q.cost_)))):= by
  rintro i rfl
  unfold P3
  rw [if_pos (by decide)]
  rw [show idx by1 ((0:Nat):Int) = some (94,W0) from rfl]
  simp only [Option.bind_some,W0]
  by_cases c:p.cost_ = q.cost_
  ·rw [if_neg (by simp [c]),if_pos c]; rfl
  ·rw [if_pos (by simpa using c),if_neg c]
 have h2:P3 by1 p q 1 = some (.inr (.inr ())):= by unfold P3; rw [if_neg (by decide)]
 by_cases c:p.cost_ = q.cost_
 ·have:=H7 (b:=P3 by1 p q) (fun i=>(i:Int)) 1 (r:=.inr ()) (by omega) (fun i hi=>by rw [h1 i (by omega),if_pos c]; congr 2; omega) h2
  rw [show (0:Int) = ((0:Nat):Int) from rfl,this,c]; simp
 ·have:=H7 (b:=P3 by1 p q) (fun i=>(i:Int)) 0 (r:=.inl (decide (p.cost_ < q.cost_))) (by omega) (fun i hi=>absurd hi (Nat.not_lt_zero i)) (by rw [h1 0 rfl,if_neg c])
  rw [show (0:Int) = ((0:Nat):Int) from rfl,this]; rfl
instance:Inhabited dress_plan:=⟨plan0⟩
theorem C0y (l:List dress_plan) (g:dress_plan × dress_plan→Option Bool) (k:dress_plan→Int) (hl:l.length < 1000000000) (hg:∀x ∈ l,∀ y ∈ l,g (x,y) = some (decide (k x < k y))) :
  M8 l g = some (match fm k l with | none=>(plan0,false) | some b=>(b,true)):= by
 unfold M8
 have:=H7 (b:=I9 l g) (fun i=>((match fm k (l.take i) with | none=>(false,(i:Int),plan0) | some b=>(true,(i:Int),b)):Bool × Int × dress_plan)) l.length (r:=match fm k l with | none=>(false,plan0) | some b=>(true,b)) (by omega) (fun i hi=>by
  have hsn:fm k (l.take (i + 1)) = match fm k (l.take i) with | none=>some l[i]! | some b=>if k l[i]! < k b then some l[i]! else some b:= by
   rw [List.take_succ_eq_append_getElem hi,B6o,getElem!_pos l i hi]
   cases fm k (l.take i) <;> rfl
  rw [hsn]
  cases hf:fm k (l.take i) with
  | none =>
   have h0:i = 0:= by
    have:=congrArg List.length (A6b.mp hf)
    rw [List.length_take,List.length_nil] at this; omega
   subst h0
   unfold I9
   simp only []
   rw [if_pos (by simpa using hi),G4 hi]; rfl
  | some b =>
   have h0:i ≠ 0:= by rintro rfl; cases hf
   have hb:b ∈ l:=List.mem_of_mem_take (A2d hf)
   unfold I9
   simp only []
   rw [if_pos (by simpa using hi),G4 hi]
   simp only [Option.bind_some]
   rw [if_neg (by simp; omega),hg _ (I4 hi) b hb,D9 (by omega)]
   simp only [Option.bind_some]
   by_cases c:k l[i]! < k b
   ·rw [if_pos (by simpa using c),if_pos c]; rfl
   ·rw [if_neg (by simpa using c),if_neg c]; rfl) (by
  rw [List.take_length]
  cases fm k l with
  | none=>unfold I9; simp only []; rw [if_neg (by simp)]
  | some b=>unfold I9; simp only []; rw [if_neg (by simp)])
 rw [show ((false,0,(dress_plan.mk ([]:List Int) 0 (Ar4.mk 0 0 0 0))):Bool × Int × dress_plan) = (match fm k (l.take 0) with | none=>(false,((0:Nat):Int),plan0) | some b=>(true,((0:Nat):Int),b)) from rfl,this]
 simp only [Option.bind_some]
 cases fm k l <;> rfl
def T7 (r:DrRoom) (ps:List DrLook) (q:List Nat):Int:=A1s r (q.zip ps)
def Q0 (r:DrRoom) (ps:List DrLook):Option (List Nat):=fm (T7 r ps) (AL r ps)
theorem B6k {r:DrRoom} (ok:RmOk r) {ch:Chg} (hch:C3o r ch) {S:Nat} (hS:S < 64) :
  Q2 r ch (S:Int) = some (match Q0 r (A1q r S 0) with | none=>(plan0,false) | some q=>(J2 r (q.zip (A1q r S 0)),true)):= by
 unfold Q2
 rw [C90 ok hch hS]
 simp only [Option.bind_some]
 rw [C0y _ _ (fun p=>p.cost_) (by rw [List.length_map]; have:=B6e ok (C3g ok S 0); omega) (fun x _ y _=>less1 x y),C7b]
 unfold Q0
 rw [show (fun x=>(J2 r (x.zip (A1q r S 0))).cost_) = T7 r (A1q r S 0) from rfl]
 cases fm (T7 r (A1q r S 0)) (AL r (A1q r S 0)) <;> rfl
end Ds
end
section
set_option maxRecDepth 100000
set_option maxHeartbeats 0
namespace Ds
open Go Am Go.Proofs.Ytdkflofgolehkaa.Cd
end Ds
end
section
set_option maxRecDepth 100000
namespace Ds
open Go Am Go.Proofs.Ytdkflofgolehkaa.Cd
end Ds
end
section
set_option maxRecDepth 100000
set_option maxHeartbeats 0
namespace Ds
open Go Am Go.Proofs.Ytdkflofgolehkaa.Cd
end Ds
end
section
namespace Ds
open Go Am
theorem B0q {r:DrRoom} {q:List Nat} (h:q ∈ perms r.Figures.length r.Persons.length):QOk r q:= by
 have:=A2t.mp h
 exact ⟨by omega,this.2.2⟩
def A2m (r:DrRoom):List Int × Int × Int :=
 if (chk r).2.2 ≠ 0 then ([],0,(chk r).2.2) else
 match Q0 r r.Persons with
 | none=>([],0,9)
 | some q=>(ints q,T7 r r.Persons q,0)
theorem D4y {n S:Nat} (h:∀i,i < n→bit S i = true):B02 n S 0 = List.range n:= by
 unfold B02
 rw [List.filter_eq_self]
 intro i hi
 rw [h i (by simpa using hi)]; simp
theorem C1k {α:Type} [Inhabited α] (l:List α):(List.range l.length).map (fun i=>l[i]!) = l:= by
 apply List.ext_getElem
 ·simp
 ·intro i h1 h2
  rw [List.getElem_map,List.getElem_range,getElem!_pos l i h2]
theorem D40 {r:DrRoom} {S:Nat} (h:∀i,i < r.Persons.length→bit S i = true):A1q r S 0 = r.Persons:= by
 unfold A1q
 rw [D4y h,C1k]
theorem C8i:∀n:Nat,n < 6→∀ i:Nat,i < n→bit (2 ^ n - 1) i = true:= by decide
theorem A92 {r:DrRoom} (ok:RmOk r):J8 ⟨r⟩ = some ((2 ^ r.Persons.length - 1:Nat):Int):= by
 have hP:=ok.persons
 unfold J8
 show (C0e .i64 1 (r.Persons.length:Int)).bind _ = _
 rw [B0u _ (by omega)]
 simp only [Option.bind_some,Option.some.injEq]
 have h1:0 < 2 ^ r.Persons.length:=Nat.two_pow_pos _
 have h2:2 ^ r.Persons.length≤32:=Nat.le_trans (Nat.pow_le_pow_right (by decide) hP) (by decide)
 rw [D9 (by omega)]; omega
theorem A93 {r:DrRoom} (ok:RmOk r):2 ^ r.Persons.length - 1 < 64:= by
 have:2 ^ r.Persons.length≤32:=Nat.le_trans (Nat.pow_le_pow_right (by decide) ok.persons) (by decide)
 omega
theorem A52 {r:DrRoom} (ok:RmOk r):A1q r (2 ^ r.Persons.length - 1) 0 = r.Persons :=
 D40 fun i hi=>C8i _ (by have:=ok.persons; omega) i hi
theorem C96 {q:List Nat} {ps:List DrLook} (h:q.length = ps.length):(q.zip ps).map (·.1) = q:=List.map_fst_zip (by omega)
theorem C6t {r:DrRoom} {ps:List DrLook} {q:List Nat} (h:q ∈ AL r ps):q.length = ps.length:=(C6u.mp h).1.1
theorem B6f (r:DrRoom) (hb:NB r):W8 r = some (A2m r):= by
 unfold W8 A2m
 rw [A5h r hb]
 simp only [Option.bind_some]
 by_cases h0:(chk r).2.2 = 0
 ·obtain ⟨ok,-⟩:=(M7 r).mp h0
  obtain ⟨ch,e1,hch⟩:=C0q ok
  have hr:∀(a b:List Int × Int × Int),(if (chk r).2.2 ≠ 0 then a else b) = b:=fun a b=>if_neg (fun c=>c h0)
  rw [hr,if_neg (by simp [h0]),show loop (A6q r) (0,[]) = some ch from e1,A92 ok]
  simp only [Option.bind_some]
  rw [B6k ok hch (A93 ok),A52 ok]
  simp only [Option.bind_some]
  cases hb:Q0 r r.Persons with
  | none=>rfl
  | some q =>
   have hl:=C6t (A2d hb)
   show some (ints ((q.zip r.Persons).map (·.1)),_,_) = _
   rw [C96 hl]; rfl
 ·rw [if_pos h0,if_pos (by simpa using h0)]
end Ds
end
section
set_option maxRecDepth 100000
namespace Ds
open Go Am
end Ds
end
section
set_option maxRecDepth 100000
set_option maxHeartbeats 0
namespace Ds
open Go Am Go.Proofs.Ytdkflofgolehkaa.Cd
end Ds
end
section
namespace Ds
open Go Am
def CL (r:DrRoom) (ps:List DrLook) (b:List Nat):List (List Nat):=(AL r ps).filter fun q=>T7 r ps q == T7 r ps b
theorem B2i {r:DrRoom} (ok:RmOk r) {ps:List DrLook} (h:ps.length≤5) (q:List Nat):0≤T7 r ps q∧T7 r ps q≤2000:= by
 have:=A49 ok (q.zip ps)
 have hl:(q.zip ps).length≤5:= by rw [List.length_zip]; omega
 unfold T7; omega
end Ds
end
section
set_option maxRecDepth 100000
set_option maxHeartbeats 0
namespace Ds
open Go Am Go.Proofs.Ytdkflofgolehkaa.Cd
end Ds
end
section
set_option maxRecDepth 100000
namespace Ds
open Go Am Go.Proofs.Ytdkflofgolehkaa.Cd
def arP (p:Bool) (l:List Int):AO:=.arr 1 p (l.map cI)
theorem A4p {α:Type} {l:List α} {i:Nat} {x:α} (h:l[i]? = some x):l.set i x = l:= by
 apply List.ext_getElem?
 intro k
 by_cases e:i = k
 ·subst e; rw [List.getElem?_set_self (List.getElem?_eq_some_iff.1 h).1,h]
 ·rw [List.getElem?_set_ne e]
structure AnyG (room:List AV) where
 L:List AO
 j:Nat
 h0:L[0]? = some (.cells room)
 h2:2 < L.length
 hj:j < L.length
 j0:j ≠ 0
 j2:j ≠ 2
def AnyG.M {room:List AV} (g:AnyG room) (s:Int × List Int × List Int):List AO:=(g.L.set 2 (arP false s.2.1)).set g.j (arP false s.2.2)
end Ds
end
section
set_option maxRecDepth 100000
set_option maxHeartbeats 0
namespace Ds
open Go Am Go.Proofs.Ytdkflofgolehkaa.Cd
def A2s (a0:DrRoom):Option Bool :=
 (S6 a0).bind fun x1 =>
 some (x1.2.2 == 0)
theorem A9p {c:Sc} {H:A1} {a0:DrRoom} {r:Bool} (h:A2s a0 = some r) :
  F0 tab c H (.fn (.func 37) [] []) [(.agg (A3 a0))] [.b r]:= by
 unfold A2s at h
 refine cE rfl rfl<|sg 0 rfl<|A0 (F6 (cs:=A3 a0) rfl rfl rfl) rfl<|qm rfl<|es (ra1 rfl)<|s0<|oB h fun x1 hx1 h=>A0 (C2 rfl rfl rfl) rfl<|B4 (rs:=[.i x1.1,.i x1.2.1,.i x1.2.2]) rfl rfl (A2 (C9 rfl) B5) ((U8 hx1).frz)<|qm rfl<|A0 (A5 rfl rfl) rfl<|A0 (A5 rfl rfl) rfl<|A0 (A5 rfl rfl) rfl<|qm rfl<|qm rfl<|qm rfl<|es (ra1 rfl)<|s0<|qm rfl<|A0 (F7 rfl rfl) rfl<|qm rfl<|es (ra1 rfl)<|C4 ?_
 obtain rfl:=os h
 exact retq trivial (B1 rfl B8) (A7 rfl B9) (A4 A8 B2)
end Ds
end
section
namespace Ds
open Go Am
theorem C6h (h:DrRoom):A2s h = some ((chk h).2.2 == 0):= by
 unfold A2s
 rw [A0a]; rfl
end Ds
end
section
set_option maxRecDepth 100000
set_option maxHeartbeats 0
namespace Ds
open Go Am Go.Proofs.Ytdkflofgolehkaa.Cd
end Ds
end
section
namespace Ds
open Go Am
def kB (r:DrRoom) (q:List Nat):Int:=3000 * sm (R4 r (prs r q)) + A1s r (prs r q)
def C33 (r:DrRoom):Option (List Nat):=fm (kB r) (perms r.Figures.length r.Persons.length)
def A68 (r:DrRoom):List Int × Int × Int :=
 if (chk r).2.2 ≠ 0 then ([],0,(chk r).2.2) else
 match C33 r with
 | none=>([],0,9)
 | some q=>(R4 r (prs r q),A1s r (prs r q),0)
theorem B0h (r:DrRoom) (z:Prs):(R4 r z).length = r.Ounces.length:= by unfold R4; simp
theorem D3m {a b c d:Int} (h1:0≤c∧c≤2000) (h2:0≤d∧d≤2000):(3000 * a + c < 3000 * b + d)↔(a < b∨a = b∧c < d):= by omega
def kP (p:dress_plan):Int:=3000 * ((I1 p).map (·.2)).getD 0 + p.cost_
theorem buy1 {p:dress_plan} {u:Ar4 Int × Int} (h:I1 p = some u):A2p p = some u.2:= by
 unfold A2p; rw [h]; rfl
theorem less2 {p q:dress_plan} {u v:Ar4 Int × Int} (hp:I1 p = some u) (hq:I1 q = some v):B28 by2 p q = some (decide (u.2 < v.2∨u.2 = v.2∧p.cost_ < q.cost_)):= by
 unfold B28
 have h0:P3 by2 p q 0 = some (if u.2 = v.2 then .inl 1 else .inr (.inl (decide (u.2 < v.2)))):= by
  unfold P3
  rw [if_pos (by decide),show idx by2 0 = some (74,A2p) from rfl]
  simp only [Option.bind_some]
  rw [buy1 hp,buy1 hq]
  simp only [Option.bind_some]
  by_cases c:u.2 = v.2
  ·rw [if_neg (by simp [c]),if_pos c]; rfl
  ·rw [if_pos (by simpa using c),if_neg c]
 have h1:P3 by2 p q 1 = some (if p.cost_ = q.cost_ then .inl 2 else .inr (.inl (decide (p.cost_ < q.cost_)))):= by
  unfold P3
  rw [if_pos (by decide),show idx by2 1 = some (76,A4e) from rfl]
  simp only [Option.bind_some,A4e]
  by_cases c:p.cost_ = q.cost_
  ·rw [if_neg (by simp [c]),if_pos c]; rfl
  ·rw [if_pos (by simpa using c),if_neg c]
 have h2:P3 by2 p q 2 = some (.inr (.inr ())):= by unfold P3; rw [if_neg (by decide)]
 have one:∀{m:Nat} {s:Int} {x:Int ⊕ (Bool ⊕ Unit)},P3 by2 p q s = some x→A3s (P3 by2 p q) (m + 1) s = match x with | .inl s'=>A3s (P3 by2 p q) m s' | .inr y=>some y:= by
  intro m s x h
  rw [H9,h]
  cases x <;> rfl
 by_cases c:u.2 = v.2
 ·by_cases d:p.cost_ = q.cost_
  ·have:loop (P3 by2 p q) 0 = some (.inr ()):=H7 (b:=P3 by2 p q) (fun i=>(i:Int)) 2 (r:=.inr ()) (by omega) (fun i hi=>by
    rcases (show i = 0∨i = 1 by omega) with rfl | rfl
    ·exact h0.trans (by rw [if_pos c]; rfl)
    ·exact h1.trans (by rw [if_pos d]; rfl)) h2
   rw [this]; simp [c,d]
  ·have:loop (P3 by2 p q) 0 = some (.inl (decide (p.cost_ < q.cost_))):=H7 (b:=P3 by2 p q) (fun i=>(i:Int)) 1 (r:=.inl (decide (p.cost_ < q.cost_))) (by omega) (fun i hi=>by
    rcases (show i = 0 by omega) with rfl
    exact h0.trans (by rw [if_pos c]; rfl)) (h1.trans (by rw [if_neg d]))
   rw [this,c]; simp
 ·have:loop (P3 by2 p q) 0 = some (.inl (decide (u.2 < v.2))):=H7 (b:=P3 by2 p q) (fun i=>(i:Int)) 0 (r:=.inl (decide (u.2 < v.2))) (by omega) (fun i hi=>absurd hi (Nat.not_lt_zero i)) (h0.trans (by rw [if_neg c]))
  rw [this]; simp [c]
theorem D3k {r:DrRoom} (ok:RmOk r) {z:Prs} (hz:B1e r z):kP (J2 r z) = 3000 * sm (R4 r z) + A1s r z:= by
 unfold kP
 rw [A9e ok hz]; rfl
theorem D3o {r:DrRoom} (ok:RmOk r) (z:Prs):slc (Ar4.l (⟨below (E2 r z 0),below (E2 r z 1),below (E2 r z 2),below (E2 r z 3)⟩:Ar4 Int)) 0 (r.Ounces.length:Int) = some (R4 r z):= by
 have hO:=ok.ounces
 unfold R4
 rcases (show r.Ounces.length = 1∨r.Ounces.length = 2∨r.Ounces.length = 3∨r.Ounces.length = 4 by omega) with h | h | h | h <;> rw [h] <;> rfl
theorem D7v {r:DrRoom} (ok:RmOk r) {ch:Chg} (hch:C3o r ch):A8g r ch ((2 ^ r.Persons.length - 1:Nat):Int) (List dress_plan) Unit B1g [] = some (.inl ((perms r.Figures.length r.Persons.length).map fun q=>J2 r (prs r q))):= by
 have hsz:=A30 ok.figures ok.persons
 have hps:PsOk r r.Persons:=⟨ok.persons,ok.person⟩
 refine B8t ok hch (A93 ok) B1g (s:=[]) ?_
 rw [A52 ok]
 have:=A6s (ρ:=Unit) (l:=perms r.Figures.length r.Persons.length) (s:=([]:List dress_plan)) (f:=fun q s=>B1g (J2 r (q.zip r.Persons)) s) (p:=fun _=>true) (g:=fun q=>J2 r (q.zip r.Persons)) (by simp; omega) (fun q hq s hs=>by
  have hz:=hps.pr hq
  unfold B1g
  rw [D4k hz.1]
  simp only [Option.bind_some]
  rw [Q8 (by omega) (by simp; omega)]; rfl)
 rw [this,List.nil_append,List.filter_eq_self.mpr (fun _ _=>rfl)]; rfl
theorem D15 (r:DrRoom) (hb:NB r):A2o r = some (A68 r):= by
 unfold A2o A68
 rw [A5h r hb]
 simp only [Option.bind_some]
 by_cases h0:(chk r).2.2 = 0
 ·obtain ⟨ok,-⟩:=(M7 r).mp h0
  have hO:=ok.ounces
  obtain ⟨ch,e1,hch⟩:=C0q ok
  have hr:∀{α:Type} (a b:α),(if (chk r).2.2 ≠ 0 then a else b) = b:=fun a b=>if_neg (fun c=>c h0)
  rw [hr,if_neg (by simp [h0]),show loop (L2 r) (0,[]) = some ch from e1,A92 ok]
  simp only [Option.bind_some]
  rw [D7v ok hch]
  simp only [Option.bind_some]
  have hsz:=A30 ok.figures ok.persons
  have hps:PsOk r r.Persons:=⟨ok.persons,ok.person⟩
  have hz:∀q ∈ perms r.Figures.length r.Persons.length,B1e r (prs r q):=fun q hq=>hps.pr hq
  rw [C0y _ _ kP (by rw [List.length_map]; omega) (fun x hx y hy=>by
   obtain ⟨p,hp,rfl⟩:=List.mem_map.mp hx
   obtain ⟨q,hq,rfl⟩:=List.mem_map.mp hy
   have zp:=hz p hp
   have zq:=hz q hq
   rw [less2 (A9e ok zp) (A9e ok zq),D3k ok zp,D3k ok zq]
   congr 1
   rw [decide_eq_decide]
   have b1:=A49 ok (prs r p)
   have b2:=A49 ok (prs r q)
   have l1:=zp.1
   have l2:=zq.1
   exact (D3m (c:=A1s r (prs r p)) (d:=A1s r (prs r q)) (by omega) (by omega)).symm),C7b]
  unfold C33
  rw [C4p (k':=kB r) (fun q hq=>D3k ok (hz q hq))]
  cases hf:fm (kB r) (perms r.Figures.length r.Persons.length) with
  | none=>rfl
  | some q =>
   have zq:=hz q (A2d hf)
   have hll:=B0h r (prs r q)
   simp only [Option.map_some,Bool.not_true,Bool.false_eq_true,if_false]
   simp only [Option.bind_some,Bool.not_true,Bool.false_eq_true,if_false]
   rw [A9e ok zq]
   simp only [Option.bind_some]
   rw [D3o ok]
   simp only [Option.bind_some]
   rw [Q8 (by omega) (by simp; omega)]; rfl
 ·rw [if_pos h0,if_pos (by simpa using h0)]
end Ds
end
section
set_option maxRecDepth 100000
set_option maxHeartbeats 0
namespace Ds
open Go Am Go.Proofs.Ytdkflofgolehkaa.Cd
def P8 (a0:DrRoom) (s4:(Int × DrRoom)):Option ((Int × DrRoom) ⊕ DrRoom) :=
 if (decide (s4.1 ≥ 0)) = true then
  (app 48 ([]:List DrLook) s4.2.Figures).bind fun x7 =>
  (idx a0.Figures s4.1).bind fun x8 =>
  (app 48 x7 [x8]).bind fun x9 =>
  some (.inl ((w64 (s4.1 - 1)),(DrRoom.mk s4.2.Costs s4.2.Ounces x9 s4.2.Persons)))
 else
  some (.inr s4.2)
def P9 (a0:DrRoom) (s11:(Int × DrRoom)):Option ((Int × DrRoom) ⊕ DrRoom) :=
 if (decide (s11.1 < (List.length a0.Costs:Int))) = true then
  (app 8 ([]:List Int) s11.2.Costs).bind fun x14 =>
  (idx a0.Costs s11.1).bind fun x15 =>
  (app 8 x14 [(w64 (2 * x15))]).bind fun x16 =>
  some (.inl ((w64 (s11.1 + 1)),(DrRoom.mk x16 s11.2.Ounces s11.2.Figures s11.2.Persons)))
 else
  some (.inr s11.2)
def N3 (x20:((List Int) × Int × Int)) (x21:((List Int) × Int × Int)) (s22:(Int × Int)):Option ((Int × Int) ⊕ Int) :=
 if ((decide (s22.2 < (List.length x20.1:Int))) && (decide (s22.2 < (List.length x21.1:Int)))) = true then
  (idx x20.1 s22.2).bind fun x26 =>
  (idx x21.1 s22.2).bind fun x27 =>
  some (.inl ((w64 ((w64 (s22.1 + x26)) - x27)),(w64 (s22.2 + 1))))
 else
  some (.inr s22.1)
def A1j (a0:DrRoom):Option Bool :=
 (A2s a0).bind fun x1 =>
 if (!x1) = true then
  (T9).bind fun x3 =>
  some x3
 else
  (loop (P8 a0) ((w64 ((List.length a0.Figures:Int) - 1)),(DrRoom.mk a0.Costs a0.Ounces ([]:List DrLook) a0.Persons))).bind fun (o10:DrRoom) =>
  (loop (P9 a0) (0,(DrRoom.mk ([]:List Int) a0.Ounces a0.Figures a0.Persons))).bind fun (o17:DrRoom) =>
  (W8 a0).bind fun x18 =>
  (W8 o10).bind fun x19 =>
  (A2o a0).bind fun x20 =>
  (A2o o10).bind fun x21 =>
  (loop (N3 x20 x21) (0,0)).bind fun (o28:Int) =>
  if ((((((x18.2.1 != x19.2.1) || (x18.2.2 != x19.2.2)) || ((List.length x20.1:Int) != (List.length x21.1:Int))) || (o28 != 0)) || (x20.2.1 != x21.2.1)) || (x20.2.2 != x21.2.2)) = true then
  some false
  else
  (A2s o17).bind fun x35 =>
  if (!x35) = true then
   (T9).bind fun x37 =>
   some x37
  else
   (W8 o17).bind fun x38 =>
   (K5 x38.1 x18.1).bind fun x39 =>
   (if ((x39 && (x38.2.1 == (w64 (2 * x18.2.1)))) && (x38.2.2 == x18.2.2)) = true then
   (T9).bind fun x43 =>
   some x43
   else
   some false).bind fun x44 =>
   some x44
theorem B00 {c:Sc} {H:A1} (hscv:S8 c H = true) {a0:DrRoom} {r:Bool} (h:A1j a0 = some r) :
  F0 tab c H (.fn (.func 15) [] []) [(.agg (A3 a0))] [.b r]:= by
 unfold A1j at h
 refine cE rfl rfl<|sg 0 rfl<|A0 (F6 (cs:=A3 a0) rfl rfl rfl) rfl<|qm rfl<|es (ra1 rfl)<|B6<|s0<|oB h fun x1 hx1 h=>A0 (C2 rfl rfl rfl) rfl<|B4 (rs:=[.b x1]) rfl rfl (A2 (C9 rfl) B5) ((A9p hx1).frz)<|A0 (S7 rfl) rfl<|es (ra2 rfl rfl)<|wi h rfl (fun hc2 h=>?_) fun hc2 h=>?_
 ·refine s0<|oB h fun x3 hx3 h=>B4 (rs:=[.b x3]) rfl rfl B5 ((U7 (A1b hscv) hx3).frz)<|qm rfl<|es (ra1 rfl)<|C4 ?_
  obtain rfl:=os h
  exact retq trivial (B1 rfl B8) (A7 rfl B9) (A4 A8 B2)
 ·refine C1<|sg 1 rfl<|K4 [1,2] (P1 [1,2] rfl F8 rfl rfl) (seen0 rfl) (C2 rfl rfl rfl) rfl<|A0 E4 rfl<|A0 E4 rfl<|A4a [0] [(.cells (A3 a0)),(.cells (A3 a0)),(.cells (A3 (DrRoom.mk ([]:List Int) ([]:List Int) ([]:List DrLook) ([]:List DrLook))))] (P1 [] rfl (A20 rfl A0z F8) rfl rfl) (seen0 rfl) (D1 (ds:=(A3 a0)) rfl rfl rfl rfl (C5 rfl) rfl) rfl rfl rfl<|K4 [1,2] (P1 [1,2] rfl F8 rfl rfl) (A46 (b:=H.length + 0) rfl (A0q (T6 _ rfl) A3o)) (C2 rfl rfl rfl) rfl<|I0 (D1 (ds:=(A3 a0)) rfl rfl rfl rfl (C5 rfl) rfl) rfl<|es (ra3 rfl rfl rfl)<|s0<|A0 (D2 rfl) rfl<|I0 (D1 (ds:=(A3 (DrRoom.mk a0.Costs a0.Ounces ([]:List DrLook) a0.Persons))) rfl rfl rfl rfl (C5 rfl) rfl) rfl<|A0 (D2 rfl) rfl<|I0 (D1 (ds:=(A3 (DrRoom.mk ([]:List Int) a0.Ounces a0.Figures a0.Persons))) rfl rfl rfl rfl (C5 rfl) rfl) rfl<|es (ra3 rfl rfl rfl)<|B6<|s0<|A0 (D2 rfl) rfl<|A0 (C8 rfl rfl rfl) rfl<|A0 (D4 (f:=A6) rfl) rfl<|A0 (Y8 rfl rfl) rfl<|qm rfl<|es (ra4 rfl rfl rfl rfl)<|C3<|oB h fun o10 ho10 h=>wl (fun s4=>[(1,(.ptr (H.length + 0) 0)),(3,(.ptr (H.length + 1) 0)),(4,(.ptr (H.length + 2) 0)),(5,.i s4.1)]) (fun (q5:Unit) s4=>[(.cells (A3 a0)),(.cells (A3 s4.2)),(.cells (A3 (DrRoom.mk ([]:List Int) a0.Ounces a0.Figures a0.Persons)))]) 3 (fun r e s' H'=>PX 0 [(1,(.ptr (H.length + 0) 0)),(3,(.ptr (H.length + 1) 0)),(4,(.ptr (H.length + 2) 0))] (H++[(.cells (A3 a0)),(.cells (A3 r)),(.cells (A3 (DrRoom.mk ([]:List Int) a0.Ounces a0.Figures a0.Persons)))]) e s' H') () ho10 rfl rfl (fun _ _=>rfl) (fun _=>rfl) rfl (fun s4=>(bdc (E8 rfl) (bdc (E8 rfl) (bdc (E8 rfl) (bdc A8 bdn))))) (fun q5 s4 ys4 hs4=>?_) ?_
  ·unfold P8 at hs4
   refine B6<|s0<|qm rfl<|A0 (A66 rfl rfl) rfl<|es (ra5 rfl rfl rfl rfl rfl)<|wi hs4 rfl (fun hc6 hs4=>?_) fun hc6 hs4=>?_
   ·refine C1<|B6<|C3<|rg 3 rfl<|oB hs4 fun x7 hx7 hs4=>oB hs4 fun x8 hx8 hs4=>oB hs4 fun x9 hx9 hs4=>A0 (B3c (rows:=List.map A6 []) rfl rfl (D8 (fun _=>rfl) _)) rfl<|A0 (D2 rfl) rfl<|K4 [3] (P1 [3] rfl F8 rfl rfl) (seen0 rfl) (C8 rfl rfl rfl) rfl<|A4a [0] [(.cells (A3 a0)),(.cells (A3 s4.2)),(.cells (A3 (DrRoom.mk ([]:List Int) a0.Ounces a0.Figures a0.Persons))),(.arr 3 false (List.map A6 x7))] (P1 [] rfl (A20 rfl A0z F8) rfl rfl) (seen0 rfl) (V3 (f:=A6) rfl rfl rfl rfl Q3 (fun _=>rfl) hx7) rfl rfl rfl<|A0 (D2 rfl) rfl<|K4 [3] (P1 [3] rfl F8 rfl rfl) (A46 (b:=H.length + 0) rfl (A0q (T6 _ rfl) A3o)) (C8 rfl rfl rfl) rfl<|qm rfl<|K4 [3] (P1 [3] rfl F8 rfl rfl) (A2y rfl) (E3 (f:=A6) rfl rfl hx8) rfl<|K4 [3] (P1 [3] rfl F8 rfl rfl) (A2y rfl) (M2 rfl rfl) rfl<|A0 (G2 (rows:=List.map A6 [x8]) rfl rfl (D8 (fun _=>rfl) _)) rfl<|R2 (B6y (f:=A6) rfl rfl rfl rfl Q3 (fun _=>rfl) hx9) rfl<|A0 (D2 rfl) rfl<|I0 (D1 (ds:=(A3 (DrRoom.mk s4.2.Costs s4.2.Ounces x9 s4.2.Persons))) rfl rfl rfl rfl (C5 rfl) rfl) rfl<|en (ra4 rfl rfl rfl rfl)<|r0<|qm rfl<|A0 (Y8 rfl rfl) rfl<|qm rfl<|en (ra4 rfl rfl rfl rfl) ?_
    cases hs4
    exact lnT () rfl (su4 rfl rfl rfl rfl)
   ·refine F3 ?_
    obtain rfl:=os hs4
    exact lx rfl px (su3 rfl rfl rfl)
  ·rintro e s' H' - ⟨rfl,rfl,rfl⟩
   refine B6<|s0<|qm rfl<|es (ra4 rfl rfl rfl rfl)<|C3<|oB h fun o17 ho17 h=>wl (fun s11=>[(1,(.ptr (H.length + 0) 0)),(3,(.ptr (H.length + 1) 0)),(4,(.ptr (H.length + 2) 0)),(6,.i s11.1)]) (fun (q12:Unit) s11=>[(.cells (A3 a0)),(.cells (A3 o10)),(.cells (A3 s11.2))]) 3 (fun r e s' H'=>PX 2 [(1,(.ptr (H.length + 0) 0)),(3,(.ptr (H.length + 1) 0)),(4,(.ptr (H.length + 2) 0))] (H++[(.cells (A3 a0)),(.cells (A3 o10)),(.cells (A3 r))]) e s' H') () ho17 rfl rfl (fun _ _=>rfl) (fun _=>rfl) rfl (fun s11=>(bdc (E8 rfl) (bdc (E8 rfl) (bdc (E8 rfl) (bdc A8 bdn))))) (fun q12 s11 ys11 hs11=>?_) ?_
   ·unfold P9 at hs11
    refine B6<|s0<|qm rfl<|A0 (D2 rfl) rfl<|A0 (C8 rfl rfl rfl) rfl<|A0 (D4 (f:=cI) rfl) rfl<|A0 (G3 rfl rfl) rfl<|es (ra5 rfl rfl rfl rfl rfl)<|wi hs11 rfl (fun hc13 hs11=>?_) fun hc13 hs11=>?_
    ·refine C1<|B6<|C3<|rg 3 rfl<|oB hs11 fun x14 hx14 hs11=>oB hs11 fun x15 hx15 hs11=>oB hs11 fun x16 hx16 hs11=>A0 (B3c (rows:=List.map cI []) rfl rfl (D8 (fun _=>rfl) _)) rfl<|A0 (D2 rfl) rfl<|K4 [3] (P1 [3] rfl F8 rfl rfl) (seen0 rfl) (C8 rfl rfl rfl) rfl<|A4a [0] [(.cells (A3 a0)),(.cells (A3 o10)),(.cells (A3 s11.2)),(.arr 1 false (List.map cI x14))] (P1 [] rfl (A20 rfl A0z F8) rfl rfl) (seen0 rfl) (V3 (f:=cI) rfl rfl rfl rfl Q3 (fun _=>rfl) hx14) rfl rfl rfl<|A0 (D2 rfl) rfl<|K4 [3] (P1 [3] rfl F8 rfl rfl) (A46 (b:=H.length + 0) rfl (A0q (T6 _ rfl) A3o)) (C8 rfl rfl rfl) rfl<|qm rfl<|K4 [3] (P1 [3] rfl F8 rfl rfl) (A2y rfl) (E3 (f:=cI) rfl rfl hx15) rfl<|K4 [3] (P1 [3] rfl F8 rfl rfl) (A2y rfl) (E9 rfl rfl) rfl<|A0 (D7e rfl rfl) rfl<|A0 (G2 (rows:=List.map cI [(w64 (2 * x15))]) rfl rfl (D8 (fun _=>rfl) _)) rfl<|R2 (B6y (f:=cI) rfl rfl rfl rfl Q3 (fun _=>rfl) hx16) rfl<|A0 (D2 rfl) rfl<|I0 (D1 (ds:=(A3 (DrRoom.mk x16 s11.2.Ounces s11.2.Figures s11.2.Persons))) rfl rfl rfl rfl (C5 rfl) rfl) rfl<|en (ra4 rfl rfl rfl rfl)<|r0<|qm rfl<|A0 (E7 rfl rfl) rfl<|qm rfl<|en (ra4 rfl rfl rfl rfl) ?_
     cases hs11
     exact lnT () rfl (su4 rfl rfl rfl rfl)
    ·refine F3 ?_
     obtain rfl:=os hs11
     exact lx rfl px (su3 rfl rfl rfl)
   ·rintro e s' H' - ⟨rfl,rfl,rfl⟩
    refine s0<|oB h fun x18 hx18 h=>A0 (C2 rfl rfl rfl) rfl<|B4 (rs:=[(.seq 1 (List.map cI x18.1)),.i x18.2.1,.i x18.2.2]) rfl rfl (A2 (C9 rfl) B5) ((A0l (A1b hscv) hx18).frz)<|qm rfl<|A0 (A5 rfl rfl) rfl<|A0 (A5 rfl rfl) rfl<|A0 (A5 rfl rfl) rfl<|qm rfl<|qm rfl<|qm rfl<|es (ra6 rfl rfl rfl rfl rfl rfl)<|s0<|oB h fun x19 hx19 h=>A0 (C2 rfl rfl rfl) rfl<|B4 (rs:=[(.seq 1 (List.map cI x19.1)),.i x19.2.1,.i x19.2.2]) rfl rfl (A2 (C9 rfl) B5) ((A0l (A1b hscv) hx19).frz)<|qm rfl<|A0 (A5 rfl rfl) rfl<|A0 (A5 rfl rfl) rfl<|A0 (A5 rfl rfl) rfl<|qm rfl<|qm rfl<|qm rfl<|es (ra8 rfl rfl rfl rfl rfl rfl rfl rfl)<|s0<|oB h fun x20 hx20 h=>A0 (C2 rfl rfl rfl) rfl<|B4 (rs:=[(.seq 1 (List.map cI x20.1)),.i x20.2.1,.i x20.2.2]) rfl rfl (A2 (C9 rfl) B5) ((A42 (A1b hscv) hx20).frz)<|qm rfl<|A0 (A5 rfl rfl) rfl<|A0 (A5 rfl rfl) rfl<|A0 (A5 rfl rfl) rfl<|qm rfl<|qm rfl<|qm rfl<|es (ra10 rfl rfl rfl rfl rfl rfl rfl rfl rfl rfl)<|s0<|oB h fun x21 hx21 h=>A0 (C2 rfl rfl rfl) rfl<|B4 (rs:=[(.seq 1 (List.map cI x21.1)),.i x21.2.1,.i x21.2.2]) rfl rfl (A2 (C9 rfl) B5) ((A42 (A1b hscv) hx21).frz)<|qm rfl<|A0 (A5 rfl rfl) rfl<|A0 (A5 rfl rfl) rfl<|A0 (A5 rfl rfl) rfl<|qm rfl<|qm rfl<|qm rfl<|es (ra12 rfl rfl rfl rfl rfl rfl rfl rfl rfl rfl rfl rfl)<|s0<|qm rfl<|es (ra13 rfl rfl rfl rfl rfl rfl rfl rfl rfl rfl rfl rfl rfl)<|B6<|s0<|qm rfl<|es (ra14 rfl rfl rfl rfl rfl rfl rfl rfl rfl rfl rfl rfl rfl rfl)<|C3<|oB h fun o28 ho28 h=>wl (fun s22=>[(4,(.ptr (H.length + 2) 0)),(7,(.seq 1 (List.map cI x18.1))),(8,.i x18.2.1),(9,.i x18.2.2),(11,.i x19.2.1),(12,.i x19.2.2),(13,(.seq 1 (List.map cI x20.1))),(14,.i x20.2.1),(15,.i x20.2.2),(16,(.seq 1 (List.map cI x21.1))),(17,.i x21.2.1),(18,.i x21.2.2),(19,.i s22.1),(20,.i s22.2)]) (fun (q23:Unit) s22=>[(.cells (A3 a0)),(.cells (A3 o10)),(.cells (A3 o17))]) 3 (fun r e s' H'=>PX 4 [(4,(.ptr (H.length + 2) 0)),(7,(.seq 1 (List.map cI x18.1))),(8,.i x18.2.1),(9,.i x18.2.2),(11,.i x19.2.1),(12,.i x19.2.2),(13,(.seq 1 (List.map cI x20.1))),(14,.i x20.2.1),(15,.i x20.2.2),(16,(.seq 1 (List.map cI x21.1))),(17,.i x21.2.1),(18,.i x21.2.2),(19,.i r)] (H++[(.cells (A3 a0)),(.cells (A3 o10)),(.cells (A3 o17))]) e s' H') () ho28 rfl rfl (fun _ _=>rfl) (fun _=>rfl) rfl (fun s22=>(bdc (E8 rfl) (bdc E6 (bdc A8 (bdc A8 (bdc A8 (bdc A8 (bdc E6 (bdc A8 (bdc A8 (bdc E6 (bdc A8 (bdc A8 (bdc A8 (bdc A8 bdn))))))))))))))) (fun q23 s22 ys22 hs22=>?_) ?_
    ·unfold N3 at hs22
     refine B6<|s0<|qm rfl<|qm rfl<|A0 (D4 (f:=cI) rfl) rfl<|A0 (G3 rfl rfl) rfl<|qm rfl<|gp 5 105 (.b ((decide (s22.2 < (List.length x20.1:Int))) && (decide (s22.2 < (List.length x21.1:Int))))) 100 rfl rfl (fun hg24=>?_) (fun hg24=>?_) ?_
     ·exact gT rfl hg24<|qm rfl<|gT rfl hg24<|qm rfl<|gT rfl hg24<|A0 (D4 (f:=cI) rfl) rfl<|gT rfl hg24<|A0 (G3 rfl rfl) rfl<|A0 (C7 rfl hg24 rfl) rfl<|ge 5 (by rw [hg24]; rfl) rfl rfl
     ·exact nT rfl hg24 rfl<|nT rfl hg24 rfl<|nT rfl hg24 rfl<|nT rfl hg24 rfl<|A0 (C6 rfl hg24 rfl) rfl<|ge 5 (by rw [hg24]; rfl) rfl rfl
     refine es (.k rfl (.k rfl (.k rfl (.k rfl (.k rfl (.k rfl (.k rfl (.k rfl (.k rfl (.k rfl (.k rfl (.k rfl (.k rfl (.k rfl (.k rfl .n)))))))))))))))<|wi hs22 rfl (fun hc25 hs22=>?_) fun hc25 hs22=>?_
     ·refine C1<|B6<|C3<|r0<|oB hs22 fun x26 hx26 hs22=>oB hs22 fun x27 hx27 hs22=>qm rfl<|qm rfl<|qm rfl<|A0 (E3 (f:=cI) rfl rfl hx26) rfl<|A0 (E9 rfl rfl) rfl<|A0 (E7 rfl rfl) rfl<|qm rfl<|qm rfl<|A0 (E3 (f:=cI) rfl rfl hx27) rfl<|A0 (E9 rfl rfl) rfl<|A0 (Y8 rfl rfl) rfl<|qm rfl<|en (ra14 rfl rfl rfl rfl rfl rfl rfl rfl rfl rfl rfl rfl rfl rfl)<|r0<|qm rfl<|A0 (E7 rfl rfl) rfl<|qm rfl<|en (ra14 rfl rfl rfl rfl rfl rfl rfl rfl rfl rfl rfl rfl rfl rfl) ?_
      cases hs22
      exact lnT () rfl (su14 rfl rfl rfl rfl rfl rfl rfl rfl rfl rfl rfl rfl rfl rfl)
     ·refine F3 ?_
      obtain rfl:=os hs22
      exact lx rfl px (su13 rfl rfl rfl rfl rfl rfl rfl rfl rfl rfl rfl rfl rfl)
    ·rintro e s' H' - ⟨rfl,rfl,rfl⟩
     refine B6<|s0<|qm rfl<|qm rfl<|A0 (J1 rfl rfl) rfl<|qm rfl<|gp 4 126 (.b ((x18.2.1 != x19.2.1) || (x18.2.2 != x19.2.2))) 122 rfl rfl (fun hg29=>?_) (fun hg29=>?_) ?_
     ·exact nF rfl hg29 rfl<|nF rfl hg29 rfl<|nF rfl hg29 rfl<|A0 (C7 rfl hg29 rfl) rfl<|ge 4 (by rw [hg29]; rfl) rfl rfl
     ·exact gF rfl hg29<|qm rfl<|gF rfl hg29<|qm rfl<|gF rfl hg29<|A0 (J1 rfl rfl) rfl<|A0 (C6 rfl hg29 rfl) rfl<|ge 4 (by rw [hg29]; rfl) rfl rfl
     refine qm rfl<|gp 6 133 (.b (((x18.2.1 != x19.2.1) || (x18.2.2 != x19.2.2)) || ((List.length x20.1:Int) != (List.length x21.1:Int)))) 127 rfl rfl (fun hg30=>?_) (fun hg30=>?_) ?_
     ·exact nF rfl hg30 rfl<|nF rfl hg30 rfl<|nF rfl hg30 rfl<|nF rfl hg30 rfl<|nF rfl hg30 rfl<|A0 (C7 rfl hg30 rfl) rfl<|ge 6 (by rw [hg30]; rfl) rfl rfl
     ·exact gF rfl hg30<|qm rfl<|gF rfl hg30<|A0 (D4 (f:=cI) rfl) rfl<|gF rfl hg30<|qm rfl<|gF rfl hg30<|A0 (D4 (f:=cI) rfl) rfl<|gF rfl hg30<|A0 (J1 rfl rfl) rfl<|A0 (C6 rfl hg30 rfl) rfl<|ge 6 (by rw [hg30]; rfl) rfl rfl
     refine qm rfl<|gp 3 137 (.b ((((x18.2.1 != x19.2.1) || (x18.2.2 != x19.2.2)) || ((List.length x20.1:Int) != (List.length x21.1:Int))) || (o28 != 0))) 134 rfl rfl (fun hg31=>?_) (fun hg31=>?_) ?_
     ·exact nF rfl hg31 rfl<|nF rfl hg31 rfl<|A0 (C7 rfl hg31 rfl) rfl<|ge 3 (by rw [hg31]; rfl) rfl rfl
     ·exact gF rfl hg31<|qm rfl<|gF rfl hg31<|A0 (J1 rfl rfl) rfl<|A0 (C6 rfl hg31 rfl) rfl<|ge 3 (by rw [hg31]; rfl) rfl rfl
     refine qm rfl<|gp 4 142 (.b (((((x18.2.1 != x19.2.1) || (x18.2.2 != x19.2.2)) || ((List.length x20.1:Int) != (List.length x21.1:Int))) || (o28 != 0)) || (x20.2.1 != x21.2.1))) 138 rfl rfl (fun hg32=>?_) (fun hg32=>?_) ?_
     ·exact nF rfl hg32 rfl<|nF rfl hg32 rfl<|nF rfl hg32 rfl<|A0 (C7 rfl hg32 rfl) rfl<|ge 4 (by rw [hg32]; rfl) rfl rfl
     ·exact gF rfl hg32<|qm rfl<|gF rfl hg32<|qm rfl<|gF rfl hg32<|A0 (J1 rfl rfl) rfl<|A0 (C6 rfl hg32 rfl) rfl<|ge 4 (by rw [hg32]; rfl) rfl rfl
     refine qm rfl<|gp 4 147 (.b ((((((x18.2.1 != x19.2.1) || (x18.2.2 != x19.2.2)) || ((List.length x20.1:Int) != (List.length x21.1:Int))) || (o28 != 0)) || (x20.2.1 != x21.2.1)) || (x20.2.2 != x21.2.2))) 143 rfl rfl (fun hg33=>?_) (fun hg33=>?_) ?_
     ·exact nF rfl hg33 rfl<|nF rfl hg33 rfl<|nF rfl hg33 rfl<|A0 (C7 rfl hg33 rfl) rfl<|ge 4 (by rw [hg33]; rfl) rfl rfl
     ·exact gF rfl hg33<|qm rfl<|gF rfl hg33<|qm rfl<|gF rfl hg33<|A0 (J1 rfl rfl) rfl<|A0 (C6 rfl hg33 rfl) rfl<|ge 4 (by rw [hg33]; rfl) rfl rfl
     refine es (ra5 rfl rfl rfl rfl rfl)<|wi h rfl (fun hc34 h=>?_) fun hc34 h=>?_
     ·refine s0<|qm rfl<|es (ra1 rfl)<|C4 ?_
      obtain rfl:=os h
      exact retq trivial (B1 rfl B8) (A7 rfl B9) (A4 A8 B2)
     ·refine C1<|B6<|s0<|oB h fun x35 hx35 h=>A0 (C2 rfl rfl rfl) rfl<|B4 (rs:=[.b x35]) rfl rfl (A2 (C9 rfl) B5) ((A9p hx35).frz)<|A0 (S7 rfl) rfl<|es (ra5 rfl rfl rfl rfl rfl)<|wi h rfl (fun hc36 h=>?_) fun hc36 h=>?_
      ·refine s0<|oB h fun x37 hx37 h=>B4 (rs:=[.b x37]) rfl rfl B5 ((U7 (A1b hscv) hx37).frz)<|qm rfl<|es (ra1 rfl)<|C4 ?_
       obtain rfl:=os h
       exact retq trivial (B1 rfl B8) (A7 rfl B9) (A4 A8 B2)
      ·refine C1<|s0<|oB h fun x38 hx38 h=>A0 (C2 rfl rfl rfl) rfl<|B4 (rs:=[(.seq 1 (List.map cI x38.1)),.i x38.2.1,.i x38.2.2]) rfl rfl (A2 (C9 rfl) B5) ((A0l (A1b hscv) hx38).frz)<|qm rfl<|A0 (A5 rfl rfl) rfl<|A0 (A5 rfl rfl) rfl<|A0 (A5 rfl rfl) rfl<|qm rfl<|qm rfl<|qm rfl<|es (ra6 rfl rfl rfl rfl rfl rfl)<|s0<|oB h fun x39 hx39 h=>oB h fun x44 hx44 h=>qm rfl<|qm rfl<|B4 (rs:=[.b x39]) rfl rfl (A2 rfl (A2 rfl B5)) ((K1 hx39).frz)<|qm rfl<|gp 5 166 (.b (x39 && (x38.2.1 == (w64 (2 * x18.2.1))))) 161 rfl rfl (fun hg40=>?_) (fun hg40=>?_) ?_
       ·exact gT rfl hg40<|qm rfl<|gT rfl hg40<|qm rfl<|gT rfl hg40<|A0 (D7e rfl rfl) rfl<|gT rfl hg40<|A0 (F7 rfl rfl) rfl<|A0 (C7 rfl hg40 rfl) rfl<|ge 5 (by rw [hg40]; rfl) rfl rfl
       ·exact nT rfl hg40 rfl<|nT rfl hg40 rfl<|nT rfl hg40 rfl<|nT rfl hg40 rfl<|A0 (C6 rfl hg40 rfl) rfl<|ge 5 (by rw [hg40]; rfl) rfl rfl
       refine qm rfl<|gp 4 171 (.b ((x39 && (x38.2.1 == (w64 (2 * x18.2.1)))) && (x38.2.2 == x18.2.2))) 167 rfl rfl (fun hg41=>?_) (fun hg41=>?_) ?_
       ·exact gT rfl hg41<|qm rfl<|gT rfl hg41<|qm rfl<|gT rfl hg41<|A0 (F7 rfl rfl) rfl<|A0 (C7 rfl hg41 rfl) rfl<|ge 4 (by rw [hg41]; rfl) rfl rfl
       ·exact nT rfl hg41 rfl<|nT rfl hg41 rfl<|nT rfl hg41 rfl<|A0 (C6 rfl hg41 rfl) rfl<|ge 4 (by rw [hg41]; rfl) rfl rfl
       refine qm rfl<|gp 2 174 (.b x44) 172 rfl rfl (fun hg42=>?_) (fun hg42=>?_) ?_
       ·refine oB (bt hx44 hg42) fun x43 hx43 hx44=>?_
        obtain rfl:=os hx44
        exact gT rfl hg42<|B4 (rs:=[.b x43]) rfl rfl B5 ((U7 (A1b hscv) hx43).frz)<|A0 (C7 rfl hg42 rfl) rfl<|ge 2 rfl rfl rfl
       ·obtain rfl:=os (bf hx44 hg42)
        exact O0 (G7 rfl (by rw [hg42]; rfl)) rfl<|A0 (C6 rfl hg42 rfl) rfl<|ge 2 rfl rfl rfl
       refine qm rfl<|es (ra1 rfl)<|C4 ?_
       obtain rfl:=os h
       exact retq trivial (B1 rfl B8) (A7 rfl B9) (A4 A8 B2)
end Ds
end
section
namespace Ds
open Go Am
theorem C81 {α:Type} {k k':α→Int} (h:∀x y,k' x < k' y↔k x < k y):∀l:List α,fm k' l = fm k l
 | []=>rfl
 | x :: l=>by
  unfold fm
  rw [C81 h l]
  cases fm k l with
  | none=>rfl
  | some y =>
   simp only
   by_cases c:k y < k x
   ·rw [if_pos c,if_pos ((h y x).mpr c)]
   ·rw [if_neg c,if_neg (fun d=>c ((h y x).mp d))]
def J5 (r:DrRoom):DrRoom:=⟨r.Costs,r.Ounces,r.Figures.reverse,r.Persons⟩
theorem C0l (r:DrRoom):J5 (J5 r) = r:= by
 obtain ⟨a,b,c,d⟩:=r
 unfold J5
 simp only [List.reverse_reverse]
theorem B6i {r:DrRoom} (h:(chk r).2.2 = 0):(chk (J5 r)).2.2 = 0:= by
 obtain ⟨ok,n1,n2⟩:=(M7 r).mp h
 have hL:∀least x,LkOk r least x→LkOk (J5 r) least x:=fun least x o=>⟨o.len,o.col,o.look,o.hair⟩
 refine (M7 _).mpr ⟨⟨ok.costs,ok.cost,ok.ounces,ok.ounce,by show r.Figures.reverse.length≤6; rw [List.length_reverse]; exact ok.figures,ok.persons,fun x hx=>hL _ _ (ok.figure x (List.mem_reverse.mp hx)),fun x hx=>hL _ _ (ok.person x hx)⟩,?_,n2⟩
 show NmOk (r.Figures.reverse.map (·.Name))
 rw [List.map_reverse]
 exact n1.reverse
theorem C8s {r:DrRoom} (h:NB r):NB (J5 r):=⟨fun v hv=>h.1 v (List.mem_reverse.mp hv),h.2⟩
def A5o (n:Nat) (q:List Nat):List Nat:=q.map fun f=>n - 1 - f
theorem B4c {n d:Nat} {q:List Nat} (h:q ∈ perms n d):A5o n q ∈ perms n d:= by
 obtain ⟨h1,h2,h3⟩:=A2t.mp h
 refine A2t.mpr ⟨by unfold A5o; rw [List.length_map]; exact h1,?_,fun x hx=>?_⟩
 ·unfold A5o
  unfold List.Nodup at h2 ⊢
  rw [List.pairwise_map]
  refine List.Pairwise.imp_of_mem (fun {a b} ha hb hab=>?_) h2
  have h4:=h3 a ha
  have h5:=h3 b hb
  omega
 ·unfold A5o at hx
  obtain ⟨f,hf,rfl⟩:=List.mem_map.mp hx
  have:=h3 f hf
  omega
theorem C3z {r:DrRoom} {f:Nat} (h:f < r.Figures.length):r.Figures.reverse[r.Figures.length - 1 - f]! = r.Figures[f]!:= by
 have h1:r.Figures.length - 1 - f < r.Figures.reverse.length:= by rw [List.length_reverse]; omega
 rw [getElem!_pos r.Figures.reverse (r.Figures.length - 1 - f) h1,List.getElem_reverse,getElem!_pos r.Figures f h]
 congr 1
 omega
theorem C4n {r:DrRoom} {q:List Nat}:prs (J5 r) (A5o r.Figures.length q) = (prs r q).map fun x=>(r.Figures.length - 1 - x.1,x.2):= by
 unfold prs A5o
 show (q.map fun f=>r.Figures.length - 1 - f).zip r.Persons = _
 rw [List.zip_map_left]; rfl
theorem C8z {r:DrRoom} {q:List Nat} (h:∀f ∈ q,f < r.Figures.length) {x:Nat × DrLook} (hx:x ∈ prs r q):x.1 < r.Figures.length:=h _ (List.of_mem_zip (a:=x.1) (b:=x.2) hx).1
theorem C4o {r:DrRoom} {q:List Nat} (h:∀f ∈ q,f < r.Figures.length):A1s (J5 r) (prs (J5 r) (A5o r.Figures.length q)) = A1s r (prs r q):= by
 rw [C4n]
 unfold A1s
 rw [List.map_map]
 refine B3y fun x hx=>?_
 show one r r.Figures.reverse[r.Figures.length - 1 - x.1]! x.2 = one r r.Figures[x.1]! x.2
 rw [C3z (C8z h hx)]
theorem D0p {r:DrRoom} {q:List Nat} (h:∀f ∈ q,f < r.Figures.length) (c:Nat):E2 (J5 r) (prs (J5 r) (A5o r.Figures.length q)) c = E2 r (prs r q) c:= by
 rw [C4n]
 unfold E2
 rw [List.map_map]
 congr 1
 refine B3y fun x hx=>?_
 show A6d r.Figures.reverse[r.Figures.length - 1 - x.1]! x.2 (c:Int) = A6d r.Figures[x.1]! x.2 (c:Int)
 rw [C3z (C8z h hx)]
theorem C0z {r:DrRoom} {q:List Nat} (h:∀f ∈ q,f < r.Figures.length):R4 (J5 r) (prs (J5 r) (A5o r.Figures.length q)) = R4 r (prs r q):= by
 unfold R4
 show (List.range r.Ounces.length).map (fun c=>below (E2 (J5 r) (prs (J5 r) (A5o r.Figures.length q)) c)) = _
 refine List.map_congr_left fun c _=>?_
 rw [D0p h]
theorem D20 {r:DrRoom} {q:List Nat} (h:∀f ∈ q,f < r.Figures.length):A5j (J5 r) (prs (J5 r) (A5o r.Figures.length q)) = A5j r (prs r q):= by
 rw [← B4n,← B4n,C0z h]
theorem A5k (r:DrRoom):perms (J5 r).Figures.length (J5 r).Persons.length = perms r.Figures.length r.Persons.length:= by
 show perms r.Figures.reverse.length r.Persons.length = _
 rw [List.length_reverse]
theorem C2r {r:DrRoom} {q:List Nat} (h:q ∈ AL r r.Persons):∃q' ∈ AL (J5 r) (J5 r).Persons,T7 (J5 r) (J5 r).Persons q' = T7 r r.Persons q:= by
 obtain ⟨h1,h2⟩:=List.mem_filter.mp h
 have h3:=(A2t.mp h1).2.2
 refine ⟨A5o r.Figures.length q,List.mem_filter.mpr ⟨?_,?_⟩,C4o h3⟩
 ·rw [A5k]; exact B4c h1
 ·exact (D20 h3).trans h2
theorem D0c (r:DrRoom):(match Q0 (J5 r) (J5 r).Persons with | none=>(0,(9:Int)) | some q=>(T7 (J5 r) (J5 r).Persons q,0)) = match Q0 r r.Persons with | none=>(0,(9:Int)) | some q=>(T7 r r.Persons q,0):= by
 have inv:∀{q},q ∈ AL (J5 r) (J5 r).Persons→∃ q' ∈ AL r r.Persons,T7 r r.Persons q' = T7 (J5 r) (J5 r).Persons q:=fun {q} h=>by
  have:=C2r h
  rwa [C0l] at this
 cases h1:Q0 (J5 r) (J5 r).Persons with
 | none =>
  cases h2:Q0 r r.Persons with
  | none=>rfl
  | some b =>
   obtain ⟨q',m,-⟩:=C2r (A2d h2)
   rw [A6b.mp h1] at m; cases m
 | some a =>
  obtain ⟨q',m,e⟩:=inv (A2d h1)
  cases h2:Q0 r r.Persons with
  | none=>rw [A6b.mp h2] at m; cases m
  | some b =>
   obtain ⟨q2,m2,e2⟩:=C2r (A2d h2)
   have l1:=C4q h2 m
   have l2:=C4q h1 m2
   have:T7 (J5 r) (J5 r).Persons a = T7 r r.Persons b:= by omega
   simp only [this]
theorem C60 {r:DrRoom} (h0:(chk r).2.2 = 0):(A2m (J5 r)).2 = (A2m r).2:= by
 have h:=D0c r
 unfold A2m
 rw [if_neg (fun c=>c (B6i h0)),if_neg (fun c=>c h0)]
 cases h1:Q0 (J5 r) (J5 r).Persons <;> cases h2:Q0 r r.Persons <;> rw [h1,h2] at h <;> exact h
theorem C80 {r:DrRoom} {q:List Nat} (h:q ∈ perms r.Figures.length r.Persons.length):kB (J5 r) (A5o r.Figures.length q) = kB r q:= by
 have h3:=(A2t.mp h).2.2
 unfold kB
 rw [C4o h3,C0z h3]
theorem D2g {r:DrRoom} (h0:(chk r).2.2 = 0):(A68 (J5 r)).2 = (A68 r).2∧(A68 (J5 r)).1.length = (A68 r).1.length∧sm (A68 (J5 r)).1 = sm (A68 r).1:= by
 obtain ⟨ok,-⟩:=(M7 r).mp h0
 obtain ⟨ok2,-⟩:=(M7 _).mp (B6i h0)
 unfold A68
 rw [if_neg (fun c=>c (B6i h0)),if_neg (fun c=>c h0)]
 cases h1:C33 (J5 r) with
 | none =>
  have e1:=A6b.mp h1
  rw [A5k] at e1
  have:C33 r = none:= by unfold C33; rw [e1]; rfl
  rw [this]; exact ⟨rfl,rfl,rfl⟩
 | some a =>
  have m1:=A2d h1
  cases h2:C33 r with
  | none =>
   have e2:=A6b.mp h2
   rw [A5k,e2] at m1; cases m1
  | some b =>
   have m2:=A2d h2
   have l1:=C4q h1 (y:=A5o r.Figures.length b) (by rw [A5k]; exact B4c m2)
   rw [C80 m2] at l1
   have m3:A5o r.Figures.length a ∈ perms r.Figures.length r.Persons.length:=B4c (by rwa [A5k] at m1)
   have l2:=C4q h2 m3
   have e3:=C80 (r:=J5 r) m1
   rw [C0l,show (J5 r).Figures.length = r.Figures.length from List.length_reverse] at e3
   rw [e3] at l2
   have hk:kB (J5 r) a = kB r b:= by omega
   have z1:=(B0q m1).pr ok2
   have z2:=(B0q m2).pr ok
   have b1:=A49 ok2 (prs (J5 r) a)
   have b2:=A49 ok (prs r b)
   have c1:=z1.1
   have c2:=z2.1
   unfold kB at hk
   have s1:A1s (J5 r) (prs (J5 r) a) = A1s r (prs r b):= by omega
   have s2:sm (R4 (J5 r) (prs (J5 r) a)) = sm (R4 r (prs r b)):= by omega
   refine ⟨by simp only [s1],?_,s2⟩
   simp only [B0h]; rfl
def A3p (r:DrRoom):DrRoom:=⟨r.Costs.map (2 * ·),r.Ounces,r.Figures,r.Persons⟩
theorem D1z (r:DrRoom) (f p:DrLook):one (A3p r) f p = 2 * one r f p:= by
 unfold one
 rw [show (A3p r).Costs.length = r.Costs.length from List.length_map _,← B12]
 refine B3y fun k hk=>?_
 have hk:k < r.Costs.length:= by
  have:=(List.mem_filter.mp hk).1
  simpa using this
 show (r.Costs.map (2 * ·))[k]! = _
 rw [getElem!_pos _ k (by rw [List.length_map]; exact hk),List.getElem_map,getElem!_pos r.Costs k hk]
theorem B45 (r:DrRoom) (ps:List DrLook) (q:List Nat):T7 (A3p r) ps q = 2 * T7 r ps q:= by
 unfold T7 A1s
 rw [← B12]
 exact B3y fun x _=>D1z r _ _
theorem C8f (r:DrRoom) (ps:List DrLook):Q0 (A3p r) ps = Q0 r ps:= by
 show fm (T7 (A3p r) ps) (AL r ps) = _
 exact C81 (fun x y=>by rw [B45,B45]; omega) _
theorem D4c {r:DrRoom} (ok:RmOk r):loop (P8 r) (w64 ((r.Figures.length:Int) - 1),⟨r.Costs,r.Ounces,[],r.Persons⟩) = some (J5 r):= by
 have hF:=ok.figures
 have:=H7 (b:=P8 r) (fun (i:Nat)=>((r.Figures.length:Int) - 1 - (i:Int),(⟨r.Costs,r.Ounces,r.Figures.reverse.take i,r.Persons⟩:DrRoom))) r.Figures.length (r:=J5 r) (by omega) (fun i hi=>by
  have hj:r.Figures.length - 1 - i < r.Figures.length:= by omega
  have e:(r.Figures.length:Int) - 1 - (i:Int) = ((r.Figures.length - 1 - i:Nat):Int):= by omega
  have hl:(r.Figures.reverse.take i).length≤6:= by rw [List.length_take,List.length_reverse]; omega
  have hi2:i < r.Figures.reverse.length:= by rw [List.length_reverse]; exact hi
  have hg:r.Figures[r.Figures.length - 1 - i]! = r.Figures.reverse[i]:= by
   rw [List.getElem_reverse,getElem!_pos r.Figures (r.Figures.length - 1 - i) hj]
  unfold P8
  simp only []
  rw [if_pos (by rw [decide_eq_true_eq]; omega),Q8 (by omega) (by simp only [List.length_nil]; omega)]
  simp only [Option.bind_some,List.nil_append]
  rw [e,G4 hj]
  simp only [Option.bind_some]
  rw [Q8 (by omega) (by simp only [List.length_singleton]; omega),hg,List.take_succ_eq_append_getElem hi2,D9 (by omega)]
  simp only [Option.bind_some]
  congr 3
  omega) (by
  unfold P8
  simp only []
  rw [if_neg (by rw [decide_eq_true_eq]; omega),List.take_of_length_le (by rw [List.length_reverse]; omega)]
  rfl)
 rw [D9 (by omega)]
 simp only [Int.sub_zero,List.take_zero,Int.natCast_zero,Int.ofNat_zero,Int.ofNat_eq_natCast] at this
 exact this
theorem D4d {r:DrRoom} (ok:RmOk r):loop (P9 r) (0,⟨[],r.Ounces,r.Figures,r.Persons⟩) = some (A3p r):= by
 have hC:=ok.costs
 have:=H7 (b:=P9 r) (fun (i:Nat)=>((i:Int),(⟨(r.Costs.take i).map (2 * ·),r.Ounces,r.Figures,r.Persons⟩:DrRoom))) r.Costs.length (r:=A3p r) (by omega) (fun i hi=>by
  have h1:=ok.cost _ (I4 hi)
  have hl:((r.Costs.take i).map (2 * ·)).length≤4:= by rw [List.length_map,List.length_take]; omega
  unfold P9
  simp only []
  rw [if_pos (by simpa using hi),Q8 (by omega) (by simp only [List.length_nil]; omega)]
  simp only [Option.bind_some,List.nil_append]
  rw [G4 hi]
  simp only [Option.bind_some]
  rw [Q8 (by omega) (by simp only [List.length_singleton]; omega),List.take_succ_eq_append_getElem hi,List.map_append,D9 (by omega),D9 (by omega),← getElem!_pos r.Costs i hi]
  rfl) (by
  unfold P9
  simp only []
  rw [if_neg (by simp),List.take_length]
  rfl)
 exact this
theorem D4e {a c:List Int} {u v:Int × Int} (hl:c.length = a.length) (h4:a.length≤4) (ha:∀x ∈ a,0≤x∧x≤1000) (hc:∀x ∈ c,0≤x∧x≤1000):loop (N3 (a,u) (c,v)) (0,0) = some (sm a - sm c):= by
 have hb:∀(l:List Int),(∀ x ∈ l,0≤x∧x≤1000)→∀ i,i≤4→0≤sm (l.take i)∧sm (l.take i)≤4000:=fun l hl i hi=>by
  have h1:=B9d (a:=0) (b:=1000) (l:=l.take i) fun y hy=>hl y (List.mem_of_mem_take hy)
  rw [List.length_take] at h1
  omega
 have:=H7 (b:=N3 (a,u) (c,v)) (fun (i:Nat)=>(sm (a.take i) - sm (c.take i),(i:Int))) a.length (r:=sm a - sm c) (by omega) (fun i hi=>by
  have hi2:i < c.length:= by omega
  have h1:=ha _ (I4 hi)
  have h2:=hc _ (I4 hi2)
  have h3:=hb a ha i (by omega)
  have h5:=hb c hc i (by omega)
  unfold N3
  simp only []
  rw [if_pos (by rw [Bool.and_eq_true,decide_eq_true_eq,decide_eq_true_eq]; omega),G4 hi,G4 hi2]
  simp only [Option.bind_some]
  rw [List.take_succ_eq_append_getElem hi,List.take_succ_eq_append_getElem hi2,C9z,C9z,← getElem!_pos a i hi,← getElem!_pos c i hi2]
  rw [D9 (n:=sm (a.take i) - sm (c.take i) + a[i]!) (by omega),D9 (by omega),D9 (by omega)]
  rw [show sm (a.take i) - sm (c.take i) + a[i]! - c[i]! = sm (a.take i) + a[i]! - (sm (c.take i) + c[i]!) by omega]
  rfl) (by
  unfold N3
  simp only []
  rw [if_neg (by rw [Bool.and_eq_true,decide_eq_true_eq,decide_eq_true_eq]; omega),List.take_length,← hl,List.take_length])
 exact this
theorem D2m {r:DrRoom} (h0:(chk r).2.2 = 0):(A68 r).1.length≤4∧∀ x ∈ (A68 r).1,0≤x∧x≤1000:= by
 obtain ⟨ok,-⟩:=(M7 r).mp h0
 have hO:=ok.ounces
 unfold A68
 rw [if_neg (fun c=>c h0)]
 cases h:C33 r with
 | none=>simp
 | some q =>
  have hz:=(B0q (A2d h)).pr ok
  refine ⟨by simp only [B0h]; omega,fun x hx=>?_⟩
  obtain ⟨c,-,rfl⟩:=List.mem_map.mp hx
  have:=A7f ok hz c
  exact A81 (by omega)
theorem C32 {r:DrRoom} (h0:(chk r).2.2 = 0):(A2m r).1.length≤5:= by
 obtain ⟨ok,-⟩:=(M7 r).mp h0
 have hP:=ok.persons
 unfold A2m
 rw [if_neg (fun c=>c h0)]
 cases h:Q0 r r.Persons with
 | none=>simp
 | some q =>
  have:=C6t (A2d h)
  simp only [F5]; omega
theorem B6b {r:DrRoom} (hb:NB r):A1j r = some true:= by
 unfold A1j
 rw [C6h]
 simp only [Option.bind_some]
 by_cases h0:(chk r).2.2 = 0
 ·obtain ⟨ok,-⟩:=(M7 r).mp h0
  rw [if_neg (by simp [h0]),D4c ok]
  simp only [Option.bind_some]
  rw [D4d ok]
  simp only [Option.bind_some]
  rw [B6f r hb,B6f _ (C8s hb)]
  simp only [Option.bind_some]
  rw [D15 r hb,D15 _ (C8s hb)]
  simp only [Option.bind_some]
  have h1:=C60 h0
  obtain ⟨h2,h3,h4⟩:=D2g h0
  have g1:=D2m h0
  have g2:=D2m (B6i h0)
  have hL3:loop (N3 (A68 r) (A68 (J5 r))) (0,0) = some 0:= by
   have:=D4e (a:=(A68 r).1) (c:=(A68 (J5 r)).1) (u:=(A68 r).2) (v:=(A68 (J5 r)).2) h3 g1.1 g1.2 g2.2
   rw [h4,Int.sub_self] at this
   exact this
  rw [hL3]
  simp only [Option.bind_some]
  rw [h1,h2,h3,if_neg (by simp),C6h]
  simp only [Option.bind_some]
  by_cases hv:(chk (A3p r)).2.2 = 0
  ·rw [if_neg (by simp [hv]),B6f (A3p r) hb]
   simp only [Option.bind_some]
   have hl:=C32 h0
   have ht:A2m (A3p r) = ((A2m r).1,2 * (A2m r).2.1,(A2m r).2.2)∧0≤(A2m r).2.1∧(A2m r).2.1≤2000:= by
    unfold A2m
    rw [if_neg (fun c=>c hv),if_neg (fun c=>c h0),show Q0 (A3p r) (A3p r).Persons = Q0 r r.Persons from C8f r _]
    cases h:Q0 r r.Persons with
    | none=>exact ⟨rfl,Int.le_refl 0,show (0:Int)≤2000 by decide⟩
    | some b =>
     have:=B2i ok ok.persons b
     refine ⟨?_,this⟩
     simp only
     rw [show T7 (A3p r) (A3p r).Persons b = 2 * T7 r r.Persons b from B45 r _ b]
   rw [ht.1]
   simp only
   rw [A7c _ (by omega)]
   simp only [Option.bind_some]
   rw [D9 (by omega),if_pos (by simp),awake]; rfl
  ·rw [if_pos (by simpa using hv),awake]; rfl
 ·have e:((chk r).2.2 == 0) = false:=beq_eq_false_iff_ne.mpr h0
  rw [e,if_pos (by rfl),awake]; rfl
end Ds
end
