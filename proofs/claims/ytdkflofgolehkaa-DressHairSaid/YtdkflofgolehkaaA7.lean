/- Texts that the claim stands on, one behind another. -/
import Derived.Test.YtdkflofgolehkaaA6
set_option linter.unusedVariables false
set_option linter.unusedSimpArgs false
set_option linter.unnecessarySimpa false
section
set_option maxRecDepth 100000
namespace Ds
open Go Am Go.Proofs.Ytdkflofgolehkaa.Cd
def B62 (t:DrRoom) (person:Int):Option ((Chg × dress_plan) × Int) :=
 (M1 t).bind fun x1 =>
 if (x1.2.2 != 0) = true then some (([],plan0),x1.2.2)
 else (loop (M6 t) (0,[])).bind fun ch =>
  (J3 0 (w64 ((List.length t.Persons:Int) - 1)) [person]).bind fun k =>
  if k = true then some (([],plan0),4)
  else (J5 ⟨t⟩).bind fun w=>(P7 t ch w).bind fun z =>
   if (!z.2) = true then some (([],plan0),9) else some ((ch,z.1),0)
def C6i (N:Nat) (t:DrRoom) (ch:Chg) (p:dress_plan):List AO:=[.cells (A4 t),.cells (A9 p),.cells (A4 t),.map (B0e ch),.cells (A4l t (N + 3)),.cells (A9 p)]
def EnQ (H:A1) (t:DrRoom) (r:(Chg × dress_plan) × Int) (e:Ex) (s:B3) (H1:A1):Prop :=
 (match e with | .exit _=>False | _=>True)∧∃ rs H2,results s H1 [.tmp 4,.cell 5 (some 6),.tmp 6] = some rs∧Q2 H.length H1 rs = some (rs,H2) ∧
  ((r.2 != 0) = true∧rs = [.lit (.pointer none),.agg (A9 plan0),.i r.2]∧trunc H.length rs H2 = H∨r.2 = 0∧rs = [.ptr (H.length + 4) 0,.agg (A9 r.1.2),.i 0]∧trunc H.length rs H2 = H++C6i H.length t r.1.1 r.1.2)
theorem C11 {H:A1} {l:List AO} {s:B3} {t:DrRoom} {e:Int} {x:Chg × dress_plan} (he:(e != 0) = true) (h4:sget s 4 = some (.lit (.pointer none))) (h5:sget s 5 = some (.ptr (H.length + 1) 0)) (h6:sget s 6 = some (.i e)) (hl:l[1]? = some (.cells (A9 plan0))):EnQ H t (x,e) .ret s (H++l) :=
 ⟨trivial,_,_,B1 h4 (P5 (I6 (ds:=A9 plan0) h5 hl rfl rfl) (B1 h6 B8)),A6 rfl (A6 (A1o rfl) (A6 rfl B9)),.inl ⟨he,rfl,by rw [C1j (by rfl),List.append_nil]⟩⟩
theorem D16 {c:Sc} {H:A1} (hscv:S0 c H = true) {t:DrRoom} {person:Int} {r:(Chg × dress_plan) × Int} (h:B62 t person = some r) :
  (r.2 != 0) = true∧G7 tab c H (.fn (.func 64) [] []) [.agg (A4 t),.i person] [.lit (.pointer none),.agg (A9 plan0),.i r.2] H ∨
  r.2 = 0∧G7 tab c H (.fn (.func 64) [] []) [.agg (A4 t),.i person] [.ptr (H.length + 4) 0,.agg (A9 r.1.2),.i 0] (H++C6i H.length t r.1.1 r.1.2):= by
 have key:WP tab c64 (I8 0 [.agg (A4 t),.i person]) (H++[]) ⟨H.length,c.cur :: c.outer⟩ (EnQ H t r):= by
  unfold B62 at h
  refine oB h fun x1 hx1 h=>?_
  refine sg 0 rfl<|A0 (F7 (cs:=A4 t) rfl rfl rfl) rfl<|qm rfl<|A0 E3 rfl<|qm rfl<|es (ra3 rfl rfl rfl) ?_
  by_cases hc1:(x1.2.2 != 0) = true
  ·rw [if_pos hc1] at h
   obtain rfl:=os h
   refine s0<|A0 (C3 rfl rfl rfl) rfl<|R9 (X5 rfl rfl (A2 (D1 rfl) B7) (B7n hx1 hc1) rfl) rfl<|qm rfl<|A0 (A8 rfl rfl) rfl<|A0 (A8 rfl rfl) rfl<|qm rfl<|qm rfl<|es (ra5 rfl rfl rfl rfl rfl)<|B5<|C2<|s0<|qm rfl<|A0 (J2 rfl rfl) rfl<|qm rfl<|es (ra6 rfl rfl rfl rfl rfl rfl)<|S5 rfl hc1<|s0<|A0 (L5 (cs:=A9 plan0) rfl rfl) rfl<|qm rfl<|qm rfl<|I2 (D2 (ds:=A9 plan0) rfl rfl rfl rfl (C6 rfl) rfl) rfl<|qm rfl<|es (ra3 rfl rfl rfl)<|C4<|C11 hc1 rfl rfl rfl rfl
  ·rw [if_neg hc1] at h
   have hc1:(x1.2.2 != 0) = false:=Bool.eq_false_iff.2 hc1
   refine oB h fun ch hch h=>oB h fun k hk h=>?_
   have hlook:G7 tab ⟨H.length,c.cur :: c.outer⟩ (H++[.cells (A4 t),.cells (A9 plan0)]) (.fn (.func 52) [] []) [(.agg (A4 t))] [.ptr (H.length + 4) 0,.i 0] (H++[.cells (A4 t),.cells (A9 plan0),.cells (A4 t),.map (B0e ch),.cells (A4l t (H.length + 3))]):= by
    have:=B7o (c:=⟨H.length,c.cur :: c.outer⟩) (H:=H++[.cells (A4 t),.cells (A9 plan0)]) hx1 hc1 hch
    unfold C8q at this
    rw [List.length_append,List.append_assoc] at this
    exact this
   refine s0<|A0 (C3 rfl rfl rfl) rfl<|R9 (X5 rfl rfl (A2 (D1 rfl) B7) hlook rfl) rfl<|qm rfl<|A0 (A8 rfl rfl) rfl<|A0 (A8 rfl rfl) rfl<|qm rfl<|qm rfl<|es (ra5 rfl rfl rfl rfl rfl)<|B5<|C2<|s0<|qm rfl<|A0 (O4 (v:=(.b false)) rfl rfl rfl) rfl<|qm rfl<|es (ra6 rfl rfl rfl rfl rfl rfl)<|Z8 rfl rfl<|s0<|A0 (D0 rfl) rfl<|A0 (C5 rfl rfl rfl) rfl<|A0 (D4 (f:=A5) rfl) rfl<|A0 (Z9 rfl rfl) rfl<|qm rfl<|A0 (G6 (rows:=List.map cI [person]) rfl rfl (D9 (fun _=>rfl) _)) rfl<|B4 (rs:=[.b k]) rfl rfl (A2 rfl (A2 rfl (A2 rfl B7))) ((M7 hk).frz)<|qm rfl<|es (ra3 rfl rfl rfl)<|wi h rfl (fun hc2 h=>?_) fun hc2 h=>?_
   ·obtain rfl:=os h
    exact s0<|A0 (L5 (cs:=A9 plan0) rfl rfl) rfl<|qm rfl<|I2 (D2 (ds:=A9 plan0) rfl rfl rfl rfl (C6 rfl) rfl) rfl<|qm rfl<|es (ra3 rfl rfl rfl)<|C4<|C11 rfl rfl rfl rfl rfl
   refine oB h fun w hw h=>oB h fun z hz h=>?_
   refine C1<|sg 5 rfl<|qm rfl<|qm rfl<|B4 (rs:=[.i w]) rfl rfl (A2 rfl B7) ((N5 (a0:=⟨t⟩) (D7 rfl) hw).frz)<|B4 (rs:=[(.agg (A9 z.1)),.b z.2]) rfl rfl (A2 rfl (A2 rfl B7)) (B50 (t:=t) (ch:=ch) ⟨_,D7 rfl,A1r rfl⟩ (A2p hscv) hz)<|qm rfl<|A0 (A8 rfl rfl) rfl<|A0 (A8 rfl rfl) rfl<|A0 E3 rfl<|I2 (D2 (ds:=(A9 z.1)) rfl rfl rfl rfl (C6 rfl) rfl) rfl<|qm rfl<|es (ra4 rfl rfl rfl rfl)<|B5<|s0<|qm rfl<|A0 (S4 rfl) rfl<|es (ra4 rfl rfl rfl rfl)<|wi h rfl (fun hc3 h=>?_) fun hc3 h=>?_
   ·obtain rfl:=os h
    exact s0<|A0 (L5 (cs:=A9 plan0) rfl rfl) rfl<|qm rfl<|I2 (D2 (ds:=A9 plan0) rfl rfl rfl rfl (C6 rfl) rfl) rfl<|qm rfl<|es (ra3 rfl rfl rfl)<|C4<|C11 rfl rfl rfl rfl rfl
   ·obtain rfl:=os h
    refine C1<|s0<|qm rfl<|A0 (C3 rfl rfl rfl) rfl<|qm rfl<|I2 (D2 (ds:=(A9 z.1)) rfl rfl rfl rfl (C6 rfl) rfl) rfl<|qm rfl<|es (ra3 rfl rfl rfl)<|C4 ?_
    exact ⟨trivial,_,_,B1 rfl (P5 (I6 (ds:=A9 z.1) rfl rfl rfl rfl) (B1 rfl B8)),A6 rfl (A6 (A1o rfl) (A6 rfl B9)),.inr ⟨rfl,rfl,B82 C73⟩⟩
 rw [List.append_nil] at key
 obtain ⟨e,S',s',H2,h1,h2,h3,rs,H3,h4,h5,h6⟩:=key _ (Sub.refl _)
 have hrun:∀H',trunc H.length rs H3 = H'→G7 tab c H (.fn (.func 64) [] []) [.agg (A4 t),.i person] rs H':=fun H' hH =>
  G7.fn (af:=a64) (bd:=c64) (aq:=[.agg (A4 t),.i person]) (rs0:=rs) (rs1:=rs) (H1:=H3) (e:=e) (st':=⟨S',H2,⟨H.length,c.cur :: c.outer⟩⟩) rfl rfl rfl rfl rfl rfl h1 (by cases e <;> first | rfl | exact h3.elim) (P4 h2 h4) h5 rfl hH.symm
 rcases h6 with ⟨h6,rfl,h7⟩ | ⟨h6,rfl,h7⟩
 ·exact .inl ⟨h6,hrun _ h7⟩
 ·exact .inr ⟨h6,hrun _ h7⟩
theorem retq0 {H:A1} {s:B3} {rv:List ARes} {rs:List AV} {e:Ex} (h:RetQ H rv rs e s (H++[])):RetQ H rv rs e s H:= by rwa [List.append_nil] at h
theorem D2s {c:Sc} {A B:A1} {b:Nat} {l:List Int} {x r:Int} (hb:A.length = b) (h:M5 l x = some r):E8 tab c (A++(ar1 l :: B)) (.fn (.func 95) [] []) [.asl b l.length,.i x] [.i r]:= by
 subst hb
 unfold M5 at h
 have htk:∀x:AO,(x :: B).take (B.length + 1) = x :: B:=fun x=>List.take_of_length_le (Nat.le_refl _)
 refine B6w (aq:=[.asl A.length l.length,.i x]) rfl rfl rfl ?_
 refine s0<|qm rfl<|es (ra2 rfl rfl)<|B5<|s0<|qm rfl<|A0 (A87 (f:=cI) (j:=0) rfl rfl rfl) rfl<|qm rfl<|es (ra4 rfl rfl rfl rfl)<|C2<|oB h fun o6 ho6 h=>wl (fun s1=>[(0,(.asl (A.length + 0) l.length)),(1,.i x),(7,(.i (List.length l:Int))),(8,.i s1)]) (fun (q2:Unit) s1=>ar1 l :: B) (B.length + 1) (fun r e s' H'=>(match r with | (.inl v)=>e = .ret∧RetQ (A++(ar1 l :: B)) [.tmp 4] [.i v] e s' H' | (.inr v)=>PX 0 [] (A++(ar1 l :: B)) e s' H':Prop)) () ho6 rfl rfl (fun _ _=>rfl) (fun _=>rfl) rfl (fun s1=>(bdc (A0m (Nat.ble_eq_true_of_le (by omega))) (bdc A7 (bdc A7 (bdc A7 bdn))))) (fun q2 s1 ys1 hs1=>?_) ?_
 ·unfold G5 at hs1
  refine s0<|A0 (G9 rfl rfl) rfl<|es (ra5 rfl rfl rfl rfl rfl)<|B5<|wi hs1 rfl (fun hc3 hs1=>?_) fun hc3 hs1=>?_
  ·refine C1<|B5<|C2<|s0<|qm rfl<|qm rfl<|es (ra5 rfl rfl rfl rfl rfl)<|s0<|oB hs1 fun x4 hx4 hs1=>qm rfl<|qm rfl<|qm rfl<|A0 (A85 (f:=cI) rfl rfl rfl rfl hx4) rfl<|A0 (A93 (x:=.i x4) rfl rfl (List.length_map _) (A9g hx4) rfl) rfl<|A0 (F5 rfl rfl) rfl<|es (ra6 rfl rfl rfl rfl rfl rfl)<|wi hs1 rfl (fun hc5 hs1=>?_) fun hc5 hs1=>?_
   ·refine s0<|qm rfl<|qm rfl<|es (ra1 rfl)<|C4 ?_
    obtain rfl:=os hs1
    exact lx rfl (And.intro rfl (retq0 (retq trivial (B1 rfl B8) (A6 rfl B9) (A3 A7 B2)))) (Sub.refl _)
   ·refine C1<|r0<|A0 (E7 rfl rfl) rfl<|qm rfl<|en (ra4 rfl rfl rfl rfl) ?_
    cases hs1
    exact lnT () (htk _) (su4 rfl rfl rfl rfl)
  ·refine F4 ?_
   obtain rfl:=os hs1
   exact lx rfl px (.nil _)
 ·rcases o6 with vo6_0 | vo6_1
  ·rintro e s' H' - ⟨rfl,hret⟩
   cases h
   exact hret
  ·rintro e s' H' - ⟨rfl,rfl,rfl⟩
   refine s0<|qm rfl<|es (ra1 rfl)<|C4 ?_
   obtain rfl:=os h
   exact retq0 (retq trivial (B1 rfl B8) (A6 rfl B9) (A3 A7 B2))
theorem C3v {c:Sc} {A B:A1} {b:Nat} {l:List Int} {x:Int} {r:Bool} (hb:A.length = b) (h:F8 l x = some r):E8 tab c (A++(ar1 l :: B)) (.fn (.func 66) [] []) [.asl b l.length,.i x] [.b r]:= by
 unfold F8 at h
 refine oB h fun x1 hx1 h=>?_
 refine B6w (aq:=[.asl b l.length,.i x]) rfl rfl rfl ?_
 refine s0<|qm rfl<|es (ra2 rfl rfl)<|s0<|qm rfl<|qm rfl<|R9 (A5d (rs:=[.i x1]) rfl rfl ((D2s hb hx1).frz)) rfl<|A0 (A75 rfl rfl) rfl<|qm rfl<|es (ra1 rfl)<|C4 ?_
 obtain rfl:=os h
 exact retq0 (retq trivial (B1 rfl B8) (A6 rfl B9) (A3 A7 B2))
def B4q (person:Int) (best:dress_plan) (l:List dress_plan) (s:Int × List Int):Option ((Int × List Int) ⊕ List Int) :=
 if (decide (s.1 < (List.length l:Int))) = true then
  (idx l s.1).bind fun p=>(idx p.figures_ person).bind fun f =>
  (if (p.cost_ == best.cost_) = true then (F8 s.2 f).bind fun k=>some (!k) else some false).bind fun g =>
  if g = true then (app 8 s.2 [f]).bind fun q=>some (.inl (w64 (s.1 + 1),q))
  else some (.inl (w64 (s.1 + 1),s.2))
 else some (.inr s.2)
def A4r (t:DrRoom) (person:Int):Option (List Int × Int) :=
 (B62 t person).bind fun r =>
 if (r.2 != 0) = true then some ([],r.2)
 else (J5 ⟨t⟩).bind fun w=>(S6 t r.1.1 w).bind fun l =>
  (loop (B4q person r.1.2 l) (0,[])).bind fun o=>(B8w o).bind fun q=>some (q,0)
def B4p (N:Nat) (t:DrRoom) (ch:Chg) (p:dress_plan) (s:List Int):List AO:=[.cells (A4 t),ar1 s,.cells (A9 p),.cells (A4 t),.cells (A9 p),.cells (A4 t),.map (B0e ch),.cells (A4l t (N + 6)),.cells (A9 p)]
theorem B2v {c:Sc} {H:A1} (hscv:S0 c H = true) {a0:DrRoom} {a1:Int} {r:List Int × Int} (h:A4r a0 a1 = some r) :
  T9 tab c H (.fn (.func 28) [] []) [(.agg (A4 a0)),.i a1] [(.seq 1 (List.map cI r.1)),.i r.2]:= by
 unfold A4r at h
 refine oB h fun x hx h=>?_
 refine cF rfl rfl<|sg 0 rfl<|A0 (F7 (cs:=A4 a0) rfl rfl rfl) rfl<|A0 A25 rfl<|qm rfl<|es (ra3 rfl rfl rfl)<|sg 2 rfl<|A0 (C3 rfl rfl rfl) rfl<|qm rfl ?_
 rcases D16 (c:=⟨H.length,c.cur :: c.outer⟩) (H:=H++[.cells (A4 a0),ar1 [],.dead]) (A2p hscv) hx with ⟨hc,hcall⟩ | ⟨hc,hcall⟩
 ·rw [if_pos hc] at h
  obtain rfl:=os h
  refine R9 (X5 rfl rfl (A2 (D1 rfl) (A2 rfl B7)) hcall rfl) rfl<|qm rfl<|A0 (A8 rfl rfl) rfl<|A0 (A8 rfl rfl) rfl<|A0 (A8 rfl rfl) rfl<|A0 E3 rfl<|qm rfl<|I2 (D2 (ds:=A9 plan0) rfl rfl rfl rfl (C6 rfl) rfl) rfl<|qm rfl<|es (ra5 rfl rfl rfl rfl rfl)<|B5<|s0<|qm rfl<|A0 (J2 rfl rfl) rfl<|es (ra6 rfl rfl rfl rfl rfl rfl)<|S5 rfl hc<|sg 3 rfl<|qm rfl<|A0 A25 rfl<|qm rfl<|es (ra2 rfl rfl)<|C4 ?_
  exact ⟨[.fresh 1 (List.map cI []),.i x.2],retq trivial (B1 rfl (B1 rfl B8)) (A6 (A18 rfl (List.length_map _)) (A6 rfl B9)) (A3 V4 (A3 A7 B2)),rfl⟩
 ·obtain ⟨⟨ch,best⟩,e⟩:=x
  dsimp only at hc
  subst hc
  rw [if_neg (by simp)] at h
  refine oB h fun w hw h=>oB h fun l hl h=>oB h fun o ho h=>oB h fun q hq h=>?_
  obtain rfl:=os h
  have hcall:G7 tab ⟨H.length,c.cur :: c.outer⟩ (H++[.cells (A4 a0),ar1 [],.dead]) (.fn (.func 64) [] []) [.agg (A4 a0),.i a1] [.ptr (H.length + 7) 0,.agg (A9 best),.i 0] (H++[.cells (A4 a0),ar1 [],.dead,.cells (A4 a0),.cells (A9 best),.cells (A4 a0),.map (B0e ch),.cells (A4l a0 (H.length + 6)),.cells (A9 best)]):= by
   unfold C6i at hcall
   rw [List.length_append,List.append_assoc] at hcall
   exact hcall
  have hH:∀s:List Int,H++B4p H.length a0 ch best s = (H++[.cells (A4 a0)])++(ar1 s :: (B4p H.length a0 ch best s).drop 2):=fun s=>by simp [B4p]
  have hA:(H++[AO.cells (A4 a0)]).length = H.length + 1:= by simp
  refine R9 (X5 rfl rfl (A2 (D1 rfl) (A2 rfl B7)) hcall rfl) rfl<|qm rfl<|A0 (A8 rfl rfl) rfl<|A0 (A8 rfl rfl) rfl<|A0 (A8 rfl rfl) rfl<|A0 E3 rfl<|qm rfl<|I2 (D2 (ds:=A9 best) rfl rfl rfl rfl (C6 rfl) rfl) rfl<|qm rfl<|es (ra5 rfl rfl rfl rfl rfl)<|B5<|s0<|qm rfl<|A0 (O4 (v:=(.b false)) rfl rfl rfl) rfl<|es (ra6 rfl rfl rfl rfl rfl rfl)<|Z8 rfl rfl<|C1<|B5<|s0<|qm rfl<|qm rfl<|B4 (rs:=[.i w]) rfl rfl (A2 rfl B7) ((N5 (a0:=⟨a0⟩) (D7 rfl) hw).frz)<|B4 (rs:=[.seq 6 (l.map A9)]) rfl rfl (A2 rfl (A2 rfl B7)) (C2z (t:=a0) (ch:=ch) ⟨_,D7 rfl,A1r rfl⟩ (A2p hscv) hl)<|A0 (D4 (f:=A9) rfl) rfl<|qm rfl<|es (ra6 rfl rfl rfl rfl rfl rfl)<|C2<|wl (fun s=>[(1,.i a1),(4,.asl (H.length + 1) s.2.length),(7,.ptr (H.length + 2) 0),(24,.seq 6 (l.map A9)),(25,.i (List.length l:Int)),(26,.i s.1)]) (fun (_:Unit) s=>B4p H.length a0 ch best s.2) 9 (fun r e s' H'=>PX 0 [(4,.asl (H.length + 1) r.length)] (H++B4p H.length a0 ch best r) e s' H') () ho rfl rfl (fun _ _=>rfl) (fun _=>rfl) rfl (fun s=>bdc A7 (bdc (A0m rfl) (bdc (F1 rfl) (bdc E6 (bdc A7 (bdc A7 bdn)))))) (fun _ s o hs=>?_) ?_
  ·unfold B4q at hs
   refine s0<|A0 (G9 rfl rfl) rfl<|es (ra7 rfl rfl rfl rfl rfl rfl rfl)<|B5<|wi hs rfl (fun hc hs=>?_) fun hc hs=>?_
   ·refine oB hs fun p hp hs=>oB hs fun f hf hs=>oB hs fun g hg hs=>?_
    refine C1<|B5<|C2<|sg 9 rfl<|A0 (E2 (f:=A9) rfl rfl hp) rfl<|A0 (L6 rfl rfl) rfl<|A0 E3 rfl<|I2 (D2 (ds:=A9 p) rfl rfl rfl rfl (C6 rfl) rfl) rfl<|es (ra7 rfl rfl rfl rfl rfl rfl rfl)<|s0<|A0 (D0 rfl) rfl<|A0 (C5 rfl rfl rfl) rfl<|qm rfl<|A0 (E2 (f:=cI) rfl rfl hf) rfl<|A0 (E9 rfl rfl) rfl<|qm rfl<|es (ra8 rfl rfl rfl rfl rfl rfl rfl rfl)<|s0<|A0 (D0 rfl) rfl<|A0 (C5 (x:=.i p.cost_) rfl rfl rfl) rfl<|A0 (D0 rfl) rfl<|A0 (C5 (x:=.i best.cost_) rfl rfl rfl) rfl<|A0 (F5 rfl rfl) rfl<|qm rfl<|gp 5 45 (.b g) 40 rfl rfl (fun hb=>?_) (fun hb=>?_) ?_
    ·refine oB (bt hg hb) fun k hk hg=>?_
     obtain rfl:=os hg
     have hcon:T9 tab ⟨H.length + 9,(⟨H.length,c.cur :: c.outer⟩:Sc).cur :: (⟨H.length,c.cur :: c.outer⟩:Sc).outer⟩ (H++(B4p H.length a0 ch best s.2++[.cells (A9 p)])) (.fn (.func 66) [] []) [.asl (H.length + 1) s.2.length,.i f] [.b k]:= by
      have:=(C3v (c:=⟨H.length + 9,(⟨H.length,c.cur :: c.outer⟩:Sc).cur :: (⟨H.length,c.cur :: c.outer⟩:Sc).outer⟩) (B:=(B4p H.length a0 ch best s.2).drop 2++[.cells (A9 p)]) hA hk).frz
      rw [show (H++[AO.cells (A4 a0)])++(ar1 s.2 :: ((B4p H.length a0 ch best s.2).drop 2++[.cells (A9 p)])) = H++(B4p H.length a0 ch best s.2++[.cells (A9 p)]) by simp [B4p]] at this
      exact this
     exact gT rfl hb<|qm rfl<|gT rfl hb<|qm rfl<|gT rfl hb<|R9 (A5d (rs:=[.b k]) rfl rfl hcon) rfl<|gT rfl hb<|A0 (S4 rfl) rfl<|A0 (C8 rfl hb rfl) rfl<|ge 5 rfl rfl rfl
    ·obtain rfl:=os (bf hg hb)
     exact nT rfl hb rfl<|nT rfl hb rfl<|N0 (G1 rfl (by rw [hb]; rfl)) rfl<|nT rfl hb rfl<|A0 (C7 rfl hb rfl) rfl<|ge 5 rfl rfl rfl
    refine es (ra8 rfl rfl rfl rfl rfl rfl rfl rfl)<|wi hs rfl (fun hc2 hs=>?_) fun hc2 hs=>?_
    ·refine oB hs fun q hq hs=>?_
     refine r0<|qm rfl<|qm rfl<|A0 (G6 (rows:=List.map cI [f]) rfl rfl (D9 (fun _=>rfl) _)) rfl<|R9 (X2 (f:=cI) rfl rfl rfl rfl T3 (fun _=>rfl) hq) rfl<|qm rfl<|en (ra6 rfl rfl rfl rfl rfl rfl)<|r0<|A0 (E7 rfl rfl) rfl<|qm rfl<|en (ra6 rfl rfl rfl rfl rfl rfl) ?_
     cases hs
     exact lnT () rfl (su6 rfl rfl rfl rfl rfl rfl)
    ·refine C1<|r0<|A0 (E7 rfl rfl) rfl<|qm rfl<|en (ra6 rfl rfl rfl rfl rfl rfl) ?_
     cases hs
     exact lnT () rfl (su6 rfl rfl rfl rfl rfl rfl)
   ·refine F4 ?_
    obtain rfl:=os hs
    exact lx rfl px (su1 rfl)
  ·rintro e s' H' - ⟨rfl,rfl,rfl⟩
   have hsort:G7 tab ⟨H.length,c.cur :: c.outer⟩ (H++B4p H.length a0 ch best o) (.fn (.func 67) [] []) [.asl (H.length + 1) o.length] [] (H++B4p H.length a0 ch best q):= by
    have:=D58 (c:=⟨H.length,c.cur :: c.outer⟩) (A:=H++[AO.cells (A4 a0)]) (B:=(B4p H.length a0 ch best o).drop 2) hq
    rw [hA] at this
    rw [hH o,hH q]
    exact this
   refine s0<|qm rfl<|R9 (T8 rfl rfl hsort rfl) rfl<|es (ra1 rfl)<|s0<|qm rfl<|qm rfl<|qm rfl<|es (ra2 rfl rfl)<|C4 ?_
   exact ⟨[.fresh 1 (List.map cI q),.i 0],retq trivial (B1 rfl (B1 rfl B8)) (A6 (A18 rfl (by rw [List.length_map]; exact D03 hq)) (A6 rfl B9)) (A3 V4 (A3 A7 B2)),rfl⟩
end Ds
end
section
set_option maxRecDepth 100000
set_option maxHeartbeats 0
namespace Ds
open Go Am Go.Proofs.Ytdkflofgolehkaa.Cd
def T4 :Option Bool :=
 (A46 2).bind fun x1 =>
 (A46 1).bind fun x2 =>
 (A0r x1 0 0).bind fun x3 =>
 (Y8 x1 [2,0,1]).bind fun x4 =>
 (A16 x1 [1,0,2]).bind fun x5 =>
 (A15 x1).bind fun x6 =>
 (A15 x2).bind fun x7 =>
 (A4r x1 2).bind fun x8 =>
 (Y4 x1 1).bind fun x9 =>
 (A9r x2).bind fun x10 =>
 (A9q x2).bind fun x11 =>
 (if ((((((((((x3.2.2 == 0) && (x4.2 == 0)) && (x5.2 == 0)) && (x6.2.2 == 0)) && (x7.2.2 == 9)) && (x8.2 == 0)) && (x9.2 == 0)) && (x10.2 == 0)) && (x11.2.2 == 0)) && (x3.1 == 14)) = true then
  (K9 x3.2.1 [0,2]).bind fun x22 =>
  some x22
 else
  some false).bind fun x23 =>
 (if x23 = true then
  (K9 x4.1 [4,(-1)]).bind fun x25 =>
  some x25
 else
  some false).bind fun x26 =>
 (if (x26 && (x5.1 == 14)) = true then
  (K9 x6.1 [1,0,2]).bind fun x29 =>
  some x29
 else
  some false).bind fun x30 =>
 (if (x30 && (x6.2.1 == 14)) = true then
  (K9 x8.1 [2]).bind fun x33 =>
  some x33
 else
  some false).bind fun x34 =>
 (if (x34 && (x9.1 == 10)) = true then
  (K9 x10.1 [0]).bind fun x37 =>
  some x37
 else
  some false).bind fun x38 =>
 (if x38 = true then
  (K9 x11.1 [0,1]).bind fun x40 =>
  some x40
 else
  some false).bind fun x41 =>
 some (x41 && (x11.2.1 == 14))
theorem U4 {c:Sc} {H:A1} (hscv:S0 c H = true)  {r:Bool} (h:T4  = some r) :
  E8 tab c H (.fn (.func 21) [] []) [] [.b r]:= by
 unfold T4 at h
 refine cE rfl rfl<|s0<|qm rfl<|es .n<|sg 0 rfl<|oB h fun x1 hx1 h=>oB h fun x2 hx2 h=>B4 (rs:=[(.agg (A4 x1))]) rfl rfl (A2 rfl B7) ((A6g hx1).frz)<|B4 (rs:=[(.agg (A4 x2))]) rfl rfl (A2 rfl B7) ((A6g hx2).frz)<|A0 E3 rfl<|A0 E3 rfl<|I2 (D2 (ds:=(A4 x1)) rfl rfl rfl rfl (C6 rfl) rfl) rfl<|I2 (D2 (ds:=(A4 x2)) rfl rfl rfl rfl (C6 rfl) rfl) rfl<|es (ra2 rfl rfl)<|s0<|oB h fun x3 hx3 h=>A0 (C3 rfl rfl rfl) rfl<|B4 (rs:=[.i x3.1,(.seq 1 (List.map cI x3.2.1)),.i x3.2.2]) rfl rfl (A2 (D1 rfl) (A2 rfl (A2 rfl B7))) ((A3v hx3).frz)<|qm rfl<|A0 (A8 rfl rfl) rfl<|A0 (A8 rfl rfl) rfl<|A0 (A8 rfl rfl) rfl<|qm rfl<|qm rfl<|qm rfl<|es (ra5 rfl rfl rfl rfl rfl)<|s0<|oB h fun x4 hx4 h=>A0 (C3 rfl rfl rfl) rfl<|A0 (G6 (rows:=List.map cI [2,0,1]) rfl rfl (D9 (fun _=>rfl) _)) rfl<|B4 (rs:=[(.seq 1 (List.map cI x4.1)),.i x4.2]) rfl rfl (A2 (D1 rfl) (A2 rfl B7)) ((A1u hx4).frz)<|qm rfl<|A0 (A8 rfl rfl) rfl<|A0 (A8 rfl rfl) rfl<|qm rfl<|qm rfl<|es (ra7 rfl rfl rfl rfl rfl rfl rfl)<|s0<|oB h fun x5 hx5 h=>A0 (C3 rfl rfl rfl) rfl<|A0 (G6 (rows:=List.map cI [1,0,2]) rfl rfl (D9 (fun _=>rfl) _)) rfl<|B4 (rs:=[.i x5.1,.i x5.2]) rfl rfl (A2 (D1 rfl) (A2 rfl B7)) ((A6f hx5).frz)<|qm rfl<|A0 (A8 rfl rfl) rfl<|A0 (A8 rfl rfl) rfl<|qm rfl<|qm rfl<|es (ra9 rfl rfl rfl rfl rfl rfl rfl rfl rfl)<|s0<|oB h fun x6 hx6 h=>A0 (C3 rfl rfl rfl) rfl<|B4 (rs:=[(.seq 1 (List.map cI x6.1)),.i x6.2.1,.i x6.2.2]) rfl rfl (A2 (D1 rfl) B7) ((A6e (A2p hscv) hx6).frz)<|qm rfl<|A0 (A8 rfl rfl) rfl<|A0 (A8 rfl rfl) rfl<|A0 (A8 rfl rfl) rfl<|qm rfl<|qm rfl<|qm rfl<|es (ra12 rfl rfl rfl rfl rfl rfl rfl rfl rfl rfl rfl rfl)<|s0 ?_
 refine oB h fun x7 hx7 h=>A0 (C3 rfl rfl rfl) rfl<|B4 (rs:=[(.seq 1 (List.map cI x7.1)),.i x7.2.1,.i x7.2.2]) rfl rfl (A2 (D1 rfl) B7) ((A6e (A2p hscv) hx7).frz)<|qm rfl<|A0 (A8 rfl rfl) rfl<|A0 (A8 rfl rfl) rfl<|A0 (A8 rfl rfl) rfl<|qm rfl<|qm rfl<|qm rfl<|es (ra13 rfl rfl rfl rfl rfl rfl rfl rfl rfl rfl rfl rfl rfl)<|s0<|oB h fun x8 hx8 h=>A0 (C3 rfl rfl rfl) rfl<|B4 (rs:=[(.seq 1 (List.map cI x8.1)),.i x8.2]) rfl rfl (A2 (D1 rfl) (A2 rfl B7)) (B2v (A2p hscv) hx8)<|qm rfl<|A0 (A8 rfl rfl) rfl<|A0 (A8 rfl rfl) rfl<|qm rfl<|qm rfl<|es (.k rfl (.k rfl (.k rfl (.k rfl (.k rfl (.k rfl (.k rfl (.k rfl (.k rfl (.k rfl (.k rfl (.k rfl (.k rfl (.k rfl (.k rfl .n)))))))))))))))<|s0<|oB h fun x9 hx9 h=>A0 (C3 rfl rfl rfl) rfl<|B4 (rs:=[.i x9.1,.i x9.2]) rfl rfl (A2 (D1 rfl) (A2 rfl B7)) ((A26 (A2p hscv) hx9).frz)<|qm rfl<|A0 (A8 rfl rfl) rfl<|A0 (A8 rfl rfl) rfl<|qm rfl<|qm rfl<|es (.k rfl (.k rfl (.k rfl (.k rfl (.k rfl (.k rfl (.k rfl (.k rfl (.k rfl (.k rfl (.k rfl (.k rfl (.k rfl (.k rfl (.k rfl (.k rfl .n))))))))))))))))<|s0<|oB h fun x10 hx10 h=>A0 (C3 rfl rfl rfl) rfl<|B4 (rs:=[(.seq 1 (List.map cI x10.1)),.i x10.2]) rfl rfl (A2 (D1 rfl) B7) ((B2u (A2p hscv) hx10).frz)<|qm rfl<|A0 (A8 rfl rfl) rfl<|A0 (A8 rfl rfl) rfl<|qm rfl<|qm rfl<|es (.k rfl (.k rfl (.k rfl (.k rfl (.k rfl (.k rfl (.k rfl (.k rfl (.k rfl (.k rfl (.k rfl (.k rfl (.k rfl (.k rfl (.k rfl (.k rfl (.k rfl (.k rfl .n))))))))))))))))))<|s0<|oB h fun x11 hx11 h=>A0 (C3 rfl rfl rfl) rfl<|B4 (rs:=[(.seq 1 (List.map cI x11.1)),.i x11.2.1,.i x11.2.2]) rfl rfl (A2 (D1 rfl) B7) ((B2t (A2p hscv) hx11).frz)<|qm rfl<|A0 (A8 rfl rfl) rfl<|A0 (A8 rfl rfl) rfl<|A0 (A8 rfl rfl) rfl<|qm rfl<|qm rfl<|qm rfl<|es (.k rfl (.k rfl (.k rfl (.k rfl (.k rfl (.k rfl (.k rfl (.k rfl (.k rfl (.k rfl (.k rfl (.k rfl (.k rfl (.k rfl (.k rfl (.k rfl (.k rfl (.k rfl (.k rfl (.k rfl .n))))))))))))))))))))<|s0<|oB h fun x23 hx23 h=>oB h fun x26 hx26 h=>oB h fun x30 hx30 h=>oB h fun x34 hx34 h=>oB h fun x38 hx38 h=>oB h fun x41 hx41 h=>qm rfl ?_
 refine A0 (F5 rfl rfl) rfl<|qm rfl<|gp 3 83 (.b ((x3.2.2 == 0) && (x4.2 == 0))) 80 rfl rfl (fun hg12=>?_) (fun hg12=>?_) ?_
 ·exact gT rfl hg12<|qm rfl<|gT rfl hg12<|A0 (F5 rfl rfl) rfl<|A0 (C8 rfl hg12 rfl) rfl<|ge 3 (by rw [hg12]; rfl) rfl rfl
 ·exact nT rfl hg12 rfl<|nT rfl hg12 rfl<|A0 (C7 rfl hg12 rfl) rfl<|ge 3 (by rw [hg12]; rfl) rfl rfl
 refine qm rfl<|gp 3 87 (.b (((x3.2.2 == 0) && (x4.2 == 0)) && (x5.2 == 0))) 84 rfl rfl (fun hg13=>?_) (fun hg13=>?_) ?_
 ·exact gT rfl hg13<|qm rfl<|gT rfl hg13<|A0 (F5 rfl rfl) rfl<|A0 (C8 rfl hg13 rfl) rfl<|ge 3 (by rw [hg13]; rfl) rfl rfl
 ·exact nT rfl hg13 rfl<|nT rfl hg13 rfl<|A0 (C7 rfl hg13 rfl) rfl<|ge 3 (by rw [hg13]; rfl) rfl rfl
 refine qm rfl<|gp 3 91 (.b ((((x3.2.2 == 0) && (x4.2 == 0)) && (x5.2 == 0)) && (x6.2.2 == 0))) 88 rfl rfl (fun hg14=>?_) (fun hg14=>?_) ?_
 ·exact gT rfl hg14<|qm rfl<|gT rfl hg14<|A0 (F5 rfl rfl) rfl<|A0 (C8 rfl hg14 rfl) rfl<|ge 3 (by rw [hg14]; rfl) rfl rfl
 ·exact nT rfl hg14 rfl<|nT rfl hg14 rfl<|A0 (C7 rfl hg14 rfl) rfl<|ge 3 (by rw [hg14]; rfl) rfl rfl
 refine qm rfl<|gp 3 95 (.b (((((x3.2.2 == 0) && (x4.2 == 0)) && (x5.2 == 0)) && (x6.2.2 == 0)) && (x7.2.2 == 9))) 92 rfl rfl (fun hg15=>?_) (fun hg15=>?_) ?_
 ·exact gT rfl hg15<|qm rfl<|gT rfl hg15<|A0 (F5 rfl rfl) rfl<|A0 (C8 rfl hg15 rfl) rfl<|ge 3 (by rw [hg15]; rfl) rfl rfl
 ·exact nT rfl hg15 rfl<|nT rfl hg15 rfl<|A0 (C7 rfl hg15 rfl) rfl<|ge 3 (by rw [hg15]; rfl) rfl rfl
 refine qm rfl<|gp 3 99 (.b ((((((x3.2.2 == 0) && (x4.2 == 0)) && (x5.2 == 0)) && (x6.2.2 == 0)) && (x7.2.2 == 9)) && (x8.2 == 0))) 96 rfl rfl (fun hg16=>?_) (fun hg16=>?_) ?_
 ·exact gT rfl hg16<|qm rfl<|gT rfl hg16<|A0 (F5 rfl rfl) rfl<|A0 (C8 rfl hg16 rfl) rfl<|ge 3 (by rw [hg16]; rfl) rfl rfl
 ·exact nT rfl hg16 rfl<|nT rfl hg16 rfl<|A0 (C7 rfl hg16 rfl) rfl<|ge 3 (by rw [hg16]; rfl) rfl rfl
 refine qm rfl<|gp 3 103 (.b (((((((x3.2.2 == 0) && (x4.2 == 0)) && (x5.2 == 0)) && (x6.2.2 == 0)) && (x7.2.2 == 9)) && (x8.2 == 0)) && (x9.2 == 0))) 100 rfl rfl (fun hg17=>?_) (fun hg17=>?_) ?_
 ·exact gT rfl hg17<|qm rfl<|gT rfl hg17<|A0 (F5 rfl rfl) rfl<|A0 (C8 rfl hg17 rfl) rfl<|ge 3 (by rw [hg17]; rfl) rfl rfl
 ·exact nT rfl hg17 rfl<|nT rfl hg17 rfl<|A0 (C7 rfl hg17 rfl) rfl<|ge 3 (by rw [hg17]; rfl) rfl rfl
 refine qm rfl<|gp 3 107 (.b ((((((((x3.2.2 == 0) && (x4.2 == 0)) && (x5.2 == 0)) && (x6.2.2 == 0)) && (x7.2.2 == 9)) && (x8.2 == 0)) && (x9.2 == 0)) && (x10.2 == 0))) 104 rfl rfl (fun hg18=>?_) (fun hg18=>?_) ?_
 ·exact gT rfl hg18<|qm rfl<|gT rfl hg18<|A0 (F5 rfl rfl) rfl<|A0 (C8 rfl hg18 rfl) rfl<|ge 3 (by rw [hg18]; rfl) rfl rfl
 ·exact nT rfl hg18 rfl<|nT rfl hg18 rfl<|A0 (C7 rfl hg18 rfl) rfl<|ge 3 (by rw [hg18]; rfl) rfl rfl
 refine qm rfl<|gp 3 111 (.b (((((((((x3.2.2 == 0) && (x4.2 == 0)) && (x5.2 == 0)) && (x6.2.2 == 0)) && (x7.2.2 == 9)) && (x8.2 == 0)) && (x9.2 == 0)) && (x10.2 == 0)) && (x11.2.2 == 0))) 108 rfl rfl (fun hg19=>?_) (fun hg19=>?_) ?_
 ·exact gT rfl hg19<|qm rfl<|gT rfl hg19<|A0 (F5 rfl rfl) rfl<|A0 (C8 rfl hg19 rfl) rfl<|ge 3 (by rw [hg19]; rfl) rfl rfl
 ·exact nT rfl hg19 rfl<|nT rfl hg19 rfl<|A0 (C7 rfl hg19 rfl) rfl<|ge 3 (by rw [hg19]; rfl) rfl rfl
 refine qm rfl<|gp 3 115 (.b ((((((((((x3.2.2 == 0) && (x4.2 == 0)) && (x5.2 == 0)) && (x6.2.2 == 0)) && (x7.2.2 == 9)) && (x8.2 == 0)) && (x9.2 == 0)) && (x10.2 == 0)) && (x11.2.2 == 0)) && (x3.1 == 14))) 112 rfl rfl (fun hg20=>?_) (fun hg20=>?_) ?_
 ·exact gT rfl hg20<|qm rfl<|gT rfl hg20<|A0 (F5 rfl rfl) rfl<|A0 (C8 rfl hg20 rfl) rfl<|ge 3 (by rw [hg20]; rfl) rfl rfl
 ·exact nT rfl hg20 rfl<|nT rfl hg20 rfl<|A0 (C7 rfl hg20 rfl) rfl<|ge 3 (by rw [hg20]; rfl) rfl rfl
 refine qm rfl<|gp 4 120 (.b x23) 116 rfl rfl (fun hg21=>?_) (fun hg21=>?_) ?_
 ·refine oB (bt hx23 hg21) fun x22 hx22 hx23=>?_
  obtain rfl:=os hx23
  exact gT rfl hg21<|qm rfl<|gT rfl hg21<|A0 (G6 (rows:=List.map cI [0,2]) rfl rfl (D9 (fun _=>rfl) _)) rfl<|gT rfl hg21<|B4 (rs:=[.b x22]) rfl rfl (A2 rfl (A2 rfl B7)) ((K6 hx22).frz)<|A0 (C8 rfl hg21 rfl) rfl<|ge 4 rfl rfl rfl
 ·obtain rfl:=os (bf hx23 hg21)
  exact nT rfl hg21 rfl<|nT rfl hg21 rfl<|N0 (G1 rfl (by rw [hg21]; rfl)) rfl<|A0 (C7 rfl hg21 rfl) rfl<|ge 4 rfl rfl rfl
 refine qm rfl<|gp 4 125 (.b x26) 121 rfl rfl (fun hg24=>?_) (fun hg24=>?_) ?_
 ·refine oB (bt hx26 hg24) fun x25 hx25 hx26=>?_
  obtain rfl:=os hx26
  exact gT rfl hg24<|qm rfl<|gT rfl hg24<|A0 (G6 (rows:=List.map cI [4,(-1)]) rfl rfl (D9 (fun _=>rfl) _)) rfl<|gT rfl hg24<|B4 (rs:=[.b x25]) rfl rfl (A2 rfl (A2 rfl B7)) ((K6 hx25).frz)<|A0 (C8 rfl hg24 rfl) rfl<|ge 4 rfl rfl rfl
 ·obtain rfl:=os (bf hx26 hg24)
  exact nT rfl hg24 rfl<|nT rfl hg24 rfl<|N0 (G1 rfl (by rw [hg24]; rfl)) rfl<|A0 (C7 rfl hg24 rfl) rfl<|ge 4 rfl rfl rfl
 refine qm rfl<|gp 3 129 (.b (x26 && (x5.1 == 14))) 126 rfl rfl (fun hg27=>?_) (fun hg27=>?_) ?_
 ·exact gT rfl hg27<|qm rfl<|gT rfl hg27<|A0 (F5 rfl rfl) rfl<|A0 (C8 rfl hg27 rfl) rfl<|ge 3 (by rw [hg27]; rfl) rfl rfl
 ·exact nT rfl hg27 rfl<|nT rfl hg27 rfl<|A0 (C7 rfl hg27 rfl) rfl<|ge 3 (by rw [hg27]; rfl) rfl rfl
 refine qm rfl<|gp 4 134 (.b x30) 130 rfl rfl (fun hg28=>?_) (fun hg28=>?_) ?_
 ·refine oB (bt hx30 hg28) fun x29 hx29 hx30=>?_
  obtain rfl:=os hx30
  exact gT rfl hg28<|qm rfl<|gT rfl hg28<|A0 (G6 (rows:=List.map cI [1,0,2]) rfl rfl (D9 (fun _=>rfl) _)) rfl<|gT rfl hg28<|B4 (rs:=[.b x29]) rfl rfl (A2 rfl (A2 rfl B7)) ((K6 hx29).frz)<|A0 (C8 rfl hg28 rfl) rfl<|ge 4 rfl rfl rfl
 ·obtain rfl:=os (bf hx30 hg28)
  exact nT rfl hg28 rfl<|nT rfl hg28 rfl<|N0 (G1 rfl (by rw [hg28]; rfl)) rfl<|A0 (C7 rfl hg28 rfl) rfl<|ge 4 rfl rfl rfl
 refine qm rfl<|gp 3 138 (.b (x30 && (x6.2.1 == 14))) 135 rfl rfl (fun hg31=>?_) (fun hg31=>?_) ?_
 ·exact gT rfl hg31<|qm rfl<|gT rfl hg31<|A0 (F5 rfl rfl) rfl<|A0 (C8 rfl hg31 rfl) rfl<|ge 3 (by rw [hg31]; rfl) rfl rfl
 ·exact nT rfl hg31 rfl<|nT rfl hg31 rfl<|A0 (C7 rfl hg31 rfl) rfl<|ge 3 (by rw [hg31]; rfl) rfl rfl
 refine qm rfl<|gp 4 143 (.b x34) 139 rfl rfl (fun hg32=>?_) (fun hg32=>?_) ?_
 ·refine oB (bt hx34 hg32) fun x33 hx33 hx34=>?_
  obtain rfl:=os hx34
  exact gT rfl hg32<|qm rfl<|gT rfl hg32<|A0 (G6 (rows:=List.map cI [2]) rfl rfl (D9 (fun _=>rfl) _)) rfl<|gT rfl hg32<|B4 (rs:=[.b x33]) rfl rfl (A2 rfl (A2 rfl B7)) ((K6 hx33).frz)<|A0 (C8 rfl hg32 rfl) rfl<|ge 4 rfl rfl rfl
 ·obtain rfl:=os (bf hx34 hg32)
  exact nT rfl hg32 rfl<|nT rfl hg32 rfl<|N0 (G1 rfl (by rw [hg32]; rfl)) rfl<|A0 (C7 rfl hg32 rfl) rfl<|ge 4 rfl rfl rfl
 refine qm rfl<|gp 3 147 (.b (x34 && (x9.1 == 10))) 144 rfl rfl (fun hg35=>?_) (fun hg35=>?_) ?_
 ·exact gT rfl hg35<|qm rfl<|gT rfl hg35<|A0 (F5 rfl rfl) rfl<|A0 (C8 rfl hg35 rfl) rfl<|ge 3 (by rw [hg35]; rfl) rfl rfl
 ·exact nT rfl hg35 rfl<|nT rfl hg35 rfl<|A0 (C7 rfl hg35 rfl) rfl<|ge 3 (by rw [hg35]; rfl) rfl rfl
 refine qm rfl<|gp 4 152 (.b x38) 148 rfl rfl (fun hg36=>?_) (fun hg36=>?_) ?_
 ·refine oB (bt hx38 hg36) fun x37 hx37 hx38=>?_
  obtain rfl:=os hx38
  exact gT rfl hg36<|qm rfl<|gT rfl hg36<|A0 (G6 (rows:=List.map cI [0]) rfl rfl (D9 (fun _=>rfl) _)) rfl<|gT rfl hg36<|B4 (rs:=[.b x37]) rfl rfl (A2 rfl (A2 rfl B7)) ((K6 hx37).frz)<|A0 (C8 rfl hg36 rfl) rfl<|ge 4 rfl rfl rfl
 ·obtain rfl:=os (bf hx38 hg36)
  exact nT rfl hg36 rfl<|nT rfl hg36 rfl<|N0 (G1 rfl (by rw [hg36]; rfl)) rfl<|A0 (C7 rfl hg36 rfl) rfl<|ge 4 rfl rfl rfl
 refine qm rfl<|gp 4 157 (.b x41) 153 rfl rfl (fun hg39=>?_) (fun hg39=>?_) ?_
 ·refine oB (bt hx41 hg39) fun x40 hx40 hx41=>?_
  obtain rfl:=os hx41
  exact gT rfl hg39<|qm rfl<|gT rfl hg39<|A0 (G6 (rows:=List.map cI [0,1]) rfl rfl (D9 (fun _=>rfl) _)) rfl<|gT rfl hg39<|B4 (rs:=[.b x40]) rfl rfl (A2 rfl (A2 rfl B7)) ((K6 hx40).frz)<|A0 (C8 rfl hg39 rfl) rfl<|ge 4 rfl rfl rfl
 ·obtain rfl:=os (bf hx41 hg39)
  exact nT rfl hg39 rfl<|nT rfl hg39 rfl<|N0 (G1 rfl (by rw [hg39]; rfl)) rfl<|A0 (C7 rfl hg39 rfl) rfl<|ge 4 rfl rfl rfl
 refine qm rfl<|gp 3 161 (.b (x41 && (x11.2.1 == 14))) 158 rfl rfl (fun hg42=>?_) (fun hg42=>?_) ?_
 ·exact gT rfl hg42<|qm rfl<|gT rfl hg42<|A0 (F5 rfl rfl) rfl<|A0 (C8 rfl hg42 rfl) rfl<|ge 3 (by rw [hg42]; rfl) rfl rfl
 ·exact nT rfl hg42 rfl<|nT rfl hg42 rfl<|A0 (C7 rfl hg42 rfl) rfl<|ge 3 (by rw [hg42]; rfl) rfl rfl
 refine qm rfl<|es (ra1 rfl)<|C4 ?_
 obtain rfl:=os h
 exact retq trivial (B1 rfl B8) (A6 rfl B9) (A3 A7 B2)
end Ds
end
section
set_option maxRecDepth 100000
namespace Ds
theorem awake:T4 = some true:= by decide +kernel
end Ds
end
section
set_option maxRecDepth 100000
set_option maxHeartbeats 0
namespace Ds
open Go Am Go.Proofs.Ytdkflofgolehkaa.Cd
def A0j (a0:DrRoom) (a1:(List Int)) (s1:(Int × (List Int))) (s5:(Int × Int)):Option ((Int × Int) ⊕ Int) :=
 if (decide (s5.2 < (List.length a1:Int))) = true then
  (idx a1 s5.2).bind fun x8 =>
  (idx a0.Figures x8).bind fun x9 =>
  (idx a0.Persons s5.2).bind fun x10 =>
  (A02 x9 x10).bind fun x11 =>
  (A2i x11 0).bind fun x12 =>
  if (!x12) = true then
  some (.inl (s5.1,(w64 (s5.2 + 1))))
  else
  (idx x9.Looks 0).bind fun x14 =>
  if (x14 == s1.1) = true then
   (idx x10.Looks 0).bind fun x16 =>
   if (x16 == s1.1) = true then
   some (.inl ((w64 ((w64 (s5.1 + x9.Hair)) - x10.Hair)),(w64 (s5.2 + 1))))
   else
   some (.inl ((w64 (s5.1 + x9.Hair)),(w64 (s5.2 + 1))))
  else
   (idx x10.Looks 0).bind fun x18 =>
   if (x18 == s1.1) = true then
   some (.inl ((w64 (s5.1 - x10.Hair)),(w64 (s5.2 + 1))))
   else
   some (.inl (s5.1,(w64 (s5.2 + 1))))
 else
  some (.inr s5.1)
def A1x (a0:DrRoom) (a1:(List Int)) (s1:(Int × (List Int))):Option ((Int × (List Int)) ⊕ (List Int)) :=
 if (decide (s1.1 < (List.length a0.Ounces:Int))) = true then
  (idx a0.Ounces s1.1).bind fun x4 =>
  (loop (A0j a0 a1 s1) (x4,0)).bind fun (o20:Int) =>
  (app 8 s1.2 [o20]).bind fun x21 =>
  some (.inl ((w64 (s1.1 + 1)),x21))
 else
  some (.inr s1.2)
def A3n (a0:DrRoom) (a1:(List Int)):Option (List Int) :=
 (loop (A1x a0 a1) (0,([]:List Int))).bind fun (o22:(List Int)) =>
 some o22
end Ds
end
section
namespace Ds
open Go Am
abbrev Prs:=List (Nat × DrLook)
def cst (r:DrRoom) (x:Nat × DrLook):Int:=one r r.Figures[x.1]! x.2
def hr (r:DrRoom) (c:Nat) (x:Nat × DrLook):Int:=A5q r.Figures[x.1]! x.2 (c:Int)
def A8f (r:DrRoom) (z:Prs):Int:=sm (z.map (cst r))
def E5 (r:DrRoom) (z:Prs) (c:Nat):Int:=r.Ounces.getD c 0 + sm (z.map (hr r c))
def J6 (r:DrRoom) (z:Prs):dress_plan:=⟨ints (z.map (·.1)),A8f r z,⟨E5 r z 0,E5 r z 1,E5 r z 2,E5 r z 3⟩⟩
def B3j (r:DrRoom) (z:Prs):Prop:=z.length≤5∧∀ x ∈ z,x.1 < r.Figures.length∧LkOk r (-1) x.2
theorem D14 {r:DrRoom} (ok:RmOk r) (x:Nat × DrLook):0≤cst r x∧cst r x≤400:=D3h ok _ _
theorem C21 {r:DrRoom} (ok:RmOk r) (z:Prs):0≤A8f r z∧A8f r z≤400 * z.length:= by
 have:=B5k (a:=0) (b:=400) (l:=z.map (cst r)) fun x hx=>by
  obtain ⟨k,_,rfl⟩:=List.mem_map.mp hx
  exact D14 ok k
 rw [List.length_map] at this
 unfold A8f; omega
theorem D6m {r:DrRoom} (ok:RmOk r) (c:Nat) {x:Nat × DrLook} (h:x.1 < r.Figures.length∧LkOk r (-1) x.2):-50≤hr r c x∧hr r c x≤50:= by
 have h1:=(ok.figure _ (H8 h.1)).hair
 have h2:=h.2.hair
 unfold hr A5q
 split
 ·split <;> split <;> omega
 ·omega
theorem D3m {r:DrRoom} (ok:RmOk r) (c:Nat):0≤r.Ounces.getD c 0∧r.Ounces.getD c 0≤50:= by
 rw [List.getD_eq_getElem?_getD]
 by_cases h:c < r.Ounces.length
 ·rw [List.getElem?_eq_getElem h]; exact ok.ounce _ (List.getElem_mem h)
 ·rw [List.getElem?_eq_none (by omega)]; decide
theorem A8z {r:DrRoom} (ok:RmOk r) {z:Prs} (hz:B3j r z) (c:Nat):-250≤E5 r z c∧E5 r z c≤300:= by
 have:=B5k (a:=-50) (b:=50) (l:=z.map (hr r c)) fun x hx=>by
  obtain ⟨k,hk,rfl⟩:=List.mem_map.mp hx
  exact D6m ok c (hz.2 k hk)
 have h2:=D3m ok c
 have h3:=hz.1
 rw [List.length_map] at this
 unfold E5; omega
theorem B3j.take {r:DrRoom} {z:Prs} (h:B3j r z) (n:Nat):B3j r (z.take n) :=
 ⟨by have:=h.1; rw [List.length_take]; omega,fun x hx=>h.2 x (List.mem_of_mem_take hx)⟩
theorem D08 (r:DrRoom) (z:Prs) (x:Nat × DrLook):A8f r (z++[x]) = A8f r z + cst r x:= by
 unfold A8f; rw [List.map_append,A2n]; simp [sm]
theorem C6u (r:DrRoom) (z:Prs) (x:Nat × DrLook) (c:Nat):E5 r (z++[x]) c = E5 r z c + hr r c x:= by
 unfold E5; rw [List.map_append,A2n]; simp [sm]; omega
theorem C9e {r:DrRoom} (ok:RmOk r) {z:Prs} (hz:B3j r z) {f:Nat} {p:DrLook} (hx:f < r.Figures.length∧LkOk r (-1) p):V1 (J6 r z) (f:Int) (chg r r.Figures[f]! p) = some (J6 r (z++[(f,p)])):= by
 have hl:=hz.1
 have hs:=C21 ok z
 have hc:=D3h ok r.Figures[f]! p
 have hb:∀c:Nat,w64 (E5 r z c + A5q r.Figures[f]! p (c:Int)) = E5 r (z++[(f,p)]) c:=fun c=>by
  have h1:=A8z ok hz c
  have h2:=D6m ok c (x:=(f,p)) hx
  rw [C6u]
  have h2':-50≤A5q r.Figures[f]! p (c:Int)∧A5q r.Figures[f]! p (c:Int)≤50:=h2
  exact D8 (by omega)
 unfold V1
 rw [W3 (by omega) (by show (ints _).length + 1≤_; rw [F0,List.length_map]; omega)]
 simp only [Option.bind_some]
 have h0:=hb 0
 have h1:=hb 1
 have h2:=hb 2
 have h3:=hb 3
 have hloop:loop (U2 (chg r r.Figures[f]! p)) (0,(J6 r z).left_) = some (J6 r (z++[(f,p)])).left_:= by
  have:=I9 (b:=U2 (chg r r.Figures[f]! p)) (fun i=>((i:Int),(match i with
   | 0=>⟨E5 r z 0,E5 r z 1,E5 r z 2,E5 r z 3⟩
   | 1=>⟨E5 r (z++[(f,p)]) 0,E5 r z 1,E5 r z 2,E5 r z 3⟩
   | 2=>⟨E5 r (z++[(f,p)]) 0,E5 r (z++[(f,p)]) 1,E5 r z 2,E5 r z 3⟩
   | 3=>⟨E5 r (z++[(f,p)]) 0,E5 r (z++[(f,p)]) 1,E5 r (z++[(f,p)]) 2,E5 r z 3⟩
   | _=>(J6 r (z++[(f,p)])).left_:Ar4 Int))) 4 (r:=(J6 r (z++[(f,p)])).left_) (by omega) (fun i hi=>by
   unfold U2
   generalize r.Figures[f]! = F at h0 h1 h2 h3 ⊢
   rcases (by omega:i = 0∨i = 1∨i = 2∨i = 3) with rfl | rfl | rfl | rfl <;> simp [idx,Ar4.l,Ar4.set,chg,J6]
   ·exact ⟨D8 (by omega),h0⟩
   ·exact ⟨D8 (by omega),h1⟩
   ·exact ⟨D8 (by omega),h2⟩
   ·exact ⟨D8 (by omega),h3⟩) rfl
  exact this
 rw [hloop]
 simp only [Option.bind_some,Option.some.injEq]
 have e1:w64 (A8f r z + one r r.Figures[f]! p) = A8f r (z++[(f,p)]):= by
  rw [D08]; exact D8 (by omega)
 show (⟨ints (z.map (·.1))++[(f:Int)],w64 (A8f r z + one r r.Figures[f]! p),(J6 r (z++[(f,p)])).left_⟩:dress_plan) = J6 r (z++[(f,p)])
 rw [e1]
 unfold J6 ints
 simp
def A54 (r:DrRoom) (z:Prs):Bool:=(List.range r.Ounces.length).all fun c=>decide (0≤E5 r z c)
theorem C24 {q:List Nat} {ps:List DrLook} {i:Nat} (h:i < q.length) (h2:q.length≤ps.length):(q.zip ps)[i]! = (q[i]!,ps[i]!):= by
 rw [getElem!_pos _ i (by rw [List.length_zip]; omega),List.getElem_zip,getElem!_pos q i h,getElem!_pos ps i (by omega)]
theorem B3h {q:List Nat} {ps:List DrLook} (h:q.length≤ps.length):(q.zip ps).length = q.length:= by
 rw [List.length_zip]; omega
theorem A21 {q:List Nat} {i:Nat} (h:i < q.length):idx (ints q) (i:Int) = some ((q[i]!:Nat):Int) :=
 A45 (by unfold ints; rw [List.getElem?_map,List.getElem?_eq_getElem h,getElem!_pos q i h]; rfl)
structure QOk (r:DrRoom) (q:List Nat):Prop where
 len:q.length≤r.Persons.length
 fig:∀x ∈ q,x < r.Figures.length
def prs (r:DrRoom) (q:List Nat):Prs:=q.zip r.Persons
theorem QOk.pr {r:DrRoom} (ok:RmOk r) {q:List Nat} (h:QOk r q):B3j r (prs r q):= by
 refine ⟨by unfold prs; rw [B3h h.len]; have:=ok.persons; have:=h.len; omega,fun x hx=>?_⟩
 have:=List.of_mem_zip (a:=x.1) (b:=x.2) hx
 exact ⟨h.fig _ this.1,ok.person _ this.2⟩
theorem D2l (n:Nat) (f p:DrLook) (hn:1≤n):(ints (O1 n f p)).any (· == 0) = ck f p 0:= by
 rw [Bool.eq_iff_iff,List.any_eq_true]
 constructor
 ·rintro ⟨x,hx,e⟩
  unfold ints O1 at hx
  obtain ⟨k,hk,rfl⟩:=List.mem_map.mp hx
  have:k = 0:= by simpa using e
  subst this
  exact (List.mem_filter.mp hk).2
 ·intro h
  refine ⟨0,?_,rfl⟩
  unfold ints O1
  exact List.mem_map.mpr ⟨0,List.mem_filter.mpr ⟨by simp; omega,h⟩,rfl⟩
theorem hair1 {r:DrRoom} (ok:RmOk r) {q:List Nat} (h:QOk r q) (c:Nat) (hc:c < r.Ounces.length) (l0:List Int):loop (A0j r (ints q) ((c:Int),l0)) (r.Ounces[c]!,0) = some (E5 r (prs r q) c):= by
 have hP:=ok.persons
 have hC:=ok.costs
 have hl:=h.len
 have hz:=h.pr ok
 have hzl:(prs r q).length = q.length:=B3h h.len
 have hd:r.Ounces.getD c 0 = r.Ounces[c]!:= by rw [List.getD_eq_getElem?_getD,List.getElem?_eq_getElem hc,getElem!_pos _ c hc]; rfl
 have:=A91 (b:=A0j r (ints q) ((c:Int),l0)) (prs r q) (fun (t:Int) x=>t + hr r c x) r.Ounces[c]! (fun i t=>(t,(i:Int))) (r:=E5 r (prs r q) c) (by omega) (fun i hi=>by
  rw [A43 (hr r c)]
  have hs:=A8z ok (hz.take i) c
  unfold E5 at hs
  rw [hd] at hs
  have hi2:i < q.length:= by omega
  have e:(prs r q)[i]! = (q[i]!,r.Persons[i]!):=C24 hi2 h.len
  have hf:=h.fig _ (H8 hi2)
  have lf:=ok.figure _ (H8 hf)
  have lp:=ok.person _ (H8 (l:=r.Persons) (i:=i) (by omega))
  generalize r.Ounces[c]! + sm (List.map (hr r c) ((prs r q).take i)) = t at hs ⊢
  unfold A0j
  simp only []
  rw [if_pos (by rw [F0]; simpa using hi2),A21 hi2]
  simp only [Option.bind_some]
  rw [G2 hf,G2 (by omega)]
  simp only [Option.bind_some]
  rw [B6o ok lf.len lp.len]
  simp only [Option.bind_some]
  rw [C1q _ _ (by rw [F0]; have:=P6 r.Costs.length r.Figures[q[i]!]! r.Persons[i]!; omega),D2l _ _ _ hC.1,e]
  simp only [Option.bind_some]
  have h1:=lf.hair
  have h2:=lp.hair
  unfold hr A5q
  generalize r.Figures[q[i]!]! = F at lf h1 ⊢
  generalize r.Persons[i]! = P at lp h2 ⊢
  rw [show idx F.Looks 0 = some F.Looks[0]! from G2 (i:=0) (by rw [lf.len]; omega),show idx P.Looks 0 = some P.Looks[0]! from G2 (i:=0) (by rw [lp.len]; omega)]
  simp only [Option.bind_some,beq_iff_eq]
  have hw:w64 ((i:Int) + 1) = ((i + 1:Nat):Int):=D8 (by omega)
  cases ck F P 0 with
  | false=>simp only [Bool.not_false,if_true,Bool.false_eq_true,if_false,hw,Int.add_zero]
  | true =>
   simp only [Bool.not_true,Bool.false_eq_true,if_false,if_true,hw]
   by_cases c1:F.Looks[0]! = (c:Int) <;> by_cases c2:P.Looks[0]! = (c:Int) <;> simp only [c1,c2,if_true,if_false]
   ·rw [D8 (n:=t + F.Hair) (by omega),D8 (by omega)]; congr 3; omega
   ·rw [D8 (n:=t + F.Hair) (by omega)]; congr 3; omega
   ·rw [D8 (by omega)]; congr 3; omega
   ·congr 3; omega) (by
  unfold A0j
  simp only []
  rw [if_neg (by rw [F0,hzl]; simp),A43 (hr r c)]
  unfold E5; rw [hd])
 exact this
def T5 (r:DrRoom) (z:Prs):List Int:=(List.range r.Ounces.length).map (E5 r z)
theorem C7y {r:DrRoom} (ok:RmOk r) {q:List Nat} (h:QOk r q):A3n r (ints q) = some (T5 r (prs r q)):= by
 have hO:=ok.ounces
 unfold A3n
 have:=A91 (b:=A1x r (ints q)) (List.range r.Ounces.length) (fun (t:List Int) c=>t++[E5 r (prs r q) c]) [] (fun i t=>((i:Int),t)) (r:=T5 r (prs r q)) (by simp; omega) (fun i hi=>by
  have hi2:i < r.Ounces.length:= by simpa using hi
  rw [A59 (E5 r (prs r q)),D0t hi2]
  unfold A1x
  simp only []
  rw [if_pos (by simpa using hi2),G2 hi2]
  simp only [Option.bind_some]
  rw [hair1 ok h i hi2]
  simp only [Option.bind_some]
  rw [W3 (by omega) (by simp; omega),D8 (by omega)]
  rfl) (by
  unfold A1x
  simp only []
  rw [if_neg (by simp),A59 (E5 r (prs r q))]
  simp [T5])
 rw [show ((0:Int),([]:List Int)) = (((0:Nat):Int),([]:List Int)) from rfl,this]; rfl
end Ds
end
section
set_option maxRecDepth 100000
set_option maxHeartbeats 0
namespace Ds
open Go Am Go.Proofs.Ytdkflofgolehkaa.Cd
def R2 (a0:DrRoom) (a1:(List Int)) (s5:(Int × Int)):Option ((Int × Int) ⊕ Int) :=
 if ((decide (s5.2 < (List.length a1:Int))) && (s5.1 == 0)) = true then
  (idx a1 s5.2).bind fun x9 =>
  (L9 x9 0 (w64 ((List.length a0.Figures:Int) - 1))).bind fun x10 =>
  if (!x10) = true then
  some (.inl (4,(w64 (s5.2 + 1))))
  else
  some (.inl (s5.1,(w64 (s5.2 + 1))))
 else
  some (.inr s5.1)
def R3 (a1:(List Int)) (s13:(Int × Int)):Option ((Int × Int) ⊕ Int) :=
 if ((decide (s13.2 < (List.length a1:Int))) && (s13.1 == 0)) = true then
  (slc a1 0 s13.2).bind fun x17 =>
  (idx a1 s13.2).bind fun x18 =>
  (A2i x17 x18).bind fun x19 =>
  if x19 = true then
  some (.inl (5,(w64 (s13.2 + 1))))
  else
  some (.inl (s13.1,(w64 (s13.2 + 1))))
 else
  some (.inr s13.1)
def A3q (a0:DrRoom) (a1:(List Int)):Option Int :=
 (T7 a0).bind fun x1 =>
 (if ((x1.2.2 == 0) && ((List.length a1:Int) != (List.length a0.Persons:Int))) = true then
  some 3
  else
  some x1.2.2).bind fun (p3:Int) =>
 (loop (R2 a0 a1) (p3,0)).bind fun (o12:Int) =>
 (loop (R3 a1) (o12,0)).bind fun (o21:Int) =>
 some o21
def A3o (a0:DrRoom) (a1:(List Int)):Option ((List Int) × Int) :=
 (A3q a0 a1).bind fun x1 =>
 if (x1 != 0) = true then
  some (([]:List Int),x1)
 else
  (A3n a0 a1).bind fun x3 =>
  some (x3,0)
end Ds
end
section
namespace Ds
open Go Am
theorem C9l {α:Type} [Inhabited α] (l:List α) (p:α→Bool):((List.range l.length).any fun i=>p l[i]!) = l.any p:= by
 rw [Bool.eq_iff_iff,List.any_eq_true,List.any_eq_true]
 constructor
 ·rintro ⟨i,hi,h⟩
  exact ⟨_,H8 (by simpa using hi),h⟩
 ·rintro ⟨x,hx,h⟩
  obtain ⟨i,hi,rfl⟩:=B6c hx
  exact ⟨i,by simpa using hi,h⟩
theorem C9x {ρ:Type} {n:Nat} {p:Nat→Bool} {f:Nat→Option ρ} (hf:∀i,i < n→(f i).isSome = p i):(first f n).isSome = (List.range n).any p:= by
 cases h:first f n with
 | none =>
  have h0:=G0.mp h
  symm
  rw [Option.isSome_none,List.any_eq_false]
  intro i hi
  have hi:i < n:= by simpa using hi
  have:=hf i hi
  rw [h0 i hi] at this
  rw [← this]; simp
 | some r =>
  obtain ⟨i,hi,h1,-⟩:=N4 h
  symm
  rw [Option.isSome_some,List.any_eq_true]
  refine ⟨i,by simpa using hi,?_⟩
  rw [← hf i hi,h1]; rfl
theorem C4k {b:Int × Int→Option ((Int × Int) ⊕ Int)} (n:Nat) (bad:Nat→Bool) (code:Int) (hn:n < 9223372036854775808)
  (hs:∀i:Nat,i < n→b (0,(i:Int)) = some (.inl (if bad i then code else 0,((i + 1:Nat):Int)))) (he:b (0,(n:Int)) = some (.inr 0)) (hc:∀i:Nat,b (code,(i:Int)) = some (.inr code)) :
  loop b (0,0) = some (if (List.range n).any bad then code else 0):= by
 cases hf:first (fun i=>if bad i then some () else none) n with
 | none =>
  have h0:=G0.mp hf
  have hb:∀i,i < n→bad i = false:=fun i hi=>by
   have:=h0 i hi
   cases hq:bad i with
   | false=>rfl
   | true=>rw [hq] at this; cases this
  have e:(List.range n).any bad = false:= by
   rw [List.any_eq_false]
   intro i hi
   rw [hb i (by simpa using hi)]; decide
  rw [e]
  exact I9 (b:=b) (fun i=>(0,(i:Int))) n (by omega) (fun i hi=>by rw [hs i hi,hb i hi]; rfl) he
 | some u =>
  obtain ⟨k,hk,h1,h2⟩:=N4 hf
  have hbk:bad k = true:= by
   cases hq:bad k with
   | true=>rfl
   | false=>rw [hq] at h1; cases h1
  have e:(List.range n).any bad = true:=List.any_eq_true.mpr ⟨k,by simpa using hk,hbk⟩
  rw [e]
  have:=I9 (b:=b) (fun i=>if i≤k then (0,(i:Int)) else (code,(i:Int))) (k + 1) (r:=code) (by omega) (fun i hi=>by
   have hik:i≤k:= by omega
   simp only [hik,if_true]
   rw [hs i (by omega)]
   by_cases c:i = k
   ·subst c
    rw [hbk,if_neg (by omega:¬ i + 1≤i)]; rfl
   ·have:=h2 i (by omega)
    cases hq:bad i with
    | true=>rw [hq] at this; cases this
    | false=>rw [if_pos (by omega:i + 1≤k)]; rfl) (by
   simp only [show ¬ k + 1≤k by omega,if_false]; exact hc (k + 1))
  exact this
def A76 (l:List Int) (i:Nat):Bool:=(l.take i).any (· == l[i]!)
def B9i (l:List Int):Bool:=(List.range l.length).any (A76 l)
def P1 (r:DrRoom) (l:List Int):Int :=
 if (chk r).2.2 ≠ 0 then (chk r).2.2 else if l.length ≠ r.Persons.length then 3 else if l.any (out 0 ((r.Figures.length:Int) - 1)) then 4 else if B9i l then 5 else 0
def nats (l:List Int):List Nat:=l.map Int.toNat
theorem C7z (r:DrRoom) (l:List Int) (hl:l.length < 9223372036854775808):A3q r l = some (P1 r l):= by
 unfold A3q
 rw [A1i]
 simp only [Option.bind_some]
 have stop1:∀e:Int,e ≠ 0→loop (R2 r l) (e,0) = some e:=fun e he=>by
  have:=I9 (b:=R2 r l) (fun _=>(e,0)) 0 (r:=e) (by omega) (fun i hi=>absurd hi (Nat.not_lt_zero i)) (by
   unfold R2
   simp only []
   rw [if_neg (by simp [he])])
  exact this
 have stop2:∀e:Int,e ≠ 0→loop (R3 l) (e,0) = some e:=fun e he=>by
  have:=I9 (b:=R3 l) (fun _=>(e,0)) 0 (r:=e) (by omega) (fun i hi=>absurd hi (Nat.not_lt_zero i)) (by
   unfold R3
   simp only []
   rw [if_neg (by simp [he])])
  exact this
 unfold P1
 by_cases h0:(chk r).2.2 = 0
 ·have hr:∀(a b:Int),(if (chk r).2.2 ≠ 0 then a else b) = b:=fun a b=>if_neg (fun c=>c h0)
  obtain ⟨ok,-⟩:=(T1 r).mp h0
  have hF:=ok.figures
  rw [hr,h0]
  by_cases h1:l.length = r.Persons.length
  ·have e1:((l.length:Int) != (r.Persons.length:Int)) = false:= by rw [h1]; exact bne_self_eq_false _
   have hr2:∀(a b:Int),(if l.length ≠ r.Persons.length then a else b) = b:=fun a b=>if_neg (fun c=>c h1)
   rw [hr2,e1]
   simp only [Bool.and_false,Bool.false_eq_true,if_false,Option.bind_some]
   rw [C4k (b:=R2 r l) l.length (fun i=>out 0 ((r.Figures.length:Int) - 1) l[i]!) 4 hl (fun i hi=>by
    unfold R2
    simp only []
    rw [if_pos (by simpa using hi),G2 hi,D8 (n:=(r.Figures.length:Int) - 1) (by omega)]
    simp only [Option.bind_some]
    rw [A7o,D8 (by omega)]
    cases out 0 ((r.Figures.length:Int) - 1) l[i]! <;> rfl) (by
    unfold R2
    simp) (fun i=>by
    unfold R2
    simp),C9l]
   simp only [Option.bind_some]
   cases l.any (out 0 ((r.Figures.length:Int) - 1)) with
   | true=>rw [if_pos rfl,stop2 4 (by decide)]; rfl
   | false =>
    rw [if_neg (by decide),C4k (b:=R3 l) l.length (A76 l) 5 hl (fun i hi=>by
     unfold R3 A76
     simp only []
     rw [if_pos (by simpa using hi),G2 hi,B6h (by omega)]
     simp only [Option.bind_some]
     rw [C1q _ _ (by rw [List.length_take]; omega),D8 (by omega)]
     simp only [Option.bind_some]
     cases (l.take i).any (· == l[i]!) <;> rfl) (by
     unfold R3
     simp) (fun i=>by
     unfold R3
     simp)]
    unfold B9i
    rfl
  ·have e1:((l.length:Int) != (r.Persons.length:Int)) = true:= by rw [bne_iff_ne]; omega
   rw [e1]
   simp only [BEq.rfl,Bool.and_self,if_true,Option.bind_some]
   rw [stop1 3 (by decide)]
   simp only [Option.bind_some]
   rw [stop2 3 (by decide),if_pos h1]; rfl
 ·have e1:((chk r).2.2 == 0) = false:=beq_eq_false_iff_ne.mpr h0
  rw [e1,if_pos h0]
  simp only [Bool.false_and,Bool.false_eq_true,if_false,Option.bind_some]
  rw [stop1 _ h0]
  simp only [Option.bind_some]
  rw [stop2 _ h0]; rfl
theorem A9c {r:DrRoom} {l:List Int} (h:P1 r l = 0):RmOk r∧l = ints (nats l)∧QOk r (nats l)∧(nats l).length = r.Persons.length:= by
 unfold P1 at h
 split at h
 ·next c=>exact absurd h c
 ·next c0 =>
  split at h
  ·cases h
  ·next c1 =>
   split at h
   ·cases h
   ·next c2 =>
    obtain ⟨ok,-⟩:=(T1 r).mp (Decidable.not_not.mp c0)
    have c1:=Decidable.not_not.mp c1
    have c2:=B1t.mp (Bool.eq_false_iff.2 c2)
    refine ⟨ok,?_,⟨by unfold nats; rw [List.length_map]; omega,fun x hx=>?_⟩,by unfold nats; rw [List.length_map]; exact c1⟩
    ·unfold ints nats
     rw [List.map_map]
     conv=>lhs; rw [← List.map_id l]
     refine List.map_congr_left fun x hx=>?_
     have:=c2 x hx
     simp; omega
    ·unfold nats at hx
     obtain ⟨y,hy,rfl⟩:=List.mem_map.mp hx
     have:=c2 y hy
     omega
theorem D0h (q:List Nat):nats (ints q) = q:= by
 unfold nats ints; rw [List.map_map]
 conv=>rhs; rw [← List.map_id q]
 exact List.map_congr_left fun x _=>by simp
theorem A5z (r:DrRoom) (l:List Int) (hl:l.length < 9223372036854775808):A3o r l = some (if P1 r l ≠ 0 then ([],P1 r l) else (T5 r (prs r (nats l)),0)):= by
 unfold A3o
 rw [C7z r l hl]
 simp only [Option.bind_some]
 by_cases h:P1 r l = 0
 ·obtain ⟨ok,e,q,-⟩:=A9c h
  have hr:∀(a b:List Int × Int),(if P1 r l ≠ 0 then a else b) = b:=fun a b=>if_neg (fun c=>c h)
  rw [hr,if_neg (by simp [h])]
  conv=>lhs; rw [e]
  rw [C7y ok q]; rfl
 ·rw [if_pos h,if_pos (by simpa using h)]
theorem C3f {r:DrRoom} (ok:RmOk r):begin0 r = J6 r []:= by
 have ho:=ok.ounces
 unfold begin0 J6 cpy4
 simp [ints,A8f,E5,sm,List.getD_eq_getElem?_getD]
theorem C5a {r:DrRoom} {q:List Nat} (h:QOk r q) {i:Nat} (hi:i < q.length):(prs r q).take (i + 1) = (prs r q).take i++[(q[i]!,r.Persons[i]!)]:= by
 have hz:i < (prs r q).length:= by unfold prs; rw [B3h h.len]; exact hi
 have e:(prs r q)[i]! = (q[i]!,r.Persons[i]!):=C24 hi h.len
 rw [List.take_succ_eq_append_getElem hz,← getElem!_pos (prs r q) i hz,e]
theorem C2q {r:DrRoom} (ok:RmOk r) {ch:Chg} (hch:C55 r ch) {q:List Nat} (h:QOk r q) (he:q.length = r.Persons.length) :
  loop (A19 r ch (ints q)) (0,J6 r []) = some (if B9i (ints q) then .inl () else .inr (J6 r (prs r q))):= by
 have hP:=ok.persons
 have hz:=h.pr ok
 have hil:=F0 q
 have:=A6v (b:=A19 r ch (ints q)) (fun i=>((i:Int),J6 r ((prs r q).take i))) q.length (fun i=>if A76 (ints q) i then some (.inl ()) else none) (.inr (J6 r (prs r q))) (by omega) (fun i hi _=>by
  unfold A19 A76
  simp only []
  have hf:=h.fig _ (H8 hi)
  have eg:(ints q)[i]! = ((q[i]!:Nat):Int):= by
   rw [getElem!_pos _ i (by omega),getElem!_pos q i hi]
   unfold ints; rw [List.getElem_map]
  rw [if_pos (by rw [hil]; simpa using hi),A21 hi,B6h (by omega)]
  simp only [Option.bind_some]
  have hcon:F8 ((ints q).take i) ((q[i]!:Nat):Int) = some (((ints q).take i).any (· == (ints q)[i]!)):= by
   rw [eg]
   have hm:((ints q).take i).length < 9223372036854775808:= by rw [List.length_take]; omega
   generalize (ints q).take i = m at hm ⊢
   unfold F8 M5
   obtain ⟨o,ho,hc⟩:=A9v m (· == ((q[i]!:Nat):Int)) (b:=G5 m ((q[i]!:Nat):Int)) hm (fun j hj=>by
    unfold G5
    rw [if_pos (by simpa using hj),G2 hj]
    simp only [Option.bind_some]
    rw [show (((q[i]!:Nat):Int) == m[j]!) = (m[j]! == ((q[i]!:Nat):Int)) from Bool.beq_comm]
    cases m[j]! == ((q[i]!:Nat):Int) <;> rfl) (by
    unfold G5
    rw [if_neg (by simp)])
   rw [ho]
   rcases o with k | u
   ·simp only [Option.bind_some]
    rw [hc.2,decide_eq_true hc.1]
   ·simp only [Option.bind_some]
    rw [hc]; rfl
  rw [hcon]
  simp only [Option.bind_some]
  cases ((ints q).take i).any (· == (ints q)[i]!) with
  | true=>rfl
  | false =>
   simp only [Bool.false_eq_true,if_false]
   have hg:=hch q[i]! i hf (by omega)
   unfold A4e
   rw [hg,Option.getD_some,C9e ok (hz.take i) ⟨hf,ok.person _ (H8 (by omega))⟩]
   simp only [Option.bind_some]
   rw [D8 (by omega),← C5a h hi]
   rfl) (fun _=>by
  unfold A19
  simp only []
  rw [if_neg (by rw [hil]; simp),List.take_of_length_le (by unfold prs; rw [B3h h.len]; exact Nat.le_refl _)])
 rw [show ((0:Int),J6 r []) = (((0:Nat):Int),J6 r ((prs r q).take 0)) from rfl,this]
 have ha:=C9x (n:=q.length) (p:=A76 (ints q)) (f:=fun i=>if A76 (ints q) i then some (Sum.inl ():Unit ⊕ dress_plan) else none) (fun i _=>by cases A76 (ints q) i <;> rfl)
 have hd:B9i (ints q) = (List.range q.length).any (A76 (ints q)):= by unfold B9i; rw [hil]
 rw [hd,← ha]
 cases hf:first (fun i=>if A76 (ints q) i then some (Sum.inl ():Unit ⊕ dress_plan) else none) q.length with
 | none=>rfl
 | some x =>
  obtain ⟨k,_,h1,_⟩:=N4 hf
  cases hq:A76 (ints q) k with
  | false=>rw [hq] at h1; cases h1
  | true=>rw [hq] at h1; cases h1; rfl
theorem B5d (r:DrRoom) (hb:NB r) (l:List Int) (hl:l.length < 9223372036854775808):A62 r l = some (if P1 r l ≠ 0 then (plan0,P1 r l) else (J6 r (prs r (nats l)),0)):= by
 unfold A62
 rw [A6k r hb]
 simp only [Option.bind_some]
 by_cases h0:(chk r).2.2 = 0
 ·obtain ⟨ok,-⟩:=(T1 r).mp h0
  have hF:=ok.figures
  obtain ⟨ch,e1,hch⟩:=C3o ok
  rw [if_neg (by simp [h0]),e1]
  simp only [Option.bind_some]
  by_cases h1:l.length = r.Persons.length
  ·rw [if_neg (by simp [h1]),D8 (by omega),A9m _ _ _ (by omega)]
   simp only [Option.bind_some]
   cases h2:l.any (out 0 ((r.Figures.length:Int) - 1)) with
   | true =>
    have:P1 r l = 4:= by unfold P1; rw [if_neg (fun c=>c h0),if_neg (fun c=>c h1),h2]; rfl
    rw [this]; rfl
   | false =>
    have hq:P1 r l = if B9i l then 5 else 0:= by unfold P1; rw [if_neg (fun c=>c h0),if_neg (fun c=>c h1),h2]; rfl
    have c2:=B1t.mp h2
    have el:l = ints (nats l):= by
     unfold ints nats
     rw [List.map_map]
     conv=>lhs; rw [← List.map_id l]
     refine List.map_congr_left fun x hx=>?_
     have:=c2 x hx
     simp; omega
    have q:QOk r (nats l):=⟨by unfold nats; rw [List.length_map]; omega,fun x hx=>by
     unfold nats at hx
     obtain ⟨y,hy,rfl⟩:=List.mem_map.mp hx
     have:=c2 y hy
     omega⟩
    have hlp:loop (A19 r ch l) (0,begin0 r) = some (if B9i l then .inl () else .inr (J6 r (prs r (nats l)))):= by
     have:=C2q ok hch q (by unfold nats; rw [List.length_map]; exact h1)
     rw [← el,← C3f ok] at this
     exact this
    rw [hq,hlp]
    cases B9i l <;> rfl
  ·have:P1 r l = 3:= by unfold P1; rw [if_neg (fun c=>c h0),if_pos h1]
   rw [this,if_pos (by rw [bne_iff_ne]; omega)]; rfl
 ·have:P1 r l = (chk r).2.2:= by unfold P1; rw [if_pos h0]
  rw [this,if_pos h0,if_pos (by simpa using h0)]
theorem D0d {r:DrRoom} (ok:RmOk r) (z:Prs):slc (Ar4.l (J6 r z).left_) 0 (r.Ounces.length:Int) = some (T5 r z):= by
 have ho:=ok.ounces
 unfold T5
 rcases (by omega:r.Ounces.length = 1∨r.Ounces.length = 2∨r.Ounces.length = 3∨r.Ounces.length = 4) with e | e | e | e <;> rw [e] <;> rfl
theorem C1r (r:DrRoom) (hb:NB r) (l:List Int) (hl:l.length < 9223372036854775808):Y8 r l = A3o r l:= by
 rw [A5z r l hl]
 unfold Y8
 rw [B5d r hb l hl]
 simp only [Option.bind_some]
 by_cases h:P1 r l = 0
 ·obtain ⟨ok,e,q,-⟩:=A9c h
  have ho:=ok.ounces
  have hr:∀{α:Type} (a b:α),(if P1 r l ≠ 0 then a else b) = b:=fun a b=>if_neg (fun c=>c h)
  rw [hr,hr,if_neg (by simp),D0d ok]
  simp only [Option.bind_some]
  rw [W3 (by omega) (by simp [T5]; omega)]; rfl
 ·have hr:∀{α:Type} (a b:α),(if P1 r l ≠ 0 then a else b) = a:=fun a b=>if_pos h
  rw [hr,hr,if_pos (by simpa using h)]
section
variable {α β σ ρ:Type}
end
def A8t (n:Nat) (q:List Nat):List Nat:=(List.range n).filter fun f=>!q.contains f
def DF (n:Nat):Nat→List Nat→List (List Nat)
 | 0,q=>[q]
 | d + 1,q=>(A8t n q).flatMap fun f=>DF n d (q++[f])
section
variable {σ ρ:Type}
end
theorem B6m {n:Nat}:∀{d:Nat} {q p:List Nat},p ∈ DF n d q↔∃ t,p = q++t∧t.length = d∧t.Nodup∧∀ x ∈ t,x < n∧x ∉ q
 | 0,q,p=>by
  unfold DF
  rw [List.mem_singleton]
  constructor
  ·rintro rfl; exact ⟨[],by simp⟩
  ·rintro ⟨t,rfl,h,-,-⟩
   rw [List.length_eq_zero_iff.mp h,List.append_nil]
 | d + 1,q,p=>by
  unfold DF A8t
  rw [List.mem_flatMap]
  constructor
  ·rintro ⟨f,hf,hp⟩
   obtain ⟨t,rfl,h1,h2,h3⟩:=B6m.mp hp
   have hf:=List.mem_filter.mp hf
   have hfn:f < n:= by simpa using hf.1
   have hfq:f ∉ q:= by simpa using hf.2
   refine ⟨f :: t,by simp,by simp [h1],?_,?_⟩
   ·rw [List.nodup_cons]
    exact ⟨fun c=>(h3 f c).2 (by simp),h2⟩
   ·intro x hx
    rcases List.mem_cons.mp hx with rfl | hx
    ·exact ⟨hfn,hfq⟩
    ·have:=h3 x hx
     exact ⟨this.1,fun c=>this.2 (List.mem_append_left _ c)⟩
  ·rintro ⟨t,rfl,h1,h2,h3⟩
   cases t with
   | nil=>cases h1
   | cons f t =>
    rw [List.nodup_cons] at h2
    have hf:=h3 f (List.mem_cons_self ..)
    refine ⟨f,List.mem_filter.mpr ⟨by simpa using hf.1,by simpa using hf.2⟩,B6m.mpr ⟨t,by simp,by simpa using h1,h2.2,fun x hx=>⟨(h3 x (List.mem_cons_of_mem _ hx)).1,fun c=>?_⟩⟩⟩
    rcases List.mem_append.mp c with c | c
    ·exact (h3 x (List.mem_cons_of_mem _ hx)).2 c
    ·have:x = f:= by simpa using c
     subst this; exact h2.1 hx
def perms (n d:Nat):List (List Nat):=DF n d []
theorem A97 {n d:Nat} {p:List Nat}:p ∈ perms n d↔p.length = d∧p.Nodup∧∀ x ∈ p,x < n:= by
 unfold perms
 rw [B6m]
 constructor
 ·rintro ⟨t,rfl,h1,h2,h3⟩
  exact ⟨h1,h2,fun x hx=>(h3 x hx).1⟩
 ·rintro ⟨h1,h2,h3⟩
  exact ⟨p,rfl,h1,h2,fun x hx=>⟨h3 x hx,by simp⟩⟩
section
variable {α:Type} {k:α→Int}
end
section
variable {α β ρ:Type}
end
structure PsOk (r:DrRoom) (ps:List DrLook):Prop where
 len:ps.length≤5
 look:∀p ∈ ps,LkOk r (-1) p
theorem PsOk.pr {r:DrRoom} {ps:List DrLook} (h:PsOk r ps) {q:List Nat} (hq:q ∈ perms r.Figures.length ps.length):B3j r (q.zip ps):= by
 have hq:=A97.mp hq
 refine ⟨by rw [List.length_zip]; have:=h.len; omega,fun x hx=>?_⟩
 have:=List.of_mem_zip (a:=x.1) (b:=x.2) hx
 exact ⟨hq.2.2 _ this.1,h.look _ this.2⟩
def AL (r:DrRoom) (ps:List DrLook):List (List Nat):=(perms r.Figures.length ps.length).filter fun q=>A54 r (q.zip ps)
instance:Inhabited dress_plan:=⟨plan0⟩
def A0q (r:DrRoom) (ps:List DrLook) (q:List Nat):Int:=A8f r (q.zip ps)
end Ds
end
section
set_option maxRecDepth 100000
set_option maxHeartbeats 0
namespace Ds
open Go Am Go.Proofs.Ytdkflofgolehkaa.Cd
end Ds
end
section
set_option maxRecDepth 100000
namespace Ds
open Go Am Go.Proofs.Ytdkflofgolehkaa.Cd
end Ds
end
section
set_option maxRecDepth 100000
set_option maxHeartbeats 0
namespace Ds
open Go Am Go.Proofs.Ytdkflofgolehkaa.Cd
end Ds
end
section
namespace Ds
open Go Am
end Ds
end
section
set_option maxRecDepth 100000
namespace Ds
open Go Am
end Ds
end
section
set_option maxRecDepth 100000
set_option maxHeartbeats 0
namespace Ds
open Go Am Go.Proofs.Ytdkflofgolehkaa.Cd
end Ds
end
section
namespace Ds
open Go Am
def CL (r:DrRoom) (ps:List DrLook) (b:List Nat):List (List Nat):=(AL r ps).filter fun q=>A0q r ps q == A0q r ps b
end Ds
end
section
set_option maxRecDepth 100000
set_option maxHeartbeats 0
namespace Ds
open Go Am Go.Proofs.Ytdkflofgolehkaa.Cd
def A47 (a0:(List Int)) (a1:Int):Option Int :=
 if ((List.length a0:Int) == 0) = true then
  some 0
 else
  (D0w a1 (List.length a0:Int)).bind fun x2 =>
  (idx a0 x2).bind fun x3 =>
  some (w64 x3)
theorem B9m {c:Sc} {H:A1} {a0:(List Int)} {a1:Int} {r:Int} (h:A47 a0 a1 = some r) :
  E8 tab c H (.fn (.func 46) [] []) [(.seq 1 (List.map B3o a0)),.i a1] [.i r]:= by
 unfold A47 at h
 refine cE rfl rfl<|s0<|qm rfl<|es (ra2 rfl rfl)<|B5<|s0<|qm rfl<|A0 (D4 (f:=B3o) rfl) rfl<|A0 (F5 rfl rfl) rfl<|es (ra3 rfl rfl rfl)<|wi h rfl (fun hc1 h=>?_) fun hc1 h=>?_
 ·refine s0<|qm rfl<|es (ra1 rfl)<|C4 ?_
  obtain rfl:=os h
  exact retq trivial (B1 rfl B8) (A6 rfl B9) (A3 A7 B2)
 ·refine C1<|s0<|oB h fun x2 hx2 h=>oB h fun x3 hx3 h=>qm rfl<|qm rfl<|qm rfl<|A0 (D4 (f:=B3o) rfl) rfl<|A0 (D6p rfl rfl hx2) rfl<|A0 (E2 (f:=B3o) rfl rfl hx3) rfl<|A0 (E9 rfl rfl) rfl<|A0 (A84 rfl) rfl<|qm rfl<|es (ra1 rfl)<|C4 ?_
  obtain rfl:=os h
  exact retq trivial (B1 rfl B8) (A6 rfl B9) (A3 A7 B2)
end Ds
end
section
set_option maxRecDepth 100000
namespace Ds
open Go Am Go.Proofs.Ytdkflofgolehkaa.Cd
def B3m (t:DrRoom) (s:Int × List Int):Option ((Int × List Int) ⊕ List Int) :=
 if (decide (s.1 < (List.length t.Figures:Int))) = true then
  (app 8 s.2 [s.1]).bind fun l=>some (.inl (w64 (s.1 + 1),l))
 else some (.inr s.2)
def A8i (t:DrRoom) (x:List Int) (s:Int × List Int × List Int):Option ((Int × List Int × List Int) ⊕ List Int) :=
 if (decide (s.1 < (List.length t.Persons:Int)) && decide ((List.length s.2.2:Int) > 0)) = true then
  (A47 x s.1).bind fun q=>(D0w q (List.length s.2.2:Int)).bind fun k =>
  (idx s.2.2 k).bind fun v=>(app 8 s.2.1 [v]).bind fun o =>
  (slc s.2.2 0 k).bind fun a=>(app 8 ([]:List Int) a).bind fun a' =>
  (slc s.2.2 (w64 (k + 1)) (List.length s.2.2:Int)).bind fun b=>(app 8 a' b).bind fun l =>
  some (.inl (w64 (s.1 + 1),o,l))
 else some (.inr s.2.1)
def A6t (t:DrRoom) (x:List Int):Option (List Int) :=
 (loop (B3m t) (0,[])).bind fun left=>(loop (A8i t x) (0,[],left)).bind fun o=>some o
def arP (p:Bool) (l:List Int):AO:=.arr 1 p (l.map cI)
theorem A39 {α:Type} {l:List α} {i:Nat} {x:α} (h:l[i]? = some x):l.set i x = l:= by
 apply List.ext_getElem?
 intro k
 by_cases e:i = k
 ·subst e; rw [List.getElem?_set_self (List.getElem?_eq_some_iff.1 h).1,h]
 ·rw [List.getElem?_set_ne e]
structure AnyG (room:List AV) where
 L:List AO
 j:Nat
 h0:L[0]? = some (.cells room)
 h2:2 < L.length
 hj:j < L.length
 j0:j ≠ 0
 j2:j ≠ 2
def AnyG.M {room:List AV} (g:AnyG room) (s:Int × List Int × List Int):List AO:=(g.L.set 2 (arP false s.2.1)).set g.j (arP false s.2.2)
theorem C2l {c:Sc} {H:A1} {a0:DrRoom} {a1:List Int} {r:List Int} (h:A6t a0 a1 = some r) :
  E8 tab c H (.fn (.func 38) [] []) [(.agg (A4 a0)),(.seq 1 (List.map B3o a1))] [(.fresh 1 (List.map cI r))]:= by
 unfold A6t at h
 refine oB h fun left hleft h=>oB h fun o ho h=>?_
 obtain rfl:=os h
 refine cE rfl rfl<|sg 0 rfl<|A0 (F7 (cs:=A4 a0) rfl rfl rfl) rfl<|qm rfl<|es (ra2 rfl rfl)<|sg 1 rfl<|A0 A25 rfl<|A0 A25 rfl<|es (ra4 rfl rfl rfl rfl)<|B5<|s0<|qm rfl<|es (ra5 rfl rfl rfl rfl rfl)<|C2<|wl (fun s=>[(1,(.seq 1 (List.map B3o a1))),(2,.ptr (H.length + 0) 0),(5,.asl (H.length + 1) s.2.length),(6,.asl (H.length + 2) 0),(7,.i s.1)]) (fun (_:Unit) s=>[.cells (A4 a0),arP false s.2,arP false []]) 3 (fun r e s' H'=>PX 0 [(1,(.seq 1 (List.map B3o a1))),(2,.ptr (H.length + 0) 0),(5,.asl (H.length + 1) r.length),(6,.asl (H.length + 2) 0)] (H++[.cells (A4 a0),arP false r,arP false []]) e s' H') () hleft rfl rfl (fun _ _=>rfl) (fun _=>rfl) rfl (fun s=>bdc E6 (bdc (F1 rfl) (bdc (A0m rfl) (bdc (A0m rfl) (bdc A7 bdn))))) (fun _ s o hs=>?_) ?_
 ·unfold B3m at hs
  refine B5<|s0<|qm rfl<|A0 (D0 rfl) rfl<|A0 (C5 rfl rfl rfl) rfl<|A0 (D4 (f:=A5) rfl) rfl<|A0 (G9 rfl rfl) rfl<|es (ra6 rfl rfl rfl rfl rfl rfl)<|wi hs rfl (fun hc hs=>?_) fun hc hs=>?_
  ·refine oB hs fun l hl hs=>?_
   refine C1<|B5<|C2<|r0<|qm rfl<|qm rfl<|A0 (G6 (rows:=List.map cI [s.1]) rfl rfl (D9 (fun _=>rfl) _)) rfl<|R9 (X2 (f:=cI) rfl rfl rfl rfl T3 (fun _=>rfl) hl) rfl<|qm rfl<|en (ra5 rfl rfl rfl rfl rfl)<|r0<|qm rfl<|A0 (E7 rfl rfl) rfl<|qm rfl<|en (ra5 rfl rfl rfl rfl rfl) ?_
   cases hs
   exact lnT () rfl (su5 rfl rfl rfl rfl rfl)
  ·refine F4 ?_
   obtain rfl:=os hs
   exact lx rfl px (su4 rfl rfl rfl rfl)
 ·rintro e s' H' - ⟨rfl,rfl,rfl⟩
  refine B5<|s0<|qm rfl<|es (ra5 rfl rfl rfl rfl rfl)<|C2<|A0l (C51 (fun (g:AnyG (A4 a0)) (s:Int × List Int × List Int)=>[(1,(.seq 1 (List.map B3o a1))),(2,.ptr (H.length + 0) 0),(5,.asl (H.length + g.j) s.2.2.length),(6,.asl (H.length + 2) s.2.1.length),(8,.i s.1)]) (fun g s=>H++g.M s) (fun r e s' H'=>∃ L:List AO,L[2]? = some (arP false r)∧PX 2 [(6,.asl (H.length + 2) r.length)] (H++L) e s' H') (fun _ _=>rfl) (by decide) (fun g s o hs=>?_) ho ⟨[.cells (A4 a0),arP false left,arP false []],1,rfl,Nat.le_refl 3,Nat.le_of_ble_eq_true rfl,by decide,by decide⟩) ?_
  ·obtain ⟨L,j,h0,h2,hj,j0,j2⟩:=g
   generalize hM:AnyG.M ⟨L,j,h0,h2,hj,j0,j2⟩ s = M
   have hMe:(L.set 2 (arP false s.2.1)).set j (arP false s.2.2) = M:=hM
   have hlen:M.length = L.length:= by rw [← hMe]; simp
   have m0:M[0]? = some (.cells (A4 a0)):= by
    rw [← hMe,List.getElem?_set_ne j0,List.getElem?_set_ne (by decide)]; exact h0
   have m2:M[2]? = some (arP false s.2.1):= by
    rw [← hMe,List.getElem?_set_ne j2,List.getElem?_set_self h2]
   have mj:M[j]? = some (arP false s.2.2):= by
    rw [← hMe,List.getElem?_set_self (by simpa using hj)]
   unfold A8i at hs
   refine B5<|s0<|qm rfl<|A0 (D0 rfl) rfl<|A0 (C5 rfl m0 rfl) rfl<|A0 (D4 (f:=A5) rfl) rfl<|A0 (G9 rfl rfl) rfl<|qm rfl<|gp 4 30 (.b (decide (s.1 < (List.length a0.Persons:Int)) && decide ((List.length s.2.2:Int) > 0))) 26 rfl rfl (fun hg=>?_) (fun hg=>?_) ?_
   ·exact gT rfl hg<|qm rfl<|gT rfl hg<|A0 (A87 (f:=cI) rfl mj rfl) rfl<|gT rfl hg<|A0 (A8j rfl rfl) rfl<|A0 (C8 rfl hg rfl) rfl<|ge 4 (by rw [hg]; rfl) rfl rfl
   ·exact nT rfl hg rfl<|nT rfl hg rfl<|nT rfl hg rfl<|A0 (C7 rfl hg rfl) rfl<|ge 4 (by rw [hg]; rfl) rfl rfl
   refine es (ra6 rfl rfl rfl rfl rfl rfl)<|wi hs rfl (fun hc hs=>?_) fun hc hs=>?_
   ·refine oB hs fun q hq hs=>oB hs fun k hk hs=>oB hs fun v hv hs=>oB hs fun o' ho' hs=>oB hs fun a ha hs=>oB hs fun a' ha' hs=>oB hs fun b hb hs=>oB hs fun l hl hs=>?_
    have P2:(M.set 2 (arP false o'))[j]? = some (arP false s.2.2):= by rw [List.getElem?_set_ne (fun e=>j2 e.symm)]; exact mj
    have hl2:(M.set 2 (arP false o')).length = L.length:= by rw [List.length_set,hlen]
    generalize hP:(M.set 2 (arP false o')).set j (arP true s.2.2) = P
    have pl:P.length = L.length:= by rw [← hP,List.length_set,hl2]
    have pj:P[j]? = some (arP true s.2.2):= by rw [← hP,List.getElem?_set_self (by rw [hl2]; exact hj)]
    have p2:P[2]? = some (arP false o'):= by rw [← hP,List.getElem?_set_ne j2,List.getElem?_set_self (by rw [hlen]; exact h2)]
    have p0:P[0]? = some (.cells (A4 a0)):= by rw [← hP,List.getElem?_set_ne j0,List.getElem?_set_ne (by decide)]; exact m0
    have jn:j ≠ P.length:= by rw [pl]; omega
    have nj:P.length ≠ j:=fun e=>jn e.symm
    have kget:∀x:AO,(P++[x])[P.length]? = some x:=fun x=>by simp
    have kset:∀x y:AO,(P++[x]).set P.length y = P++[y]:=fun x y=>by simp
    have kj:∀x:AO,(P++[x])[j]? = some (arP true s.2.2):=fun x=>by rw [List.getElem?_append_left (by omega)]; exact pj
    refine C1<|B5<|C2<|s0<|qm rfl<|qm rfl<|B4 (rs:=[.i q]) rfl rfl (A2 rfl (A2 rfl B7)) ((B9m hq).frz)<|qm rfl<|A0 (A87 (f:=cI) rfl mj rfl) rfl<|A0 (D6p rfl rfl hk) rfl<|qm rfl<|es (ra6 rfl rfl rfl rfl rfl rfl)<|s0<|qm rfl<|qm rfl<|qm rfl<|A0 (A85 (f:=cI) rfl rfl mj rfl hv) rfl<|A0 (A93 (x:=.i v) rfl mj (List.length_map _) (A9g hv) rfl) rfl<|A0 (G6 (rows:=List.map cI [v]) rfl rfl (D9 (fun _=>rfl) _)) rfl<|R9 (X2 (f:=cI) rfl rfl m2 rfl T3 (fun _=>rfl) ho') rfl<|qm rfl<|es (ra6 rfl rfl rfl rfl rfl rfl)<|D6t (C82 rfl (B0y P2 (List.length_map _))) ?_
    have e1:(M.set 2 (.arr 1 false (List.map cI o'))).set j (.arr 1 true (List.map cI s.2.2)) = P:=hP
    rw [e1]
    refine rg _ rfl<|A0 (C2h (rows:=List.map cI []) rfl rfl rfl) rfl ?_
    have e2:(P++List.replicate 1 AO.dead).set (P.length + 0) (.arr 1 false (List.map cI [])) = P++[arP false []]:=kset _ _
    rw [e2]
    have al:∀x:List Int,([P.length].all fun i=>Nat.blt i (P++[arP false x]).length && A55 (P++[arP false x]) i) = true:=fun x=>by
     have h1:Nat.blt P.length (P++[arP false x]).length = true:=Nat.ble_eq_true_of_le (by simp)
     have h2:A55 (P++[arP false x]) P.length = true:= by unfold A55; rw [kget]; rfl
     simp only [List.all_cons,List.all_nil,h1,h2,Bool.and_self]
    have alj:∀x:List Int,([j].all fun i=>Nat.blt i (P++[arP false x]).length && A55 (P++[arP false x]) i) = true:=fun x=>by
     have h1:Nat.blt j (P++[arP false x]).length = true:=Nat.ble_eq_true_of_le (by simp; omega)
     have h2:A55 (P++[arP false x]) j = true:= by unfold A55; rw [kj]; rfl
     simp only [List.all_cons,List.all_nil,h1,h2,Bool.and_self]
    have hj':∀x:List Int,(R7 (P++[arP false x]) [P.length])[j]? = some (arP true s.2.2):=fun x=>by
     simp only [R7]; rw [List.getElem?_set_ne nj,kj]
    have hn':(R7 (P++[arP false []]) [j])[P.length]? = some (.arr 1 false (List.map cI [])):= by
     simp only [R7]; rw [List.getElem?_set_ne jn,kget]; rfl
    have e3:R4 (P++[arP false []]) ((R7 (P++[arP false []]) [j]).set P.length (.arr 1 false (List.map cI a'))) [j] = P++[arP false a']:= by
     simp only [R4,kj,R7]
     rw [List.set_comm _ _ jn,List.set_set,List.set_comm _ _ nj,A39 (kj _)]
     exact kset _ _
    refine qm rfl<|qm rfl<|L7 [P.length] (R0 [P.length] rfl G3 rfl (al _)) (seen0 rfl) (C02 (f:=cI) rfl (R6 (hj' _)) rfl rfl rfl ha) rfl<|A5w [j] (P++[arP false a']) (R0 [] rfl (A4y rfl A3i G3) rfl (alj _)) (seen0 rfl) (X2 (f:=cI) rfl rfl hn' rfl T3 (fun _=>rfl) ha') ?_ rfl e3<|qm rfl<|qm rfl<|A0 (E7 rfl rfl) rfl<|L7 [P.length] (R0 [P.length] rfl G3 rfl (al _)) (A7y (b:=H.length + j) rfl (A2m (by simp) A5g)) (C02 (f:=cI) rfl (R6 (hj' _)) rfl rfl rfl hb) rfl<|R9 (X2 (f:=cI) rfl rfl (kget _) rfl T3 (fun _=>rfl) hl) rfl<|qm rfl ?_
    ·exact Nat.ble_eq_true_of_le (by simp [R7])
    ·simp only [Nat.add_zero]
     rw [kset]
     refine en (ra5 rfl rfl rfl rfl rfl)<|r0<|qm rfl<|A0 (E7 rfl rfl) rfl<|qm rfl<|en (ra5 rfl rfl rfl rfl rfl) ?_
     cases hs
     refine ⟨rfl,⟨P++[arP false l],P.length,?_,?_,?_,?_,?_⟩,su5 rfl rfl rfl rfl rfl,?_⟩
     ·rw [List.getElem?_append_left (by omega)]; exact p0
     ·simp; omega
     ·simp
     ·omega
     ·omega
     ·unfold AnyG.M
      show H++(P++[arP false l]) = H++((P++[arP false l]).set 2 (arP false o')).set P.length (arP false l)
      rw [A39 (l:=P++[arP false l]) (i:=2) (by rw [List.getElem?_append_left (by omega)]; exact p2),A39 (kget _)]
   ·refine F4 ?_
    obtain rfl:=os hs
    exact ⟨rfl,_,su1 rfl,M,m2,px⟩
  ·rintro e s' H' ⟨-,L,hL,rfl,rfl,rfl⟩
   refine s0<|qm rfl<|qm rfl<|es (ra1 rfl)<|C4 ?_
   exact retq trivial (B1 rfl B8) (A6 (A18 hL (List.length_map _)) B9) (A3 V4 B2)
end Ds
end
section
set_option maxRecDepth 100000
set_option maxHeartbeats 0
namespace Ds
open Go Am Go.Proofs.Ytdkflofgolehkaa.Cd
def A32 (a0:DrRoom):Option Bool :=
 (T7 a0).bind fun x1 =>
 some (x1.2.2 == 0)
theorem B71 {c:Sc} {H:A1} {a0:DrRoom} {r:Bool} (h:A32 a0 = some r) :
  E8 tab c H (.fn (.func 37) [] []) [(.agg (A4 a0))] [.b r]:= by
 unfold A32 at h
 refine cE rfl rfl<|sg 0 rfl<|A0 (F7 (cs:=A4 a0) rfl rfl rfl) rfl<|qm rfl<|es (ra1 rfl)<|s0<|oB h fun x1 hx1 h=>A0 (C3 rfl rfl rfl) rfl<|B4 (rs:=[.i x1.1,.i x1.2.1,.i x1.2.2]) rfl rfl (A2 (D1 rfl) B7) ((X3 hx1).frz)<|qm rfl<|A0 (A8 rfl rfl) rfl<|A0 (A8 rfl rfl) rfl<|A0 (A8 rfl rfl) rfl<|qm rfl<|qm rfl<|qm rfl<|es (ra1 rfl)<|s0<|qm rfl<|A0 (F5 rfl rfl) rfl<|qm rfl<|es (ra1 rfl)<|C4 ?_
 obtain rfl:=os h
 exact retq trivial (B1 rfl B8) (A6 rfl B9) (A3 A7 B2)
end Ds
end
section
namespace Ds
open Go Am
theorem C83 {a b:Int} (ha:0≤a) (hb:0 < b):∃r,D0w a b = some r∧0≤r∧r < b:= by
 unfold D0w
 rw [if_neg (by omega)]
 exact ⟨a.tmod b,rfl,Int.tmod_nonneg _ ha,Int.tmod_lt_of_pos _ hb⟩
theorem D6a {l:List Int} (h:N8 l) (n:Nat):∃r,A47 l (n:Int) = some r∧0≤r∧r < 256:= by
 have h1:=h.1
 unfold A47
 by_cases c:l.length = 0
 ·rw [if_pos (by rw [c]; rfl)]; exact ⟨0,rfl,by omega,by omega⟩
 ·rw [if_neg (by rw [beq_iff_eq]; omega)]
  obtain ⟨r,h1,h2,h3⟩:=C83 (a:=(n:Int)) (b:=(l.length:Int)) (by omega) (by omega)
  rw [h1]
  simp only [Option.bind_some]
  rw [show r = ((r.toNat:Nat):Int) by omega,G2 (show r.toNat < l.length by omega)]
  have hb:=h.2 _ (H8 (show r.toNat < l.length by omega))
  simp only [Option.bind_some]
  rw [D8 (by omega)]
  exact ⟨_,rfl,hb.1,hb.2⟩
theorem D4a (h:DrRoom):A32 h = some ((chk h).2.2 == 0):= by
 unfold A32
 rw [A1i]; rfl
theorem B42 (a b:List Nat):ints (a++b) = ints a++ints b:=List.map_append
theorem C0u (a:List Nat) (n:Nat):ints (a.take n) = (ints a).take n:=List.map_take
theorem C99 (a:List Nat) (n:Nat):ints (a.drop n) = (ints a).drop n:=List.map_drop
theorem D55 {α:Type} {l:List α} {i:Nat} (h:i≤l.length):slc l (i:Int) (l.length:Int) = some (l.drop i):= by
 unfold slc
 rw [if_pos ⟨by omega,by omega,by omega⟩,Int.toNat_natCast,Int.toNat_natCast,List.take_length]
theorem D1p {r:DrRoom} (ok:RmOk r):loop (B3m r) (0,[]) = some (ints (List.range r.Figures.length)):= by
 have hF:=ok.figures
 have:=I9 (b:=B3m r) (fun i=>((i:Int),ints (List.range i))) r.Figures.length (r:=ints (List.range r.Figures.length)) (by omega) (fun i hi=>by
  unfold B3m
  simp only []
  rw [if_pos (by simpa using hi),W3 (by omega) (by rw [F0,List.length_range]; simp only [List.length_singleton]; omega),D8 (by omega),List.range_succ,B42]
  rfl) (by
  unfold B3m
  simp only []
  rw [if_neg (by simp)])
 exact this
theorem D6z {r:DrRoom} (ok:RmOk r) {x:List Int} (hx:N8 x):∀(d m:Nat) (i:Nat) (o left:List Nat),i + d = r.Persons.length→d < m→o.length = i→(o++left).Perm (List.range r.Figures.length) →
  ∃ A:List Nat,A4i (A8i r x) m ((i:Int),ints o,ints left) = some (ints A)∧A.Nodup∧(∀ f ∈ A,f < r.Figures.length)∧A.length = min r.Persons.length r.Figures.length:= by
 have hP:=ok.persons
 have hF:=ok.figures
 intro d
 have fin:∀(i m:Nat) (o left:List Nat),o.length = i→i≤r.Persons.length→(i = r.Persons.length∨left = [])→(o++left).Perm (List.range r.Figures.length) →
   ∃ A:List Nat,A4i (A8i r x) (m + 1) ((i:Int),ints o,ints left) = some (ints A)∧A.Nodup∧(∀ f ∈ A,f < r.Figures.length)∧A.length = min r.Persons.length r.Figures.length:= by
  intro i m o left ho hi hc hp
  have hn:(o++left).Nodup:=hp.nodup_iff.mpr List.nodup_range
  have hl:=hp.length_eq
  rw [List.length_append,List.length_range] at hl
  refine ⟨o,?_,(List.nodup_append.mp hn).1,fun f hf=>by simpa using hp.mem_iff.mp (List.mem_append_left _ hf),?_⟩
  ·rw [I1]
   unfold A8i
   simp only []
   rw [if_neg (by
    rw [Bool.and_eq_true,decide_eq_true_eq,decide_eq_true_eq,F0]
    rcases hc with h | h
    ·omega
    ·subst h; simp)]
  ·rcases hc with h | h
   ·omega
   ·subst h; simp at hl; omega
 induction d with
 | zero =>
  intro m i o left hi hm ho hp
  obtain ⟨m',rfl⟩:∃m',m = m' + 1:=⟨m - 1,by omega⟩
  exact fin i m' o left ho (by omega) (.inl (by omega)) hp
 | succ d ih =>
  intro m i o left hi hm ho hp
  obtain ⟨m',rfl⟩:∃m',m = m' + 1:=⟨m - 1,by omega⟩
  by_cases hc:left = []
  ·exact fin i m' o left ho (by omega) (.inr hc) hp
  ·have hl0:0 < left.length:=List.length_pos_iff.mpr hc
   have hl:=hp.length_eq
   rw [List.length_append,List.length_range] at hl
   obtain ⟨q,e1,q0,q1⟩:=D6a hx i
   obtain ⟨k,e2,k0,k1⟩:=C83 (a:=q) (b:=(left.length:Int)) q0 (by omega)
   obtain ⟨k,rfl⟩:∃n:Nat,k = (n:Int):=⟨k.toNat,by omega⟩
   have hk:k < left.length:= by omega
   have e:A8i r x ((i:Int),ints o,ints left) = some (.inl (((i + 1:Nat):Int),ints (o++[left[k]!]),ints (left.take k++left.drop (k + 1)))):= by
    unfold A8i
    simp only []
    have hkl:k≤(ints left).length:= by rw [F0]; omega
    have hkl':k + 1≤(ints left).length:= by rw [F0]; omega
    rw [if_pos (by rw [F0]; simp; omega),e1]
    simp only [Option.bind_some]
    rw [F0,e2]
    simp only [Option.bind_some]
    rw [A21 hk]
    simp only [Option.bind_some]
    rw [W3 (by omega) (by rw [F0]; simp only [List.length_singleton]; omega),B6h hkl]
    simp only [Option.bind_some]
    rw [W3 (by omega) (by simp only [List.length_nil,List.length_take,F0]; omega),D8 (by omega)]
    simp only [Option.bind_some]
    rw [show ((k:Int) + 1) = ((k + 1:Nat):Int) from rfl,← F0 left,D55 hkl']
    simp only [Option.bind_some]
    rw [W3 (by omega) (by simp only [List.nil_append,List.length_drop,List.length_take,F0]; omega),D8 (by omega)]
    simp only [Option.bind_some,List.nil_append,B42,C0u,C99]
    rfl
   rw [I1,e]
   refine ih m' (i + 1) _ _ (by omega) (by omega) (by rw [List.length_append,ho]; rfl) ?_
   refine List.Perm.trans ?_ hp
   have hsp:left = left.take k++left[k]! :: left.drop (k + 1):= by
    rw [getElem!_pos left k hk,← List.drop_eq_getElem_cons hk,List.take_append_drop]
   conv=>rhs; rw [hsp]
   rw [List.append_assoc]
   exact List.Perm.append_left _ (List.perm_middle (l₁:=left.take k)).symm
theorem D6u {r:DrRoom} (ok:RmOk r) {x:List Int} (hx:N8 x):∃A:List Nat,A6t r x = some (ints A)∧A.Nodup∧(∀ f ∈ A,f < r.Figures.length)∧A.length = min r.Persons.length r.Figures.length:= by
 unfold A6t
 rw [D1p ok]
 simp only [Option.bind_some]
 have hP:=ok.persons
 have key:∃A:List Nat,loop (A8i r x) (0,[],ints (List.range r.Figures.length)) = some (ints A)∧A.Nodup∧(∀ f ∈ A,f < r.Figures.length)∧A.length = min r.Persons.length r.Figures.length :=
  D6z ok hx r.Persons.length _ 0 [] (List.range r.Figures.length) (by omega) (by omega) rfl (List.Perm.refl _)
 obtain ⟨A,e,h⟩:=key
 refine ⟨A,?_,h⟩
 rw [e]; rfl
theorem D64 {q:List Nat} (h:q.Nodup):B9i (ints q) = false:= by
 unfold B9i
 rw [List.any_eq_false]
 intro i hi
 have hi:i < q.length:= by simpa [F0] using hi
 unfold A76
 rw [Bool.not_eq_true,List.any_eq_false]
 intro x hx
 rw [← C0u] at hx
 obtain ⟨y,hy,rfl⟩:=List.mem_map.mp hx
 have e:(ints q)[i]! = ((q[i]!:Nat):Int):= by
  have h1:i < (ints q).length:= by rw [F0]; exact hi
  rw [getElem!_pos (ints q) i h1,getElem!_pos q i hi]
  exact List.getElem_map _
 rw [e,beq_iff_eq]
 intro c
 have c:y = q[i]!:= by omega
 obtain ⟨j,hj,ej⟩:=List.mem_take_iff_getElem.mp hy
 have hjq:j < q.length:= by omega
 rw [getElem!_pos q i hi,← ej] at c
 have:=(List.getElem_inj (h₀:=hjq) (h₁:=hi) h).mp c
 omega
theorem C68 {r:DrRoom} (h0:(chk r).2.2 = 0) {q:List Nat} (h1:q.length = r.Persons.length) (h2:q.Nodup) (h3:∀f ∈ q,f < r.Figures.length):P1 r (ints q) = 0:= by
 unfold P1
 rw [if_neg (by omega),if_neg (by rw [F0]; omega),B1t.mpr (by
  intro y hy
  obtain ⟨f,hf,rfl⟩:=List.mem_map.mp hy
  have:=h3 f hf
  omega),D64 h2]
 rfl
end Ds
end
section
set_option maxRecDepth 100000
set_option maxHeartbeats 0
namespace Ds
open Go Am Go.Proofs.Ytdkflofgolehkaa.Cd
def Q5 (a0:DrRoom) (s14:(Int × Int)):Option ((Int × Int) ⊕ Int) :=
 if (decide (s14.2 < (List.length a0.Ounces:Int))) = true then
  (idx a0.Ounces s14.2).bind fun x17 =>
  some (.inl ((w64 (s14.1 + x17)),(w64 (s14.2 + 1))))
 else
  some (.inr s14.1)
def Q6 (a0:DrRoom) (x7:(List Int)) (s19:(Int × Int)):Option ((Int × Int) ⊕ Int) :=
 if (decide (s19.2 < (List.length x7:Int))) = true then
  (idx x7 s19.2).bind fun x22 =>
  (idx a0.Figures x22).bind fun x23 =>
  (idx a0.Persons s19.2).bind fun x24 =>
  (idx x24.Looks 0).bind fun x25 =>
  (if (x25 != (-1)) = true then
  (idx x24.Looks 0).bind fun x27 =>
  (idx x23.Looks 0).bind fun x28 =>
  some (x27 != x28)
  else
  some false).bind fun x29 =>
  if x29 = true then
  some (.inl ((w64 ((w64 (s19.1 + x23.Hair)) - x24.Hair)),(w64 (s19.2 + 1))))
  else
  some (.inl (s19.1,(w64 (s19.2 + 1))))
 else
  some (.inr s19.1)
def Q7 (x8:((List Int) × Int)) (s32:(Int × Int)):Option ((Int × Int) ⊕ Int) :=
 if (decide (s32.2 < (List.length x8.1:Int))) = true then
  (idx x8.1 s32.2).bind fun x35 =>
  some (.inl ((w64 (s32.1 - x35)),(w64 (s32.2 + 1))))
 else
  some (.inr s32.1)
def A1z (a0:DrRoom) (a1:(List Int)):Option Bool :=
 (A32 a0).bind fun x1 =>
 if (!x1) = true then
  (Y8 a0 ([]:List Int)).bind fun x3 =>
  (if (x3.2 != 0) = true then
  (T4).bind fun x5 =>
  some x5
  else
  some false).bind fun x6 =>
  some x6
 else
  (A6t a0 a1).bind fun x7 =>
  (Y8 a0 x7).bind fun x8 =>
  if ((List.length x7:Int) != (List.length a0.Persons:Int)) = true then
  (if ((x8.2 == 3) && ((List.length x8.1:Int) == 0)) = true then
   (T4).bind fun x12 =>
   some x12
  else
   some false).bind fun x13 =>
  some x13
  else
  (loop (Q5 a0) (0,0)).bind fun (o18:Int) =>
  (loop (Q6 a0 x7) (o18,0)).bind fun (o31:Int) =>
  (loop (Q7 x8) (o31,0)).bind fun (o36:Int) =>
  (if (((x8.2 == 0) && ((List.length x8.1:Int) == (List.length a0.Ounces:Int))) && (o36 == 0)) = true then
   (T4).bind fun x40 =>
   some x40
  else
   some false).bind fun x41 =>
  some x41
theorem B1a {c:Sc} {H:A1} (hscv:S0 c H = true) {a0:DrRoom} {a1:(List Int)} {r:Bool} (h:A1z a0 a1 = some r) :
  E8 tab c H (.fn (.func 12) [] []) [(.agg (A4 a0)),(.seq 1 (List.map B3o a1))] [.b r]:= by
 unfold A1z at h
 refine cE rfl rfl<|sg 0 rfl<|A0 (F7 (cs:=A4 a0) rfl rfl rfl) rfl<|qm rfl<|es (ra2 rfl rfl)<|B5<|s0<|oB h fun x1 hx1 h=>A0 (C3 rfl rfl rfl) rfl<|B4 (rs:=[.b x1]) rfl rfl (A2 (D1 rfl) B7) ((B71 hx1).frz)<|A0 (S4 rfl) rfl<|es (ra3 rfl rfl rfl)<|wi h rfl (fun hc2 h=>?_) fun hc2 h=>?_
 ·refine s0<|oB h fun x3 hx3 h=>A0 (C3 rfl rfl rfl) rfl<|B4 (rs:=[(.seq 1 (List.map cI x3.1)),.i x3.2]) rfl rfl (A2 (D1 rfl) (A2 rfl B7)) ((A1u hx3).frz)<|qm rfl<|A0 (A8 rfl rfl) rfl<|A0 (A8 rfl rfl) rfl<|qm rfl<|qm rfl<|es (ra1 rfl)<|s0<|oB h fun x6 hx6 h=>qm rfl<|A0 (J2 rfl rfl) rfl<|qm rfl<|gp 2 28 (.b x6) 26 rfl rfl (fun hg4=>?_) (fun hg4=>?_) ?_
  ·refine oB (bt hx6 hg4) fun x5 hx5 hx6=>?_
   obtain rfl:=os hx6
   exact gT rfl hg4<|B4 (rs:=[.b x5]) rfl rfl B7 ((U4 (A2p hscv) hx5).frz)<|A0 (C8 rfl hg4 rfl) rfl<|ge 2 rfl rfl rfl
  ·obtain rfl:=os (bf hx6 hg4)
   exact N0 (G1 rfl (by rw [hg4]; rfl)) rfl<|A0 (C7 rfl hg4 rfl) rfl<|ge 2 rfl rfl rfl
  refine qm rfl<|es (ra1 rfl)<|C4 ?_
  obtain rfl:=os h
  exact retq trivial (B1 rfl B8) (A6 rfl B9) (A3 A7 B2)
 ·refine C1<|s0<|oB h fun x7 hx7 h=>A0 (C3 rfl rfl rfl) rfl<|qm rfl<|B4 (rs:=[(.seq 1 (List.map cI x7))]) rfl rfl (A2 (D1 rfl) (A2 rfl B7)) ((C2l hx7).frz)<|qm rfl<|es (ra2 rfl rfl)<|s0<|oB h fun x8 hx8 h=>A0 (C3 rfl rfl rfl) rfl<|qm rfl<|B4 (rs:=[(.seq 1 (List.map cI x8.1)),.i x8.2]) rfl rfl (A2 (D1 rfl) (A2 rfl B7)) ((A1u hx8).frz)<|qm rfl<|A0 (A8 rfl rfl) rfl<|A0 (A8 rfl rfl) rfl<|qm rfl<|qm rfl<|es (ra4 rfl rfl rfl rfl)<|B5<|s0<|qm rfl<|A0 (D4 (f:=cI) rfl) rfl<|A0 (D0 rfl) rfl<|A0 (C5 rfl rfl rfl) rfl<|A0 (D4 (f:=A5) rfl) rfl<|A0 (J2 rfl rfl) rfl<|es (ra5 rfl rfl rfl rfl rfl)<|wi h rfl (fun hc9 h=>?_) fun hc9 h=>?_
  ·refine s0<|oB h fun x13 hx13 h=>qm rfl<|A0 (F5 rfl rfl) rfl<|qm rfl<|gp 4 50 (.b ((x8.2 == 3) && ((List.length x8.1:Int) == 0))) 46 rfl rfl (fun hg10=>?_) (fun hg10=>?_) ?_
   ·exact gT rfl hg10<|qm rfl<|gT rfl hg10<|A0 (D4 (f:=cI) rfl) rfl<|gT rfl hg10<|A0 (F5 rfl rfl) rfl<|A0 (C8 rfl hg10 rfl) rfl<|ge 4 (by rw [hg10]; rfl) rfl rfl
   ·exact nT rfl hg10 rfl<|nT rfl hg10 rfl<|nT rfl hg10 rfl<|A0 (C7 rfl hg10 rfl) rfl<|ge 4 (by rw [hg10]; rfl) rfl rfl
   refine qm rfl<|gp 2 53 (.b x13) 51 rfl rfl (fun hg11=>?_) (fun hg11=>?_) ?_
   ·refine oB (bt hx13 hg11) fun x12 hx12 hx13=>?_
    obtain rfl:=os hx13
    exact gT rfl hg11<|B4 (rs:=[.b x12]) rfl rfl B7 ((U4 (A2p hscv) hx12).frz)<|A0 (C8 rfl hg11 rfl) rfl<|ge 2 rfl rfl rfl
   ·obtain rfl:=os (bf hx13 hg11)
    exact N0 (G1 rfl (by rw [hg11]; rfl)) rfl<|A0 (C7 rfl hg11 rfl) rfl<|ge 2 rfl rfl rfl
   refine qm rfl<|es (ra1 rfl)<|C4 ?_
   obtain rfl:=os h
   exact retq trivial (B1 rfl B8) (A6 rfl B9) (A3 A7 B2)
  ·refine C1<|s0<|qm rfl<|es (ra5 rfl rfl rfl rfl rfl)<|B5<|s0<|qm rfl<|es (ra6 rfl rfl rfl rfl rfl rfl)<|C2<|oB h fun o18 ho18 h=>wl (fun s14=>[(2,(.ptr (H.length + 0) 0)),(7,(.seq 1 (List.map cI x7))),(8,(.seq 1 (List.map cI x8.1))),(9,.i x8.2),(10,.i s14.1),(11,.i s14.2)]) (fun (q15:Unit) s14=>[(.cells (A4 a0))]) 1 (fun r e s' H'=>PX 0 [(2,(.ptr (H.length + 0) 0)),(7,(.seq 1 (List.map cI x7))),(8,(.seq 1 (List.map cI x8.1))),(9,.i x8.2),(10,.i r)] (H++[(.cells (A4 a0))]) e s' H') () ho18 rfl rfl (fun _ _=>rfl) (fun _=>rfl) rfl (fun s14=>(bdc (F1 rfl) (bdc E6 (bdc E6 (bdc A7 (bdc A7 (bdc A7 bdn))))))) (fun q15 s14 ys14 hs14=>?_) ?_
   ·unfold Q5 at hs14
    refine B5<|s0<|qm rfl<|A0 (D0 rfl) rfl<|A0 (C5 rfl rfl rfl) rfl<|A0 (D4 (f:=cI) rfl) rfl<|A0 (G9 rfl rfl) rfl<|es (ra7 rfl rfl rfl rfl rfl rfl rfl)<|wi hs14 rfl (fun hc16 hs14=>?_) fun hc16 hs14=>?_
    ·refine C1<|B5<|C2<|r0<|oB hs14 fun x17 hx17 hs14=>qm rfl<|A0 (D0 rfl) rfl<|A0 (C5 rfl rfl rfl) rfl<|qm rfl<|A0 (E2 (f:=cI) rfl rfl hx17) rfl<|A0 (E9 rfl rfl) rfl<|A0 (E7 rfl rfl) rfl<|qm rfl<|en (ra6 rfl rfl rfl rfl rfl rfl)<|r0<|qm rfl<|A0 (E7 rfl rfl) rfl<|qm rfl<|en (ra6 rfl rfl rfl rfl rfl rfl) ?_
     cases hs14
     exact lnT () rfl (su6 rfl rfl rfl rfl rfl rfl)
    ·refine F4 ?_
     obtain rfl:=os hs14
     exact lx rfl px (su5 rfl rfl rfl rfl rfl)
   ·rintro e s' H' - ⟨rfl,rfl,rfl⟩
    refine B5<|s0<|qm rfl<|es (ra6 rfl rfl rfl rfl rfl rfl)<|C2<|oB h fun o31 ho31 h=>wl (fun s19=>[(2,(.ptr (H.length + 0) 0)),(7,(.seq 1 (List.map cI x7))),(8,(.seq 1 (List.map cI x8.1))),(9,.i x8.2),(10,.i s19.1),(12,.i s19.2)]) (fun (q20:Unit) s19=>[(.cells (A4 a0))]) 1 (fun r e s' H'=>PX 2 [(2,(.ptr (H.length + 0) 0)),(8,(.seq 1 (List.map cI x8.1))),(9,.i x8.2),(10,.i r)] (H++[(.cells (A4 a0))]) e s' H') () ho31 rfl rfl (fun _ _=>rfl) (fun _=>rfl) rfl (fun s19=>(bdc (F1 rfl) (bdc E6 (bdc E6 (bdc A7 (bdc A7 (bdc A7 bdn))))))) (fun q20 s19 ys19 hs19=>?_) ?_
    ·unfold Q6 at hs19
     refine B5<|s0<|qm rfl<|qm rfl<|A0 (D4 (f:=cI) rfl) rfl<|A0 (G9 rfl rfl) rfl<|es (ra7 rfl rfl rfl rfl rfl rfl rfl)<|wi hs19 rfl (fun hc21 hs19=>?_) fun hc21 hs19=>?_
     ·refine C1<|B5<|C2<|sg 1 rfl<|oB hs19 fun x22 hx22 hs19=>oB hs19 fun x23 hx23 hs19=>oB hs19 fun x24 hx24 hs19=>A0 (D0 rfl) rfl<|L7 [1,2] (R0 [1,2] rfl G3 rfl rfl) (seen0 rfl) (C5 rfl rfl rfl) rfl<|qm rfl<|qm rfl<|L7 [1,2] (R0 [1,2] rfl G3 rfl rfl) (seen0 rfl) (E2 (f:=cI) rfl rfl hx22) rfl<|L7 [1,2] (R0 [1,2] rfl G3 rfl rfl) (seen0 rfl) (E9 rfl rfl) rfl<|L7 [1,2] (R0 [1,2] rfl G3 rfl rfl) (seen0 rfl) (E2 (f:=A5) rfl rfl hx23) rfl<|L7 [1,2] (R0 [1,2] rfl G3 rfl rfl) (seen0 rfl) (L6 rfl rfl) rfl<|A0 E3 rfl<|A0 E3 rfl<|A5w [0] [(.cells (A4 a0)),(.cells (A5 x23)),(.cells (A5 (DrLook.mk (ByteArray.mk #[]) ([]:List Int) 0)))] (R0 [] rfl (A4y rfl A3i G3) rfl rfl) (seen0 rfl) (D2 (ds:=(A5 x23)) rfl rfl rfl rfl (C6 rfl) rfl) rfl rfl rfl<|A0 (D0 rfl) rfl<|L7 [1,2] (R0 [1,2] rfl G3 rfl rfl) (A7y (b:=H.length + 0) rfl (A2m (Y7 _ rfl) A5g)) (C5 rfl rfl rfl) rfl<|qm rfl<|L7 [1,2] (R0 [1,2] rfl G3 rfl rfl) (A4x rfl) (E2 (f:=A5) rfl rfl hx24) rfl<|L7 [1,2] (R0 [1,2] rfl G3 rfl rfl) (A4x rfl) (L6 rfl rfl) rfl<|I2 (D2 (ds:=(A5 x24)) rfl rfl rfl rfl (C6 rfl) rfl) rfl<|es (ra8 rfl rfl rfl rfl rfl rfl rfl rfl)<|s0<|oB hs19 fun x25 hx25 hs19=>oB hs19 fun x29 hx29 hs19=>A0 (D0 rfl) rfl<|A0 (C5 rfl rfl rfl) rfl<|A0 (E2 (f:=cI) rfl rfl hx25) rfl<|A0 (E9 rfl rfl) rfl<|A0 (J2 rfl rfl) rfl<|qm rfl<|gp 10 102 (.b x29) 92 rfl rfl (fun hg26=>?_) (fun hg26=>?_) ?_
      ·refine oB (bt hx29 hg26) fun x27 hx27 hx29=>oB hx29 fun x28 hx28 hx29=>?_
       obtain rfl:=os hx29
       exact gT rfl hg26<|A0 (D0 rfl) rfl<|gT rfl hg26<|A0 (C5 rfl rfl rfl) rfl<|gT rfl hg26<|A0 (E2 (f:=cI) rfl rfl hx27) rfl<|gT rfl hg26<|A0 (E9 rfl rfl) rfl<|gT rfl hg26<|A0 (D0 rfl) rfl<|gT rfl hg26<|A0 (C5 rfl rfl rfl) rfl<|gT rfl hg26<|A0 (E2 (f:=cI) rfl rfl hx28) rfl<|gT rfl hg26<|A0 (E9 rfl rfl) rfl<|gT rfl hg26<|A0 (J2 rfl rfl) rfl<|A0 (C8 rfl hg26 rfl) rfl<|ge 10 rfl rfl rfl
      ·obtain rfl:=os (bf hx29 hg26)
       exact nT rfl hg26 rfl<|nT rfl hg26 rfl<|nT rfl hg26 rfl<|nT rfl hg26 rfl<|nT rfl hg26 rfl<|nT rfl hg26 rfl<|nT rfl hg26 rfl<|nT rfl hg26 rfl<|nT rfl hg26 rfl<|A0 (C7 rfl hg26 rfl) rfl<|ge 10 rfl rfl rfl
      refine es (ra9 rfl rfl rfl rfl rfl rfl rfl rfl rfl)<|wi hs19 rfl (fun hc30 hs19=>?_) fun hc30 hs19=>?_
      ·refine r0<|qm rfl<|A0 (D0 rfl) rfl<|A0 (C5 rfl rfl rfl) rfl<|A0 (E7 rfl rfl) rfl<|A0 (D0 rfl) rfl<|A0 (C5 rfl rfl rfl) rfl<|A0 (Z9 rfl rfl) rfl<|qm rfl<|en (ra6 rfl rfl rfl rfl rfl rfl)<|r0<|qm rfl<|A0 (E7 rfl rfl) rfl<|qm rfl<|en (ra6 rfl rfl rfl rfl rfl rfl) ?_
       cases hs19
       exact lnT () rfl (su6 rfl rfl rfl rfl rfl rfl)
      ·refine C1<|r0<|qm rfl<|A0 (E7 rfl rfl) rfl<|qm rfl<|en (ra6 rfl rfl rfl rfl rfl rfl) ?_
       cases hs19
       exact lnT () rfl (su6 rfl rfl rfl rfl rfl rfl)
     ·refine F4 ?_
      obtain rfl:=os hs19
      exact lx rfl px (su4 rfl rfl rfl rfl)
    ·rintro e s' H' - ⟨rfl,rfl,rfl⟩
     refine B5<|s0<|qm rfl<|es (ra5 rfl rfl rfl rfl rfl)<|C2<|oB h fun o36 ho36 h=>wl (fun s32=>[(2,(.ptr (H.length + 0) 0)),(8,(.seq 1 (List.map cI x8.1))),(9,.i x8.2),(10,.i s32.1),(15,.i s32.2)]) (fun (q33:Unit) s32=>[(.cells (A4 a0))]) 1 (fun r e s' H'=>PX 4 [(2,(.ptr (H.length + 0) 0)),(8,(.seq 1 (List.map cI x8.1))),(9,.i x8.2),(10,.i r)] (H++[(.cells (A4 a0))]) e s' H') () ho36 rfl rfl (fun _ _=>rfl) (fun _=>rfl) rfl (fun s32=>(bdc (F1 rfl) (bdc E6 (bdc A7 (bdc A7 (bdc A7 bdn)))))) (fun q33 s32 ys32 hs32=>?_) ?_
     ·unfold Q7 at hs32
      refine B5<|s0<|qm rfl<|qm rfl<|A0 (D4 (f:=cI) rfl) rfl<|A0 (G9 rfl rfl) rfl<|es (ra6 rfl rfl rfl rfl rfl rfl)<|wi hs32 rfl (fun hc34 hs32=>?_) fun hc34 hs32=>?_
      ·refine C1<|B5<|C2<|r0<|oB hs32 fun x35 hx35 hs32=>qm rfl<|qm rfl<|qm rfl<|A0 (E2 (f:=cI) rfl rfl hx35) rfl<|A0 (E9 rfl rfl) rfl<|A0 (Z9 rfl rfl) rfl<|qm rfl<|en (ra5 rfl rfl rfl rfl rfl)<|r0<|qm rfl<|A0 (E7 rfl rfl) rfl<|qm rfl<|en (ra5 rfl rfl rfl rfl rfl) ?_
       cases hs32
       exact lnT () rfl (su5 rfl rfl rfl rfl rfl)
      ·refine F4 ?_
       obtain rfl:=os hs32
       exact lx rfl px (su4 rfl rfl rfl rfl)
     ·rintro e s' H' - ⟨rfl,rfl,rfl⟩
      refine s0<|oB h fun x41 hx41 h=>qm rfl<|A0 (F5 rfl rfl) rfl<|qm rfl<|gp 7 131 (.b ((x8.2 == 0) && ((List.length x8.1:Int) == (List.length a0.Ounces:Int)))) 124 rfl rfl (fun hg37=>?_) (fun hg37=>?_) ?_
      ·exact gT rfl hg37<|qm rfl<|gT rfl hg37<|A0 (D4 (f:=cI) rfl) rfl<|gT rfl hg37<|A0 (D0 rfl) rfl<|gT rfl hg37<|A0 (C5 rfl rfl rfl) rfl<|gT rfl hg37<|A0 (D4 (f:=cI) rfl) rfl<|gT rfl hg37<|A0 (F5 rfl rfl) rfl<|A0 (C8 rfl hg37 rfl) rfl<|ge 7 (by rw [hg37]; rfl) rfl rfl
      ·exact nT rfl hg37 rfl<|nT rfl hg37 rfl<|nT rfl hg37 rfl<|nT rfl hg37 rfl<|nT rfl hg37 rfl<|nT rfl hg37 rfl<|A0 (C7 rfl hg37 rfl) rfl<|ge 7 (by rw [hg37]; rfl) rfl rfl
      refine qm rfl<|gp 3 135 (.b (((x8.2 == 0) && ((List.length x8.1:Int) == (List.length a0.Ounces:Int))) && (o36 == 0))) 132 rfl rfl (fun hg38=>?_) (fun hg38=>?_) ?_
      ·exact gT rfl hg38<|qm rfl<|gT rfl hg38<|A0 (F5 rfl rfl) rfl<|A0 (C8 rfl hg38 rfl) rfl<|ge 3 (by rw [hg38]; rfl) rfl rfl
      ·exact nT rfl hg38 rfl<|nT rfl hg38 rfl<|A0 (C7 rfl hg38 rfl) rfl<|ge 3 (by rw [hg38]; rfl) rfl rfl
      refine qm rfl<|gp 2 138 (.b x41) 136 rfl rfl (fun hg39=>?_) (fun hg39=>?_) ?_
      ·refine oB (bt hx41 hg39) fun x40 hx40 hx41=>?_
       obtain rfl:=os hx41
       exact gT rfl hg39<|B4 (rs:=[.b x40]) rfl rfl B7 ((U4 (A2p hscv) hx40).frz)<|A0 (C8 rfl hg39 rfl) rfl<|ge 2 rfl rfl rfl
      ·obtain rfl:=os (bf hx41 hg39)
       exact N0 (G1 rfl (by rw [hg39]; rfl)) rfl<|A0 (C7 rfl hg39 rfl) rfl<|ge 2 rfl rfl rfl
      refine qm rfl<|es (ra1 rfl)<|C4 ?_
      obtain rfl:=os h
      exact retq trivial (B1 rfl B8) (A6 rfl B9) (A3 A7 B2)
end Ds
end
section
namespace Ds
open Go Am
def A8x (x:DrLook × DrLook):Int:=if ck x.1 x.2 0 then x.1.Hair - x.2.Hair else 0
theorem D36 {n:Nat} {c:Nat} (h:c < n) (x:Int):sm ((List.range n).map fun k:Nat=>if (c:Int) = (k:Int) then x else 0) = x:= by
 induction n with
 | zero=>omega
 | succ n ih =>
  rw [List.range_succ,List.map_append,A2n]
  by_cases e:c = n
  ·subst e
   rw [B6i (fun k hk=>by
    have:k < c:= by simpa using hk
    rw [if_neg (by omega)])]
   simp [sm]
  ·rw [ih (by omega)]
   simp only [List.map_cons,List.map_nil,sm]
   rw [if_neg (by omega)]; omega
theorem C89 {α:Type} (f:Nat→α→Int) (n:Nat):∀l:List α,sm ((List.range n).map fun c=>sm (l.map (f c))) = sm (l.map fun x=>sm ((List.range n).map fun c=>f c x))
 | []=>by simp [sm,B6i]
 | x :: l=>by
  have:=C89 f n l
  simp only [List.map_cons,sm]
  rw [A73,this]
theorem D68 {r:DrRoom} {f p:DrLook} (hf:LkOk r 0 f) (hp:LkOk r (-1) p):sm ((List.range r.Ounces.length).map fun c:Nat=>A5q f p (c:Int)) = A8x (f,p):= by
 unfold A8x A5q
 simp only
 cases hc:ck f p 0 with
 | false=>simp [B6i]
 | true =>
  simp only [if_true]
  have hp0:p.Looks[0]! ≠ -1:= by
   unfold ck at hc
   rw [Bool.and_eq_true,bne_iff_ne] at hc; exact hc.1
  have h1:=hf.col
  have h2:=hp.col
  have e1:f.Looks[0]! = ((f.Looks[0]!.toNat:Nat):Int):= by omega
  have e2:p.Looks[0]! = ((p.Looks[0]!.toNat:Nat):Int):= by omega
  rw [C5o (g:=fun c:Nat=>(if f.Looks[0]! = (c:Int) then f.Hair else 0) + (if p.Looks[0]! = (c:Int) then -p.Hair else 0)) (fun c _=>by
   split <;> split <;> omega),A73]
  rw [e1,D36 (n:=r.Ounces.length) (by omega),e2,D36 (n:=r.Ounces.length) (by omega)]; omega
theorem D56 (l:List Int):sm ((List.range l.length).map fun c=>l.getD c 0) = sm l:= by
 congr 1
 apply List.ext_getElem
 ·simp
 ·intro i h1 h2
  simp [h2]
theorem D2y {r:DrRoom} (ok:RmOk r) {z:Prs} (hz:B3j r z):sm (T5 r z) = sm r.Ounces + sm (z.map fun x=>A8x (r.Figures[x.1]!,x.2)):= by
 unfold T5 E5
 rw [A73,D56,C89]
 congr 1
 refine C5o fun x hx=>?_
 have:=hz.2 x hx
 exact D68 (ok.figure _ (H8 this.1)) this.2
theorem B60 {r:DrRoom} {x:List Int} (hb:NB r) (hx:N8 x):A1z r x = some true:= by
 unfold A1z
 rw [D4a]
 simp only [Option.bind_some]
 by_cases h0:(chk r).2.2 = 0
 ·obtain ⟨ok,-⟩:=(T1 r).mp h0
  have hP:=ok.persons
  have hF:=ok.figures
  have hO:=ok.ounces
  obtain ⟨A,hA,n1,n2,n3⟩:=D6u ok hx
  rw [if_neg (by simp [h0]),hA]
  simp only [Option.bind_some]
  rw [C1r r hb _ (by rw [F0]; omega),A5z r _ (by rw [F0]; omega)]
  simp only [Option.bind_some]
  by_cases c:A.length = r.Persons.length
  ·have hpe:=C68 h0 c n1 n2
   have haq:QOk r A:=⟨by omega,n2⟩
   have hz:=haq.pr ok
   rw [hpe,if_neg (by rw [F0]; simp [c]),D0h]
   simp only [ne_eq,not_true_eq_false,if_false]
   have hob:∀k:Nat,-50 * (k:Int)≤sm (r.Ounces.take k)∧sm (r.Ounces.take k)≤50 * k:=fun k=>by
    have h1:=B5k (a:=0) (b:=50) (l:=r.Ounces.take k) fun y hy=>ok.ounce y (List.mem_of_mem_take hy)
    have h2:(r.Ounces.take k).length≤k:= by rw [List.length_take]; omega
    omega
   have L1:loop (Q5 r) (0,0) = some (sm r.Ounces):= by
    have:=I9 (b:=Q5 r) (fun i=>(sm (r.Ounces.take i),(i:Int))) r.Ounces.length (r:=sm r.Ounces) (by omega) (fun i hi=>by
     have h1:=hob i
     have h2:=ok.ounce _ (H8 hi)
     unfold Q5
     simp only []
     rw [if_pos (by simpa using hi),G2 hi]
     simp only [Option.bind_some]
     rw [List.take_succ_eq_append_getElem hi,C88,← getElem!_pos r.Ounces i hi,D8 (by omega),D8 (by omega)]
     rfl) (by
     unfold Q5
     simp only []
     rw [if_neg (by simp),List.take_length])
    exact this
   have hob2:=hob r.Ounces.length
   rw [List.take_length] at hob2
   let g:Nat→Int:=fun i=>sm (((prs r A).take i).map fun x=>A8x (r.Figures[x.1]!,x.2))
   have hzl:(prs r A).length = r.Persons.length:= by unfold prs; rw [List.length_zip]; omega
   have hab:∀x ∈ prs r A,-50≤A8x (r.Figures[x.1]!,x.2)∧A8x (r.Figures[x.1]!,x.2)≤50:=fun x hx=>by
    have h:=hz.2 x hx
    have h1:=(ok.figure _ (H8 h.1)).hair
    have h2:=h.2.hair
    unfold A8x; simp only; split <;> omega
   have hgb:∀k,k≤5→-250≤g k∧g k≤250:=fun k hk=>by
    have h1:=B5k (a:=-50) (b:=50) (l:=((prs r A).take k).map fun x=>A8x (r.Figures[x.1]!,x.2)) fun y hy=>by
     obtain ⟨x,hx,rfl⟩:=List.mem_map.mp hy
     exact hab x (List.mem_of_mem_take hx)
    have h2:(((prs r A).take k).map fun x=>A8x (r.Figures[x.1]!,x.2)).length≤k:= by rw [List.length_map,List.length_take]; omega
    show -250≤sm _∧sm _≤250
    omega
   have L2:loop (Q6 r (ints A)) (sm r.Ounces,0) = some (sm r.Ounces + g A.length):= by
    have:=I9 (b:=Q6 r (ints A)) (fun i=>(sm r.Ounces + g i,(i:Int))) A.length (r:=sm r.Ounces + g A.length) (by omega) (fun i hi=>by
     have hip:i < r.Persons.length:= by omega
     have hif:=n2 _ (H8 hi)
     have hf:=ok.figure _ (H8 hif)
     have hp:=ok.person _ (H8 hip)
     have hc:=ok.costs
     have hfl:=hf.len
     have hpl:=hp.len
     have hfh:=hf.hair
     have hph:=hp.hair
     have h1:=hgb i (by omega)
     have hst:g (i + 1) = g i + A8x (r.Figures[A[i]!]!,r.Persons[i]!):= by
      show sm _ = sm _ + _
      rw [C5a haq hi,List.map_append,A2n]
      simp [sm]
     have h2:=hgb (i + 1) (by omega)
     rw [hst] at h2 ⊢
     unfold Q6
     simp only []
     rw [if_pos (by rw [F0]; simpa using hi),A21 hi]
     simp only [Option.bind_some]
     rw [G2 hif,G2 hip]
     simp only [Option.bind_some]
     rw [show idx r.Persons[i]!.Looks 0 = some r.Persons[i]!.Looks[0]! from G2 (i:=0) (by omega),show idx r.Figures[A[i]!]!.Looks 0 = some r.Figures[A[i]!]!.Looks[0]! from G2 (i:=0) (by omega)]
     simp only [Option.bind_some]
     unfold A8x at h2 ⊢
     unfold ck at h2 ⊢
     simp only at h2 ⊢
     generalize r.Figures[A[i]!]! = f at *
     generalize r.Persons[i]! = p at *
     generalize g i = gi at *
     cases hq:(p.Looks[0]! != -1) with
     | false =>
      simp only [Bool.false_eq_true,if_false,Bool.false_and,Option.bind_some,Int.add_zero]
      rw [D8 (by omega)]; rfl
     | true =>
      rw [hq] at h2
      simp only [if_true,Bool.true_and,Option.bind_some] at h2 ⊢
      cases hd:(p.Looks[0]! != f.Looks[0]!) with
      | false =>
       simp only [Bool.false_eq_true,if_false,Int.add_zero]
       rw [D8 (by omega)]; rfl
      | true =>
       rw [hd] at h2
       simp only [if_true] at h2 ⊢
       rw [D8 (n:=sm r.Ounces + gi + f.Hair) (by omega),D8 (by omega),D8 (by omega)]
       rw [show sm r.Ounces + gi + f.Hair - p.Hair = sm r.Ounces + (gi + (f.Hair - p.Hair)) by omega]; rfl) (by
     unfold Q6
     simp only []
     rw [if_neg (by rw [F0]; simp)])
    have g0:g 0 = 0:=rfl
    simp only [g0,Int.add_zero] at this
    exact this
   have hga:=hgb A.length (by omega)
   have hleft:sm (T5 r (prs r A)) = sm r.Ounces + g A.length:= by
    rw [D2y ok hz]
    congr 1
    show _ = sm (((prs r A).take A.length).map _)
    rw [List.take_of_length_le (by omega)]
   have hll:(T5 r (prs r A)).length = r.Ounces.length:= by unfold T5; simp
   have hlb:∀k,k≤4→-1200≤sm ((T5 r (prs r A)).take k)∧sm ((T5 r (prs r A)).take k)≤1200:=fun k hk=>by
    have h1:=B5k (a:=-250) (b:=300) (l:=(T5 r (prs r A)).take k) fun y hy=>by
     obtain ⟨c,-,rfl⟩:=List.mem_map.mp (List.mem_of_mem_take hy)
     exact A8z ok hz c
    have h2:((T5 r (prs r A)).take k).length≤k:= by rw [List.length_take]; omega
    omega
   have L3:loop (Q7 (T5 r (prs r A),0)) (sm r.Ounces + g A.length,0) = some 0:= by
    have:=I9 (b:=Q7 (T5 r (prs r A),0)) (fun i=>(sm r.Ounces + g A.length - sm ((T5 r (prs r A)).take i),(i:Int))) (T5 r (prs r A)).length (r:=0) (by omega) (fun i hi=>by
     have h1:=hlb i (by omega)
     have h2:=hlb (i + 1) (by omega)
     have hst:sm ((T5 r (prs r A)).take (i + 1)) = sm ((T5 r (prs r A)).take i) + (T5 r (prs r A))[i]!:= by
      rw [List.take_succ_eq_append_getElem hi,C88,getElem!_pos _ i hi]
     rw [hst] at h2 ⊢
     unfold Q7
     simp only []
     rw [if_pos (by simpa using hi),G2 hi]
     simp only [Option.bind_some]
     rw [D8 (by omega),D8 (by omega)]
     rw [show ∀a b c:Int,a - (b + c) = a - b - c from fun a b c=>by omega]; rfl) (by
     unfold Q7
     simp only []
     rw [if_neg (by simp),List.take_length,hleft,Int.sub_self])
    simp only [List.take_zero,show sm [] = 0 from rfl,Int.sub_zero] at this
    exact this
   rw [L1]
   simp only [Option.bind_some]
   rw [L2]
   simp only [Option.bind_some]
   rw [L3]
   simp only [Option.bind_some]
   rw [hll,if_pos (by simp),awake]; rfl
  ·have hpe:P1 r (ints A) = 3:= by
    unfold P1
    rw [if_neg (by omega),if_pos (by rw [F0]; exact c)]
   rw [hpe,if_pos (by rw [F0,bne_iff_ne]; omega)]
   simp only [ne_eq,show (3:Int) ≠ 0 by decide,not_false_eq_true,if_true]
   rw [if_pos (by decide),awake]; rfl
 ·have e:((chk r).2.2 == 0) = false:=beq_eq_false_iff_ne.mpr h0
  have hpe:P1 r [] = (chk r).2.2:= by unfold P1; rw [if_pos h0]
  rw [e,if_pos (by decide),C1r r hb _ (by simp),A5z r _ (by simp),hpe]
  simp only [Option.bind_some]
  rw [if_pos h0]
  simp only
  rw [if_pos (by simpa using h0),awake]; rfl
end Ds
end
