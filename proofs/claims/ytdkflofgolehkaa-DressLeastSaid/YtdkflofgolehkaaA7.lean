/- Texts that the claim stands on, one behind another. -/
import Derived.Test.YtdkflofgolehkaaA6
set_option linter.unusedVariables false
set_option linter.unusedSimpArgs false
set_option linter.unnecessarySimpa false
section
set_option maxRecDepth 100000
namespace Am
open Go
theorem C0p {σ ρ:Type} {b:σ→Option (σ ⊕ ρ)} (I:σ→Prop) (J:ρ→Prop) (hs:∀x y,I x→b x = some (.inl y)→I y) (he:∀x r,I x→b x = some (.inr r)→J r) {x0:σ} {r:ρ} (h0:I x0) (h:loop b x0 = some r):J r:= by
 have key:∀n x0,I x0→A4d b n x0 = some r→J r:= by
  intro n
  induction n with
  | zero=>intro x0 _ h; cases h
  | succ n ih =>
   intro x0 hI h
   rw [H8] at h
   split at h
   ·next x' hb=>exact ih x' (hs _ _ hI hb) h
   ·next r' hb=>simp only [Option.some.injEq] at h; subst h; exact he _ _ hI hb
   ·cases h
 exact key _ _ h0 h
end Am
namespace Ds
open Go Am Go.Proofs.Ytdkflofgolehkaa.Cd
def B6d (a:Int) (s:Int × List Int):Option ((Int × List Int) ⊕ List Int) :=
 (if (decide (s.1 > a)) = true then (idx s.2 s.1).bind fun x=>(idx s.2 (w64 (s.1 - 1))).bind fun y=>(A69 x y).bind fun z=>some z else some false).bind fun g =>
 if g = true then
  (idx s.2 (w64 (s.1 - 1))).bind fun y=>(idx s.2 s.1).bind fun x =>
  (idx (B1g s.2 s.1 y) (w64 (s.1 - 1))).bind fun _ =>
  some (.inl (w64 (s.1 - 1),B1g (B1g s.2 s.1 y) (w64 (s.1 - 1)) x))
 else some (.inr s.2)
def B6c (a b:Int) (s:Int × List Int):Option ((Int × List Int) ⊕ List Int) :=
 if (decide (s.1 < b)) = true then
  (loop (B6d a) (s.1,s.2)).bind fun l=>some (.inl (w64 (s.1 + 1),l))
 else some (.inr s.2)
def C5h (a b:Int) (l:List Int):Option (List Int):=loop (B6c a b) (w64 (a + 1),l)
def ar1 (l:List Int):AO:=.arr 1 false (l.map cI)
theorem D3x {c:Sc} {A B:A1} {a b:Int} {l r:List Int} (h:C5h a b l = some r) :
  G5 tab c (A++(ar1 l :: B)) (.fn (.func 105) [] []) [.asl (A.length + 0) l.length,.i a,.i b] [] (A++(ar1 r :: B)):= by
 unfold C5h at h
 have htk:∀x:AO,(x :: B).take (B.length + 1) = x :: B:=fun x=>List.take_of_length_le (Nat.le_refl _)
 refine A8g (aq:=[.asl (A.length + 0) l.length,.i a,.i b]) rfl rfl rfl ?_
 refine s0<|qm rfl<|A0 (E7 rfl rfl) rfl<|qm rfl<|es (ra4 rfl rfl rfl rfl)<|C3<|wl (fun s=>[(0,.asl (A.length + 0) s.2.length),(1,.i a),(2,.i b),(6,.i s.1)]) (fun (_:Unit) s=>ar1 s.2 :: B) (B.length + 1) (fun r e s' H'=>PX 0 [] (A++(ar1 r :: B)) e s' H') () h rfl rfl (fun _ _=>rfl) (fun _=>rfl) rfl (fun s=>bdc (A0e (Nat.ble_eq_true_of_le (by omega))) (bdc A8 (bdc A8 (bdc A8 bdn)))) (fun _ s o hs=>?_) ?_
 ·unfold B6c at hs
  refine B7<|s0<|qm rfl<|qm rfl<|A0 (G9 rfl rfl) rfl<|es (ra5 rfl rfl rfl rfl rfl)<|wi hs rfl (fun hc hs=>?_) fun hc hs=>?_
  ·refine oB hs fun l1 hl1 hs=>?_
   refine C1<|B7<|C3<|s0<|qm rfl<|qm rfl<|es (ra5 rfl rfl rfl rfl rfl)<|C3<|wl (fun t=>[(0,.asl (A.length + 0) t.2.length),(1,.i a),(2,.i b),(6,.i s.1),(7,.i t.1)]) (fun (_:Unit) t=>ar1 t.2 :: B) (B.length + 1) (fun r e s' H'=>PX 2 [(0,.asl (A.length + 0) r.length),(1,.i a),(2,.i b),(6,.i s.1)] (A++(ar1 r :: B)) e s' H') () hl1 rfl rfl (fun _ _=>rfl) (fun _=>rfl) rfl (fun t=>bdc (A0e (Nat.ble_eq_true_of_le (by omega))) (bdc A8 (bdc A8 (bdc A8 (bdc A8 bdn))))) (fun _ t o' ht=>?_) ?_
   ·unfold B6d at ht
    refine oB ht fun g hg ht=>?_
    refine B7<|s0<|qm rfl<|qm rfl<|A0 (A70 rfl rfl) rfl<|qm rfl<|gp 11 30 (.b g) 19 rfl rfl (fun hb=>?_) (fun hb=>?_) ?_
    ·refine oB (bt hg hb) fun x hx hg=>oB hg fun y hy hg=>oB hg fun z hz hg=>?_
     obtain rfl:=os hg
     exact gT rfl hb<|qm rfl<|gT rfl hb<|qm rfl<|gT rfl hb<|A0 (A8x (f:=cI) rfl rfl rfl rfl hx) rfl<|gT rfl hb<|A0 (A9w (x:=.i x) rfl rfl (List.length_map _) (A89 hx) rfl) rfl<|gT rfl hb<|qm rfl<|gT rfl hb<|qm rfl<|gT rfl hb<|A0 (A0i rfl rfl) rfl<|gT rfl hb<|A0 (A8x (f:=cI) rfl rfl rfl rfl hy) rfl<|gT rfl hb<|A0 (A9w (x:=.i y) rfl rfl (List.length_map _) (A89 hy) rfl) rfl<|gT rfl hb<|B4 (rs:=[.b z]) rfl rfl (A2 rfl (A2 rfl B5)) ((B5o hz).frz)<|A0 (C6 rfl hb rfl) rfl<|ge 11 rfl rfl rfl
    ·obtain rfl:=os (bf hg hb)
     exact nT rfl hb rfl<|nT rfl hb rfl<|nT rfl hb rfl<|nT rfl hb rfl<|nT rfl hb rfl<|nT rfl hb rfl<|nT rfl hb rfl<|nT rfl hb rfl<|nT rfl hb rfl<|J3 (F1 rfl (by rw [hb]; rfl)) rfl<|A0 (C5 rfl hb rfl) rfl<|ge 11 rfl rfl rfl
    ·refine es (ra6 rfl rfl rfl rfl rfl rfl)<|wi ht rfl (fun hc2 ht=>?_) fun hc2 ht=>?_
     ·refine oB ht fun y hy ht=>oB ht fun x hx ht=>oB ht fun w hw ht=>?_
      refine C1<|B7<|C3<|r0<|qm rfl<|qm rfl<|qm rfl<|qm rfl<|A0 (A0i rfl rfl) rfl<|A0 (A8x (f:=cI) rfl rfl rfl rfl hy) rfl<|A0 (A9w (x:=.i y) rfl rfl (List.length_map _) (A89 hy) rfl) rfl<|qm rfl<|qm rfl<|A0 (A8x (f:=cI) rfl rfl rfl rfl hx) rfl<|A0 (A9w (x:=.i x) rfl rfl (List.length_map _) (A89 hx) rfl) rfl<|A0 (A8x (f:=cI) rfl rfl rfl rfl hx) rfl<|I0 (C4o (ds:=cI y) rfl rfl rfl rfl rfl (List.length_map _) (A89 hx) rfl rfl) rfl ?_
      rw [C4h]
      refine qm rfl<|qm rfl<|A0 (A0i rfl rfl) rfl<|A0 (A8x (f:=cI) (e:=B1g t.2 t.1 y) rfl rfl rfl (A5v _ _ _) hw) rfl<|I0 (C4o (ds:=cI x) rfl rfl rfl rfl rfl (by rw [List.length_map,A5v]) (A89 hw) rfl rfl) rfl ?_
      rw [C4h]
      refine en (ra5 rfl rfl rfl rfl rfl)<|r0<|qm rfl<|A0 (A0i rfl rfl) rfl<|qm rfl<|en (ra5 rfl rfl rfl rfl rfl) ?_
      cases ht
      exact lnT () (htk _) (su5 (by simp only [A5v]; rfl) rfl rfl rfl rfl)
     ·refine F8 ?_
      obtain rfl:=os ht
      exact lx rfl px (su4 rfl rfl rfl rfl)
   ·rintro e s' H' - ⟨rfl,rfl,rfl⟩
    refine r0<|qm rfl<|A0 (E7 rfl rfl) rfl<|qm rfl<|en (ra4 rfl rfl rfl rfl) ?_
    cases hs
    exact lnT () (htk _) (su4 rfl rfl rfl rfl)
  ·refine F8 ?_
   obtain rfl:=os hs
   exact lx rfl px (Sub.nil _)
 ·rintro e s' H' - ⟨rfl,rfl,rfl⟩
  show B82 _ _ _ _ .normal _ _
  exact C68 trivial B8 B9 B2 (List.take_of_length_le (by simp))
def D5p (a b:Int) (l:List Int):Option (List Int):=if (decide (w64 (b - a)≤12)) = true then C5h a b l else none
theorem D5q {c:Sc} {A B:A1} {a b k:Int} {l r:List Int} (h:D5p a b l = some r) :
  G5 tab c (A++(ar1 l :: B)) (.fn (.func 96) [] []) [.asl (A.length + 0) l.length,.i a,.i b,.i k] [] (A++(ar1 r :: B)):= by
 unfold D5p at h
 split at h
 ·next hc =>
  refine A8g (aq:=[.asl (A.length + 0) l.length,.i a,.i b,.i k]) rfl rfl rfl ?_
  refine s0<|qm rfl<|es (ra5 rfl rfl rfl rfl rfl)<|s0<|qm rfl<|es (ra6 rfl rfl rfl rfl rfl rfl)<|C3<|D31 (B.length + 1) rfl _ (fun S hS=>O8 (live:=[0,1,2,3,8,9]) rfl (by decide) (Sub.trans (su6 rfl rfl rfl rfl rfl rfl) hS))<|C3<|s0<|qm rfl<|qm rfl<|A0 (A0i rfl rfl) rfl<|qm rfl<|es (ra7 rfl rfl rfl rfl rfl rfl rfl)<|B7<|s0<|qm rfl<|A0 (B9u rfl rfl) rfl<|es (ra8 rfl rfl rfl rfl rfl rfl rfl rfl)<|R7 rfl hc<|s0<|qm rfl<|qm rfl<|qm rfl<|R3 (T0 rfl rfl (D3x h) rfl) rfl<|es .n<|C4 ?_
  refine .out rfl ?_
  show B82 _ _ _ _ .ret _ _
  exact C68 trivial B8 B9 B2 (List.take_of_length_le (by simp))
 ·cases h
def B8n (l:List Int):Option (List Int) :=
 (A54 (IntKind.u64.wrap (List.length l:Int))).bind fun _=>D5p 0 (List.length l:Int) l
theorem D5x {c:Sc} {A B:A1} {l r:List Int} (h:B8n l = some r) :
  G5 tab c (A++(ar1 l :: B)) (.fn (.func 67) [] []) [.asl (A.length + 0) l.length] [] (A++(ar1 r :: B)):= by
 unfold B8n at h
 refine oB h fun k hk h=>?_
 refine A8g (aq:=[.asl (A.length + 0) l.length]) rfl rfl rfl ?_
 refine s0<|qm rfl<|A0 (A8z (f:=cI) rfl rfl rfl) rfl<|qm rfl<|es (ra2 rfl rfl)<|r0<|qm rfl<|qm rfl<|qm rfl<|A0 (A8w rfl) rfl<|B4 (rs:=[.i k]) rfl rfl (A2 rfl B5) ((B33 hk).frz)<|R3 (T0 rfl rfl (D5q h) rfl) rfl<|en .n ?_
 show B82 _ _ _ _ .normal _ _
 exact C68 trivial B8 B9 B2 (List.take_of_length_le (by simp))
theorem D0u {a b:Int} {l r:List Int} (h:C5h a b l = some r):r.length = l.length:= by
 unfold C5h at h
 refine C0p (fun s=>s.2.length = l.length) (fun r=>r.length = l.length) (fun x y hx hy=>?_) (fun x r hx hr=>?_) rfl h
 ·unfold B6c at hy
  split at hy
  ·refine oB hy fun l1 hl1 hy=>?_
   cases hy
   refine C0p (fun s=>s.2.length = l.length) (fun r=>r.length = l.length) (fun x y hx hy=>?_) (fun x r hx hr=>?_) hx hl1
   ·unfold B6d at hy
    refine oB hy fun g _ hy=>?_
    split at hy
    ·refine oB hy fun _ _ hy=>oB hy fun _ _ hy=>oB hy fun _ _ hy=>?_
     cases hy
     simpa only [A5v] using hx
    ·cases hy
   ·unfold B6d at hr
    refine oB hr fun g _ hr=>?_
    split at hr
    ·refine oB hr fun _ _ hr=>oB hr fun _ _ hr=>oB hr fun _ _ hr=>?_
     cases hr
    ·cases hr; exact hx
  ·cases hy
 ·unfold B6c at hr
  split at hr
  ·refine oB hr fun _ _ hr=>?_
   cases hr
  ·cases hr; exact hx
theorem D0v {l r:List Int} (h:B8n l = some r):r.length = l.length:= by
 unfold B8n D5p at h
 refine oB h fun _ _ h=>?_
 split at h
 ·exact D0u h
 ·cases h
end Ds
end
section
set_option maxRecDepth 100000
namespace Ds
open Go Am Go.Proofs.Ytdkflofgolehkaa.Cd
def B6t (t:DrRoom) (person:Int):Option ((Chg × dress_plan) × Int) :=
 (L7 t).bind fun x1 =>
 if (x1.2.2 != 0) = true then some (([],plan0),x1.2.2)
 else (loop (M2 t) (0,[])).bind fun ch =>
  (J0 0 (w64 ((List.length t.Persons:Int) - 1)) [person]).bind fun k =>
  if k = true then some (([],plan0),4)
  else (J2 ⟨t⟩).bind fun w=>(P3 t ch w).bind fun z =>
   if (!z.2) = true then some (([],plan0),9) else some ((ch,z.1),0)
def C6a (N:Nat) (t:DrRoom) (ch:Chg) (p:dress_plan):List AO:=[.cells (A4 t),.cells (A9 p),.cells (A4 t),.map (A99 ch),.cells (A4g t (N + 3)),.cells (A9 p)]
def EnQ (H:A1) (t:DrRoom) (r:(Chg × dress_plan) × Int) (e:Ex) (s:B3) (H1:A1):Prop :=
 (match e with | .exit _=>False | _=>True)∧∃ rs H2,results s H1 [.tmp 4,.cell 5 (some 6),.tmp 6] = some rs∧P8 H.length H1 rs = some (rs,H2) ∧
  ((r.2 != 0) = true∧rs = [.lit (.pointer none),.agg (A9 plan0),.i r.2]∧trunc H.length rs H2 = H∨r.2 = 0∧rs = [.ptr (H.length + 4) 0,.agg (A9 r.1.2),.i 0]∧trunc H.length rs H2 = H++C6a H.length t r.1.1 r.1.2)
theorem C1u {H:A1} {l:List AO} {s:B3} {t:DrRoom} {e:Int} {x:Chg × dress_plan} (he:(e != 0) = true) (h4:sget s 4 = some (.lit (.pointer none))) (h5:sget s 5 = some (.ptr (H.length + 1) 0)) (h6:sget s 6 = some (.i e)) (hl:l[1]? = some (.cells (A9 plan0))):EnQ H t (x,e) .ret s (H++l) :=
 ⟨trivial,_,_,B1 h4 (P0 (I4 (ds:=A9 plan0) h5 hl rfl rfl) (B1 h6 B8)),A6 rfl (A6 (A1l rfl) (A6 rfl B9)),.inl ⟨he,rfl,by rw [C1b (by rfl),List.append_nil]⟩⟩
theorem D1x {c:Sc} {H:A1} (hscv:R5 c H = true) {t:DrRoom} {person:Int} {r:(Chg × dress_plan) × Int} (h:B6t t person = some r) :
  (r.2 != 0) = true∧G5 tab c H (.fn (.func 64) [] []) [.agg (A4 t),.i person] [.lit (.pointer none),.agg (A9 plan0),.i r.2] H ∨
  r.2 = 0∧G5 tab c H (.fn (.func 64) [] []) [.agg (A4 t),.i person] [.ptr (H.length + 4) 0,.agg (A9 r.1.2),.i 0] (H++C6a H.length t r.1.1 r.1.2):= by
 have key:WP tab c64 (I6 0 [.agg (A4 t),.i person]) (H++[]) ⟨H.length,c.cur :: c.outer⟩ (EnQ H t r):= by
  unfold B6t at h
  refine oB h fun x1 hx1 h=>?_
  refine sg 0 rfl<|A0 (F7 (cs:=A4 t) rfl rfl rfl) rfl<|qm rfl<|A0 E4 rfl<|qm rfl<|es (ra3 rfl rfl rfl) ?_
  by_cases hc1:(x1.2.2 != 0) = true
  ·rw [if_pos hc1] at h
   obtain rfl:=os h
   refine s0<|A0 (C2 rfl rfl rfl) rfl<|R3 (W9 rfl rfl (A2 (D0 rfl) B5) (B7e hx1 hc1) rfl) rfl<|qm rfl<|A0 (A7 rfl rfl) rfl<|A0 (A7 rfl rfl) rfl<|qm rfl<|qm rfl<|es (ra5 rfl rfl rfl rfl rfl)<|B7<|C3<|s0<|qm rfl<|A0 (I7 rfl rfl) rfl<|qm rfl<|es (ra6 rfl rfl rfl rfl rfl rfl)<|R7 rfl hc1<|s0<|A0 (L3 (cs:=A9 plan0) rfl rfl) rfl<|qm rfl<|qm rfl<|I0 (D1 (ds:=A9 plan0) rfl rfl rfl rfl (C7 rfl) rfl) rfl<|qm rfl<|es (ra3 rfl rfl rfl)<|C4<|C1u hc1 rfl rfl rfl rfl
  ·rw [if_neg hc1] at h
   have hc1:(x1.2.2 != 0) = false:=Bool.eq_false_iff.2 hc1
   refine oB h fun ch hch h=>oB h fun k hk h=>?_
   have hlook:G5 tab ⟨H.length,c.cur :: c.outer⟩ (H++[.cells (A4 t),.cells (A9 plan0)]) (.fn (.func 52) [] []) [(.agg (A4 t))] [.ptr (H.length + 4) 0,.i 0] (H++[.cells (A4 t),.cells (A9 plan0),.cells (A4 t),.map (A99 ch),.cells (A4g t (H.length + 3))]):= by
    have:=B7f (c:=⟨H.length,c.cur :: c.outer⟩) (H:=H++[.cells (A4 t),.cells (A9 plan0)]) hx1 hc1 hch
    unfold C8k at this
    rw [List.length_append,List.append_assoc] at this
    exact this
   refine s0<|A0 (C2 rfl rfl rfl) rfl<|R3 (W9 rfl rfl (A2 (D0 rfl) B5) hlook rfl) rfl<|qm rfl<|A0 (A7 rfl rfl) rfl<|A0 (A7 rfl rfl) rfl<|qm rfl<|qm rfl<|es (ra5 rfl rfl rfl rfl rfl)<|B7<|C3<|s0<|qm rfl<|A0 (O1 (v:=(.b false)) rfl rfl rfl) rfl<|qm rfl<|es (ra6 rfl rfl rfl rfl rfl rfl)<|Z2 rfl rfl<|s0<|A0 (D2 rfl) rfl<|A0 (C8 rfl rfl rfl) rfl<|A0 (D5 (f:=A5) rfl) rfl<|A0 (A0i rfl rfl) rfl<|qm rfl<|A0 (G4 (rows:=List.map cI [person]) rfl rfl (D8 (fun _=>rfl) _)) rfl<|B4 (rs:=[.b k]) rfl rfl (A2 rfl (A2 rfl (A2 rfl B5))) ((M3 hk).frz)<|qm rfl<|es (ra3 rfl rfl rfl)<|wi h rfl (fun hc2 h=>?_) fun hc2 h=>?_
   ·obtain rfl:=os h
    exact s0<|A0 (L3 (cs:=A9 plan0) rfl rfl) rfl<|qm rfl<|I0 (D1 (ds:=A9 plan0) rfl rfl rfl rfl (C7 rfl) rfl) rfl<|qm rfl<|es (ra3 rfl rfl rfl)<|C4<|C1u rfl rfl rfl rfl rfl
   refine oB h fun w hw h=>oB h fun z hz h=>?_
   refine C1<|sg 5 rfl<|qm rfl<|qm rfl<|B4 (rs:=[.i w]) rfl rfl (A2 rfl B5) ((N1 (a0:=⟨t⟩) (D7 rfl) hw).frz)<|B4 (rs:=[(.agg (A9 z.1)),.b z.2]) rfl rfl (A2 rfl (A2 rfl B5)) (B5v (t:=t) (ch:=ch) ⟨_,D7 rfl,A1o rfl⟩ (A18 hscv) hz)<|qm rfl<|A0 (A7 rfl rfl) rfl<|A0 (A7 rfl rfl) rfl<|A0 E4 rfl<|I0 (D1 (ds:=(A9 z.1)) rfl rfl rfl rfl (C7 rfl) rfl) rfl<|qm rfl<|es (ra4 rfl rfl rfl rfl)<|B7<|s0<|qm rfl<|A0 (P4 rfl) rfl<|es (ra4 rfl rfl rfl rfl)<|wi h rfl (fun hc3 h=>?_) fun hc3 h=>?_
   ·obtain rfl:=os h
    exact s0<|A0 (L3 (cs:=A9 plan0) rfl rfl) rfl<|qm rfl<|I0 (D1 (ds:=A9 plan0) rfl rfl rfl rfl (C7 rfl) rfl) rfl<|qm rfl<|es (ra3 rfl rfl rfl)<|C4<|C1u rfl rfl rfl rfl rfl
   ·obtain rfl:=os h
    refine C1<|s0<|qm rfl<|A0 (C2 rfl rfl rfl) rfl<|qm rfl<|I0 (D1 (ds:=(A9 z.1)) rfl rfl rfl rfl (C7 rfl) rfl) rfl<|qm rfl<|es (ra3 rfl rfl rfl)<|C4 ?_
    exact ⟨trivial,_,_,B1 rfl (P0 (I4 (ds:=A9 z.1) rfl rfl rfl rfl) (B1 rfl B8)),A6 rfl (A6 (A1l rfl) (A6 rfl B9)),.inr ⟨rfl,rfl,B8t C7x⟩⟩
 rw [List.append_nil] at key
 obtain ⟨e,S',s',H2,h1,h2,h3,rs,H3,h4,h5,h6⟩:=key _ (Sub.refl _)
 have hrun:∀H',trunc H.length rs H3 = H'→G5 tab c H (.fn (.func 64) [] []) [.agg (A4 t),.i person] rs H':=fun H' hH =>
  G5.fn (af:=a64) (bd:=c64) (aq:=[.agg (A4 t),.i person]) (rs0:=rs) (rs1:=rs) (H1:=H3) (e:=e) (st':=⟨S',H2,⟨H.length,c.cur :: c.outer⟩⟩) rfl rfl rfl rfl rfl rfl h1 (by cases e <;> first | rfl | exact h3.elim) (O9 h2 h4) h5 rfl hH.symm
 rcases h6 with ⟨h6,rfl,h7⟩ | ⟨h6,rfl,h7⟩
 ·exact .inl ⟨h6,hrun _ h7⟩
 ·exact .inr ⟨h6,hrun _ h7⟩
theorem retq0 {H:A1} {s:B3} {rv:List ARes} {rs:List AV} {e:Ex} (h:RetQ H rv rs e s (H++[])):RetQ H rv rs e s H:= by rwa [List.append_nil] at h
theorem D2j {c:Sc} {A B:A1} {b:Nat} {l:List Int} {x r:Int} (hb:A.length = b) (h:M1 l x = some r):E6 tab c (A++(ar1 l :: B)) (.fn (.func 95) [] []) [.asl b l.length,.i x] [.i r]:= by
 subst hb
 unfold M1 at h
 have htk:∀x:AO,(x :: B).take (B.length + 1) = x :: B:=fun x=>List.take_of_length_le (Nat.le_refl _)
 refine B6o (aq:=[.asl A.length l.length,.i x]) rfl rfl rfl ?_
 refine s0<|qm rfl<|es (ra2 rfl rfl)<|B7<|s0<|qm rfl<|A0 (A8z (f:=cI) (j:=0) rfl rfl rfl) rfl<|qm rfl<|es (ra4 rfl rfl rfl rfl)<|C3<|oB h fun o6 ho6 h=>wl (fun s1=>[(0,(.asl (A.length + 0) l.length)),(1,.i x),(7,(.i (List.length l:Int))),(8,.i s1)]) (fun (q2:Unit) s1=>ar1 l :: B) (B.length + 1) (fun r e s' H'=>(match r with | (.inl v)=>e = .ret∧RetQ (A++(ar1 l :: B)) [.tmp 4] [.i v] e s' H' | (.inr v)=>PX 0 [] (A++(ar1 l :: B)) e s' H':Prop)) () ho6 rfl rfl (fun _ _=>rfl) (fun _=>rfl) rfl (fun s1=>(bdc (A0e (Nat.ble_eq_true_of_le (by omega))) (bdc A8 (bdc A8 (bdc A8 bdn))))) (fun q2 s1 ys1 hs1=>?_) ?_
 ·unfold G3 at hs1
  refine s0<|A0 (G9 rfl rfl) rfl<|es (ra5 rfl rfl rfl rfl rfl)<|B7<|wi hs1 rfl (fun hc3 hs1=>?_) fun hc3 hs1=>?_
  ·refine C1<|B7<|C3<|s0<|qm rfl<|qm rfl<|es (ra5 rfl rfl rfl rfl rfl)<|s0<|oB hs1 fun x4 hx4 hs1=>qm rfl<|qm rfl<|qm rfl<|A0 (A8x (f:=cI) rfl rfl rfl rfl hx4) rfl<|A0 (A9w (x:=.i x4) rfl rfl (List.length_map _) (A89 hx4) rfl) rfl<|A0 (F5 rfl rfl) rfl<|es (ra6 rfl rfl rfl rfl rfl rfl)<|wi hs1 rfl (fun hc5 hs1=>?_) fun hc5 hs1=>?_
   ·refine s0<|qm rfl<|qm rfl<|es (ra1 rfl)<|C4 ?_
    obtain rfl:=os hs1
    exact lx rfl (And.intro rfl (retq0 (retq trivial (B1 rfl B8) (A6 rfl B9) (A3 A8 B2)))) (Sub.refl _)
   ·refine C1<|r0<|A0 (E7 rfl rfl) rfl<|qm rfl<|en (ra4 rfl rfl rfl rfl) ?_
    cases hs1
    exact lnT () (htk _) (su4 rfl rfl rfl rfl)
  ·refine F8 ?_
   obtain rfl:=os hs1
   exact lx rfl px (.nil _)
 ·rcases o6 with vo6_0 | vo6_1
  ·rintro e s' H' - ⟨rfl,hret⟩
   cases h
   exact hret
  ·rintro e s' H' - ⟨rfl,rfl,rfl⟩
   refine s0<|qm rfl<|es (ra1 rfl)<|C4 ?_
   obtain rfl:=os h
   exact retq0 (retq trivial (B1 rfl B8) (A6 rfl B9) (A3 A8 B2))
theorem C3o {c:Sc} {A B:A1} {b:Nat} {l:List Int} {x:Int} {r:Bool} (hb:A.length = b) (h:F9 l x = some r):E6 tab c (A++(ar1 l :: B)) (.fn (.func 66) [] []) [.asl b l.length,.i x] [.b r]:= by
 unfold F9 at h
 refine oB h fun x1 hx1 h=>?_
 refine B6o (aq:=[.asl b l.length,.i x]) rfl rfl rfl ?_
 refine s0<|qm rfl<|es (ra2 rfl rfl)<|s0<|qm rfl<|qm rfl<|R3 (A49 (rs:=[.i x1]) rfl rfl ((D2j hb hx1).frz)) rfl<|A0 (A7z rfl rfl) rfl<|qm rfl<|es (ra1 rfl)<|C4 ?_
 obtain rfl:=os h
 exact retq0 (retq trivial (B1 rfl B8) (A6 rfl B9) (A3 A8 B2))
def B4l (person:Int) (best:dress_plan) (l:List dress_plan) (s:Int × List Int):Option ((Int × List Int) ⊕ List Int) :=
 if (decide (s.1 < (List.length l:Int))) = true then
  (idx l s.1).bind fun p=>(idx p.figures_ person).bind fun f =>
  (if (p.cost_ == best.cost_) = true then (F9 s.2 f).bind fun k=>some (!k) else some false).bind fun g =>
  if g = true then (app 8 s.2 [f]).bind fun q=>some (.inl (w64 (s.1 + 1),q))
  else some (.inl (w64 (s.1 + 1),s.2))
 else some (.inr s.2)
def A4m (t:DrRoom) (person:Int):Option (List Int × Int) :=
 (B6t t person).bind fun r =>
 if (r.2 != 0) = true then some ([],r.2)
 else (J2 ⟨t⟩).bind fun w=>(R8 t r.1.1 w).bind fun l =>
  (loop (B4l person r.1.2 l) (0,[])).bind fun o=>(B8n o).bind fun q=>some (q,0)
def B4k (N:Nat) (t:DrRoom) (ch:Chg) (p:dress_plan) (s:List Int):List AO:=[.cells (A4 t),ar1 s,.cells (A9 p),.cells (A4 t),.cells (A9 p),.cells (A4 t),.map (A99 ch),.cells (A4g t (N + 6)),.cells (A9 p)]
theorem B2t {c:Sc} {H:A1} (hscv:R5 c H = true) {a0:DrRoom} {a1:Int} {r:List Int × Int} (h:A4m a0 a1 = some r) :
  T1 tab c H (.fn (.func 28) [] []) [(.agg (A4 a0)),.i a1] [(.seq 1 (List.map cI r.1)),.i r.2]:= by
 unfold A4m at h
 refine oB h fun x hx h=>?_
 refine cF rfl rfl<|sg 0 rfl<|A0 (F7 (cs:=A4 a0) rfl rfl rfl) rfl<|A0 A2w rfl<|qm rfl<|es (ra3 rfl rfl rfl)<|sg 2 rfl<|A0 (C2 rfl rfl rfl) rfl<|qm rfl ?_
 rcases D1x (c:=⟨H.length,c.cur :: c.outer⟩) (H:=H++[.cells (A4 a0),ar1 [],.dead]) (A18 hscv) hx with ⟨hc,hcall⟩ | ⟨hc,hcall⟩
 ·rw [if_pos hc] at h
  obtain rfl:=os h
  refine R3 (W9 rfl rfl (A2 (D0 rfl) (A2 rfl B5)) hcall rfl) rfl<|qm rfl<|A0 (A7 rfl rfl) rfl<|A0 (A7 rfl rfl) rfl<|A0 (A7 rfl rfl) rfl<|A0 E4 rfl<|qm rfl<|I0 (D1 (ds:=A9 plan0) rfl rfl rfl rfl (C7 rfl) rfl) rfl<|qm rfl<|es (ra5 rfl rfl rfl rfl rfl)<|B7<|s0<|qm rfl<|A0 (I7 rfl rfl) rfl<|es (ra6 rfl rfl rfl rfl rfl rfl)<|R7 rfl hc<|sg 3 rfl<|qm rfl<|A0 A2w rfl<|qm rfl<|es (ra2 rfl rfl)<|C4 ?_
  exact ⟨[.fresh 1 (List.map cI []),.i x.2],retq trivial (B1 rfl (B1 rfl B8)) (A6 (A12 rfl (List.length_map _)) (A6 rfl B9)) (A3 U6 (A3 A8 B2)),rfl⟩
 ·obtain ⟨⟨ch,best⟩,e⟩:=x
  dsimp only at hc
  subst hc
  rw [if_neg (by simp)] at h
  refine oB h fun w hw h=>oB h fun l hl h=>oB h fun o ho h=>oB h fun q hq h=>?_
  obtain rfl:=os h
  have hcall:G5 tab ⟨H.length,c.cur :: c.outer⟩ (H++[.cells (A4 a0),ar1 [],.dead]) (.fn (.func 64) [] []) [.agg (A4 a0),.i a1] [.ptr (H.length + 7) 0,.agg (A9 best),.i 0] (H++[.cells (A4 a0),ar1 [],.dead,.cells (A4 a0),.cells (A9 best),.cells (A4 a0),.map (A99 ch),.cells (A4g a0 (H.length + 6)),.cells (A9 best)]):= by
   unfold C6a at hcall
   rw [List.length_append,List.append_assoc] at hcall
   exact hcall
  have hH:∀s:List Int,H++B4k H.length a0 ch best s = (H++[.cells (A4 a0)])++(ar1 s :: (B4k H.length a0 ch best s).drop 2):=fun s=>by simp [B4k]
  have hA:(H++[AO.cells (A4 a0)]).length = H.length + 1:= by simp
  refine R3 (W9 rfl rfl (A2 (D0 rfl) (A2 rfl B5)) hcall rfl) rfl<|qm rfl<|A0 (A7 rfl rfl) rfl<|A0 (A7 rfl rfl) rfl<|A0 (A7 rfl rfl) rfl<|A0 E4 rfl<|qm rfl<|I0 (D1 (ds:=A9 best) rfl rfl rfl rfl (C7 rfl) rfl) rfl<|qm rfl<|es (ra5 rfl rfl rfl rfl rfl)<|B7<|s0<|qm rfl<|A0 (O1 (v:=(.b false)) rfl rfl rfl) rfl<|es (ra6 rfl rfl rfl rfl rfl rfl)<|Z2 rfl rfl<|C1<|B7<|s0<|qm rfl<|qm rfl<|B4 (rs:=[.i w]) rfl rfl (A2 rfl B5) ((N1 (a0:=⟨a0⟩) (D7 rfl) hw).frz)<|B4 (rs:=[.seq 6 (l.map A9)]) rfl rfl (A2 rfl (A2 rfl B5)) (C2s (t:=a0) (ch:=ch) ⟨_,D7 rfl,A1o rfl⟩ (A18 hscv) hl)<|A0 (D5 (f:=A9) rfl) rfl<|qm rfl<|es (ra6 rfl rfl rfl rfl rfl rfl)<|C3<|wl (fun s=>[(1,.i a1),(4,.asl (H.length + 1) s.2.length),(7,.ptr (H.length + 2) 0),(24,.seq 6 (l.map A9)),(25,.i (List.length l:Int)),(26,.i s.1)]) (fun (_:Unit) s=>B4k H.length a0 ch best s.2) 9 (fun r e s' H'=>PX 0 [(4,.asl (H.length + 1) r.length)] (H++B4k H.length a0 ch best r) e s' H') () ho rfl rfl (fun _ _=>rfl) (fun _=>rfl) rfl (fun s=>bdc A8 (bdc (A0e rfl) (bdc (F2 rfl) (bdc E8 (bdc A8 (bdc A8 bdn)))))) (fun _ s o hs=>?_) ?_
  ·unfold B4l at hs
   refine s0<|A0 (G9 rfl rfl) rfl<|es (ra7 rfl rfl rfl rfl rfl rfl rfl)<|B7<|wi hs rfl (fun hc hs=>?_) fun hc hs=>?_
   ·refine oB hs fun p hp hs=>oB hs fun f hf hs=>oB hs fun g hg hs=>?_
    refine C1<|B7<|C3<|sg 9 rfl<|A0 (E5 (f:=A9) rfl rfl hp) rfl<|A0 (M7 rfl rfl) rfl<|A0 E4 rfl<|I0 (D1 (ds:=A9 p) rfl rfl rfl rfl (C7 rfl) rfl) rfl<|es (ra7 rfl rfl rfl rfl rfl rfl rfl)<|s0<|A0 (D2 rfl) rfl<|A0 (C8 rfl rfl rfl) rfl<|qm rfl<|A0 (E5 (f:=cI) rfl rfl hf) rfl<|A0 (F4 rfl rfl) rfl<|qm rfl<|es (ra8 rfl rfl rfl rfl rfl rfl rfl rfl)<|s0<|A0 (D2 rfl) rfl<|A0 (C8 (x:=.i p.cost_) rfl rfl rfl) rfl<|A0 (D2 rfl) rfl<|A0 (C8 (x:=.i best.cost_) rfl rfl rfl) rfl<|A0 (F5 rfl rfl) rfl<|qm rfl<|gp 5 45 (.b g) 40 rfl rfl (fun hb=>?_) (fun hb=>?_) ?_
    ·refine oB (bt hg hb) fun k hk hg=>?_
     obtain rfl:=os hg
     have hcon:T1 tab ⟨H.length + 9,(⟨H.length,c.cur :: c.outer⟩:Sc).cur :: (⟨H.length,c.cur :: c.outer⟩:Sc).outer⟩ (H++(B4k H.length a0 ch best s.2++[.cells (A9 p)])) (.fn (.func 66) [] []) [.asl (H.length + 1) s.2.length,.i f] [.b k]:= by
      have:=(C3o (c:=⟨H.length + 9,(⟨H.length,c.cur :: c.outer⟩:Sc).cur :: (⟨H.length,c.cur :: c.outer⟩:Sc).outer⟩) (B:=(B4k H.length a0 ch best s.2).drop 2++[.cells (A9 p)]) hA hk).frz
      rw [show (H++[AO.cells (A4 a0)])++(ar1 s.2 :: ((B4k H.length a0 ch best s.2).drop 2++[.cells (A9 p)])) = H++(B4k H.length a0 ch best s.2++[.cells (A9 p)]) by simp [B4k]] at this
      exact this
     exact gT rfl hb<|qm rfl<|gT rfl hb<|qm rfl<|gT rfl hb<|R3 (A49 (rs:=[.b k]) rfl rfl hcon) rfl<|gT rfl hb<|A0 (P4 rfl) rfl<|A0 (C6 rfl hb rfl) rfl<|ge 5 rfl rfl rfl
    ·obtain rfl:=os (bf hg hb)
     exact nT rfl hb rfl<|nT rfl hb rfl<|J3 (F1 rfl (by rw [hb]; rfl)) rfl<|nT rfl hb rfl<|A0 (C5 rfl hb rfl) rfl<|ge 5 rfl rfl rfl
    refine es (ra8 rfl rfl rfl rfl rfl rfl rfl rfl)<|wi hs rfl (fun hc2 hs=>?_) fun hc2 hs=>?_
    ·refine oB hs fun q hq hs=>?_
     refine r0<|qm rfl<|qm rfl<|A0 (G4 (rows:=List.map cI [f]) rfl rfl (D8 (fun _=>rfl) _)) rfl<|R3 (W6 (f:=cI) rfl rfl rfl rfl S7 (fun _=>rfl) hq) rfl<|qm rfl<|en (ra6 rfl rfl rfl rfl rfl rfl)<|r0<|A0 (E7 rfl rfl) rfl<|qm rfl<|en (ra6 rfl rfl rfl rfl rfl rfl) ?_
     cases hs
     exact lnT () rfl (su6 rfl rfl rfl rfl rfl rfl)
    ·refine C1<|r0<|A0 (E7 rfl rfl) rfl<|qm rfl<|en (ra6 rfl rfl rfl rfl rfl rfl) ?_
     cases hs
     exact lnT () rfl (su6 rfl rfl rfl rfl rfl rfl)
   ·refine F8 ?_
    obtain rfl:=os hs
    exact lx rfl px (su1 rfl)
  ·rintro e s' H' - ⟨rfl,rfl,rfl⟩
   have hsort:G5 tab ⟨H.length,c.cur :: c.outer⟩ (H++B4k H.length a0 ch best o) (.fn (.func 67) [] []) [.asl (H.length + 1) o.length] [] (H++B4k H.length a0 ch best q):= by
    have:=D5x (c:=⟨H.length,c.cur :: c.outer⟩) (A:=H++[AO.cells (A4 a0)]) (B:=(B4k H.length a0 ch best o).drop 2) hq
    rw [hA] at this
    rw [hH o,hH q]
    exact this
   refine s0<|qm rfl<|R3 (T0 rfl rfl hsort rfl) rfl<|es (ra1 rfl)<|s0<|qm rfl<|qm rfl<|qm rfl<|es (ra2 rfl rfl)<|C4 ?_
   exact ⟨[.fresh 1 (List.map cI q),.i 0],retq trivial (B1 rfl (B1 rfl B8)) (A6 (A12 rfl (by rw [List.length_map]; exact D0v hq)) (A6 rfl B9)) (A3 U6 (A3 A8 B2)),rfl⟩
end Ds
end
section
set_option maxRecDepth 100000
set_option maxHeartbeats 0
namespace Ds
open Go Am Go.Proofs.Ytdkflofgolehkaa.Cd
def S8 :Option Bool :=
 (A42 2).bind fun x1 =>
 (A42 1).bind fun x2 =>
 (A0k x1 0 0).bind fun x3 =>
 (A10 x1 [2,0,1]).bind fun x4 =>
 (A0l x1 [1,0,2]).bind fun x5 =>
 (A0j x1).bind fun x6 =>
 (A0j x2).bind fun x7 =>
 (A4m x1 2).bind fun x8 =>
 (Y0 x1 1).bind fun x9 =>
 (A9k x2).bind fun x10 =>
 (A9j x2).bind fun x11 =>
 (if ((((((((((x3.2.2 == 0) && (x4.2 == 0)) && (x5.2 == 0)) && (x6.2.2 == 0)) && (x7.2.2 == 9)) && (x8.2 == 0)) && (x9.2 == 0)) && (x10.2 == 0)) && (x11.2.2 == 0)) && (x3.1 == 14)) = true then
  (L1 x3.2.1 [0,2]).bind fun x22 =>
  some x22
 else
  some false).bind fun x23 =>
 (if x23 = true then
  (L1 x4.1 [4,(-1)]).bind fun x25 =>
  some x25
 else
  some false).bind fun x26 =>
 (if (x26 && (x5.1 == 14)) = true then
  (L1 x6.1 [1,0,2]).bind fun x29 =>
  some x29
 else
  some false).bind fun x30 =>
 (if (x30 && (x6.2.1 == 14)) = true then
  (L1 x8.1 [2]).bind fun x33 =>
  some x33
 else
  some false).bind fun x34 =>
 (if (x34 && (x9.1 == 10)) = true then
  (L1 x10.1 [0]).bind fun x37 =>
  some x37
 else
  some false).bind fun x38 =>
 (if x38 = true then
  (L1 x11.1 [0,1]).bind fun x40 =>
  some x40
 else
  some false).bind fun x41 =>
 some (x41 && (x11.2.1 == 14))
theorem T6 {c:Sc} {H:A1} (hscv:R5 c H = true)  {r:Bool} (h:S8  = some r) :
  E6 tab c H (.fn (.func 21) [] []) [] [.b r]:= by
 unfold S8 at h
 refine cE rfl rfl<|s0<|qm rfl<|es .n<|sg 0 rfl<|oB h fun x1 hx1 h=>oB h fun x2 hx2 h=>B4 (rs:=[(.agg (A4 x1))]) rfl rfl (A2 rfl B5) ((A57 hx1).frz)<|B4 (rs:=[(.agg (A4 x2))]) rfl rfl (A2 rfl B5) ((A57 hx2).frz)<|A0 E4 rfl<|A0 E4 rfl<|I0 (D1 (ds:=(A4 x1)) rfl rfl rfl rfl (C7 rfl) rfl) rfl<|I0 (D1 (ds:=(A4 x2)) rfl rfl rfl rfl (C7 rfl) rfl) rfl<|es (ra2 rfl rfl)<|s0<|oB h fun x3 hx3 h=>A0 (C2 rfl rfl rfl) rfl<|B4 (rs:=[.i x3.1,(.seq 1 (List.map cI x3.2.1)),.i x3.2.2]) rfl rfl (A2 (D0 rfl) (A2 rfl (A2 rfl B5))) ((A3n hx3).frz)<|qm rfl<|A0 (A7 rfl rfl) rfl<|A0 (A7 rfl rfl) rfl<|A0 (A7 rfl rfl) rfl<|qm rfl<|qm rfl<|qm rfl<|es (ra5 rfl rfl rfl rfl rfl)<|s0<|oB h fun x4 hx4 h=>A0 (C2 rfl rfl rfl) rfl<|A0 (G4 (rows:=List.map cI [2,0,1]) rfl rfl (D8 (fun _=>rfl) _)) rfl<|B4 (rs:=[(.seq 1 (List.map cI x4.1)),.i x4.2]) rfl rfl (A2 (D0 rfl) (A2 rfl B5)) ((A56 hx4).frz)<|qm rfl<|A0 (A7 rfl rfl) rfl<|A0 (A7 rfl rfl) rfl<|qm rfl<|qm rfl<|es (ra7 rfl rfl rfl rfl rfl rfl rfl)<|s0<|oB h fun x5 hx5 h=>A0 (C2 rfl rfl rfl) rfl<|A0 (G4 (rows:=List.map cI [1,0,2]) rfl rfl (D8 (fun _=>rfl) _)) rfl<|B4 (rs:=[.i x5.1,.i x5.2]) rfl rfl (A2 (D0 rfl) (A2 rfl B5)) ((A3o hx5).frz)<|qm rfl<|A0 (A7 rfl rfl) rfl<|A0 (A7 rfl rfl) rfl<|qm rfl<|qm rfl<|es (ra9 rfl rfl rfl rfl rfl rfl rfl rfl rfl)<|s0<|oB h fun x6 hx6 h=>A0 (C2 rfl rfl rfl) rfl<|B4 (rs:=[(.seq 1 (List.map cI x6.1)),.i x6.2.1,.i x6.2.2]) rfl rfl (A2 (D0 rfl) B5) ((A3m (A18 hscv) hx6).frz)<|qm rfl<|A0 (A7 rfl rfl) rfl<|A0 (A7 rfl rfl) rfl<|A0 (A7 rfl rfl) rfl<|qm rfl<|qm rfl<|qm rfl<|es (ra12 rfl rfl rfl rfl rfl rfl rfl rfl rfl rfl rfl rfl)<|s0 ?_
 refine oB h fun x7 hx7 h=>A0 (C2 rfl rfl rfl) rfl<|B4 (rs:=[(.seq 1 (List.map cI x7.1)),.i x7.2.1,.i x7.2.2]) rfl rfl (A2 (D0 rfl) B5) ((A3m (A18 hscv) hx7).frz)<|qm rfl<|A0 (A7 rfl rfl) rfl<|A0 (A7 rfl rfl) rfl<|A0 (A7 rfl rfl) rfl<|qm rfl<|qm rfl<|qm rfl<|es (ra13 rfl rfl rfl rfl rfl rfl rfl rfl rfl rfl rfl rfl rfl)<|s0<|oB h fun x8 hx8 h=>A0 (C2 rfl rfl rfl) rfl<|B4 (rs:=[(.seq 1 (List.map cI x8.1)),.i x8.2]) rfl rfl (A2 (D0 rfl) (A2 rfl B5)) (B2t (A18 hscv) hx8)<|qm rfl<|A0 (A7 rfl rfl) rfl<|A0 (A7 rfl rfl) rfl<|qm rfl<|qm rfl<|es (.k rfl (.k rfl (.k rfl (.k rfl (.k rfl (.k rfl (.k rfl (.k rfl (.k rfl (.k rfl (.k rfl (.k rfl (.k rfl (.k rfl (.k rfl .n)))))))))))))))<|s0<|oB h fun x9 hx9 h=>A0 (C2 rfl rfl rfl) rfl<|B4 (rs:=[.i x9.1,.i x9.2]) rfl rfl (A2 (D0 rfl) (A2 rfl B5)) ((A2x (A18 hscv) hx9).frz)<|qm rfl<|A0 (A7 rfl rfl) rfl<|A0 (A7 rfl rfl) rfl<|qm rfl<|qm rfl<|es (.k rfl (.k rfl (.k rfl (.k rfl (.k rfl (.k rfl (.k rfl (.k rfl (.k rfl (.k rfl (.k rfl (.k rfl (.k rfl (.k rfl (.k rfl (.k rfl .n))))))))))))))))<|s0<|oB h fun x10 hx10 h=>A0 (C2 rfl rfl rfl) rfl<|B4 (rs:=[(.seq 1 (List.map cI x10.1)),.i x10.2]) rfl rfl (A2 (D0 rfl) B5) ((B2s (A18 hscv) hx10).frz)<|qm rfl<|A0 (A7 rfl rfl) rfl<|A0 (A7 rfl rfl) rfl<|qm rfl<|qm rfl<|es (.k rfl (.k rfl (.k rfl (.k rfl (.k rfl (.k rfl (.k rfl (.k rfl (.k rfl (.k rfl (.k rfl (.k rfl (.k rfl (.k rfl (.k rfl (.k rfl (.k rfl (.k rfl .n))))))))))))))))))<|s0<|oB h fun x11 hx11 h=>A0 (C2 rfl rfl rfl) rfl<|B4 (rs:=[(.seq 1 (List.map cI x11.1)),.i x11.2.1,.i x11.2.2]) rfl rfl (A2 (D0 rfl) B5) ((B2r (A18 hscv) hx11).frz)<|qm rfl<|A0 (A7 rfl rfl) rfl<|A0 (A7 rfl rfl) rfl<|A0 (A7 rfl rfl) rfl<|qm rfl<|qm rfl<|qm rfl<|es (.k rfl (.k rfl (.k rfl (.k rfl (.k rfl (.k rfl (.k rfl (.k rfl (.k rfl (.k rfl (.k rfl (.k rfl (.k rfl (.k rfl (.k rfl (.k rfl (.k rfl (.k rfl (.k rfl (.k rfl .n))))))))))))))))))))<|s0<|oB h fun x23 hx23 h=>oB h fun x26 hx26 h=>oB h fun x30 hx30 h=>oB h fun x34 hx34 h=>oB h fun x38 hx38 h=>oB h fun x41 hx41 h=>qm rfl ?_
 refine A0 (F5 rfl rfl) rfl<|qm rfl<|gp 3 83 (.b ((x3.2.2 == 0) && (x4.2 == 0))) 80 rfl rfl (fun hg12=>?_) (fun hg12=>?_) ?_
 ·exact gT rfl hg12<|qm rfl<|gT rfl hg12<|A0 (F5 rfl rfl) rfl<|A0 (C6 rfl hg12 rfl) rfl<|ge 3 (by rw [hg12]; rfl) rfl rfl
 ·exact nT rfl hg12 rfl<|nT rfl hg12 rfl<|A0 (C5 rfl hg12 rfl) rfl<|ge 3 (by rw [hg12]; rfl) rfl rfl
 refine qm rfl<|gp 3 87 (.b (((x3.2.2 == 0) && (x4.2 == 0)) && (x5.2 == 0))) 84 rfl rfl (fun hg13=>?_) (fun hg13=>?_) ?_
 ·exact gT rfl hg13<|qm rfl<|gT rfl hg13<|A0 (F5 rfl rfl) rfl<|A0 (C6 rfl hg13 rfl) rfl<|ge 3 (by rw [hg13]; rfl) rfl rfl
 ·exact nT rfl hg13 rfl<|nT rfl hg13 rfl<|A0 (C5 rfl hg13 rfl) rfl<|ge 3 (by rw [hg13]; rfl) rfl rfl
 refine qm rfl<|gp 3 91 (.b ((((x3.2.2 == 0) && (x4.2 == 0)) && (x5.2 == 0)) && (x6.2.2 == 0))) 88 rfl rfl (fun hg14=>?_) (fun hg14=>?_) ?_
 ·exact gT rfl hg14<|qm rfl<|gT rfl hg14<|A0 (F5 rfl rfl) rfl<|A0 (C6 rfl hg14 rfl) rfl<|ge 3 (by rw [hg14]; rfl) rfl rfl
 ·exact nT rfl hg14 rfl<|nT rfl hg14 rfl<|A0 (C5 rfl hg14 rfl) rfl<|ge 3 (by rw [hg14]; rfl) rfl rfl
 refine qm rfl<|gp 3 95 (.b (((((x3.2.2 == 0) && (x4.2 == 0)) && (x5.2 == 0)) && (x6.2.2 == 0)) && (x7.2.2 == 9))) 92 rfl rfl (fun hg15=>?_) (fun hg15=>?_) ?_
 ·exact gT rfl hg15<|qm rfl<|gT rfl hg15<|A0 (F5 rfl rfl) rfl<|A0 (C6 rfl hg15 rfl) rfl<|ge 3 (by rw [hg15]; rfl) rfl rfl
 ·exact nT rfl hg15 rfl<|nT rfl hg15 rfl<|A0 (C5 rfl hg15 rfl) rfl<|ge 3 (by rw [hg15]; rfl) rfl rfl
 refine qm rfl<|gp 3 99 (.b ((((((x3.2.2 == 0) && (x4.2 == 0)) && (x5.2 == 0)) && (x6.2.2 == 0)) && (x7.2.2 == 9)) && (x8.2 == 0))) 96 rfl rfl (fun hg16=>?_) (fun hg16=>?_) ?_
 ·exact gT rfl hg16<|qm rfl<|gT rfl hg16<|A0 (F5 rfl rfl) rfl<|A0 (C6 rfl hg16 rfl) rfl<|ge 3 (by rw [hg16]; rfl) rfl rfl
 ·exact nT rfl hg16 rfl<|nT rfl hg16 rfl<|A0 (C5 rfl hg16 rfl) rfl<|ge 3 (by rw [hg16]; rfl) rfl rfl
 refine qm rfl<|gp 3 103 (.b (((((((x3.2.2 == 0) && (x4.2 == 0)) && (x5.2 == 0)) && (x6.2.2 == 0)) && (x7.2.2 == 9)) && (x8.2 == 0)) && (x9.2 == 0))) 100 rfl rfl (fun hg17=>?_) (fun hg17=>?_) ?_
 ·exact gT rfl hg17<|qm rfl<|gT rfl hg17<|A0 (F5 rfl rfl) rfl<|A0 (C6 rfl hg17 rfl) rfl<|ge 3 (by rw [hg17]; rfl) rfl rfl
 ·exact nT rfl hg17 rfl<|nT rfl hg17 rfl<|A0 (C5 rfl hg17 rfl) rfl<|ge 3 (by rw [hg17]; rfl) rfl rfl
 refine qm rfl<|gp 3 107 (.b ((((((((x3.2.2 == 0) && (x4.2 == 0)) && (x5.2 == 0)) && (x6.2.2 == 0)) && (x7.2.2 == 9)) && (x8.2 == 0)) && (x9.2 == 0)) && (x10.2 == 0))) 104 rfl rfl (fun hg18=>?_) (fun hg18=>?_) ?_
 ·exact gT rfl hg18<|qm rfl<|gT rfl hg18<|A0 (F5 rfl rfl) rfl<|A0 (C6 rfl hg18 rfl) rfl<|ge 3 (by rw [hg18]; rfl) rfl rfl
 ·exact nT rfl hg18 rfl<|nT rfl hg18 rfl<|A0 (C5 rfl hg18 rfl) rfl<|ge 3 (by rw [hg18]; rfl) rfl rfl
 refine qm rfl<|gp 3 111 (.b (((((((((x3.2.2 == 0) && (x4.2 == 0)) && (x5.2 == 0)) && (x6.2.2 == 0)) && (x7.2.2 == 9)) && (x8.2 == 0)) && (x9.2 == 0)) && (x10.2 == 0)) && (x11.2.2 == 0))) 108 rfl rfl (fun hg19=>?_) (fun hg19=>?_) ?_
 ·exact gT rfl hg19<|qm rfl<|gT rfl hg19<|A0 (F5 rfl rfl) rfl<|A0 (C6 rfl hg19 rfl) rfl<|ge 3 (by rw [hg19]; rfl) rfl rfl
 ·exact nT rfl hg19 rfl<|nT rfl hg19 rfl<|A0 (C5 rfl hg19 rfl) rfl<|ge 3 (by rw [hg19]; rfl) rfl rfl
 refine qm rfl<|gp 3 115 (.b ((((((((((x3.2.2 == 0) && (x4.2 == 0)) && (x5.2 == 0)) && (x6.2.2 == 0)) && (x7.2.2 == 9)) && (x8.2 == 0)) && (x9.2 == 0)) && (x10.2 == 0)) && (x11.2.2 == 0)) && (x3.1 == 14))) 112 rfl rfl (fun hg20=>?_) (fun hg20=>?_) ?_
 ·exact gT rfl hg20<|qm rfl<|gT rfl hg20<|A0 (F5 rfl rfl) rfl<|A0 (C6 rfl hg20 rfl) rfl<|ge 3 (by rw [hg20]; rfl) rfl rfl
 ·exact nT rfl hg20 rfl<|nT rfl hg20 rfl<|A0 (C5 rfl hg20 rfl) rfl<|ge 3 (by rw [hg20]; rfl) rfl rfl
 refine qm rfl<|gp 4 120 (.b x23) 116 rfl rfl (fun hg21=>?_) (fun hg21=>?_) ?_
 ·refine oB (bt hx23 hg21) fun x22 hx22 hx23=>?_
  obtain rfl:=os hx23
  exact gT rfl hg21<|qm rfl<|gT rfl hg21<|A0 (G4 (rows:=List.map cI [0,2]) rfl rfl (D8 (fun _=>rfl) _)) rfl<|gT rfl hg21<|B4 (rs:=[.b x22]) rfl rfl (A2 rfl (A2 rfl B5)) ((K7 hx22).frz)<|A0 (C6 rfl hg21 rfl) rfl<|ge 4 rfl rfl rfl
 ·obtain rfl:=os (bf hx23 hg21)
  exact nT rfl hg21 rfl<|nT rfl hg21 rfl<|J3 (F1 rfl (by rw [hg21]; rfl)) rfl<|A0 (C5 rfl hg21 rfl) rfl<|ge 4 rfl rfl rfl
 refine qm rfl<|gp 4 125 (.b x26) 121 rfl rfl (fun hg24=>?_) (fun hg24=>?_) ?_
 ·refine oB (bt hx26 hg24) fun x25 hx25 hx26=>?_
  obtain rfl:=os hx26
  exact gT rfl hg24<|qm rfl<|gT rfl hg24<|A0 (G4 (rows:=List.map cI [4,(-1)]) rfl rfl (D8 (fun _=>rfl) _)) rfl<|gT rfl hg24<|B4 (rs:=[.b x25]) rfl rfl (A2 rfl (A2 rfl B5)) ((K7 hx25).frz)<|A0 (C6 rfl hg24 rfl) rfl<|ge 4 rfl rfl rfl
 ·obtain rfl:=os (bf hx26 hg24)
  exact nT rfl hg24 rfl<|nT rfl hg24 rfl<|J3 (F1 rfl (by rw [hg24]; rfl)) rfl<|A0 (C5 rfl hg24 rfl) rfl<|ge 4 rfl rfl rfl
 refine qm rfl<|gp 3 129 (.b (x26 && (x5.1 == 14))) 126 rfl rfl (fun hg27=>?_) (fun hg27=>?_) ?_
 ·exact gT rfl hg27<|qm rfl<|gT rfl hg27<|A0 (F5 rfl rfl) rfl<|A0 (C6 rfl hg27 rfl) rfl<|ge 3 (by rw [hg27]; rfl) rfl rfl
 ·exact nT rfl hg27 rfl<|nT rfl hg27 rfl<|A0 (C5 rfl hg27 rfl) rfl<|ge 3 (by rw [hg27]; rfl) rfl rfl
 refine qm rfl<|gp 4 134 (.b x30) 130 rfl rfl (fun hg28=>?_) (fun hg28=>?_) ?_
 ·refine oB (bt hx30 hg28) fun x29 hx29 hx30=>?_
  obtain rfl:=os hx30
  exact gT rfl hg28<|qm rfl<|gT rfl hg28<|A0 (G4 (rows:=List.map cI [1,0,2]) rfl rfl (D8 (fun _=>rfl) _)) rfl<|gT rfl hg28<|B4 (rs:=[.b x29]) rfl rfl (A2 rfl (A2 rfl B5)) ((K7 hx29).frz)<|A0 (C6 rfl hg28 rfl) rfl<|ge 4 rfl rfl rfl
 ·obtain rfl:=os (bf hx30 hg28)
  exact nT rfl hg28 rfl<|nT rfl hg28 rfl<|J3 (F1 rfl (by rw [hg28]; rfl)) rfl<|A0 (C5 rfl hg28 rfl) rfl<|ge 4 rfl rfl rfl
 refine qm rfl<|gp 3 138 (.b (x30 && (x6.2.1 == 14))) 135 rfl rfl (fun hg31=>?_) (fun hg31=>?_) ?_
 ·exact gT rfl hg31<|qm rfl<|gT rfl hg31<|A0 (F5 rfl rfl) rfl<|A0 (C6 rfl hg31 rfl) rfl<|ge 3 (by rw [hg31]; rfl) rfl rfl
 ·exact nT rfl hg31 rfl<|nT rfl hg31 rfl<|A0 (C5 rfl hg31 rfl) rfl<|ge 3 (by rw [hg31]; rfl) rfl rfl
 refine qm rfl<|gp 4 143 (.b x34) 139 rfl rfl (fun hg32=>?_) (fun hg32=>?_) ?_
 ·refine oB (bt hx34 hg32) fun x33 hx33 hx34=>?_
  obtain rfl:=os hx34
  exact gT rfl hg32<|qm rfl<|gT rfl hg32<|A0 (G4 (rows:=List.map cI [2]) rfl rfl (D8 (fun _=>rfl) _)) rfl<|gT rfl hg32<|B4 (rs:=[.b x33]) rfl rfl (A2 rfl (A2 rfl B5)) ((K7 hx33).frz)<|A0 (C6 rfl hg32 rfl) rfl<|ge 4 rfl rfl rfl
 ·obtain rfl:=os (bf hx34 hg32)
  exact nT rfl hg32 rfl<|nT rfl hg32 rfl<|J3 (F1 rfl (by rw [hg32]; rfl)) rfl<|A0 (C5 rfl hg32 rfl) rfl<|ge 4 rfl rfl rfl
 refine qm rfl<|gp 3 147 (.b (x34 && (x9.1 == 10))) 144 rfl rfl (fun hg35=>?_) (fun hg35=>?_) ?_
 ·exact gT rfl hg35<|qm rfl<|gT rfl hg35<|A0 (F5 rfl rfl) rfl<|A0 (C6 rfl hg35 rfl) rfl<|ge 3 (by rw [hg35]; rfl) rfl rfl
 ·exact nT rfl hg35 rfl<|nT rfl hg35 rfl<|A0 (C5 rfl hg35 rfl) rfl<|ge 3 (by rw [hg35]; rfl) rfl rfl
 refine qm rfl<|gp 4 152 (.b x38) 148 rfl rfl (fun hg36=>?_) (fun hg36=>?_) ?_
 ·refine oB (bt hx38 hg36) fun x37 hx37 hx38=>?_
  obtain rfl:=os hx38
  exact gT rfl hg36<|qm rfl<|gT rfl hg36<|A0 (G4 (rows:=List.map cI [0]) rfl rfl (D8 (fun _=>rfl) _)) rfl<|gT rfl hg36<|B4 (rs:=[.b x37]) rfl rfl (A2 rfl (A2 rfl B5)) ((K7 hx37).frz)<|A0 (C6 rfl hg36 rfl) rfl<|ge 4 rfl rfl rfl
 ·obtain rfl:=os (bf hx38 hg36)
  exact nT rfl hg36 rfl<|nT rfl hg36 rfl<|J3 (F1 rfl (by rw [hg36]; rfl)) rfl<|A0 (C5 rfl hg36 rfl) rfl<|ge 4 rfl rfl rfl
 refine qm rfl<|gp 4 157 (.b x41) 153 rfl rfl (fun hg39=>?_) (fun hg39=>?_) ?_
 ·refine oB (bt hx41 hg39) fun x40 hx40 hx41=>?_
  obtain rfl:=os hx41
  exact gT rfl hg39<|qm rfl<|gT rfl hg39<|A0 (G4 (rows:=List.map cI [0,1]) rfl rfl (D8 (fun _=>rfl) _)) rfl<|gT rfl hg39<|B4 (rs:=[.b x40]) rfl rfl (A2 rfl (A2 rfl B5)) ((K7 hx40).frz)<|A0 (C6 rfl hg39 rfl) rfl<|ge 4 rfl rfl rfl
 ·obtain rfl:=os (bf hx41 hg39)
  exact nT rfl hg39 rfl<|nT rfl hg39 rfl<|J3 (F1 rfl (by rw [hg39]; rfl)) rfl<|A0 (C5 rfl hg39 rfl) rfl<|ge 4 rfl rfl rfl
 refine qm rfl<|gp 3 161 (.b (x41 && (x11.2.1 == 14))) 158 rfl rfl (fun hg42=>?_) (fun hg42=>?_) ?_
 ·exact gT rfl hg42<|qm rfl<|gT rfl hg42<|A0 (F5 rfl rfl) rfl<|A0 (C6 rfl hg42 rfl) rfl<|ge 3 (by rw [hg42]; rfl) rfl rfl
 ·exact nT rfl hg42 rfl<|nT rfl hg42 rfl<|A0 (C5 rfl hg42 rfl) rfl<|ge 3 (by rw [hg42]; rfl) rfl rfl
 refine qm rfl<|es (ra1 rfl)<|C4 ?_
 obtain rfl:=os h
 exact retq trivial (B1 rfl B8) (A6 rfl B9) (A3 A8 B2)
end Ds
end
section
set_option maxRecDepth 100000
namespace Ds
theorem awake:S8 = some true:= by decide +kernel
end Ds
end
section
set_option maxRecDepth 100000
set_option maxHeartbeats 0
namespace Ds
open Go Am Go.Proofs.Ytdkflofgolehkaa.Cd
def A0b (a0:DrRoom) (a1:(List Int)) (s1:(Int × (List Int))) (s5:(Int × Int)):Option ((Int × Int) ⊕ Int) :=
 if (decide (s5.2 < (List.length a1:Int))) = true then
  (idx a1 s5.2).bind fun x8 =>
  (idx a0.Figures x8).bind fun x9 =>
  (idx a0.Persons s5.2).bind fun x10 =>
  (A0w x9 x10).bind fun x11 =>
  (A2e x11 0).bind fun x12 =>
  if (!x12) = true then
  some (.inl (s5.1,(w64 (s5.2 + 1))))
  else
  (idx x9.Looks 0).bind fun x14 =>
  if (x14 == s1.1) = true then
   (idx x10.Looks 0).bind fun x16 =>
   if (x16 == s1.1) = true then
   some (.inl ((w64 ((w64 (s5.1 + x9.Hair)) - x10.Hair)),(w64 (s5.2 + 1))))
   else
   some (.inl ((w64 (s5.1 + x9.Hair)),(w64 (s5.2 + 1))))
  else
   (idx x10.Looks 0).bind fun x18 =>
   if (x18 == s1.1) = true then
   some (.inl ((w64 (s5.1 - x10.Hair)),(w64 (s5.2 + 1))))
   else
   some (.inl (s5.1,(w64 (s5.2 + 1))))
 else
  some (.inr s5.1)
def A1t (a0:DrRoom) (a1:(List Int)) (s1:(Int × (List Int))):Option ((Int × (List Int)) ⊕ (List Int)) :=
 if (decide (s1.1 < (List.length a0.Ounces:Int))) = true then
  (idx a0.Ounces s1.1).bind fun x4 =>
  (loop (A0b a0 a1 s1) (x4,0)).bind fun (o20:Int) =>
  (app 8 s1.2 [o20]).bind fun x21 =>
  some (.inl ((w64 (s1.1 + 1)),x21))
 else
  some (.inr s1.2)
def A3e (a0:DrRoom) (a1:(List Int)):Option (List Int) :=
 (loop (A1t a0 a1) (0,([]:List Int))).bind fun (o22:(List Int)) =>
 some o22
theorem B0l {c:Sc} {H:A1} {a0:DrRoom} {a1:(List Int)} {r:(List Int)} (h:A3e a0 a1 = some r) :
  E6 tab c H (.fn (.func 59) [] []) [(.agg (A4 a0)),(.seq 1 (List.map cI a1))] [(.fresh 1 (List.map cI r))]:= by
 unfold A3e at h
 refine cE rfl rfl<|sg 0 rfl<|A0 (F7 (cs:=A4 a0) rfl rfl rfl) rfl<|qm rfl<|es (ra2 rfl rfl)<|sg 1 rfl<|A0 A2w rfl<|es (ra3 rfl rfl rfl)<|B7<|s0<|qm rfl<|es (ra4 rfl rfl rfl rfl)<|C3<|oB h fun o22 ho22 h=>wl (fun s1=>[(1,(.seq 1 (List.map cI a1))),(2,(.ptr (H.length + 0) 0)),(5,(.asl (H.length + 1) (List.length s1.2))),(6,.i s1.1)]) (fun (q2:Unit) s1=>[(.cells (A4 a0)),(.arr 1 false (List.map cI s1.2))]) 2 (fun r e s' H'=>PX 0 [(5,(.asl (H.length + 1) (List.length r)))] (H++[(.cells (A4 a0)),(.arr 1 false (List.map cI r))]) e s' H') () ho22 rfl rfl (fun _ _=>rfl) (fun _=>rfl) rfl (fun s1=>(bdc E8 (bdc (F2 rfl) (bdc (A0e rfl) (bdc A8 bdn))))) (fun q2 s1 ys1 hs1=>?_) ?_
 ·unfold A1t at hs1
  refine B7<|s0<|qm rfl<|A0 (D2 rfl) rfl<|A0 (C8 rfl rfl rfl) rfl<|A0 (D5 (f:=cI) rfl) rfl<|A0 (G9 rfl rfl) rfl<|es (ra5 rfl rfl rfl rfl rfl)<|wi hs1 rfl (fun hc3 hs1=>?_) fun hc3 hs1=>?_
  ·refine C1<|B7<|C3<|s0<|oB hs1 fun x4 hx4 hs1=>A0 (D2 rfl) rfl<|A0 (C8 rfl rfl rfl) rfl<|qm rfl<|A0 (E5 (f:=cI) rfl rfl hx4) rfl<|A0 (F4 rfl rfl) rfl<|qm rfl<|es (ra5 rfl rfl rfl rfl rfl)<|B7<|s0<|qm rfl<|es (ra6 rfl rfl rfl rfl rfl rfl)<|C3<|oB hs1 fun o20 ho20 hs1=>wl (fun s5=>[(1,(.seq 1 (List.map cI a1))),(2,(.ptr (H.length + 0) 0)),(5,(.asl (H.length + 1) (List.length s1.2))),(6,.i s1.1),(7,.i s5.1),(8,.i s5.2)]) (fun (q6:Unit) s5=>[(.cells (A4 a0)),(.arr 1 false (List.map cI s1.2))]) 2 (fun r e s' H'=>PX 2 [(1,(.seq 1 (List.map cI a1))),(2,(.ptr (H.length + 0) 0)),(5,(.asl (H.length + 1) (List.length s1.2))),(6,.i s1.1),(7,.i r)] (H++[(.cells (A4 a0)),(.arr 1 false (List.map cI s1.2))]) e s' H') () ho20 rfl rfl (fun _ _=>rfl) (fun _=>rfl) rfl (fun s5=>(bdc E8 (bdc (F2 rfl) (bdc (A0e rfl) (bdc A8 (bdc A8 (bdc A8 bdn))))))) (fun q6 s5 ys5 hs5=>?_) ?_
   ·unfold A0b at hs5
    refine B7<|s0<|qm rfl<|qm rfl<|A0 (D5 (f:=cI) rfl) rfl<|A0 (G9 rfl rfl) rfl<|es (ra7 rfl rfl rfl rfl rfl rfl rfl)<|wi hs5 rfl (fun hc7 hs5=>?_) fun hc7 hs5=>?_
    ·refine C1<|B7<|C3<|sg 2 rfl<|oB hs5 fun x8 hx8 hs5=>oB hs5 fun x9 hx9 hs5=>oB hs5 fun x10 hx10 hs5=>A0 (D2 rfl) rfl<|Q5 [2,3] (W5 [2,3] rfl K0 rfl rfl) (seen0 rfl) (C8 rfl rfl rfl) rfl<|qm rfl<|qm rfl<|Q5 [2,3] (W5 [2,3] rfl K0 rfl rfl) (seen0 rfl) (E5 (f:=cI) rfl rfl hx8) rfl<|Q5 [2,3] (W5 [2,3] rfl K0 rfl rfl) (seen0 rfl) (F4 rfl rfl) rfl<|Q5 [2,3] (W5 [2,3] rfl K0 rfl rfl) (seen0 rfl) (E5 (f:=A5) rfl rfl hx9) rfl<|Q5 [2,3] (W5 [2,3] rfl K0 rfl rfl) (seen0 rfl) (M7 rfl rfl) rfl<|A0 E4 rfl<|A0 E4 rfl<|A7p [0] [(.cells (A4 a0)),(.arr 1 false (List.map cI s1.2)),(.cells (A5 x9)),(.cells (A5 (DrLook.mk (ByteArray.mk #[]) ([]:List Int) 0)))] (W5 [] rfl (A62 rfl A4z K0) rfl rfl) (seen0 rfl) (D1 (ds:=(A5 x9)) rfl rfl rfl rfl (C7 rfl) rfl) rfl rfl rfl<|A0 (D2 rfl) rfl<|Q5 [2,3] (W5 [2,3] rfl K0 rfl rfl) (A95 (b:=H.length + 0) rfl (A3h (A01 _ rfl) A60)) (C8 rfl rfl rfl) rfl<|qm rfl<|Q5 [2,3] (W5 [2,3] rfl K0 rfl rfl) (A94 rfl) (E5 (f:=A5) rfl rfl hx10) rfl<|Q5 [2,3] (W5 [2,3] rfl K0 rfl rfl) (A94 rfl) (M7 rfl rfl) rfl<|I0 (D1 (ds:=(A5 x10)) rfl rfl rfl rfl (C7 rfl) rfl) rfl<|es (ra8 rfl rfl rfl rfl rfl rfl rfl rfl)<|B7<|s0<|oB hs5 fun x11 hx11 hs5=>oB hs5 fun x12 hx12 hs5=>A0 (C2 rfl rfl rfl) rfl<|A0 (C2 rfl rfl rfl) rfl<|B4 (rs:=[(.seq 1 (List.map cI x11))]) rfl rfl (A2 (D0 rfl) (A2 (D0 rfl) B5)) ((A47 hx11).frz)<|B4 (rs:=[.b x12]) rfl rfl (A2 rfl (A2 rfl B5)) ((A4i hx12).frz)<|A0 (P4 rfl) rfl<|es (ra9 rfl rfl rfl rfl rfl rfl rfl rfl rfl)<|wi hs5 rfl (fun hc13 hs5=>?_) fun hc13 hs5=>?_
     ·refine F8<|r0<|qm rfl<|A0 (E7 rfl rfl) rfl<|qm rfl<|en (ra6 rfl rfl rfl rfl rfl rfl) ?_
      cases hs5
      exact lnT () rfl (su6 rfl rfl rfl rfl rfl rfl)
     ·refine C1<|B7<|s0<|oB hs5 fun x14 hx14 hs5=>A0 (D2 rfl) rfl<|A0 (C8 rfl rfl rfl) rfl<|A0 (E5 (f:=cI) rfl rfl hx14) rfl<|A0 (F4 rfl rfl) rfl<|qm rfl<|A0 (F5 rfl rfl) rfl<|es (ra9 rfl rfl rfl rfl rfl rfl rfl rfl rfl)<|wi hs5 rfl (fun hc15 hs5=>?_) fun hc15 hs5=>?_
      ·refine r0<|qm rfl<|A0 (D2 rfl) rfl<|A0 (C8 rfl rfl rfl) rfl<|A0 (E7 rfl rfl) rfl<|qm rfl<|en (ra7 rfl rfl rfl rfl rfl rfl rfl)<|s0<|oB hs5 fun x16 hx16 hs5=>A0 (D2 rfl) rfl<|A0 (C8 rfl rfl rfl) rfl<|A0 (E5 (f:=cI) rfl rfl hx16) rfl<|A0 (F4 rfl rfl) rfl<|qm rfl<|A0 (F5 rfl rfl) rfl<|es (ra8 rfl rfl rfl rfl rfl rfl rfl rfl)<|wi hs5 rfl (fun hc17 hs5=>?_) fun hc17 hs5=>?_
       ·refine r0<|qm rfl<|A0 (D2 rfl) rfl<|A0 (C8 rfl rfl rfl) rfl<|A0 (A0i rfl rfl) rfl<|qm rfl<|en (ra6 rfl rfl rfl rfl rfl rfl)<|r0<|qm rfl<|A0 (E7 rfl rfl) rfl<|qm rfl<|en (ra6 rfl rfl rfl rfl rfl rfl) ?_
        cases hs5
        exact lnT () rfl (su6 rfl rfl rfl rfl rfl rfl)
       ·refine C1<|r0<|qm rfl<|A0 (E7 rfl rfl) rfl<|qm rfl<|en (ra6 rfl rfl rfl rfl rfl rfl) ?_
        cases hs5
        exact lnT () rfl (su6 rfl rfl rfl rfl rfl rfl)
      ·refine C1<|s0<|oB hs5 fun x18 hx18 hs5=>A0 (D2 rfl) rfl<|A0 (C8 rfl rfl rfl) rfl<|A0 (E5 (f:=cI) rfl rfl hx18) rfl<|A0 (F4 rfl rfl) rfl<|qm rfl<|A0 (F5 rfl rfl) rfl<|es (ra8 rfl rfl rfl rfl rfl rfl rfl rfl)<|wi hs5 rfl (fun hc19 hs5=>?_) fun hc19 hs5=>?_
       ·refine r0<|qm rfl<|A0 (D2 rfl) rfl<|A0 (C8 rfl rfl rfl) rfl<|A0 (A0i rfl rfl) rfl<|qm rfl<|en (ra6 rfl rfl rfl rfl rfl rfl)<|r0<|qm rfl<|A0 (E7 rfl rfl) rfl<|qm rfl<|en (ra6 rfl rfl rfl rfl rfl rfl) ?_
        cases hs5
        exact lnT () rfl (su6 rfl rfl rfl rfl rfl rfl)
       ·refine C1<|r0<|qm rfl<|A0 (E7 rfl rfl) rfl<|qm rfl<|en (ra6 rfl rfl rfl rfl rfl rfl) ?_
        cases hs5
        exact lnT () rfl (su6 rfl rfl rfl rfl rfl rfl)
    ·refine F8 ?_
     obtain rfl:=os hs5
     exact lx rfl px (su5 rfl rfl rfl rfl rfl)
   ·rintro e s' H' - ⟨rfl,rfl,rfl⟩
    refine r0<|oB hs1 fun x21 hx21 hs1=>qm rfl<|qm rfl<|A0 (G4 (rows:=List.map cI [o20]) rfl rfl (D8 (fun _=>rfl) _)) rfl<|R3 (W6 (f:=cI) rfl rfl rfl rfl S7 (fun _=>rfl) hx21) rfl<|qm rfl<|en (ra4 rfl rfl rfl rfl)<|r0<|qm rfl<|A0 (E7 rfl rfl) rfl<|qm rfl<|en (ra4 rfl rfl rfl rfl) ?_
    cases hs1
    exact lnT () rfl (su4 rfl rfl rfl rfl)
  ·refine F8 ?_
   obtain rfl:=os hs1
   exact lx rfl px (su1 rfl)
 ·rintro e s' H' - ⟨rfl,rfl,rfl⟩
  refine s0<|qm rfl<|qm rfl<|es (ra1 rfl)<|C4 ?_
  obtain rfl:=os h
  exact retq trivial (B1 rfl B8) (A6 (A12 rfl (List.length_map _)) B9) (A3 U6 B2)
def A0y (a0:(List Int)) (s1:(Int × Int × (List Int))):Option ((Int × Int × (List Int)) ⊕ (Int × (List Int))) :=
 if (decide (s1.2.1 < (List.length a0:Int))) = true then
  (idx a0 s1.2.1).bind fun x4 =>
  (app 8 s1.2.2 [(A8v 0 (w64 (0 - x4)))]).bind fun x5 =>
  some (.inl ((w64 (s1.1 + (A8v 0 (w64 (0 - x4))))),(w64 (s1.2.1 + 1)),x5))
 else
  some (.inr (s1.1,s1.2.2))
def A3y (a0:(List Int)):Option ((List Int) × Int) :=
 (loop (A0y a0) (0,0,([]:List Int))).bind fun (o6:(Int × (List Int))) =>
 some (o6.2,o6.1)
theorem B7u {c:Sc} {H:A1} {a0:(List Int)} {r:((List Int) × Int)} (h:A3y a0 = some r) :
  E6 tab c H (.fn (.func 79) [] []) [(.seq 1 (List.map cI a0))] [(.fresh 1 (List.map cI r.1)),.i r.2]:= by
 unfold A3y at h
 refine cE rfl rfl<|s0<|qm rfl<|qm rfl<|es (ra1 rfl)<|sg 0 rfl<|A0 A2w rfl<|es (ra2 rfl rfl)<|s0<|qm rfl<|es (ra3 rfl rfl rfl)<|B7<|s0<|qm rfl<|es (ra4 rfl rfl rfl rfl)<|C3<|oB h fun o6 ho6 h=>wl (fun s1=>[(0,(.seq 1 (List.map cI a0))),(4,(.asl (H.length + 0) (List.length s1.2.2))),(5,.i s1.1),(6,.i s1.2.1)]) (fun (q2:Unit) s1=>[(.arr 1 false (List.map cI s1.2.2))]) 1 (fun r e s' H'=>PX 0 [(4,(.asl (H.length + 0) (List.length r.2))),(5,.i r.1)] (H++[(.arr 1 false (List.map cI r.2))]) e s' H') () ho6 rfl rfl (fun _ _=>rfl) (fun _=>rfl) rfl (fun s1=>(bdc E8 (bdc (A0e rfl) (bdc A8 (bdc A8 bdn))))) (fun q2 s1 ys1 hs1=>?_) ?_
 ·unfold A0y at hs1
  refine B7<|s0<|qm rfl<|qm rfl<|A0 (D5 (f:=cI) rfl) rfl<|A0 (G9 rfl rfl) rfl<|es (ra5 rfl rfl rfl rfl rfl)<|wi hs1 rfl (fun hc3 hs1=>?_) fun hc3 hs1=>?_
  ·refine C1<|B7<|C3<|s0<|oB hs1 fun x4 hx4 hs1=>qm rfl<|qm rfl<|A0 (E5 (f:=cI) rfl rfl hx4) rfl<|A0 (F4 rfl rfl) rfl<|A0 (A0i rfl rfl) rfl<|A0 (D5a rfl rfl) rfl<|qm rfl<|es (ra5 rfl rfl rfl rfl rfl)<|s0<|oB hs1 fun x5 hx5 hs1=>qm rfl<|qm rfl<|A0 (G4 (rows:=List.map cI [(A8v 0 (w64 (0 - x4)))]) rfl rfl (D8 (fun _=>rfl) _)) rfl<|R3 (W6 (f:=cI) rfl rfl rfl rfl S7 (fun _=>rfl) hx5) rfl<|qm rfl<|es (ra5 rfl rfl rfl rfl rfl)<|r0<|qm rfl<|qm rfl<|A0 (E7 rfl rfl) rfl<|qm rfl<|en (ra4 rfl rfl rfl rfl)<|r0<|qm rfl<|A0 (E7 rfl rfl) rfl<|qm rfl<|en (ra4 rfl rfl rfl rfl) ?_
   cases hs1
   exact lnT () rfl (su4 rfl rfl rfl rfl)
  ·refine F8 ?_
   obtain rfl:=os hs1
   exact lx rfl px (su2 rfl rfl)
 ·rintro e s' H' - ⟨rfl,rfl,rfl⟩
  refine s0<|qm rfl<|qm rfl<|qm rfl<|qm rfl<|es (ra2 rfl rfl)<|C4 ?_
  obtain rfl:=os h
  exact retq trivial (B1 rfl (B1 rfl B8)) (A6 (A12 rfl (List.length_map _)) (A6 rfl B9)) (A3 U6 (A3 A8 B2))
def N6 (a0:DrRoom) (a1:(List Int)):Option Bool :=
 (A3e a0 a1).bind fun x1 =>
 (A3y x1).bind fun x2 =>
 some (x2.2 == 0)
theorem A1b {c:Sc} {H:A1} {a0:DrRoom} {a1:(List Int)} {r:Bool} (h:N6 a0 a1 = some r) :
  E6 tab c H (.fn (.func 39) [] []) [(.agg (A4 a0)),(.seq 1 (List.map cI a1))] [.b r]:= by
 unfold N6 at h
 refine cE rfl rfl<|sg 0 rfl<|A0 (F7 (cs:=A4 a0) rfl rfl rfl) rfl<|qm rfl<|es (ra2 rfl rfl)<|s0<|oB h fun x1 hx1 h=>oB h fun x2 hx2 h=>A0 (C2 rfl rfl rfl) rfl<|qm rfl<|B4 (rs:=[(.seq 1 (List.map cI x1))]) rfl rfl (A2 (D0 rfl) (A2 rfl B5)) ((B0l hx1).frz)<|B4 (rs:=[(.seq 1 (List.map cI x2.1)),.i x2.2]) rfl rfl (A2 rfl B5) ((B7u hx2).frz)<|qm rfl<|A0 (A7 rfl rfl) rfl<|A0 (A7 rfl rfl) rfl<|qm rfl<|qm rfl<|es (ra1 rfl)<|s0<|qm rfl<|A0 (F5 rfl rfl) rfl<|qm rfl<|es (ra1 rfl)<|C4 ?_
 obtain rfl:=os h
 exact retq trivial (B1 rfl B8) (A6 rfl B9) (A3 A8 B2)
def A22 (a0:DrRoom) (a1:(List Int)) (s1:(Int × Int)):Option ((Int × Int) ⊕ Int) :=
 if (decide (s1.2 < (List.length a1:Int))) = true then
  (idx a1 s1.2).bind fun x4 =>
  (idx a0.Figures x4).bind fun x5 =>
  (idx a0.Persons s1.2).bind fun x6 =>
  (A4r a0 x5 x6).bind fun x7 =>
  some (.inl ((w64 (s1.1 + x7)),(w64 (s1.2 + 1))))
 else
  some (.inr s1.1)
def X2 (a0:DrRoom) (a1:(List Int)):Option Int :=
 (loop (A22 a0 a1) (0,0)).bind fun (o8:Int) =>
 some o8
theorem A2y {c:Sc} {H:A1} {a0:DrRoom} {a1:(List Int)} {r:Int} (h:X2 a0 a1 = some r) :
  E6 tab c H (.fn (.func 41) [] []) [(.agg (A4 a0)),(.seq 1 (List.map cI a1))] [.i r]:= by
 unfold X2 at h
 refine cE rfl rfl<|sg 0 rfl<|A0 (F7 (cs:=A4 a0) rfl rfl rfl) rfl<|qm rfl<|es (ra2 rfl rfl)<|s0<|qm rfl<|es (ra3 rfl rfl rfl)<|B7<|s0<|qm rfl<|es (ra4 rfl rfl rfl rfl)<|C3<|oB h fun o8 ho8 h=>wl (fun s1=>[(1,(.seq 1 (List.map cI a1))),(2,(.ptr (H.length + 0) 0)),(5,.i s1.1),(6,.i s1.2)]) (fun (q2:Unit) s1=>[(.cells (A4 a0))]) 1 (fun r e s' H'=>PX 0 [(5,.i r)] (H++[(.cells (A4 a0))]) e s' H') () ho8 rfl rfl (fun _ _=>rfl) (fun _=>rfl) rfl (fun s1=>(bdc E8 (bdc (F2 rfl) (bdc A8 (bdc A8 bdn))))) (fun q2 s1 ys1 hs1=>?_) ?_
 ·unfold A22 at hs1
  refine B7<|s0<|qm rfl<|qm rfl<|A0 (D5 (f:=cI) rfl) rfl<|A0 (G9 rfl rfl) rfl<|es (ra5 rfl rfl rfl rfl rfl)<|wi hs1 rfl (fun hc3 hs1=>?_) fun hc3 hs1=>?_
  ·refine C1<|B7<|C3<|r0<|oB hs1 fun x4 hx4 hs1=>oB hs1 fun x5 hx5 hs1=>oB hs1 fun x6 hx6 hs1=>oB hs1 fun x7 hx7 hs1=>A0 (C2 rfl rfl rfl) rfl<|A0 (D2 rfl) rfl<|A0 (C8 rfl rfl rfl) rfl<|qm rfl<|qm rfl<|A0 (E5 (f:=cI) rfl rfl hx4) rfl<|A0 (F4 rfl rfl) rfl<|A0 (E5 (f:=A5) rfl rfl hx5) rfl<|A0 (M7 rfl rfl) rfl<|A0 (D2 rfl) rfl<|A0 (C8 rfl rfl rfl) rfl<|qm rfl<|A0 (E5 (f:=A5) rfl rfl hx6) rfl<|A0 (M7 rfl rfl) rfl<|B4 (rs:=[.i x7]) rfl rfl (A2 (D0 rfl) (A2 (D0 rfl) (A2 (D0 rfl) B5))) ((B2w hx7).frz)<|qm rfl<|A0 (E7 rfl rfl) rfl<|qm rfl<|en (ra4 rfl rfl rfl rfl)<|r0<|qm rfl<|A0 (E7 rfl rfl) rfl<|qm rfl<|en (ra4 rfl rfl rfl rfl) ?_
   cases hs1
   exact lnT () rfl (su4 rfl rfl rfl rfl)
  ·refine F8 ?_
   obtain rfl:=os hs1
   exact lx rfl px (su1 rfl)
 ·rintro e s' H' - ⟨rfl,rfl,rfl⟩
  refine s0<|qm rfl<|qm rfl<|es (ra1 rfl)<|C4 ?_
  obtain rfl:=os h
  exact retq trivial (B1 rfl B8) (A6 rfl B9) (A3 A8 B2)
end Ds
end
section
namespace Ds
open Go Am
abbrev Prs:=List (Nat × DrLook)
def cst (r:DrRoom) (x:Nat × DrLook):Int:=one r r.Figures[x.1]! x.2
def hr (r:DrRoom) (c:Nat) (x:Nat × DrLook):Int:=A73 r.Figures[x.1]! x.2 (c:Int)
def A6c (r:DrRoom) (z:Prs):Int:=sm (z.map (cst r))
def E3 (r:DrRoom) (z:Prs) (c:Nat):Int:=r.Ounces.getD c 0 + sm (z.map (hr r c))
def J4 (r:DrRoom) (z:Prs):dress_plan:=⟨ints (z.map (·.1)),A6c r z,⟨E3 r z 0,E3 r z 1,E3 r z 2,E3 r z 3⟩⟩
def B5j (r:DrRoom) (z:Prs):Prop:=z.length≤5∧∀ x ∈ z,x.1 < r.Figures.length∧LkOk r (-1) x.2
theorem D1v {r:DrRoom} (ok:RmOk r) (x:Nat × DrLook):0≤cst r x∧cst r x≤400:=D27 ok _ _
theorem C2u {r:DrRoom} (ok:RmOk r) (z:Prs):0≤A6c r z∧A6c r z≤400 * z.length:= by
 have:=C5g (a:=0) (b:=400) (l:=z.map (cst r)) fun x hx=>by
  obtain ⟨k,_,rfl⟩:=List.mem_map.mp hx
  exact D1v ok k
 rw [List.length_map] at this
 unfold A6c; omega
theorem D6c {r:DrRoom} (ok:RmOk r) (c:Nat) {x:Nat × DrLook} (h:x.1 < r.Figures.length∧LkOk r (-1) x.2):-50≤hr r c x∧hr r c x≤50:= by
 have h1:=(ok.figure _ (J7 h.1)).hair
 have h2:=h.2.hair
 unfold hr A73
 split
 ·split <;> split <;> omega
 ·omega
theorem D3c {r:DrRoom} (ok:RmOk r) (c:Nat):0≤r.Ounces.getD c 0∧r.Ounces.getD c 0≤50:= by
 rw [List.getD_eq_getElem?_getD]
 by_cases h:c < r.Ounces.length
 ·rw [List.getElem?_eq_getElem h]; exact ok.ounce _ (List.getElem_mem h)
 ·rw [List.getElem?_eq_none (by omega)]; decide
theorem B2l {r:DrRoom} (ok:RmOk r) {z:Prs} (hz:B5j r z) (c:Nat):-250≤E3 r z c∧E3 r z c≤300:= by
 have:=C5g (a:=-50) (b:=50) (l:=z.map (hr r c)) fun x hx=>by
  obtain ⟨k,hk,rfl⟩:=List.mem_map.mp hx
  exact D6c ok c (hz.2 k hk)
 have h2:=D3c ok c
 have h3:=hz.1
 rw [List.length_map] at this
 unfold E3; omega
theorem B5j.take {r:DrRoom} {z:Prs} (h:B5j r z) (n:Nat):B5j r (z.take n) :=
 ⟨by have:=h.1; rw [List.length_take]; omega,fun x hx=>h.2 x (List.mem_of_mem_take hx)⟩
theorem D00 (r:DrRoom) (z:Prs) (x:Nat × DrLook):A6c r (z++[x]) = A6c r z + cst r x:= by
 unfold A6c; rw [List.map_append,A4s]; simp [sm]
theorem C6m (r:DrRoom) (z:Prs) (x:Nat × DrLook) (c:Nat):E3 r (z++[x]) c = E3 r z c + hr r c x:= by
 unfold E3; rw [List.map_append,A4s]; simp [sm]; omega
theorem C86 {r:DrRoom} (ok:RmOk r) {z:Prs} (hz:B5j r z) {f:Nat} {p:DrLook} (hx:f < r.Figures.length∧LkOk r (-1) p):U3 (J4 r z) (f:Int) (chg r r.Figures[f]! p) = some (J4 r (z++[(f,p)])):= by
 have hl:=hz.1
 have hs:=C2u ok z
 have hc:=D27 ok r.Figures[f]! p
 have hb:∀c:Nat,w64 (E3 r z c + A73 r.Figures[f]! p (c:Int)) = E3 r (z++[(f,p)]) c:=fun c=>by
  have h1:=B2l ok hz c
  have h2:=D6c ok c (x:=(f,p)) hx
  rw [C6m]
  have h2':-50≤A73 r.Figures[f]! p (c:Int)∧A73 r.Figures[f]! p (c:Int)≤50:=h2
  exact E0 (by omega)
 unfold U3
 rw [V5 (by omega) (by show (ints _).length + 1≤_; rw [F0,List.length_map]; omega)]
 simp only [Option.bind_some]
 have h0:=hb 0
 have h1:=hb 1
 have h2:=hb 2
 have h3:=hb 3
 have hloop:loop (T4 (chg r r.Figures[f]! p)) (0,(J4 r z).left_) = some (J4 r (z++[(f,p)])).left_:= by
  have:=J9 (b:=T4 (chg r r.Figures[f]! p)) (fun i=>((i:Int),(match i with
   | 0=>⟨E3 r z 0,E3 r z 1,E3 r z 2,E3 r z 3⟩
   | 1=>⟨E3 r (z++[(f,p)]) 0,E3 r z 1,E3 r z 2,E3 r z 3⟩
   | 2=>⟨E3 r (z++[(f,p)]) 0,E3 r (z++[(f,p)]) 1,E3 r z 2,E3 r z 3⟩
   | 3=>⟨E3 r (z++[(f,p)]) 0,E3 r (z++[(f,p)]) 1,E3 r (z++[(f,p)]) 2,E3 r z 3⟩
   | _=>(J4 r (z++[(f,p)])).left_:Ar4 Int))) 4 (r:=(J4 r (z++[(f,p)])).left_) (by omega) (fun i hi=>by
   unfold T4
   generalize r.Figures[f]! = F at h0 h1 h2 h3 ⊢
   rcases (by omega:i = 0∨i = 1∨i = 2∨i = 3) with rfl | rfl | rfl | rfl <;> simp [idx,Ar4.l,Ar4.set,chg,J4]
   ·exact ⟨E0 (by omega),h0⟩
   ·exact ⟨E0 (by omega),h1⟩
   ·exact ⟨E0 (by omega),h2⟩
   ·exact ⟨E0 (by omega),h3⟩) rfl
  exact this
 rw [hloop]
 simp only [Option.bind_some,Option.some.injEq]
 have e1:w64 (A6c r z + one r r.Figures[f]! p) = A6c r (z++[(f,p)]):= by
  rw [D00]; exact E0 (by omega)
 show (⟨ints (z.map (·.1))++[(f:Int)],w64 (A6c r z + one r r.Figures[f]! p),(J4 r (z++[(f,p)])).left_⟩:dress_plan) = J4 r (z++[(f,p)])
 rw [e1]
 unfold J4 ints
 simp
def below (x:Int):Int:=if x < 0 then -x else 0
def A74 (r:DrRoom) (z:Prs):List Int:=(List.range r.Ounces.length).map fun c=>below (E3 r z c)
def A4u (r:DrRoom) (z:Prs):Bool:=(List.range r.Ounces.length).all fun c=>decide (0≤E3 r z c)
theorem D2b {r:DrRoom} (ok:RmOk r) {x:Nat × DrLook} (h:x.1 < r.Figures.length∧LkOk r (-1) x.2) {c:Nat} (hc:r.Ounces.length≤c):hr r c x = 0:= by
 have h1:=(ok.figure _ (J7 h.1)).col
 have h2:=h.2.col
 unfold hr A73
 have e1:r.Figures[x.1]!.Looks[0]! ≠ (c:Int):= by omega
 have e2:x.2.Looks[0]! ≠ (c:Int):= by omega
 rw [if_neg e1,if_neg e2]
 simp
theorem C4b {r:DrRoom} (ok:RmOk r) {z:Prs} (hz:B5j r z) {c:Nat} (hc:r.Ounces.length≤c):E3 r z c = 0:= by
 unfold E3
 rw [List.getD_eq_getElem?_getD,List.getElem?_eq_none hc,D5v fun x hx=>D2b ok (hz.2 x hx) hc]; rfl
theorem B9x {x:Int} (h:-1000≤x∧x≤1000):A8v 0 (w64 (0 - x)) = below x:= by
 rw [E0 (by omega)]
 unfold A8v below
 split <;> split <;> omega
theorem B6l {x:Int} (h:-1000≤x∧x≤1000):0≤below x∧below x≤1000:= by
 unfold below; split <;> omega
theorem D2o {r:DrRoom} (ok:RmOk r) {z:Prs} (hz:B5j r z):M5 (J4 r z) = some (⟨below (E3 r z 0),below (E3 r z 1),below (E3 r z 2),below (E3 r z 3)⟩,sm (A74 r z)):= by
 have hb:∀c,-1000≤E3 r z c∧E3 r z c≤1000:=fun c=>by have:=B2l ok hz c; omega
 have m:=fun c=>B9x (hb c)
 have q:=fun c=>B6l (hb c)
 have q0:=q 0
 have q1:=q 1
 have q2:=q 2
 have q3:=q 3
 have hs:sm (A74 r z) = below (E3 r z 0) + below (E3 r z 1) + below (E3 r z 2) + below (E3 r z 3):= by
  have ho:=ok.ounces
  have hf:∀c,r.Ounces.length≤c→below (E3 r z c) = 0:=fun c hc=>by rw [C4b ok hz hc]; rfl
  unfold A74
  rcases (by omega:r.Ounces.length = 1∨r.Ounces.length = 2∨r.Ounces.length = 3∨r.Ounces.length = 4) with e | e | e | e <;> rw [e] at hf ⊢
  ·rw [hf 1 (by omega),hf 2 (by omega),hf 3 (by omega)]; simp [List.range,List.range.loop,sm]
  ·rw [hf 2 (by omega),hf 3 (by omega)]; simp [List.range,List.range.loop,sm]
  ·rw [hf 3 (by omega)]; simp [List.range,List.range.loop,sm]; omega
  ·simp [List.range,List.range.loop,sm]; omega
 unfold M5
 have m0:=m 0
 rw [Int.zero_sub] at m0
 have m1:=m 1
 rw [Int.zero_sub] at m1
 have m2:=m 2
 rw [Int.zero_sub] at m2
 have m3:=m 3
 rw [Int.zero_sub] at m3
 have:=J9 (b:=R9 (J4 r z)) (fun i=>(match i with
   | 0=>(0,0,⟨0,0,0,0⟩)
   | 1=>(below (E3 r z 0),1,⟨below (E3 r z 0),0,0,0⟩)
   | 2=>(below (E3 r z 0) + below (E3 r z 1),2,⟨below (E3 r z 0),below (E3 r z 1),0,0⟩)
   | 3=>(below (E3 r z 0) + below (E3 r z 1) + below (E3 r z 2),3,⟨below (E3 r z 0),below (E3 r z 1),below (E3 r z 2),0⟩)
   | _=>(sm (A74 r z),4,⟨below (E3 r z 0),below (E3 r z 1),below (E3 r z 2),below (E3 r z 3)⟩):Int × Int × Ar4 Int)) 4 (r:=(sm (A74 r z),⟨below (E3 r z 0),below (E3 r z 1),below (E3 r z 2),below (E3 r z 3)⟩)) (by omega) (fun i hi=>by
  unfold R9
  rcases (by omega:i = 0∨i = 1∨i = 2∨i = 3) with rfl | rfl | rfl | rfl
  ·simp only [J4,idx,Ar4.l,Ar4.set]
   simp [m0]
   first | exact ⟨E0 (by omega),E0 (by omega)⟩ | exact E0 (by omega)
  ·simp only [J4,idx,Ar4.l,Ar4.set]
   simp [m1]
   first | exact ⟨E0 (by omega),E0 (by omega)⟩ | exact E0 (by omega)
  ·simp only [J4,idx,Ar4.l,Ar4.set]
   simp [m2]
   first | exact ⟨E0 (by omega),E0 (by omega)⟩ | exact E0 (by omega)
  ·simp only [J4,idx,Ar4.l,Ar4.set]
   simp [m3,hs]
   first | exact ⟨E0 (by omega),E0 (by omega)⟩ | exact E0 (by omega)) rfl
 rw [show ((0:Int),(0:Int),(Ar4.mk (0:Int) 0 0 0)) = (match (0:Nat) with
   | 0=>(0,0,⟨0,0,0,0⟩)
   | 1=>(below (E3 r z 0),1,⟨below (E3 r z 0),0,0,0⟩)
   | 2=>(below (E3 r z 0) + below (E3 r z 1),2,⟨below (E3 r z 0),below (E3 r z 1),0,0⟩)
   | 3=>(below (E3 r z 0) + below (E3 r z 1) + below (E3 r z 2),3,⟨below (E3 r z 0),below (E3 r z 1),below (E3 r z 2),0⟩)
   | _=>(sm (A74 r z),4,⟨below (E3 r z 0),below (E3 r z 1),below (E3 r z 2),below (E3 r z 3)⟩):Int × Int × Ar4 Int) from rfl,this]; rfl
theorem B6m {x:Int}:(below x == 0) = decide (0≤x):= by
 unfold below
 rw [Bool.eq_iff_iff,beq_iff_eq,decide_eq_true_eq]
 split <;> omega
theorem B6j {r:DrRoom} (ok:RmOk r) {z:Prs} (hz:B5j r z):L8 (J4 r z) = some (A4u r z):= by
 unfold L8
 rw [D2o ok hz]
 simp only [Option.bind_some,B6m,Bool.and_true,Option.some.injEq]
 have ho:=ok.ounces
 have hf:∀c,r.Ounces.length≤c→decide (0≤E3 r z c) = true:=fun c hc=>by rw [C4b ok hz hc]; rfl
 unfold A4u
 rcases (by omega:r.Ounces.length = 1∨r.Ounces.length = 2∨r.Ounces.length = 3∨r.Ounces.length = 4) with e | e | e | e <;> rw [e] at hf ⊢
 ·rw [hf 1 (by omega),hf 2 (by omega),hf 3 (by omega)]; simp [List.range,List.range.loop]
 ·rw [hf 2 (by omega),hf 3 (by omega)]; simp [List.range,List.range.loop]
 ·rw [hf 3 (by omega)]; simp [List.range,List.range.loop]
 ·simp [List.range,List.range.loop]
theorem C94 {r:DrRoom} {z:Prs}:(sm (A74 r z) == 0) = A4u r z:= by
 unfold A74 A4u
 induction (List.range r.Ounces.length) with
 | nil=>rfl
 | cons c l ih =>
  have h0:∀l:List Nat,0≤sm (l.map fun c=>below (E3 r z c)):=fun l=>by
   have:∀x ∈ l.map fun c=>below (E3 r z c),0≤x:=fun x hx=>by
    obtain ⟨k,_,rfl⟩:=List.mem_map.mp hx
    unfold below; split <;> omega
   revert this
   generalize l.map (fun c=>below (E3 r z c)) = m
   intro this
   induction m with
   | nil=>exact Int.le_refl _
   | cons x l ih =>
    have h1:=this x (List.mem_cons_self ..)
    have h2:=ih fun y hy=>this y (List.mem_cons_of_mem _ hy)
    simp only [sm]; omega
  have h1:=h0 l
  have h2:0≤below (E3 r z c):= by unfold below; split <;> omega
  rw [List.all_cons,← ih,← B6m,Bool.eq_iff_iff,Bool.and_eq_true,beq_iff_eq,beq_iff_eq,beq_iff_eq]
  simp only [List.map_cons,sm]
  omega
theorem C2x {q:List Nat} {ps:List DrLook} {i:Nat} (h:i < q.length) (h2:q.length≤ps.length):(q.zip ps)[i]! = (q[i]!,ps[i]!):= by
 rw [getElem!_pos _ i (by rw [List.length_zip]; omega),List.getElem_zip,getElem!_pos q i h,getElem!_pos ps i (by omega)]
theorem B3e {q:List Nat} {ps:List DrLook} (h:q.length≤ps.length):(q.zip ps).length = q.length:= by
 rw [List.length_zip]; omega
theorem A3v {q:List Nat} {i:Nat} (h:i < q.length):idx (ints q) (i:Int) = some ((q[i]!:Nat):Int) :=
 A41 (by unfold ints; rw [List.getElem?_map,List.getElem?_eq_getElem h,getElem!_pos q i h]; rfl)
structure QOk (r:DrRoom) (q:List Nat):Prop where
 len:q.length≤r.Persons.length
 fig:∀x ∈ q,x < r.Figures.length
def prs (r:DrRoom) (q:List Nat):Prs:=q.zip r.Persons
theorem QOk.pr {r:DrRoom} (ok:RmOk r) {q:List Nat} (h:QOk r q):B5j r (prs r q):= by
 refine ⟨by unfold prs; rw [B3e h.len]; have:=ok.persons; have:=h.len; omega,fun x hx=>?_⟩
 have:=List.of_mem_zip (a:=x.1) (b:=x.2) hx
 exact ⟨h.fig _ this.1,ok.person _ this.2⟩
theorem C1k {r:DrRoom} (ok:RmOk r) {q:List Nat} (h:QOk r q):X2 r (ints q) = some (A6c r (prs r q)):= by
 have hP:=ok.persons
 have hl:=h.len
 have hz:=h.pr ok
 have hzl:(prs r q).length = q.length:=B3e h.len
 unfold X2
 have:=A9u (b:=A22 r (ints q)) (prs r q) (fun (t:Int) x=>t + cst r x) 0 (fun i t=>(t,(i:Int))) (r:=A6c r (prs r q)) (by omega) (fun i hi=>by
  rw [A4y (cst r)]
  have hs:=C2u ok ((prs r q).take i)
  rw [List.length_take] at hs
  have hx:=D1v ok (prs r q)[i]!
  have hi2:i < q.length:= by omega
  have e:(prs r q)[i]! = (q[i]!,r.Persons[i]!):=C2x hi2 h.len
  unfold A22
  simp only []
  rw [if_pos (by rw [F0]; simpa using hi2),A3v hi2]
  simp only [Option.bind_some]
  have hf:=h.fig _ (J7 hi2)
  rw [H9 hf,H9 (by omega)]
  simp only [Option.bind_some]
  rw [D09 ok (ok.figure _ (J7 hf)).len (ok.person _ (J7 (by omega))).len]
  simp only [Option.bind_some]
  rw [show one r r.Figures[q[i]!]! r.Persons[i]! = cst r (prs r q)[i]! by rw [e]; rfl]
  unfold A6c at hs
  rw [E0 (by omega),E0 (by omega)]
  rfl) (by
  unfold A22
  simp only []
  rw [if_neg (by rw [F0,hzl]; simp),A4y (cst r)]
  unfold A6c; simp)
 rw [show ((0:Int),(0:Int)) = ((0:Int),((0:Nat):Int)) from rfl,this]; rfl
theorem D2c (n:Nat) (f p:DrLook) (hn:1≤n):(ints (N7 n f p)).any (· == 0) = ck f p 0:= by
 rw [Bool.eq_iff_iff,List.any_eq_true]
 constructor
 ·rintro ⟨x,hx,e⟩
  unfold ints N7 at hx
  obtain ⟨k,hk,rfl⟩:=List.mem_map.mp hx
  have:k = 0:= by simpa using e
  subst this
  exact (List.mem_filter.mp hk).2
 ·intro h
  refine ⟨0,?_,rfl⟩
  unfold ints N7
  exact List.mem_map.mpr ⟨0,List.mem_filter.mpr ⟨by simp; omega,h⟩,rfl⟩
theorem hair1 {r:DrRoom} (ok:RmOk r) {q:List Nat} (h:QOk r q) (c:Nat) (hc:c < r.Ounces.length) (l0:List Int):loop (A0b r (ints q) ((c:Int),l0)) (r.Ounces[c]!,0) = some (E3 r (prs r q) c):= by
 have hP:=ok.persons
 have hC:=ok.costs
 have hl:=h.len
 have hz:=h.pr ok
 have hzl:(prs r q).length = q.length:=B3e h.len
 have hd:r.Ounces.getD c 0 = r.Ounces[c]!:= by rw [List.getD_eq_getElem?_getD,List.getElem?_eq_getElem hc,getElem!_pos _ c hc]; rfl
 have:=A9u (b:=A0b r (ints q) ((c:Int),l0)) (prs r q) (fun (t:Int) x=>t + hr r c x) r.Ounces[c]! (fun i t=>(t,(i:Int))) (r:=E3 r (prs r q) c) (by omega) (fun i hi=>by
  rw [A4y (hr r c)]
  have hs:=B2l ok (hz.take i) c
  unfold E3 at hs
  rw [hd] at hs
  have hi2:i < q.length:= by omega
  have e:(prs r q)[i]! = (q[i]!,r.Persons[i]!):=C2x hi2 h.len
  have hf:=h.fig _ (J7 hi2)
  have lf:=ok.figure _ (J7 hf)
  have lp:=ok.person _ (J7 (l:=r.Persons) (i:=i) (by omega))
  generalize r.Ounces[c]! + sm (List.map (hr r c) ((prs r q).take i)) = t at hs ⊢
  unfold A0b
  simp only []
  rw [if_pos (by rw [F0]; simpa using hi2),A3v hi2]
  simp only [Option.bind_some]
  rw [H9 hf,H9 (by omega)]
  simp only [Option.bind_some]
  rw [B6g ok lf.len lp.len]
  simp only [Option.bind_some]
  rw [C1i _ _ (by rw [F0]; have:=P1 r.Costs.length r.Figures[q[i]!]! r.Persons[i]!; omega),D2c _ _ _ hC.1,e]
  simp only [Option.bind_some]
  have h1:=lf.hair
  have h2:=lp.hair
  unfold hr A73
  generalize r.Figures[q[i]!]! = F at lf h1 ⊢
  generalize r.Persons[i]! = P at lp h2 ⊢
  rw [show idx F.Looks 0 = some F.Looks[0]! from H9 (i:=0) (by rw [lf.len]; omega),show idx P.Looks 0 = some P.Looks[0]! from H9 (i:=0) (by rw [lp.len]; omega)]
  simp only [Option.bind_some,beq_iff_eq]
  have hw:w64 ((i:Int) + 1) = ((i + 1:Nat):Int):=E0 (by omega)
  cases ck F P 0 with
  | false=>simp only [Bool.not_false,if_true,Bool.false_eq_true,if_false,hw,Int.add_zero]
  | true =>
   simp only [Bool.not_true,Bool.false_eq_true,if_false,if_true,hw]
   by_cases c1:F.Looks[0]! = (c:Int) <;> by_cases c2:P.Looks[0]! = (c:Int) <;> simp only [c1,c2,if_true,if_false]
   ·rw [E0 (n:=t + F.Hair) (by omega),E0 (by omega)]; congr 3; omega
   ·rw [E0 (n:=t + F.Hair) (by omega)]; congr 3; omega
   ·rw [E0 (by omega)]; congr 3; omega
   ·congr 3; omega) (by
  unfold A0b
  simp only []
  rw [if_neg (by rw [F0,hzl]; simp),A4y (hr r c)]
  unfold E3; rw [hd])
 exact this
def A4c (r:DrRoom) (z:Prs):List Int:=(List.range r.Ounces.length).map (E3 r z)
theorem C7s {r:DrRoom} (ok:RmOk r) {q:List Nat} (h:QOk r q):A3e r (ints q) = some (A4c r (prs r q)):= by
 have hO:=ok.ounces
 unfold A3e
 have:=A9u (b:=A1t r (ints q)) (List.range r.Ounces.length) (fun (t:List Int) c=>t++[E3 r (prs r q) c]) [] (fun i t=>((i:Int),t)) (r:=A4c r (prs r q)) (by simp; omega) (fun i hi=>by
  have hi2:i < r.Ounces.length:= by simpa using hi
  rw [A51 (E3 r (prs r q)),D0l hi2]
  unfold A1t
  simp only []
  rw [if_pos (by simpa using hi2),H9 hi2]
  simp only [Option.bind_some]
  rw [hair1 ok h i hi2]
  simp only [Option.bind_some]
  rw [V5 (by omega) (by simp; omega),E0 (by omega)]
  rfl) (by
  unfold A1t
  simp only []
  rw [if_neg (by simp),A51 (E3 r (prs r q))]
  simp [A4c])
 rw [show ((0:Int),([]:List Int)) = (((0:Nat):Int),([]:List Int)) from rfl,this]; rfl
theorem C2n {r:DrRoom} (ok:RmOk r) {z:Prs} (hz:B5j r z):A3y (A4c r z) = some (A74 r z,sm (A74 r z)):= by
 have hO:=ok.ounces
 have hb:∀c,-1000≤E3 r z c∧E3 r z c≤1000:=fun c=>by have:=B2l ok hz c; omega
 unfold A3y
 have:=J9 (b:=A0y (A4c r z)) (fun i=>(sm ((List.range i).map fun c=>below (E3 r z c)),(i:Int),(List.range i).map fun c=>below (E3 r z c))) r.Ounces.length (r:=(sm (A74 r z),A74 r z)) (by omega) (fun i hi=>by
  have hs:0≤sm ((List.range i).map fun c=>below (E3 r z c))∧sm ((List.range i).map fun c=>below (E3 r z c))≤1000 * i:= by
   have:=C5g (a:=0) (b:=1000) (l:=(List.range i).map fun c=>below (E3 r z c)) fun x hx=>by
    obtain ⟨k,_,rfl⟩:=List.mem_map.mp hx
    exact B6l (hb k)
   simp at this; omega
  unfold A0y
  simp only []
  rw [if_pos (by simpa [A4c] using hi),show idx (A4c r z) (i:Int) = some (E3 r z i) from A41 (by unfold A4c; rw [List.getElem?_map,List.getElem?_range hi]; rfl)]
  simp only [Option.bind_some]
  rw [B9x (hb i),V5 (by omega) (by simp; omega)]
  have hq:=B6l (hb i)
  simp only [Option.bind_some]
  rw [E0 (by omega),E0 (by omega),List.range_succ,List.map_append,A4s]
  simp [sm]) (by
  unfold A0y
  simp only []
  rw [if_neg (by simp [A4c])]; rfl)
 rw [show ((0:Int),(0:Int),([]:List Int)) = (sm ((List.range 0).map fun c=>below (E3 r z c)),((0:Nat):Int),(List.range 0).map fun c=>below (E3 r z c)) from rfl,this]; rfl
theorem A63 {r:DrRoom} (ok:RmOk r) {q:List Nat} (h:QOk r q):N6 r (ints q) = some (A4u r (prs r q)):= by
 unfold N6
 rw [C7s ok h]
 simp only [Option.bind_some]
 rw [C2n ok (h.pr ok)]
 simp only [Option.bind_some,C94]
end Ds
end
section
set_option maxRecDepth 100000
set_option maxHeartbeats 0
namespace Ds
open Go Am Go.Proofs.Ytdkflofgolehkaa.Cd
def Q6 (a0:DrRoom) (a1:(List Int)) (s5:(Int × Int)):Option ((Int × Int) ⊕ Int) :=
 if ((decide (s5.2 < (List.length a1:Int))) && (s5.1 == 0)) = true then
  (idx a1 s5.2).bind fun x9 =>
  (L5 x9 0 (w64 ((List.length a0.Figures:Int) - 1))).bind fun x10 =>
  if (!x10) = true then
  some (.inl (4,(w64 (s5.2 + 1))))
  else
  some (.inl (s5.1,(w64 (s5.2 + 1))))
 else
  some (.inr s5.1)
def Q7 (a1:(List Int)) (s13:(Int × Int)):Option ((Int × Int) ⊕ Int) :=
 if ((decide (s13.2 < (List.length a1:Int))) && (s13.1 == 0)) = true then
  (slc a1 0 s13.2).bind fun x17 =>
  (idx a1 s13.2).bind fun x18 =>
  (A2e x17 x18).bind fun x19 =>
  if x19 = true then
  some (.inl (5,(w64 (s13.2 + 1))))
  else
  some (.inl (s13.1,(w64 (s13.2 + 1))))
 else
  some (.inr s13.1)
def A16 (a0:DrRoom) (a1:(List Int)):Option Int :=
 (S9 a0).bind fun x1 =>
 (if ((x1.2.2 == 0) && ((List.length a1:Int) != (List.length a0.Persons:Int))) = true then
  some 3
  else
  some x1.2.2).bind fun (p3:Int) =>
 (loop (Q6 a0 a1) (p3,0)).bind fun (o12:Int) =>
 (loop (Q7 a1) (o12,0)).bind fun (o21:Int) =>
 some o21
theorem A59 {c:Sc} {H:A1} {a0:DrRoom} {a1:(List Int)} {r:Int} (h:A16 a0 a1 = some r) :
  E6 tab c H (.fn (.func 40) [] []) [(.agg (A4 a0)),(.seq 1 (List.map cI a1))] [.i r]:= by
 unfold A16 at h
 refine cE rfl rfl<|sg 0 rfl<|A0 (F7 (cs:=A4 a0) rfl rfl rfl) rfl<|qm rfl<|es (ra2 rfl rfl)<|s0<|oB h fun x1 hx1 h=>A0 (C2 rfl rfl rfl) rfl<|B4 (rs:=[.i x1.1,.i x1.2.1,.i x1.2.2]) rfl rfl (A2 (D0 rfl) B5) ((W7 hx1).frz)<|qm rfl<|A0 (A7 rfl rfl) rfl<|A0 (A7 rfl rfl) rfl<|A0 (A7 rfl rfl) rfl<|qm rfl<|qm rfl<|qm rfl<|es (ra3 rfl rfl rfl)<|B7<|s0<|qm rfl<|A0 (F5 rfl rfl) rfl<|qm rfl<|gp 7 25 (.b ((x1.2.2 == 0) && ((List.length a1:Int) != (List.length a0.Persons:Int)))) 18 rfl rfl (fun hg2=>?_) (fun hg2=>?_) ?_
 ·exact gT rfl hg2<|qm rfl<|gT rfl hg2<|A0 (D5 (f:=cI) rfl) rfl<|gT rfl hg2<|A0 (D2 rfl) rfl<|gT rfl hg2<|A0 (C8 rfl rfl rfl) rfl<|gT rfl hg2<|A0 (D5 (f:=A5) rfl) rfl<|gT rfl hg2<|A0 (I7 rfl rfl) rfl<|A0 (C6 rfl hg2 rfl) rfl<|ge 7 (by rw [hg2]; rfl) rfl rfl
 ·exact nT rfl hg2 rfl<|nT rfl hg2 rfl<|nT rfl hg2 rfl<|nT rfl hg2 rfl<|nT rfl hg2 rfl<|nT rfl hg2 rfl<|A0 (C5 rfl hg2 rfl) rfl<|ge 7 (by rw [hg2]; rfl) rfl rfl
 refine es (ra4 rfl rfl rfl rfl)<|oB h fun p3 hp3 h=>B4j (Q1:=fun e s' H'=>e = .normal∧s' = [(1,(.seq 1 (List.map cI a1))),(2,(.ptr (H.length + 0) 0)),(7,.i p3)]∧H' = (H++[(.cells (A4 a0))])) ?_ ?_
 ·refine wi hp3 rfl (fun hc4 hp3=>?_) fun hc4 hp3=>?_
  ·refine r0<|qm rfl<|en (ra3 rfl rfl rfl) ?_
   obtain rfl:=os hp3
   exact me (And.intro rfl (And.intro rfl rfl)) (su3 rfl rfl rfl)
  ·refine C1 ?_
   obtain rfl:=os hp3
   exact me (And.intro rfl (And.intro rfl rfl)) (su3 rfl rfl rfl)
 ·rintro e s' H' ⟨rfl,rfl,rfl⟩
  refine B7<|s0<|qm rfl<|es (ra4 rfl rfl rfl rfl)<|C3<|oB h fun o12 ho12 h=>wl (fun s5=>[(1,(.seq 1 (List.map cI a1))),(2,(.ptr (H.length + 0) 0)),(7,.i s5.1),(8,.i s5.2)]) (fun (q6:Unit) s5=>[(.cells (A4 a0))]) 1 (fun r e s' H'=>PX 0 [(1,(.seq 1 (List.map cI a1))),(7,.i r)] (H++[(.cells (A4 a0))]) e s' H') () ho12 rfl rfl (fun _ _=>rfl) (fun _=>rfl) rfl (fun s5=>(bdc E8 (bdc (F2 rfl) (bdc A8 (bdc A8 bdn))))) (fun q6 s5 ys5 hs5=>?_) ?_
  ·unfold Q6 at hs5
   refine B7<|s0<|qm rfl<|qm rfl<|A0 (D5 (f:=cI) rfl) rfl<|A0 (G9 rfl rfl) rfl<|qm rfl<|gp 3 33 (.b ((decide (s5.2 < (List.length a1:Int))) && (s5.1 == 0))) 30 rfl rfl (fun hg7=>?_) (fun hg7=>?_) ?_
   ·exact gT rfl hg7<|qm rfl<|gT rfl hg7<|A0 (F5 rfl rfl) rfl<|A0 (C6 rfl hg7 rfl) rfl<|ge 3 (by rw [hg7]; rfl) rfl rfl
   ·exact nT rfl hg7 rfl<|nT rfl hg7 rfl<|A0 (C5 rfl hg7 rfl) rfl<|ge 3 (by rw [hg7]; rfl) rfl rfl
   refine es (ra5 rfl rfl rfl rfl rfl)<|wi hs5 rfl (fun hc8 hs5=>?_) fun hc8 hs5=>?_
   ·refine C1<|B7<|C3<|s0<|oB hs5 fun x9 hx9 hs5=>oB hs5 fun x10 hx10 hs5=>qm rfl<|qm rfl<|A0 (E5 (f:=cI) rfl rfl hx9) rfl<|A0 (F4 rfl rfl) rfl<|A0 (D2 rfl) rfl<|A0 (C8 rfl rfl rfl) rfl<|A0 (D5 (f:=A5) rfl) rfl<|A0 (A0i rfl rfl) rfl<|B4 (rs:=[.b x10]) rfl rfl (A2 rfl (A2 rfl (A2 rfl B5))) ((N9 hx10).frz)<|A0 (P4 rfl) rfl<|es (ra5 rfl rfl rfl rfl rfl)<|wi hs5 rfl (fun hc11 hs5=>?_) fun hc11 hs5=>?_
    ·refine r0<|qm rfl<|en (ra4 rfl rfl rfl rfl)<|r0<|qm rfl<|A0 (E7 rfl rfl) rfl<|qm rfl<|en (ra4 rfl rfl rfl rfl) ?_
     cases hs5
     exact lnT () rfl (su4 rfl rfl rfl rfl)
    ·refine C1<|r0<|qm rfl<|A0 (E7 rfl rfl) rfl<|qm rfl<|en (ra4 rfl rfl rfl rfl) ?_
     cases hs5
     exact lnT () rfl (su4 rfl rfl rfl rfl)
   ·refine F8 ?_
    obtain rfl:=os hs5
    exact lx rfl px (su2 rfl rfl)
  ·rintro e s' H' - ⟨rfl,rfl,rfl⟩
   refine B7<|s0<|qm rfl<|es (ra3 rfl rfl rfl)<|C3<|oB h fun o21 ho21 h=>wl (fun s13=>[(1,(.seq 1 (List.map cI a1))),(7,.i s13.1),(9,.i s13.2)]) (fun (q14:Unit) s13=>[(.cells (A4 a0))]) 1 (fun r e s' H'=>PX 2 [(7,.i r)] (H++[(.cells (A4 a0))]) e s' H') () ho21 rfl rfl (fun _ _=>rfl) (fun _=>rfl) rfl (fun s13=>(bdc E8 (bdc A8 (bdc A8 bdn)))) (fun q14 s13 ys13 hs13=>?_) ?_
   ·unfold Q7 at hs13
    refine B7<|s0<|qm rfl<|qm rfl<|A0 (D5 (f:=cI) rfl) rfl<|A0 (G9 rfl rfl) rfl<|qm rfl<|gp 3 53 (.b ((decide (s13.2 < (List.length a1:Int))) && (s13.1 == 0))) 50 rfl rfl (fun hg15=>?_) (fun hg15=>?_) ?_
    ·exact gT rfl hg15<|qm rfl<|gT rfl hg15<|A0 (F5 rfl rfl) rfl<|A0 (C6 rfl hg15 rfl) rfl<|ge 3 (by rw [hg15]; rfl) rfl rfl
    ·exact nT rfl hg15 rfl<|nT rfl hg15 rfl<|A0 (C5 rfl hg15 rfl) rfl<|ge 3 (by rw [hg15]; rfl) rfl rfl
    refine es (ra4 rfl rfl rfl rfl)<|wi hs13 rfl (fun hc16 hs13=>?_) fun hc16 hs13=>?_
    ·refine C1<|B7<|C3<|s0<|oB hs13 fun x17 hx17 hs13=>oB hs13 fun x18 hx18 hs13=>oB hs13 fun x19 hx19 hs13=>qm rfl<|qm rfl<|A0 (B2q (f:=cI) rfl rfl rfl hx17) rfl<|qm rfl<|qm rfl<|A0 (E5 (f:=cI) rfl rfl hx18) rfl<|A0 (F4 rfl rfl) rfl<|B4 (rs:=[.b x19]) rfl rfl (A2 rfl (A2 rfl B5)) ((A4i hx19).frz)<|es (ra4 rfl rfl rfl rfl)<|wi hs13 rfl (fun hc20 hs13=>?_) fun hc20 hs13=>?_
     ·refine r0<|qm rfl<|en (ra3 rfl rfl rfl)<|r0<|qm rfl<|A0 (E7 rfl rfl) rfl<|qm rfl<|en (ra3 rfl rfl rfl) ?_
      cases hs13
      exact lnT () rfl (su3 rfl rfl rfl)
     ·refine C1<|r0<|qm rfl<|A0 (E7 rfl rfl) rfl<|qm rfl<|en (ra3 rfl rfl rfl) ?_
      cases hs13
      exact lnT () rfl (su3 rfl rfl rfl)
    ·refine F8 ?_
     obtain rfl:=os hs13
     exact lx rfl px (su1 rfl)
   ·rintro e s' H' - ⟨rfl,rfl,rfl⟩
    refine s0<|qm rfl<|qm rfl<|es (ra1 rfl)<|C4 ?_
    obtain rfl:=os h
    exact retq trivial (B1 rfl B8) (A6 rfl B9) (A3 A8 B2)
def A3g (a0:DrRoom) (a1:(List Int)):Option (Int × Int) :=
 (A16 a0 a1).bind fun x1 =>
 (if (x1 == 0) = true then
  (N6 a0 a1).bind fun x3 =>
  some (!x3)
 else
  some false).bind fun x4 =>
 (if x4 = true then
  some 9
  else
  some x1).bind fun (p5:Int) =>
 if (p5 != 0) = true then
  some (0,p5)
 else
  (X2 a0 a1).bind fun x8 =>
  some (x8,0)
end Ds
end
section
namespace Ds
open Go Am
theorem C9d {α:Type} [Inhabited α] (l:List α) (p:α→Bool):((List.range l.length).any fun i=>p l[i]!) = l.any p:= by
 rw [Bool.eq_iff_iff,List.any_eq_true,List.any_eq_true]
 constructor
 ·rintro ⟨i,hi,h⟩
  exact ⟨_,J7 (by simpa using hi),h⟩
 ·rintro ⟨x,hx,h⟩
  obtain ⟨i,hi,rfl⟩:=B56 hx
  exact ⟨i,by simpa using hi,h⟩
theorem C9p {ρ:Type} {n:Nat} {p:Nat→Bool} {f:Nat→Option ρ} (hf:∀i,i < n→(f i).isSome = p i):(first f n).isSome = (List.range n).any p:= by
 cases h:first f n with
 | none =>
  have h0:=G1.mp h
  symm
  rw [Option.isSome_none,List.any_eq_false]
  intro i hi
  have hi:i < n:= by simpa using hi
  have:=hf i hi
  rw [h0 i hi] at this
  rw [← this]; simp
 | some r =>
  obtain ⟨i,hi,h1,-⟩:=N0 h
  symm
  rw [Option.isSome_some,List.any_eq_true]
  refine ⟨i,by simpa using hi,?_⟩
  rw [← hf i hi,h1]; rfl
theorem C4d {b:Int × Int→Option ((Int × Int) ⊕ Int)} (n:Nat) (bad:Nat→Bool) (code:Int) (hn:n < 9223372036854775808)
  (hs:∀i:Nat,i < n→b (0,(i:Int)) = some (.inl (if bad i then code else 0,((i + 1:Nat):Int)))) (he:b (0,(n:Int)) = some (.inr 0)) (hc:∀i:Nat,b (code,(i:Int)) = some (.inr code)) :
  loop b (0,0) = some (if (List.range n).any bad then code else 0):= by
 cases hf:first (fun i=>if bad i then some () else none) n with
 | none =>
  have h0:=G1.mp hf
  have hb:∀i,i < n→bad i = false:=fun i hi=>by
   have:=h0 i hi
   cases hq:bad i with
   | false=>rfl
   | true=>rw [hq] at this; cases this
  have e:(List.range n).any bad = false:= by
   rw [List.any_eq_false]
   intro i hi
   rw [hb i (by simpa using hi)]; decide
  rw [e]
  exact J9 (b:=b) (fun i=>(0,(i:Int))) n (by omega) (fun i hi=>by rw [hs i hi,hb i hi]; rfl) he
 | some u =>
  obtain ⟨k,hk,h1,h2⟩:=N0 hf
  have hbk:bad k = true:= by
   cases hq:bad k with
   | true=>rfl
   | false=>rw [hq] at h1; cases h1
  have e:(List.range n).any bad = true:=List.any_eq_true.mpr ⟨k,by simpa using hk,hbk⟩
  rw [e]
  have:=J9 (b:=b) (fun i=>if i≤k then (0,(i:Int)) else (code,(i:Int))) (k + 1) (r:=code) (by omega) (fun i hi=>by
   have hik:i≤k:= by omega
   simp only [hik,if_true]
   rw [hs i (by omega)]
   by_cases c:i = k
   ·subst c
    rw [hbk,if_neg (by omega:¬ i + 1≤i)]; rfl
   ·have:=h2 i (by omega)
    cases hq:bad i with
    | true=>rw [hq] at this; cases this
    | false=>rw [if_pos (by omega:i + 1≤k)]; rfl) (by
   simp only [show ¬ k + 1≤k by omega,if_false]; exact hc (k + 1))
  exact this
def A71 (l:List Int) (i:Nat):Bool:=(l.take i).any (· == l[i]!)
def B89 (l:List Int):Bool:=(List.range l.length).any (A71 l)
def R4 (r:DrRoom) (l:List Int):Int :=
 if (chk r).2.2 ≠ 0 then (chk r).2.2 else if l.length ≠ r.Persons.length then 3 else if l.any (out 0 ((r.Figures.length:Int) - 1)) then 4 else if B89 l then 5 else 0
def nats (l:List Int):List Nat:=l.map Int.toNat
theorem C1j (r:DrRoom) (l:List Int) (hl:l.length < 9223372036854775808):A16 r l = some (R4 r l):= by
 unfold A16
 rw [A1f]
 simp only [Option.bind_some]
 have stop1:∀e:Int,e ≠ 0→loop (Q6 r l) (e,0) = some e:=fun e he=>by
  have:=J9 (b:=Q6 r l) (fun _=>(e,0)) 0 (r:=e) (by omega) (fun i hi=>absurd hi (Nat.not_lt_zero i)) (by
   unfold Q6
   simp only []
   rw [if_neg (by simp [he])])
  exact this
 have stop2:∀e:Int,e ≠ 0→loop (Q7 l) (e,0) = some e:=fun e he=>by
  have:=J9 (b:=Q7 l) (fun _=>(e,0)) 0 (r:=e) (by omega) (fun i hi=>absurd hi (Nat.not_lt_zero i)) (by
   unfold Q7
   simp only []
   rw [if_neg (by simp [he])])
  exact this
 unfold R4
 by_cases h0:(chk r).2.2 = 0
 ·have hr:∀(a b:Int),(if (chk r).2.2 ≠ 0 then a else b) = b:=fun a b=>if_neg (fun c=>c h0)
  obtain ⟨ok,-⟩:=(S5 r).mp h0
  have hF:=ok.figures
  rw [hr,h0]
  by_cases h1:l.length = r.Persons.length
  ·have e1:((l.length:Int) != (r.Persons.length:Int)) = false:= by rw [h1]; exact bne_self_eq_false _
   have hr2:∀(a b:Int),(if l.length ≠ r.Persons.length then a else b) = b:=fun a b=>if_neg (fun c=>c h1)
   rw [hr2,e1]
   simp only [Bool.and_false,Bool.false_eq_true,if_false,Option.bind_some]
   rw [C4d (b:=Q6 r l) l.length (fun i=>out 0 ((r.Figures.length:Int) - 1) l[i]!) 4 hl (fun i hi=>by
    unfold Q6
    simp only []
    rw [if_pos (by simpa using hi),H9 hi,E0 (n:=(r.Figures.length:Int) - 1) (by omega)]
    simp only [Option.bind_some]
    rw [A7j,E0 (by omega)]
    cases out 0 ((r.Figures.length:Int) - 1) l[i]! <;> rfl) (by
    unfold Q6
    simp) (fun i=>by
    unfold Q6
    simp),C9d]
   simp only [Option.bind_some]
   cases l.any (out 0 ((r.Figures.length:Int) - 1)) with
   | true=>rw [if_pos rfl,stop2 4 (by decide)]; rfl
   | false =>
    rw [if_neg (by decide),C4d (b:=Q7 l) l.length (A71 l) 5 hl (fun i hi=>by
     unfold Q7 A71
     simp only []
     rw [if_pos (by simpa using hi),H9 hi,B6b (by omega)]
     simp only [Option.bind_some]
     rw [C1i _ _ (by rw [List.length_take]; omega),E0 (by omega)]
     simp only [Option.bind_some]
     cases (l.take i).any (· == l[i]!) <;> rfl) (by
     unfold Q7
     simp) (fun i=>by
     unfold Q7
     simp)]
    unfold B89
    rfl
  ·have e1:((l.length:Int) != (r.Persons.length:Int)) = true:= by rw [bne_iff_ne]; omega
   rw [e1]
   simp only [BEq.rfl,Bool.and_self,if_true,Option.bind_some]
   rw [stop1 3 (by decide)]
   simp only [Option.bind_some]
   rw [stop2 3 (by decide),if_pos h1]; rfl
 ·have e1:((chk r).2.2 == 0) = false:=beq_eq_false_iff_ne.mpr h0
  rw [e1,if_pos h0]
  simp only [Bool.false_and,Bool.false_eq_true,if_false,Option.bind_some]
  rw [stop1 _ h0]
  simp only [Option.bind_some]
  rw [stop2 _ h0]; rfl
theorem A84 {r:DrRoom} {l:List Int} (h:R4 r l = 0):RmOk r∧l = ints (nats l)∧QOk r (nats l)∧(nats l).length = r.Persons.length:= by
 unfold R4 at h
 split at h
 ·next c=>exact absurd h c
 ·next c0 =>
  split at h
  ·cases h
  ·next c1 =>
   split at h
   ·cases h
   ·next c2 =>
    obtain ⟨ok,-⟩:=(S5 r).mp (Decidable.not_not.mp c0)
    have c1:=Decidable.not_not.mp c1
    have c2:=B1p.mp (Bool.eq_false_iff.2 c2)
    refine ⟨ok,?_,⟨by unfold nats; rw [List.length_map]; omega,fun x hx=>?_⟩,by unfold nats; rw [List.length_map]; exact c1⟩
    ·unfold ints nats
     rw [List.map_map]
     conv=>lhs; rw [← List.map_id l]
     refine List.map_congr_left fun x hx=>?_
     have:=c2 x hx
     simp; omega
    ·unfold nats at hx
     obtain ⟨y,hy,rfl⟩:=List.mem_map.mp hx
     have:=c2 y hy
     omega
theorem C99 (q:List Nat):nats (ints q) = q:= by
 unfold nats ints; rw [List.map_map]
 conv=>rhs; rw [← List.map_id q]
 exact List.map_congr_left fun x _=>by simp
theorem A87 (r:DrRoom) (l:List Int) (hl:l.length < 9223372036854775808):A3g r l = some (if R4 r l ≠ 0 then (0,R4 r l) else if A4u r (prs r (nats l)) then (A6c r (prs r (nats l)),0) else (0,9)):= by
 unfold A3g
 rw [C1j r l hl]
 simp only [Option.bind_some]
 by_cases h:R4 r l = 0
 ·obtain ⟨ok,e,q,-⟩:=A84 h
  have hr:∀(a b:Int × Int),(if R4 r l ≠ 0 then a else b) = b:=fun a b=>if_neg (fun c=>c h)
  rw [hr,h]
  have e1:N6 r l = some (A4u r (prs r (nats l))):= by
   conv=>lhs; rw [e]
   exact A63 ok q
  have e2:X2 r l = some (A6c r (prs r (nats l))):= by
   conv=>lhs; rw [e]
   exact C1k ok q
  rw [e1,e2]
  cases A4u r (prs r (nats l)) <;> rfl
 ·have e1:(R4 r l == 0) = false:=beq_eq_false_iff_ne.mpr h
  rw [if_pos h,e1]
  simp only [Bool.false_eq_true,if_false,Option.bind_some]
  rw [if_pos (by simpa using h)]
theorem C28 {r:DrRoom} (ok:RmOk r):begin0 r = J4 r []:= by
 have ho:=ok.ounces
 unfold begin0 J4 cpy4
 simp [ints,A6c,E3,sm,List.getD_eq_getElem?_getD]
theorem D3p {r:DrRoom} {q:List Nat} (h:QOk r q) {i:Nat} (hi:i < q.length):(prs r q).take (i + 1) = (prs r q).take i++[(q[i]!,r.Persons[i]!)]:= by
 have hz:i < (prs r q).length:= by unfold prs; rw [B3e h.len]; exact hi
 have e:(prs r q)[i]! = (q[i]!,r.Persons[i]!):=C2x hi h.len
 rw [List.take_succ_eq_append_getElem hz,← getElem!_pos (prs r q) i hz,e]
theorem C2j {r:DrRoom} (ok:RmOk r) {ch:Chg} (hch:C5w r ch) {q:List Nat} (h:QOk r q) (he:q.length = r.Persons.length) :
  loop (A13 r ch (ints q)) (0,J4 r []) = some (if B89 (ints q) then .inl () else .inr (J4 r (prs r q))):= by
 have hP:=ok.persons
 have hz:=h.pr ok
 have hil:=F0 q
 have:=A6o (b:=A13 r ch (ints q)) (fun i=>((i:Int),J4 r ((prs r q).take i))) q.length (fun i=>if A71 (ints q) i then some (.inl ()) else none) (.inr (J4 r (prs r q))) (by omega) (fun i hi _=>by
  unfold A13 A71
  simp only []
  have hf:=h.fig _ (J7 hi)
  have eg:(ints q)[i]! = ((q[i]!:Nat):Int):= by
   rw [getElem!_pos _ i (by omega),getElem!_pos q i hi]
   unfold ints; rw [List.getElem_map]
  rw [if_pos (by rw [hil]; simpa using hi),A3v hi,B6b (by omega)]
  simp only [Option.bind_some]
  have hcon:F9 ((ints q).take i) ((q[i]!:Nat):Int) = some (((ints q).take i).any (· == (ints q)[i]!)):= by
   rw [eg]
   have hm:((ints q).take i).length < 9223372036854775808:= by rw [List.length_take]; omega
   generalize (ints q).take i = m at hm ⊢
   unfold F9 M1
   obtain ⟨o,ho,hc⟩:=A9o m (· == ((q[i]!:Nat):Int)) (b:=G3 m ((q[i]!:Nat):Int)) hm (fun j hj=>by
    unfold G3
    rw [if_pos (by simpa using hj),H9 hj]
    simp only [Option.bind_some]
    rw [show (((q[i]!:Nat):Int) == m[j]!) = (m[j]! == ((q[i]!:Nat):Int)) from Bool.beq_comm]
    cases m[j]! == ((q[i]!:Nat):Int) <;> rfl) (by
    unfold G3
    rw [if_neg (by simp)])
   rw [ho]
   rcases o with k | u
   ·simp only [Option.bind_some]
    rw [hc.2,decide_eq_true hc.1]
   ·simp only [Option.bind_some]
    rw [hc]; rfl
  rw [hcon]
  simp only [Option.bind_some]
  cases ((ints q).take i).any (· == (ints q)[i]!) with
  | true=>rfl
  | false =>
   simp only [Bool.false_eq_true,if_false]
   have hg:=hch q[i]! i hf (by omega)
   unfold A38
   rw [hg,Option.getD_some,C86 ok (hz.take i) ⟨hf,ok.person _ (J7 (by omega))⟩]
   simp only [Option.bind_some]
   rw [E0 (by omega),← D3p h hi]
   rfl) (fun _=>by
  unfold A13
  simp only []
  rw [if_neg (by rw [hil]; simp),List.take_of_length_le (by unfold prs; rw [B3e h.len]; exact Nat.le_refl _)])
 rw [show ((0:Int),J4 r []) = (((0:Nat):Int),J4 r ((prs r q).take 0)) from rfl,this]
 have ha:=C9p (n:=q.length) (p:=A71 (ints q)) (f:=fun i=>if A71 (ints q) i then some (Sum.inl ():Unit ⊕ dress_plan) else none) (fun i _=>by cases A71 (ints q) i <;> rfl)
 have hd:B89 (ints q) = (List.range q.length).any (A71 (ints q)):= by unfold B89; rw [hil]
 rw [hd,← ha]
 cases hf:first (fun i=>if A71 (ints q) i then some (Sum.inl ():Unit ⊕ dress_plan) else none) q.length with
 | none=>rfl
 | some x =>
  obtain ⟨k,_,h1,_⟩:=N0 hf
  cases hq:A71 (ints q) k with
  | false=>rw [hq] at h1; cases h1
  | true=>rw [hq] at h1; cases h1; rfl
theorem B47 (r:DrRoom) (hb:NB r) (l:List Int) (hl:l.length < 9223372036854775808):A6u r l = some (if R4 r l ≠ 0 then (plan0,R4 r l) else (J4 r (prs r (nats l)),0)):= by
 unfold A6u
 rw [A6d r hb]
 simp only [Option.bind_some]
 by_cases h0:(chk r).2.2 = 0
 ·obtain ⟨ok,-⟩:=(S5 r).mp h0
  have hF:=ok.figures
  obtain ⟨ch,e1,hch⟩:=C3h ok
  rw [if_neg (by simp [h0]),e1]
  simp only [Option.bind_some]
  by_cases h1:l.length = r.Persons.length
  ·rw [if_neg (by simp [h1]),E0 (by omega),A9f _ _ _ (by omega)]
   simp only [Option.bind_some]
   cases h2:l.any (out 0 ((r.Figures.length:Int) - 1)) with
   | true =>
    have:R4 r l = 4:= by unfold R4; rw [if_neg (fun c=>c h0),if_neg (fun c=>c h1),h2]; rfl
    rw [this]; rfl
   | false =>
    have hq:R4 r l = if B89 l then 5 else 0:= by unfold R4; rw [if_neg (fun c=>c h0),if_neg (fun c=>c h1),h2]; rfl
    have c2:=B1p.mp h2
    have el:l = ints (nats l):= by
     unfold ints nats
     rw [List.map_map]
     conv=>lhs; rw [← List.map_id l]
     refine List.map_congr_left fun x hx=>?_
     have:=c2 x hx
     simp; omega
    have q:QOk r (nats l):=⟨by unfold nats; rw [List.length_map]; omega,fun x hx=>by
     unfold nats at hx
     obtain ⟨y,hy,rfl⟩:=List.mem_map.mp hx
     have:=c2 y hy
     omega⟩
    have hlp:loop (A13 r ch l) (0,begin0 r) = some (if B89 l then .inl () else .inr (J4 r (prs r (nats l)))):= by
     have:=C2j ok hch q (by unfold nats; rw [List.length_map]; exact h1)
     rw [← el,← C28 ok] at this
     exact this
    rw [hq,hlp]
    cases B89 l <;> rfl
  ·have:R4 r l = 3:= by unfold R4; rw [if_neg (fun c=>c h0),if_pos h1]
   rw [this,if_pos (by rw [bne_iff_ne]; omega)]; rfl
 ·have:R4 r l = (chk r).2.2:= by unfold R4; rw [if_pos h0]
  rw [this,if_pos h0,if_pos (by simpa using h0)]
theorem C7t (r:DrRoom) (hb:NB r) (l:List Int) (hl:l.length < 9223372036854775808):A0l r l = A3g r l:= by
 rw [A87 r l hl]
 unfold A0l
 rw [B47 r hb l hl]
 simp only [Option.bind_some]
 by_cases h:R4 r l = 0
 ·obtain ⟨ok,e,q,-⟩:=A84 h
  have hr:∀{α:Type} (a b:α),(if R4 r l ≠ 0 then a else b) = b:=fun a b=>if_neg (fun c=>c h)
  rw [hr,hr,if_neg (by simp),B6j ok (q.pr ok)]
  simp only [Option.bind_some]
  cases A4u r (prs r (nats l)) <;> rfl
 ·have hr:∀{α:Type} (a b:α),(if R4 r l ≠ 0 then a else b) = a:=fun a b=>if_pos h
  rw [hr,hr,if_pos (by simpa using h)]
section
variable {α β σ ρ:Type}
def W4 (f:α→σ→Option (σ ⊕ ρ)):List α→σ→Option (σ ⊕ ρ)
 | [],s=>some (.inl s)
 | a :: l,s=>(f a s).bind fun x=>match x with
  | .inl s'=>W4 f l s'
  | .inr r=>some (.inr r)
theorem B14 (f:α→σ→Option (σ ⊕ ρ)) (m:List α):∀(l:List α) (s:σ),W4 f (l++m) s = (W4 f l s).bind fun x=>match x with
  | .inl s'=>W4 f m s'
  | .inr r=>some (.inr r)
 | [],s=>rfl
 | a :: l,s=>by
  show (f a s).bind _ = ((f a s).bind _).bind _
  cases f a s with
  | none=>rfl
  | some x=>cases x with
   | inl s'=>exact B14 f m l s'
   | inr r=>rfl
theorem B61 (f:α→σ→Option (σ ⊕ ρ)) (h:β→List α):∀(l:List β) (s:σ),W4 f (l.flatMap h) s = W4 (fun b s=>W4 f (h b) s) l s
 | [],s=>rfl
 | b :: l,s=>by
  rw [List.flatMap_cons,B14]
  show _ = (W4 f (h b) s).bind _
  cases W4 f (h b) s with
  | none=>rfl
  | some x=>cases x with
   | inl s'=>exact B61 f h l s'
   | inr r=>rfl
theorem A7e (f:α→σ→Option (σ ⊕ ρ)) (p:α→Bool):∀(l:List α) (s:σ),W4 f (l.filter p) s = W4 (fun a s=>if p a then f a s else some (.inl s)) l s
 | [],s=>rfl
 | a :: l,s=>by
  rw [List.filter_cons]
  cases h:p a with
  | false =>
   rw [if_neg (by decide),A7e f p l s]
   show _ = (if p a then f a s else some (.inl s)).bind _
   rw [h]; rfl
  | true =>
   rw [if_pos rfl]
   show (f a s).bind _ = (if p a then f a s else some (.inl s)).bind _
   rw [h,if_pos rfl]
   cases f a s with
   | none=>rfl
   | some x=>cases x with
    | inl s'=>exact A7e f p l s'
    | inr r=>rfl
def D95 (i:Nat):σ ⊕ ρ→(Int × σ) ⊕ (ρ ⊕ σ)
 | .inl s=>.inl (((i + 1:Nat):Int),s)
 | .inr r=>.inr (.inl r)
def C83:σ ⊕ ρ→ρ ⊕ σ
 | .inl s=>.inr s
 | .inr r=>.inl r
end
def A8n (n:Nat) (q:List Nat):List Nat:=(List.range n).filter fun f=>!q.contains f
def DF (n:Nat):Nat→List Nat→List (List Nat)
 | 0,q=>[q]
 | d + 1,q=>(A8n n q).flatMap fun f=>DF n d (q++[f])
def bit (u i:Nat):Bool:=u / 2 ^ i % 2 == 1
def C2v (u:Int) (q:List Nat):Prop:=∃ n:Nat,u = (n:Int)∧n < 64∧∀ f,f < 6→bit n f = q.contains f
theorem C8s:∀u:Nat,u < 64→∀ p:Nat,p < 6→orI (u:Int) ((2 ^ p:Nat):Int) = ((u ||| 2 ^ p:Nat):Int)∧(u ||| 2 ^ p) < 64:= by decide +kernel
theorem D7n:∀u:Nat,u < 64→∀ p:Nat,p < 6→∀ t:Nat,t < 6→bit (u ||| 2 ^ p) t = (bit u t || t == p):= by decide +kernel
theorem C7j:C2v 0 []:=⟨0,rfl,by decide,by decide⟩
theorem D02 {u:Int} {q:List Nat} (hu:C2v u q) {p:Nat} (hp:p < 6):C2v (orI u ((2 ^ p:Nat):Int)) (q++[p]):= by
 obtain ⟨n,rfl,h1,h2⟩:=hu
 refine ⟨n ||| 2 ^ p,(C8s n h1 p hp).1,(C8s n h1 p hp).2,fun f hf=>?_⟩
 rw [D7n n h1 p hp f hf,h2 f hf,Bool.eq_iff_iff]
 simp
def B0e (n:Nat) (S k:Nat):List Nat:=(List.range n).filter fun i=>decide (k≤i) && bit S i
def A1g (r:DrRoom) (S k:Nat):List DrLook:=(B0e r.Persons.length S k).map fun i=>r.Persons[i]!
theorem B1e (n S k:Nat):B0e n S k = (List.range' k (n - k)).filter (bit S):= by
 unfold B0e
 by_cases h:k≤n
 ·have e:List.range n = List.range k++List.range' k (n - k):= by
   rw [List.range_eq_range',List.range_eq_range',show List.range' k (n - k) = List.range' (0 + 1 * k) (n - k) by simp,List.range'_append]; congr 1; omega
  rw [e,List.filter_append,List.filter_eq_nil_iff.mpr (by
   intro i hi
   have:i < k:= by simpa using hi
   simp; omega),List.nil_append]
  refine List.filter_congr fun i hi=>?_
  rw [List.mem_range'_1] at hi
  rw [decide_eq_true hi.1,Bool.true_and]
 ·rw [show n - k = 0 by omega,List.range'_zero,List.filter_nil,List.filter_eq_nil_iff]
  intro i hi
  have:i < n:= by simpa using hi
  simp; omega
theorem B4c {n S k:Nat} (h:k < n):B0e n S k = if bit S k then k :: B0e n S (k + 1) else B0e n S (k + 1):= by
 rw [B1e,B1e,show n - k = (n - (k + 1)) + 1 by omega,List.range'_succ,List.filter_cons]
theorem D3v {n S k:Nat} (h:n≤k):B0e n S k = []:= by rw [B1e,show n - k = 0 by omega]; rfl
theorem C81 (r:DrRoom) (hP:r.Persons.length≤5) {S:Nat} (hS:S < 64):∀(d k:Nat),k + d = r.Persons.length →
  ∃ k':Nat,loop (B8m r (S:Int)) (k:Int) = some (k':Int)∧k≤k'∧k'≤r.Persons.length∧B0e r.Persons.length S k = B0e r.Persons.length S k'∧(k' < r.Persons.length→bit S k' = true):= by
 intro d k hk
 have key:∀(d k m:Nat),k + d = r.Persons.length→d < m→∃ k':Nat,A4d (B8m r (S:Int)) m (k:Int) = some (k':Int)∧k≤k'∧k'≤r.Persons.length∧B0e r.Persons.length S k = B0e r.Persons.length S k'∧(k' < r.Persons.length→bit S k' = true):= by
  intro d
  induction d with
  | zero =>
   intro k m hk hm
   obtain ⟨m',rfl⟩:∃m',m = m' + 1:=⟨m - 1,by omega⟩
   refine ⟨k,?_,Nat.le_refl _,by omega,rfl,fun c=>by omega⟩
   rw [H8]
   unfold B8m
   rw [if_neg (by simp; omega)]; rfl
  | succ d ih =>
   intro k m hk hm
   obtain ⟨m',rfl⟩:∃m',m = m' + 1:=⟨m - 1,by omega⟩
   have hb:(B0t ((S / 2 ^ k:Nat):Int) 1 == 0) = !bit S k:=and0 (Nat.lt_of_le_of_lt (Nat.div_le_self _ _) hS)
   have e:B8m r (S:Int) (k:Int) = if bit S k then some (.inr (k:Int)) else some (.inl ((k + 1:Nat):Int)):= by
    unfold B8m
    rw [if_pos (by simp; omega),C2r _ _ (by omega)]
    simp only [Option.bind_some]
    rw [hb,E0 (by omega)]
    cases bit S k <;> rfl
   cases hq:bit S k with
   | true =>
    refine ⟨k,?_,Nat.le_refl _,by omega,rfl,fun _=>hq⟩
    rw [H8,e,hq]; rfl
   | false =>
    obtain ⟨k',h1,h2,h3,h4,h5⟩:=ih (k + 1) m' (by omega) (by omega)
    refine ⟨k',?_,by omega,h3,?_,h5⟩
    ·rw [H8,e,hq]; exact h1
    ·rw [B4c (by omega),hq,← h4]; rfl
 exact key d k _ hk (by omega)
section
variable {σ ρ:Type}
theorem D38 {q:List Nat} {ps:List DrLook} {f:Nat} {p:DrLook} {l:List DrLook} (h:ps.drop q.length = p :: l):(q++[f]).zip ps = q.zip ps++[(f,p)]∧ps.drop (q++[f]).length = l:= by
 have hps:ps = ps.take q.length++p :: l:= by rw [← h,List.take_append_drop]
 have hlen:(ps.take q.length).length = q.length:= by
  have:q.length < ps.length:= by
   have:=congrArg List.length h
   rw [List.length_drop] at this; simp at this; omega
  rw [List.length_take]; omega
 constructor
 ·generalize ps.take q.length = a at *
  subst hps
  rw [List.zip_append hlen.symm]
  have:q.zip (a++p :: l) = q.zip a++([]:List Nat).zip (p :: l):= by
   rw [← List.zip_append hlen.symm,List.append_nil]
  rw [this]; simp
 ·rw [List.length_append,← List.drop_drop,h]; rfl
theorem D2x {r:DrRoom} (ok:RmOk r) {ch:Chg} (hch:C5w r ch) {S:Nat} (hS:S < 64) (ps:List DrLook) (hps:∀p ∈ ps,LkOk r (-1) p) (hpl:ps.length≤5) (body:dress_plan→σ→Option (σ ⊕ ρ)) :
  ∀ (d k:Nat) (q:List Nat) (u:Int) (s:σ) (X:σ ⊕ ρ) (m:Nat),ps.drop q.length = A1g r S k→(A1g r S k).length = d→k≤r.Persons.length→C2v u q→(∀ f ∈ q,f < r.Figures.length)→q.length + d = ps.length→d < m →
   W4 (fun q s=>body (J4 r (q.zip ps)) s) (DF r.Figures.length d q) s = some X→A75 r ch (S:Int) body m (k:Int) u (J4 r (q.zip ps)) s = some X:= by
 have hP:=ok.persons
 have hF:=ok.figures
 intro d
 induction d with
 | zero =>
  intro k q u s X m hd hl hk hu hq hlen hm hf
  obtain ⟨m',rfl⟩:∃m',m = m' + 1:=⟨m - 1,by omega⟩
  obtain ⟨k',h1,h2,h3,h4,h5⟩:=C81 r hP hS (r.Persons.length - k) k (by omega)
  have e:k' = r.Persons.length:= by
   by_cases c:k' < r.Persons.length
   ·unfold A1g at hl
    rw [h4,B4c c,h5 c] at hl
    simp at hl
   ·omega
  subst e
  unfold A75
  rw [h1]
  simp only [Option.bind_some,BEq.rfl,if_true]
  unfold DF at hf
  unfold W4 at hf
  cases hb:body (J4 r (q.zip ps)) s with
  | none=>rw [hb] at hf; cases hf
  | some x=>rw [hb] at hf; cases x <;> cases hf <;> rfl
 | succ d ih =>
  intro k q u s X m hd hl hk hu hq hlen hm hf
  obtain ⟨m',rfl⟩:∃m',m = m' + 1:=⟨m - 1,by omega⟩
  obtain ⟨k',h1,h2,h3,h4,h5⟩:=C81 r hP hS (r.Persons.length - k) k (by omega)
  have c:k' < r.Persons.length:= by
   by_cases c:k' < r.Persons.length
   ·exact c
   ·unfold A1g at hl
    rw [h4,D3v (by omega)] at hl
    simp at hl
  have hsel:A1g r S k = r.Persons[k']! :: A1g r S (k' + 1):= by
   unfold A1g
   rw [h4,B4c c,h5 c]; rfl
  rw [hsel] at hd hl
  have hne:((k':Int) == (r.Persons.length:Int)) = false:= by simp; omega
  have hPk:LkOk r (-1) r.Persons[k']!:=ok.person _ (J7 c)
  have hz:B5j r (q.zip ps):=⟨by rw [List.length_zip]; omega,fun x hx=>by
   have:=List.of_mem_zip (a:=x.1) (b:=x.2) hx
   exact ⟨hq _ this.1,hps _ this.2⟩⟩
  unfold A75
  rw [h1]
  simp only [Option.bind_some,hne,Bool.false_eq_true,if_false]
  unfold DF A8n at hf
  rw [B61,A7e] at hf
  have hloop:loop (B9a r ch (A75 r ch (S:Int) body m') (k':Int) u (J4 r (q.zip ps))) (0,s) = some (C83 X):= by
   have key:∀(j i m2:Nat) (s:σ),i + j = r.Figures.length→j < m2→W4 (fun f s=>if (!q.contains f) = true then W4 (fun q s=>body (J4 r (q.zip ps)) s) (DF r.Figures.length d (q++[f])) s else some (.inl s)) ((List.range r.Figures.length).drop i) s = some X →
     A4d (B9a r ch (A75 r ch (S:Int) body m') (k':Int) u (J4 r (q.zip ps))) m2 ((i:Int),s) = some (C83 X):= by
    intro j
    induction j with
    | zero =>
     intro i m2 s hi hm2 h
     obtain ⟨m3,rfl⟩:∃m3,m2 = m3 + 1:=⟨m2 - 1,by omega⟩
     rw [List.drop_of_length_le (by simp; omega)] at h
     cases h
     rw [H8]
     unfold B9a
     simp only []
     rw [if_neg (by simp; omega)]; rfl
    | succ j ihj =>
     intro i m2 s hi hm2 h
     obtain ⟨m3,rfl⟩:∃m3,m2 = m3 + 1:=⟨m2 - 1,by omega⟩
     have hi2:i < (List.range r.Figures.length).length:= by simp; omega
     rw [List.drop_eq_getElem_cons hi2,List.getElem_range] at h
     obtain ⟨n,rfl,hn,hbit⟩:=hu
     have hb:(B0t ((n / 2 ^ i:Nat):Int) 1 == 1) = q.contains i:= by
      rw [and1 (Nat.lt_of_le_of_lt (Nat.div_le_self _ _) hn)]; exact hbit i (by omega)
     unfold W4 at h
     cases hc:q.contains i with
     | true =>
      have e:B9a r ch (A75 r ch (S:Int) body m') (k':Int) (n:Int) (J4 r (q.zip ps)) ((i:Int),s) = some (.inl (((i + 1:Nat):Int),s)):= by
       unfold B9a
       simp only []
       rw [if_pos (by simp; omega),C2r _ _ (by omega)]
       simp only [Option.bind_some]
       rw [hb,hc,if_pos rfl,E0 (by omega)]; rfl
      rw [hc] at h
      rw [H8,e]
      exact ihj (i + 1) m3 s (by omega) (by omega) h
     | false =>
      rw [hc] at h
      simp only [Bool.not_false,if_true] at h
      obtain ⟨z1,z2⟩:=D38 (f:=i) hd
      cases hX:W4 (fun q s=>body (J4 r (q.zip ps)) s) (DF r.Figures.length d (q++[i])) s with
      | none=>rw [hX] at h; cases h
      | some Y =>
       rw [hX] at h
       have hr:=ih (k' + 1) (q++[i]) (orI (n:Int) ((2 ^ i:Nat):Int)) s Y m' (by rw [z2]) (by simpa using hl) (by omega) (D02 ⟨n,rfl,hn,hbit⟩ (by omega)) (fun f hf=>by
        rcases List.mem_append.mp hf with hf | hf
        ·exact hq f hf
        ·have:f = i:= by simpa using hf
         omega) (by rw [List.length_append]; simp; omega) (by omega) hX
       rw [z1] at hr
       have e:B9a r ch (A75 r ch (S:Int) body m') (k':Int) (n:Int) (J4 r (q.zip ps)) ((i:Int),s) = some (D95 i Y):= by
        unfold B9a
        simp only []
        rw [if_pos (by simp; omega),C2r _ _ (by omega)]
        simp only [Option.bind_some]
        rw [hb,hc,if_neg (by decide)]
        have hg:=hch i k' (by omega) c
        unfold A38
        rw [hg,Option.getD_some,C86 ok hz ⟨by omega,hPk⟩]
        simp only [Option.bind_some]
        rw [A96 i (by omega),E0 (n:=(k':Int) + 1) (by omega)]
        simp only [Option.bind_some]
        rw [show (((k':Nat):Int) + 1) = ((k' + 1:Nat):Int) from rfl,hr]
        cases Y with
        | inl s'=>simp only [Option.bind_some]; rw [E0 (by omega)]; rfl
        | inr x=>rfl
       rw [H8,e]
       cases Y with
       | inl s'=>exact ihj (i + 1) m3 s' (by omega) (by omega) h
       | inr x=>cases h; rfl
   exact key r.Figures.length 0 _ s (by omega) (by omega) hf
  rw [hloop]
  cases X <;> rfl
end
theorem B6e {n:Nat}:∀{d:Nat} {q p:List Nat},p ∈ DF n d q↔∃ t,p = q++t∧t.length = d∧t.Nodup∧∀ x ∈ t,x < n∧x ∉ q
 | 0,q,p=>by
  unfold DF
  rw [List.mem_singleton]
  constructor
  ·rintro rfl; exact ⟨[],by simp⟩
  ·rintro ⟨t,rfl,h,-,-⟩
   rw [List.length_eq_zero_iff.mp h,List.append_nil]
 | d + 1,q,p=>by
  unfold DF A8n
  rw [List.mem_flatMap]
  constructor
  ·rintro ⟨f,hf,hp⟩
   obtain ⟨t,rfl,h1,h2,h3⟩:=B6e.mp hp
   have hf:=List.mem_filter.mp hf
   have hfn:f < n:= by simpa using hf.1
   have hfq:f ∉ q:= by simpa using hf.2
   refine ⟨f :: t,by simp,by simp [h1],?_,?_⟩
   ·rw [List.nodup_cons]
    exact ⟨fun c=>(h3 f c).2 (by simp),h2⟩
   ·intro x hx
    rcases List.mem_cons.mp hx with rfl | hx
    ·exact ⟨hfn,hfq⟩
    ·have:=h3 x hx
     exact ⟨this.1,fun c=>this.2 (List.mem_append_left _ c)⟩
  ·rintro ⟨t,rfl,h1,h2,h3⟩
   cases t with
   | nil=>cases h1
   | cons f t =>
    rw [List.nodup_cons] at h2
    have hf:=h3 f (List.mem_cons_self ..)
    refine ⟨f,List.mem_filter.mpr ⟨by simpa using hf.1,by simpa using hf.2⟩,B6e.mpr ⟨t,by simp,by simpa using h1,h2.2,fun x hx=>⟨(h3 x (List.mem_cons_of_mem _ hx)).1,fun c=>?_⟩⟩⟩
    rcases List.mem_append.mp c with c | c
    ·exact (h3 x (List.mem_cons_of_mem _ hx)).2 c
    ·have:x = f:= by simpa using c
     subst this; exact h2.1 hx
def perms (n d:Nat):List (List Nat):=DF n d []
theorem A90 {n d:Nat} {p:List Nat}:p ∈ perms n d↔p.length = d∧p.Nodup∧∀ x ∈ p,x < n:= by
 unfold perms
 rw [B6e]
 constructor
 ·rintro ⟨t,rfl,h1,h2,h3⟩
  exact ⟨h1,h2,fun x hx=>(h3 x hx).1⟩
 ·rintro ⟨h1,h2,h3⟩
  exact ⟨p,rfl,h1,h2,fun x hx=>⟨h3 x hx,by simp⟩⟩
theorem C1x {α β:Type} {f:α→List β} {b:Nat}:∀{l:List α},(∀ x ∈ l,(f x).length≤b)→(l.flatMap f).length≤l.length * b
 | [],_=>by simp
 | x :: l,h=>by
  have h1:=h x (List.mem_cons_self ..)
  have ih:=C1x (l:=l) fun y hy=>h y (List.mem_cons_of_mem _ hy)
  rw [List.flatMap_cons,List.length_append,List.length_cons,Nat.succ_mul]; omega
theorem B5r {n:Nat} (hn:n≤6):∀(d:Nat) (q:List Nat),(DF n d q).length≤6 ^ d
 | 0,q=>by simp [DF]
 | d + 1,q=>by
  unfold DF
  have h1:(A8n n q).length≤6:= by
   unfold A8n
   exact Nat.le_trans (List.length_filter_le _ _) (by simpa using hn)
  have:=C1x (l:=A8n n q) (f:=fun f=>DF n d (q++[f])) (b:=6 ^ d) fun f _=>B5r hn d _
  rw [Nat.pow_succ]
  calc _≤(A8n n q).length * 6 ^ d:=this
   _≤6 * 6 ^ d:=Nat.mul_le_mul_right _ h1
   _ = 6 ^ d * 6:=Nat.mul_comm _ _
theorem B1c {n d:Nat} (hn:n≤6) (hd:d≤5):(perms n d).length≤7776 :=
 Nat.le_trans (B5r hn d []) (Nat.le_trans (Nat.pow_le_pow_right (by decide) hd) (by decide))
def fm {α:Type} (k:α→Int):List α→Option α
 | []=>none
 | x :: l=>match fm k l with
  | none=>some x
  | some y=>if k y < k x then some y else some x
section
variable {α:Type} {k:α→Int}
theorem B12:∀{l:List α},fm k l = none↔l = []
 | []=>⟨fun _=>rfl,fun _=>rfl⟩
 | x :: l=>by
  refine ⟨fun h=>?_,fun h=>by cases h⟩
  unfold fm at h
  split at h
  ·cases h
  ·split at h <;> cases h
theorem B13:∀{l:List α} {b:α},fm k l = some b→(∀ y ∈ l,k b≤k y)∧∃ A B,l = A++b :: B∧∀ a ∈ A,k b < k a
 | [],b,h=>by cases h
 | x :: l,b,h=>by
  unfold fm at h
  cases hf:fm k l with
  | none =>
   rw [hf] at h; cases h
   rw [B12.mp hf]
   exact ⟨by simp,[],[],rfl,by simp⟩
  | some y =>
   rw [hf] at h
   obtain ⟨h1,A,B,rfl,h3⟩:=B13 hf
   simp only at h
   split at h
   ·next c =>
    cases h
    refine ⟨fun z hz=>?_,x :: A,B,rfl,fun a ha=>?_⟩
    ·rcases List.mem_cons.mp hz with rfl | hz
     ·omega
     ·exact h1 z hz
    ·rcases List.mem_cons.mp ha with rfl | ha
     ·exact c
     ·exact h3 a ha
   ·next c =>
    cases h
    refine ⟨fun z hz=>?_,[],A++y :: B,rfl,by simp⟩
    rcases List.mem_cons.mp hz with rfl | hz
    ·exact Int.le_refl _
    ·have:=h1 z hz; omega
theorem B0x {l:List α} {b:α} (h:fm k l = some b):b ∈ l:= by
 obtain ⟨_,A,B,rfl,_⟩:=B13 h
 simp
theorem D6a {l:List α} {b:α} (h:fm k l = some b) {y:α} (hy:y ∈ l):k b≤k y:=(B13 h).1 y hy
theorem C1y (y:α):∀(l:List α),fm k (l++[y]) = match fm k l with
  | none=>some y
  | some b=>if k y < k b then some y else some b
 | []=>rfl
 | x :: l=>by
  show (match fm k (l++[y]) with | none=>some x | some z=>if k z < k x then some z else some x) = match (match fm k l with | none=>some x | some z=>if k z < k x then some z else some x) with | none=>some y | some b=>if k y < k b then some y else some b
  rw [C1y y l]
  cases fm k l with
  | none=>rfl
  | some b =>
   simp only
   by_cases c1:k b < k x <;> by_cases c2:k y < k b <;> by_cases c3:k y < k x <;> simp only [c1,c2,c3,if_true,if_false] <;> omega
theorem D12 {β:Type} (g:β→α):∀(l:List β),fm k (l.map g) = (fm (fun x=>k (g x)) l).map g
 | []=>rfl
 | x :: l=>by
  rw [List.map_cons]
  unfold fm
  rw [D12 g l]
  cases fm (fun x=>k (g x)) l with
  | none=>rfl
  | some y =>
   simp only [Option.map_some]
   split <;> rfl
end
theorem D7o {r:DrRoom} {z:Prs} (h:z.length≤5):A2c (J4 r z) = some (J4 r z):= by
 have hl:(ints (z.map (·.1))).length = z.length:= by rw [F0,List.length_map]
 unfold A2c
 show (C0r 8 ((ints (z.map (·.1))).length:Int) 0).bind _ = _
 rw [hl]
 unfold C0r
 rw [if_pos ⟨by omega,by omega,by omega⟩]
 simp only [Option.bind_some,Option.some.injEq]
 have:cpy (List.replicate (z.length:Int).toNat (0:Int)) (ints (z.map (·.1))) = ints (z.map (·.1)):= by
  unfold cpy
  rw [List.length_replicate,Int.toNat_natCast,hl,Nat.min_self,List.take_of_length_le (by omega),List.drop_of_length_le (by simp),List.append_nil]
 show (⟨cpy _ (ints (z.map (·.1))),_,_⟩:dress_plan) = _
 rw [this]; rfl
section
variable {α β ρ:Type}
theorem B0j {f:α→List β→Option (List β ⊕ ρ)} {p:α→Bool} {g:α→β}:∀{l:List α} {s:List β},s.length + l.length≤1000000000→(∀ a ∈ l,∀ s:List β,s.length < 1000000000→f a s = some (.inl (if p a then s++[g a] else s)))→W4 f l s = some (.inl (s++(l.filter p).map g))
 | [],s,_,_=>by simp [W4]
 | a :: l,s,hl,h=>by
  rw [List.length_cons] at hl
  unfold W4
  rw [h a (List.mem_cons_self ..) s (by omega)]
  simp only [Option.bind_some]
  have hq:(if p a then s++[g a] else s).length + l.length≤1000000000:= by
   split
   ·rw [List.length_append,List.length_singleton]; omega
   ·omega
  rw [B0j hq fun b hb=>h b (List.mem_cons_of_mem _ hb),List.filter_cons]
  cases p a <;> simp
end
structure PsOk (r:DrRoom) (ps:List DrLook):Prop where
 len:ps.length≤5
 look:∀p ∈ ps,LkOk r (-1) p
theorem PsOk.pr {r:DrRoom} {ps:List DrLook} (h:PsOk r ps) {q:List Nat} (hq:q ∈ perms r.Figures.length ps.length):B5j r (q.zip ps):= by
 have hq:=A90.mp hq
 refine ⟨by rw [List.length_zip]; have:=h.len; omega,fun x hx=>?_⟩
 have:=List.of_mem_zip (a:=x.1) (b:=x.2) hx
 exact ⟨hq.2.2 _ this.1,h.look _ this.2⟩
def AL (r:DrRoom) (ps:List DrLook):List (List Nat):=(perms r.Figures.length ps.length).filter fun q=>A4u r (q.zip ps)
theorem B0r {r:DrRoom} {ps:List DrLook} {q:List Nat}:q ∈ AL r ps↔(q.length = ps.length∧q.Nodup∧∀ x ∈ q,x < r.Figures.length)∧A4u r (q.zip ps) = true:= by
 unfold AL; rw [List.mem_filter,A90]
theorem B5q {r:DrRoom} (ok:RmOk r) {ps:List DrLook} (h:PsOk r ps):(AL r ps).length≤7776 :=
 Nat.le_trans (List.length_filter_le _ _) (B1c ok.figures h.len)
theorem C2q {r:DrRoom} (ok:RmOk r) (S k:Nat):PsOk r (A1g r S k):= by
 refine ⟨?_,fun p hp=>?_⟩
 ·unfold A1g B0e
  rw [List.length_map]
  have:=List.length_filter_le (fun i=>decide (k≤i) && bit S i) (List.range r.Persons.length)
  have:=ok.persons
  simp at *; omega
 ·unfold A1g B0e at hp
  obtain ⟨i,hi,rfl⟩:=List.mem_map.mp hp
  have:i < r.Persons.length:= by simpa using (List.mem_filter.mp hi).1
  exact ok.person _ (J7 this)
theorem C61 {σ ρ:Type} {r:DrRoom} (ok:RmOk r) {ch:Chg} (hch:C5w r ch) {S:Nat} (hS:S < 64) (body:dress_plan→σ→Option (σ ⊕ ρ)) {s:σ} {X:σ ⊕ ρ}
  (h:W4 (fun q s=>body (J4 r (q.zip (A1g r S 0))) s) (perms r.Figures.length (A1g r S 0).length) s = some X):A91 r ch (S:Int) σ ρ body s = some X:= by
 have hp:=C2q ok S 0
 unfold A91
 have:=D2x ok hch hS (A1g r S 0) hp.look hp.len body (A1g r S 0).length 0 [] 0 s X 64 rfl rfl (Nat.zero_le _) C7j (by simp) (by simp) (by have:=hp.len; omega) h
 rw [C28 ok]
 exact this
theorem C82 {r:DrRoom} (ok:RmOk r) {ch:Chg} (hch:C5w r ch) {S:Nat} (hS:S < 64):R8 r ch (S:Int) = some ((AL r (A1g r S 0)).map fun q=>J4 r (q.zip (A1g r S 0))):= by
 have hp:=C2q ok S 0
 have hF:=ok.figures
 have hsz:=B1c hF hp.len
 unfold R8
 rw [C61 ok hch hS A97 (s:=[]) (X:=.inl ((AL r (A1g r S 0)).map fun q=>J4 r (q.zip (A1g r S 0)))) (by
  have:=B0j (ρ:=Unit) (l:=perms r.Figures.length (A1g r S 0).length) (s:=([]:List dress_plan)) (f:=fun q s=>A97 (J4 r (q.zip (A1g r S 0))) s) (p:=fun q=>A4u r (q.zip (A1g r S 0))) (g:=fun q=>J4 r (q.zip (A1g r S 0))) (by simp; omega) (fun q hq s hs=>by
   have hz:=hp.pr hq
   unfold A97
   rw [B6j ok hz]
   simp only [Option.bind_some]
   cases A4u r (q.zip (A1g r S 0)) with
   | false=>rfl
   | true =>
    rw [if_pos rfl,D7o hz.1]
    simp only [Option.bind_some]
    rw [V5 (by omega) (by simp; omega)]; rfl)
  rw [this]; rfl)]
 rfl
theorem less1 (p q:dress_plan):B7d by1 p q = some (decide (p.cost_ < q.cost_)):= by
 unfold B7d
 have h1:∀i:Nat,i = 0→A5o by1 p q (i:Int) = some (if p.cost_ = q.cost_ then .inl 1 else .inr (.inl (decide (p.cost_ < q.cost_)))):= by
  rintro i rfl
  unfold A5o
  rw [if_pos (by decide)]
  rw [show idx by1 ((0:Nat):Int) = some (94,U7) from rfl]
  simp only [Option.bind_some,U7]
  by_cases c:p.cost_ = q.cost_
  ·rw [if_neg (by simp [c]),if_pos c]; rfl
  ·rw [if_pos (by simpa using c),if_neg c]
 have h2:A5o by1 p q 1 = some (.inr (.inr ())):= by unfold A5o; rw [if_neg (by decide)]
 by_cases c:p.cost_ = q.cost_
 ·have:=J9 (b:=A5o by1 p q) (fun i=>(i:Int)) 1 (r:=.inr ()) (by omega) (fun i hi=>by rw [h1 i (by omega),if_pos c]; congr 2; omega) h2
  rw [show (0:Int) = ((0:Nat):Int) from rfl,this,c]; simp
 ·have:=J9 (b:=A5o by1 p q) (fun i=>(i:Int)) 0 (r:=.inl (decide (p.cost_ < q.cost_))) (by omega) (fun i hi=>absurd hi (Nat.not_lt_zero i)) (by rw [h1 0 rfl,if_neg c])
  rw [show (0:Int) = ((0:Nat):Int) from rfl,this]; rfl
instance:Inhabited dress_plan:=⟨plan0⟩
theorem C9q (l:List dress_plan) (g:dress_plan × dress_plan→Option Bool) (k:dress_plan→Int) (hl:l.length < 1000000000) (hg:∀x ∈ l,∀ y ∈ l,g (x,y) = some (decide (k x < k y))) :
  M4 l g = some (match fm k l with | none=>(plan0,false) | some b=>(b,true)):= by
 unfold M4
 have:=J9 (b:=I5 l g) (fun i=>((match fm k (l.take i) with | none=>(false,(i:Int),plan0) | some b=>(true,(i:Int),b)):Bool × Int × dress_plan)) l.length (r:=match fm k l with | none=>(false,plan0) | some b=>(true,b)) (by omega) (fun i hi=>by
  have hsn:fm k (l.take (i + 1)) = match fm k (l.take i) with | none=>some l[i]! | some b=>if k l[i]! < k b then some l[i]! else some b:= by
   rw [List.take_succ_eq_append_getElem hi,C1y,getElem!_pos l i hi]
   cases fm k (l.take i) <;> rfl
  rw [hsn]
  cases hf:fm k (l.take i) with
  | none =>
   have h0:i = 0:= by
    have:=congrArg List.length (B12.mp hf)
    rw [List.length_take,List.length_nil] at this; omega
   subst h0
   unfold I5
   simp only []
   rw [if_pos (by simpa using hi),H9 hi]; rfl
  | some b =>
   have h0:i ≠ 0:= by rintro rfl; cases hf
   have hb:b ∈ l:=List.mem_of_mem_take (B0x hf)
   unfold I5
   simp only []
   rw [if_pos (by simpa using hi),H9 hi]
   simp only [Option.bind_some]
   rw [if_neg (by simp; omega),hg _ (J7 hi) b hb,E0 (by omega)]
   simp only [Option.bind_some]
   by_cases c:k l[i]! < k b
   ·rw [if_pos (by simpa using c),if_pos c]; rfl
   ·rw [if_neg (by simpa using c),if_neg c]; rfl) (by
  rw [List.take_length]
  cases fm k l with
  | none=>unfold I5; simp only []; rw [if_neg (by simp)]
  | some b=>unfold I5; simp only []; rw [if_neg (by simp)])
 rw [show ((false,0,(dress_plan.mk ([]:List Int) 0 (Ar4.mk 0 0 0 0))):Bool × Int × dress_plan) = (match fm k (l.take 0) with | none=>(false,((0:Nat):Int),plan0) | some b=>(true,((0:Nat):Int),b)) from rfl,this]
 simp only [Option.bind_some]
 cases fm k l <;> rfl
def W1 (r:DrRoom) (ps:List DrLook) (q:List Nat):Int:=A6c r (q.zip ps)
def X9 (r:DrRoom) (ps:List DrLook):Option (List Nat):=fm (W1 r ps) (AL r ps)
theorem B5u {r:DrRoom} (ok:RmOk r) {ch:Chg} (hch:C5w r ch) {S:Nat} (hS:S < 64) :
  P3 r ch (S:Int) = some (match X9 r (A1g r S 0) with | none=>(plan0,false) | some q=>(J4 r (q.zip (A1g r S 0)),true)):= by
 unfold P3
 rw [C82 ok hch hS]
 simp only [Option.bind_some]
 rw [C9q _ _ (fun p=>p.cost_) (by rw [List.length_map]; have:=B5q ok (C2q ok S 0); omega) (fun x _ y _=>less1 x y),D12]
 unfold X9
 rw [show (fun x=>(J4 r (x.zip (A1g r S 0))).cost_) = W1 r (A1g r S 0) from rfl]
 cases fm (W1 r (A1g r S 0)) (AL r (A1g r S 0)) <;> rfl
end Ds
end
section
set_option maxRecDepth 100000
set_option maxHeartbeats 0
namespace Ds
open Go Am Go.Proofs.Ytdkflofgolehkaa.Cd
end Ds
end
section
set_option maxRecDepth 100000
namespace Ds
open Go Am Go.Proofs.Ytdkflofgolehkaa.Cd
end Ds
end
section
set_option maxRecDepth 100000
set_option maxHeartbeats 0
namespace Ds
open Go Am Go.Proofs.Ytdkflofgolehkaa.Cd
end Ds
end
section
namespace Ds
open Go Am
def B0f (r:DrRoom):List Int × Int × Int :=
 if (chk r).2.2 ≠ 0 then ([],0,(chk r).2.2) else
 match X9 r r.Persons with
 | none=>([],0,9)
 | some q=>(ints q,W1 r r.Persons q,0)
theorem D3u {n S:Nat} (h:∀i,i < n→bit S i = true):B0e n S 0 = List.range n:= by
 unfold B0e
 rw [List.filter_eq_self]
 intro i hi
 rw [h i (by simpa using hi)]; simp
theorem C0q {α:Type} [Inhabited α] (l:List α):(List.range l.length).map (fun i=>l[i]!) = l:= by
 apply List.ext_getElem
 ·simp
 ·intro i h1 h2
  rw [List.getElem_map,List.getElem_range,getElem!_pos l i h2]
theorem D3w {r:DrRoom} {S:Nat} (h:∀i,i < r.Persons.length→bit S i = true):A1g r S 0 = r.Persons:= by
 unfold A1g
 rw [D3u h,C0q]
theorem C7l:∀n:Nat,n < 6→∀ i:Nat,i < n→bit (2 ^ n - 1) i = true:= by decide
theorem B3c {r:DrRoom} (ok:RmOk r):J2 ⟨r⟩ = some ((2 ^ r.Persons.length - 1:Nat):Int):= by
 have hP:=ok.persons
 unfold J2
 show (B9o .i64 1 (r.Persons.length:Int)).bind _ = _
 rw [A96 _ (by omega)]
 simp only [Option.bind_some,Option.some.injEq]
 have h1:0 < 2 ^ r.Persons.length:=Nat.two_pow_pos _
 have h2:2 ^ r.Persons.length≤32:=Nat.le_trans (Nat.pow_le_pow_right (by decide) hP) (by decide)
 rw [E0 (by omega)]; omega
theorem B3d {r:DrRoom} (ok:RmOk r):2 ^ r.Persons.length - 1 < 64:= by
 have:2 ^ r.Persons.length≤32:=Nat.le_trans (Nat.pow_le_pow_right (by decide) ok.persons) (by decide)
 omega
theorem A7t {r:DrRoom} (ok:RmOk r):A1g r (2 ^ r.Persons.length - 1) 0 = r.Persons :=
 D3w fun i hi=>C7l _ (by have:=ok.persons; omega) i hi
theorem C88 {q:List Nat} {ps:List DrLook} (h:q.length = ps.length):(q.zip ps).map (·.1) = q:=List.map_fst_zip (by omega)
theorem D07 {r:DrRoom} {ps:List DrLook} {q:List Nat} (h:q ∈ AL r ps):q.length = ps.length:=(B0r.mp h).1.1
theorem C7q (r:DrRoom) (hb:NB r):A0j r = some (B0f r):= by
 unfold A0j B0f
 rw [A6d r hb]
 simp only [Option.bind_some]
 by_cases h0:(chk r).2.2 = 0
 ·obtain ⟨ok,-⟩:=(S5 r).mp h0
  obtain ⟨ch,e1,hch⟩:=C3h ok
  have hr:∀(a b:List Int × Int × Int),(if (chk r).2.2 ≠ 0 then a else b) = b:=fun a b=>if_neg (fun c=>c h0)
  rw [hr,if_neg (by simp [h0]),show loop (A5z r) (0,[]) = some ch from e1,B3c ok]
  simp only [Option.bind_some]
  rw [B5u ok hch (B3d ok),A7t ok]
  simp only [Option.bind_some]
  cases hb:X9 r r.Persons with
  | none=>rfl
  | some q =>
   have hl:=D07 (B0x hb)
   show some (ints ((q.zip r.Persons).map (·.1)),_,_) = _
   rw [C88 hl]; rfl
 ·rw [if_pos h0,if_pos (by simpa using h0)]
end Ds
end
section
set_option maxRecDepth 100000
namespace Ds
open Go Am
end Ds
end
section
set_option maxRecDepth 100000
set_option maxHeartbeats 0
namespace Ds
open Go Am Go.Proofs.Ytdkflofgolehkaa.Cd
end Ds
end
section
namespace Ds
open Go Am
def CL (r:DrRoom) (ps:List DrLook) (b:List Nat):List (List Nat):=(AL r ps).filter fun q=>W1 r ps q == W1 r ps b
end Ds
end
section
set_option maxRecDepth 100000
set_option maxHeartbeats 0
namespace Ds
open Go Am Go.Proofs.Ytdkflofgolehkaa.Cd
def A43 (a0:(List Int)) (a1:Int):Option Int :=
 if ((List.length a0:Int) == 0) = true then
  some 0
 else
  (D0o a1 (List.length a0:Int)).bind fun x2 =>
  (idx a0 x2).bind fun x3 =>
  some (w64 x3)
theorem B9d {c:Sc} {H:A1} {a0:(List Int)} {a1:Int} {r:Int} (h:A43 a0 a1 = some r) :
  E6 tab c H (.fn (.func 46) [] []) [(.seq 1 (List.map B3k a0)),.i a1] [.i r]:= by
 unfold A43 at h
 refine cE rfl rfl<|s0<|qm rfl<|es (ra2 rfl rfl)<|B7<|s0<|qm rfl<|A0 (D5 (f:=B3k) rfl) rfl<|A0 (F5 rfl rfl) rfl<|es (ra3 rfl rfl rfl)<|wi h rfl (fun hc1 h=>?_) fun hc1 h=>?_
 ·refine s0<|qm rfl<|es (ra1 rfl)<|C4 ?_
  obtain rfl:=os h
  exact retq trivial (B1 rfl B8) (A6 rfl B9) (A3 A8 B2)
 ·refine C1<|s0<|oB h fun x2 hx2 h=>oB h fun x3 hx3 h=>qm rfl<|qm rfl<|qm rfl<|A0 (D5 (f:=B3k) rfl) rfl<|A0 (D6f rfl rfl hx2) rfl<|A0 (E5 (f:=B3k) rfl rfl hx3) rfl<|A0 (F4 rfl rfl) rfl<|A0 (A8w rfl) rfl<|qm rfl<|es (ra1 rfl)<|C4 ?_
  obtain rfl:=os h
  exact retq trivial (B1 rfl B8) (A6 rfl B9) (A3 A8 B2)
end Ds
end
section
set_option maxRecDepth 100000
namespace Ds
open Go Am Go.Proofs.Ytdkflofgolehkaa.Cd
def B3i (t:DrRoom) (s:Int × List Int):Option ((Int × List Int) ⊕ List Int) :=
 if (decide (s.1 < (List.length t.Figures:Int))) = true then
  (app 8 s.2 [s.1]).bind fun l=>some (.inl (w64 (s.1 + 1),l))
 else some (.inr s.2)
def A8d (t:DrRoom) (x:List Int) (s:Int × List Int × List Int):Option ((Int × List Int × List Int) ⊕ List Int) :=
 if (decide (s.1 < (List.length t.Persons:Int)) && decide ((List.length s.2.2:Int) > 0)) = true then
  (A43 x s.1).bind fun q=>(D0o q (List.length s.2.2:Int)).bind fun k =>
  (idx s.2.2 k).bind fun v=>(app 8 s.2.1 [v]).bind fun o =>
  (slc s.2.2 0 k).bind fun a=>(app 8 ([]:List Int) a).bind fun a' =>
  (slc s.2.2 (w64 (k + 1)) (List.length s.2.2:Int)).bind fun b=>(app 8 a' b).bind fun l =>
  some (.inl (w64 (s.1 + 1),o,l))
 else some (.inr s.2.1)
def A6m (t:DrRoom) (x:List Int):Option (List Int) :=
 (loop (B3i t) (0,[])).bind fun left=>(loop (A8d t x) (0,[],left)).bind fun o=>some o
def arP (p:Bool) (l:List Int):AO:=.arr 1 p (l.map cI)
theorem A33 {α:Type} {l:List α} {i:Nat} {x:α} (h:l[i]? = some x):l.set i x = l:= by
 apply List.ext_getElem?
 intro k
 by_cases e:i = k
 ·subst e; rw [List.getElem?_set_self (List.getElem?_eq_some_iff.1 h).1,h]
 ·rw [List.getElem?_set_ne e]
structure AnyG (room:List AV) where
 L:List AO
 j:Nat
 h0:L[0]? = some (.cells room)
 h2:2 < L.length
 hj:j < L.length
 j0:j ≠ 0
 j2:j ≠ 2
def AnyG.M {room:List AV} (g:AnyG room) (s:Int × List Int × List Int):List AO:=(g.L.set 2 (arP false s.2.1)).set g.j (arP false s.2.2)
theorem C2e {c:Sc} {H:A1} {a0:DrRoom} {a1:List Int} {r:List Int} (h:A6m a0 a1 = some r) :
  E6 tab c H (.fn (.func 38) [] []) [(.agg (A4 a0)),(.seq 1 (List.map B3k a1))] [(.fresh 1 (List.map cI r))]:= by
 unfold A6m at h
 refine oB h fun left hleft h=>oB h fun o ho h=>?_
 obtain rfl:=os h
 refine cE rfl rfl<|sg 0 rfl<|A0 (F7 (cs:=A4 a0) rfl rfl rfl) rfl<|qm rfl<|es (ra2 rfl rfl)<|sg 1 rfl<|A0 A2w rfl<|A0 A2w rfl<|es (ra4 rfl rfl rfl rfl)<|B7<|s0<|qm rfl<|es (ra5 rfl rfl rfl rfl rfl)<|C3<|wl (fun s=>[(1,(.seq 1 (List.map B3k a1))),(2,.ptr (H.length + 0) 0),(5,.asl (H.length + 1) s.2.length),(6,.asl (H.length + 2) 0),(7,.i s.1)]) (fun (_:Unit) s=>[.cells (A4 a0),arP false s.2,arP false []]) 3 (fun r e s' H'=>PX 0 [(1,(.seq 1 (List.map B3k a1))),(2,.ptr (H.length + 0) 0),(5,.asl (H.length + 1) r.length),(6,.asl (H.length + 2) 0)] (H++[.cells (A4 a0),arP false r,arP false []]) e s' H') () hleft rfl rfl (fun _ _=>rfl) (fun _=>rfl) rfl (fun s=>bdc E8 (bdc (F2 rfl) (bdc (A0e rfl) (bdc (A0e rfl) (bdc A8 bdn))))) (fun _ s o hs=>?_) ?_
 ·unfold B3i at hs
  refine B7<|s0<|qm rfl<|A0 (D2 rfl) rfl<|A0 (C8 rfl rfl rfl) rfl<|A0 (D5 (f:=A5) rfl) rfl<|A0 (G9 rfl rfl) rfl<|es (ra6 rfl rfl rfl rfl rfl rfl)<|wi hs rfl (fun hc hs=>?_) fun hc hs=>?_
  ·refine oB hs fun l hl hs=>?_
   refine C1<|B7<|C3<|r0<|qm rfl<|qm rfl<|A0 (G4 (rows:=List.map cI [s.1]) rfl rfl (D8 (fun _=>rfl) _)) rfl<|R3 (W6 (f:=cI) rfl rfl rfl rfl S7 (fun _=>rfl) hl) rfl<|qm rfl<|en (ra5 rfl rfl rfl rfl rfl)<|r0<|qm rfl<|A0 (E7 rfl rfl) rfl<|qm rfl<|en (ra5 rfl rfl rfl rfl rfl) ?_
   cases hs
   exact lnT () rfl (su5 rfl rfl rfl rfl rfl)
  ·refine F8 ?_
   obtain rfl:=os hs
   exact lx rfl px (su4 rfl rfl rfl rfl)
 ·rintro e s' H' - ⟨rfl,rfl,rfl⟩
  refine B7<|s0<|qm rfl<|es (ra5 rfl rfl rfl rfl rfl)<|C3<|A0d (C5t (fun (g:AnyG (A4 a0)) (s:Int × List Int × List Int)=>[(1,(.seq 1 (List.map B3k a1))),(2,.ptr (H.length + 0) 0),(5,.asl (H.length + g.j) s.2.2.length),(6,.asl (H.length + 2) s.2.1.length),(8,.i s.1)]) (fun g s=>H++g.M s) (fun r e s' H'=>∃ L:List AO,L[2]? = some (arP false r)∧PX 2 [(6,.asl (H.length + 2) r.length)] (H++L) e s' H') (fun _ _=>rfl) (by decide) (fun g s o hs=>?_) ho ⟨[.cells (A4 a0),arP false left,arP false []],1,rfl,Nat.le_refl 3,Nat.le_of_ble_eq_true rfl,by decide,by decide⟩) ?_
  ·obtain ⟨L,j,h0,h2,hj,j0,j2⟩:=g
   generalize hM:AnyG.M ⟨L,j,h0,h2,hj,j0,j2⟩ s = M
   have hMe:(L.set 2 (arP false s.2.1)).set j (arP false s.2.2) = M:=hM
   have hlen:M.length = L.length:= by rw [← hMe]; simp
   have m0:M[0]? = some (.cells (A4 a0)):= by
    rw [← hMe,List.getElem?_set_ne j0,List.getElem?_set_ne (by decide)]; exact h0
   have m2:M[2]? = some (arP false s.2.1):= by
    rw [← hMe,List.getElem?_set_ne j2,List.getElem?_set_self h2]
   have mj:M[j]? = some (arP false s.2.2):= by
    rw [← hMe,List.getElem?_set_self (by simpa using hj)]
   unfold A8d at hs
   refine B7<|s0<|qm rfl<|A0 (D2 rfl) rfl<|A0 (C8 rfl m0 rfl) rfl<|A0 (D5 (f:=A5) rfl) rfl<|A0 (G9 rfl rfl) rfl<|qm rfl<|gp 4 30 (.b (decide (s.1 < (List.length a0.Persons:Int)) && decide ((List.length s.2.2:Int) > 0))) 26 rfl rfl (fun hg=>?_) (fun hg=>?_) ?_
   ·exact gT rfl hg<|qm rfl<|gT rfl hg<|A0 (A8z (f:=cI) rfl mj rfl) rfl<|gT rfl hg<|A0 (A70 rfl rfl) rfl<|A0 (C6 rfl hg rfl) rfl<|ge 4 (by rw [hg]; rfl) rfl rfl
   ·exact nT rfl hg rfl<|nT rfl hg rfl<|nT rfl hg rfl<|A0 (C5 rfl hg rfl) rfl<|ge 4 (by rw [hg]; rfl) rfl rfl
   refine es (ra6 rfl rfl rfl rfl rfl rfl)<|wi hs rfl (fun hc hs=>?_) fun hc hs=>?_
   ·refine oB hs fun q hq hs=>oB hs fun k hk hs=>oB hs fun v hv hs=>oB hs fun o' ho' hs=>oB hs fun a ha hs=>oB hs fun a' ha' hs=>oB hs fun b hb hs=>oB hs fun l hl hs=>?_
    have P2:(M.set 2 (arP false o'))[j]? = some (arP false s.2.2):= by rw [List.getElem?_set_ne (fun e=>j2 e.symm)]; exact mj
    have hl2:(M.set 2 (arP false o')).length = L.length:= by rw [List.length_set,hlen]
    generalize hP:(M.set 2 (arP false o')).set j (arP true s.2.2) = P
    have pl:P.length = L.length:= by rw [← hP,List.length_set,hl2]
    have pj:P[j]? = some (arP true s.2.2):= by rw [← hP,List.getElem?_set_self (by rw [hl2]; exact hj)]
    have p2:P[2]? = some (arP false o'):= by rw [← hP,List.getElem?_set_ne j2,List.getElem?_set_self (by rw [hlen]; exact h2)]
    have p0:P[0]? = some (.cells (A4 a0)):= by rw [← hP,List.getElem?_set_ne j0,List.getElem?_set_ne (by decide)]; exact m0
    have jn:j ≠ P.length:= by rw [pl]; omega
    have nj:P.length ≠ j:=fun e=>jn e.symm
    have kget:∀x:AO,(P++[x])[P.length]? = some x:=fun x=>by simp
    have kset:∀x y:AO,(P++[x]).set P.length y = P++[y]:=fun x y=>by simp
    have kj:∀x:AO,(P++[x])[j]? = some (arP true s.2.2):=fun x=>by rw [List.getElem?_append_left (by omega)]; exact pj
    refine C1<|B7<|C3<|s0<|qm rfl<|qm rfl<|B4 (rs:=[.i q]) rfl rfl (A2 rfl (A2 rfl B5)) ((B9d hq).frz)<|qm rfl<|A0 (A8z (f:=cI) rfl mj rfl) rfl<|A0 (D6f rfl rfl hk) rfl<|qm rfl<|es (ra6 rfl rfl rfl rfl rfl rfl)<|s0<|qm rfl<|qm rfl<|qm rfl<|A0 (A8x (f:=cI) rfl rfl mj rfl hv) rfl<|A0 (A9w (x:=.i v) rfl mj (List.length_map _) (A89 hv) rfl) rfl<|A0 (G4 (rows:=List.map cI [v]) rfl rfl (D8 (fun _=>rfl) _)) rfl<|R3 (W6 (f:=cI) rfl rfl m2 rfl S7 (fun _=>rfl) ho') rfl<|qm rfl<|es (ra6 rfl rfl rfl rfl rfl rfl)<|D6j (C8w rfl (B0v P2 (List.length_map _))) ?_
    have e1:(M.set 2 (.arr 1 false (List.map cI o'))).set j (.arr 1 true (List.map cI s.2.2)) = P:=hP
    rw [e1]
    refine rg _ rfl<|A0 (C2a (rows:=List.map cI []) rfl rfl rfl) rfl ?_
    have e2:(P++List.replicate 1 AO.dead).set (P.length + 0) (.arr 1 false (List.map cI [])) = P++[arP false []]:=kset _ _
    rw [e2]
    have al:∀x:List Int,([P.length].all fun i=>Nat.blt i (P++[arP false x]).length && A5x (P++[arP false x]) i) = true:=fun x=>by
     have h1:Nat.blt P.length (P++[arP false x]).length = true:=Nat.ble_eq_true_of_le (by simp)
     have h2:A5x (P++[arP false x]) P.length = true:= by unfold A5x; rw [kget]; rfl
     simp only [List.all_cons,List.all_nil,h1,h2,Bool.and_self]
    have alj:∀x:List Int,([j].all fun i=>Nat.blt i (P++[arP false x]).length && A5x (P++[arP false x]) i) = true:=fun x=>by
     have h1:Nat.blt j (P++[arP false x]).length = true:=Nat.ble_eq_true_of_le (by simp; omega)
     have h2:A5x (P++[arP false x]) j = true:= by unfold A5x; rw [kj]; rfl
     simp only [List.all_cons,List.all_nil,h1,h2,Bool.and_self]
    have hj':∀x:List Int,(R1 (P++[arP false x]) [P.length])[j]? = some (arP true s.2.2):=fun x=>by
     simp only [R1]; rw [List.getElem?_set_ne nj,kj]
    have hn':(R1 (P++[arP false []]) [j])[P.length]? = some (.arr 1 false (List.map cI [])):= by
     simp only [R1]; rw [List.getElem?_set_ne jn,kget]; rfl
    have e3:Q8 (P++[arP false []]) ((R1 (P++[arP false []]) [j]).set P.length (.arr 1 false (List.map cI a'))) [j] = P++[arP false a']:= by
     simp only [Q8,kj,R1]
     rw [List.set_comm _ _ jn,List.set_set,List.set_comm _ _ nj,A33 (kj _)]
     exact kset _ _
    refine qm rfl<|qm rfl<|Q5 [P.length] (W5 [P.length] rfl K0 rfl (al _)) (seen0 rfl) (C0u (f:=cI) rfl (R0 (hj' _)) rfl rfl rfl ha) rfl<|A7p [j] (P++[arP false a']) (W5 [] rfl (A62 rfl A4z K0) rfl (alj _)) (seen0 rfl) (W6 (f:=cI) rfl rfl hn' rfl S7 (fun _=>rfl) ha') ?_ rfl e3<|qm rfl<|qm rfl<|A0 (E7 rfl rfl) rfl<|Q5 [P.length] (W5 [P.length] rfl K0 rfl (al _)) (A95 (b:=H.length + j) rfl (A3h (by simp) A60)) (C0u (f:=cI) rfl (R0 (hj' _)) rfl rfl rfl hb) rfl<|R3 (W6 (f:=cI) rfl rfl (kget _) rfl S7 (fun _=>rfl) hl) rfl<|qm rfl ?_
    ·exact Nat.ble_eq_true_of_le (by simp [R1])
    ·simp only [Nat.add_zero]
     rw [kset]
     refine en (ra5 rfl rfl rfl rfl rfl)<|r0<|qm rfl<|A0 (E7 rfl rfl) rfl<|qm rfl<|en (ra5 rfl rfl rfl rfl rfl) ?_
     cases hs
     refine ⟨rfl,⟨P++[arP false l],P.length,?_,?_,?_,?_,?_⟩,su5 rfl rfl rfl rfl rfl,?_⟩
     ·rw [List.getElem?_append_left (by omega)]; exact p0
     ·simp; omega
     ·simp
     ·omega
     ·omega
     ·unfold AnyG.M
      show H++(P++[arP false l]) = H++((P++[arP false l]).set 2 (arP false o')).set P.length (arP false l)
      rw [A33 (l:=P++[arP false l]) (i:=2) (by rw [List.getElem?_append_left (by omega)]; exact p2),A33 (kget _)]
   ·refine F8 ?_
    obtain rfl:=os hs
    exact ⟨rfl,_,su1 rfl,M,m2,px⟩
  ·rintro e s' H' ⟨-,L,hL,rfl,rfl,rfl⟩
   refine s0<|qm rfl<|qm rfl<|es (ra1 rfl)<|C4 ?_
   exact retq trivial (B1 rfl B8) (A6 (A12 hL (List.length_map _)) B9) (A3 U6 B2)
end Ds
end
section
set_option maxRecDepth 100000
set_option maxHeartbeats 0
namespace Ds
open Go Am Go.Proofs.Ytdkflofgolehkaa.Cd
def A3w (a0:DrRoom):Option Bool :=
 (S9 a0).bind fun x1 =>
 some (x1.2.2 == 0)
theorem B7s {c:Sc} {H:A1} {a0:DrRoom} {r:Bool} (h:A3w a0 = some r) :
  E6 tab c H (.fn (.func 37) [] []) [(.agg (A4 a0))] [.b r]:= by
 unfold A3w at h
 refine cE rfl rfl<|sg 0 rfl<|A0 (F7 (cs:=A4 a0) rfl rfl rfl) rfl<|qm rfl<|es (ra1 rfl)<|s0<|oB h fun x1 hx1 h=>A0 (C2 rfl rfl rfl) rfl<|B4 (rs:=[.i x1.1,.i x1.2.1,.i x1.2.2]) rfl rfl (A2 (D0 rfl) B5) ((W7 hx1).frz)<|qm rfl<|A0 (A7 rfl rfl) rfl<|A0 (A7 rfl rfl) rfl<|A0 (A7 rfl rfl) rfl<|qm rfl<|qm rfl<|qm rfl<|es (ra1 rfl)<|s0<|qm rfl<|A0 (F5 rfl rfl) rfl<|qm rfl<|es (ra1 rfl)<|C4 ?_
 obtain rfl:=os h
 exact retq trivial (B1 rfl B8) (A6 rfl B9) (A3 A8 B2)
def A0a (a0:(List Int)) (a1:(List Int)) (s1:Int):Option (Int ⊕ (Bool ⊕ Unit)) :=
 if (decide (s1 < (D48 (List.length a0:Int) (List.length a1:Int)))) = true then
  (idx a0 s1).bind fun x4 =>
  (idx a1 s1).bind fun x5 =>
  if (x4 != x5) = true then
  (idx a0 s1).bind fun x7 =>
  (idx a1 s1).bind fun x8 =>
  some (.inr (.inl (decide (x7 < x8))))
  else
  some (.inl (w64 (s1 + 1)))
 else
  some (.inr (.inr ()))
def A5a (a0:(List Int)) (a1:(List Int)):Option Bool :=
 (loop (A0a a0 a1) 0).bind fun (o9:(Bool ⊕ Unit)) =>
 match o9 with
 | (.inl vo9_0) =>
  some vo9_0
 | (.inr vo9_1) =>
  some (decide ((List.length a0:Int) < (List.length a1:Int)))
theorem B9f {c:Sc} {H:A1} {a0:(List Int)} {a1:(List Int)} {r:Bool} (h:A5a a0 a1 = some r) :
  E6 tab c H (.fn (.func 42) [] []) [(.seq 1 (List.map cI a0)),(.seq 1 (List.map cI a1))] [.b r]:= by
 unfold A5a at h
 refine cE rfl rfl<|s0<|qm rfl<|es (ra2 rfl rfl)<|s0<|qm rfl<|A0 (D5 (f:=cI) rfl) rfl<|qm rfl<|A0 (D5 (f:=cI) rfl) rfl<|A0 (D5a rfl rfl) rfl<|qm rfl<|es (ra3 rfl rfl rfl)<|B7<|s0<|qm rfl<|es (ra4 rfl rfl rfl rfl)<|C3<|oB h fun o9 ho9 h=>wl (fun s1=>[(0,(.seq 1 (List.map cI a0))),(1,(.seq 1 (List.map cI a1))),(5,(.i (D48 (List.length a0:Int) (List.length a1:Int)))),(6,.i s1)]) (fun (q2:Unit) s1=>[]) 0 (fun r e s' H'=>(match r with | (.inl v)=>e = .ret∧RetQ H [.tmp 4] [.b v] e s' H' | (.inr v)=>PX 0 [(0,(.seq 1 (List.map cI a0))),(1,(.seq 1 (List.map cI a1)))] (H++[]) e s' H':Prop)) () ho9 rfl rfl (fun _ _=>rfl) (fun _=>rfl) rfl (fun s1=>(bdc E8 (bdc E8 (bdc A8 (bdc A8 bdn))))) (fun q2 s1 ys1 hs1=>?_) ?_
 ·unfold A0a at hs1
  refine B7<|s0<|qm rfl<|qm rfl<|A0 (G9 rfl rfl) rfl<|es (ra5 rfl rfl rfl rfl rfl)<|wi hs1 rfl (fun hc3 hs1=>?_) fun hc3 hs1=>?_
  ·refine C1<|B7<|C3<|s0<|oB hs1 fun x4 hx4 hs1=>oB hs1 fun x5 hx5 hs1=>qm rfl<|qm rfl<|A0 (E5 (f:=cI) rfl rfl hx4) rfl<|A0 (F4 rfl rfl) rfl<|qm rfl<|qm rfl<|A0 (E5 (f:=cI) rfl rfl hx5) rfl<|A0 (F4 rfl rfl) rfl<|A0 (I7 rfl rfl) rfl<|es (ra5 rfl rfl rfl rfl rfl)<|wi hs1 rfl (fun hc6 hs1=>?_) fun hc6 hs1=>?_
   ·refine s0<|oB hs1 fun x7 hx7 hs1=>oB hs1 fun x8 hx8 hs1=>qm rfl<|qm rfl<|A0 (E5 (f:=cI) rfl rfl hx7) rfl<|A0 (F4 rfl rfl) rfl<|qm rfl<|qm rfl<|A0 (E5 (f:=cI) rfl rfl hx8) rfl<|A0 (F4 rfl rfl) rfl<|A0 (G9 rfl rfl) rfl<|qm rfl<|es (ra1 rfl)<|C4 ?_
    obtain rfl:=os hs1
    exact lx rfl (And.intro rfl (retq trivial (B1 rfl B8) (A6 rfl B9) (A3 A8 B2))) (Sub.refl _)
   ·refine C1<|r0<|qm rfl<|A0 (E7 rfl rfl) rfl<|qm rfl<|en (ra4 rfl rfl rfl rfl) ?_
    cases hs1
    exact lnT () rfl (su4 rfl rfl rfl rfl)
  ·refine F8 ?_
   obtain rfl:=os hs1
   exact lx rfl px (su2 rfl rfl)
 ·rcases o9 with vo9_0 | vo9_1
  ·rintro e s' H' - ⟨rfl,hret⟩
   cases h
   exact hret
  ·rintro e s' H' - ⟨rfl,rfl,rfl⟩
   refine s0<|qm rfl<|A0 (D5 (f:=cI) rfl) rfl<|qm rfl<|A0 (D5 (f:=cI) rfl) rfl<|A0 (G9 rfl rfl) rfl<|qm rfl<|es (ra1 rfl)<|C4 ?_
   obtain rfl:=os h
   exact retq trivial (B1 rfl B8) (A6 rfl B9) (A3 A8 B2)
end Ds
end
section
namespace Ds
open Go Am
theorem C8x {a b:Int} (ha:0≤a) (hb:0 < b):∃r,D0o a b = some r∧0≤r∧r < b:= by
 unfold D0o
 rw [if_neg (by omega)]
 exact ⟨a.tmod b,rfl,Int.tmod_nonneg _ ha,Int.tmod_lt_of_pos _ hb⟩
theorem D5z {l:List Int} (h:N8 l) (n:Nat):∃r,A43 l (n:Int) = some r∧0≤r∧r < 256:= by
 have h1:=h.1
 unfold A43
 by_cases c:l.length = 0
 ·rw [if_pos (by rw [c]; rfl)]; exact ⟨0,rfl,by omega,by omega⟩
 ·rw [if_neg (by rw [beq_iff_eq]; omega)]
  obtain ⟨r,h1,h2,h3⟩:=C8x (a:=(n:Int)) (b:=(l.length:Int)) (by omega) (by omega)
  rw [h1]
  simp only [Option.bind_some]
  rw [show r = ((r.toNat:Nat):Int) by omega,H9 (show r.toNat < l.length by omega)]
  have hb:=h.2 _ (J7 (show r.toNat < l.length by omega))
  simp only [Option.bind_some]
  rw [E0 (by omega)]
  exact ⟨_,rfl,hb.1,hb.2⟩
theorem D30 (h:DrRoom):A3w h = some ((chk h).2.2 == 0):= by
 unfold A3w
 rw [A1f]; rfl
theorem B4w (a b:List Nat):ints (a++b) = ints a++ints b:=List.map_append
theorem C0m (a:List Nat) (n:Nat):ints (a.take n) = (ints a).take n:=List.map_take
theorem C91 (a:List Nat) (n:Nat):ints (a.drop n) = (ints a).drop n:=List.map_drop
theorem D5u {α:Type} {l:List α} {i:Nat} (h:i≤l.length):slc l (i:Int) (l.length:Int) = some (l.drop i):= by
 unfold slc
 rw [if_pos ⟨by omega,by omega,by omega⟩,Int.toNat_natCast,Int.toNat_natCast,List.take_length]
theorem D1g {r:DrRoom} (ok:RmOk r):loop (B3i r) (0,[]) = some (ints (List.range r.Figures.length)):= by
 have hF:=ok.figures
 have:=J9 (b:=B3i r) (fun i=>((i:Int),ints (List.range i))) r.Figures.length (r:=ints (List.range r.Figures.length)) (by omega) (fun i hi=>by
  unfold B3i
  simp only []
  rw [if_pos (by simpa using hi),V5 (by omega) (by rw [F0,List.length_range]; simp only [List.length_singleton]; omega),E0 (by omega),List.range_succ,B4w]
  rfl) (by
  unfold B3i
  simp only []
  rw [if_neg (by simp)])
 exact this
theorem D6p {r:DrRoom} (ok:RmOk r) {x:List Int} (hx:N8 x):∀(d m:Nat) (i:Nat) (o left:List Nat),i + d = r.Persons.length→d < m→o.length = i→(o++left).Perm (List.range r.Figures.length) →
  ∃ A:List Nat,A4d (A8d r x) m ((i:Int),ints o,ints left) = some (ints A)∧A.Nodup∧(∀ f ∈ A,f < r.Figures.length)∧A.length = min r.Persons.length r.Figures.length:= by
 have hP:=ok.persons
 have hF:=ok.figures
 intro d
 have fin:∀(i m:Nat) (o left:List Nat),o.length = i→i≤r.Persons.length→(i = r.Persons.length∨left = [])→(o++left).Perm (List.range r.Figures.length) →
   ∃ A:List Nat,A4d (A8d r x) (m + 1) ((i:Int),ints o,ints left) = some (ints A)∧A.Nodup∧(∀ f ∈ A,f < r.Figures.length)∧A.length = min r.Persons.length r.Figures.length:= by
  intro i m o left ho hi hc hp
  have hn:(o++left).Nodup:=hp.nodup_iff.mpr List.nodup_range
  have hl:=hp.length_eq
  rw [List.length_append,List.length_range] at hl
  refine ⟨o,?_,(List.nodup_append.mp hn).1,fun f hf=>by simpa using hp.mem_iff.mp (List.mem_append_left _ hf),?_⟩
  ·rw [H8]
   unfold A8d
   simp only []
   rw [if_neg (by
    rw [Bool.and_eq_true,decide_eq_true_eq,decide_eq_true_eq,F0]
    rcases hc with h | h
    ·omega
    ·subst h; simp)]
  ·rcases hc with h | h
   ·omega
   ·subst h; simp at hl; omega
 induction d with
 | zero =>
  intro m i o left hi hm ho hp
  obtain ⟨m',rfl⟩:∃m',m = m' + 1:=⟨m - 1,by omega⟩
  exact fin i m' o left ho (by omega) (.inl (by omega)) hp
 | succ d ih =>
  intro m i o left hi hm ho hp
  obtain ⟨m',rfl⟩:∃m',m = m' + 1:=⟨m - 1,by omega⟩
  by_cases hc:left = []
  ·exact fin i m' o left ho (by omega) (.inr hc) hp
  ·have hl0:0 < left.length:=List.length_pos_iff.mpr hc
   have hl:=hp.length_eq
   rw [List.length_append,List.length_range] at hl
   obtain ⟨q,e1,q0,q1⟩:=D5z hx i
   obtain ⟨k,e2,k0,k1⟩:=C8x (a:=q) (b:=(left.length:Int)) q0 (by omega)
   obtain ⟨k,rfl⟩:∃n:Nat,k = (n:Int):=⟨k.toNat,by omega⟩
   have hk:k < left.length:= by omega
   have e:A8d r x ((i:Int),ints o,ints left) = some (.inl (((i + 1:Nat):Int),ints (o++[left[k]!]),ints (left.take k++left.drop (k + 1)))):= by
    unfold A8d
    simp only []
    have hkl:k≤(ints left).length:= by rw [F0]; omega
    have hkl':k + 1≤(ints left).length:= by rw [F0]; omega
    rw [if_pos (by rw [F0]; simp; omega),e1]
    simp only [Option.bind_some]
    rw [F0,e2]
    simp only [Option.bind_some]
    rw [A3v hk]
    simp only [Option.bind_some]
    rw [V5 (by omega) (by rw [F0]; simp only [List.length_singleton]; omega),B6b hkl]
    simp only [Option.bind_some]
    rw [V5 (by omega) (by simp only [List.length_nil,List.length_take,F0]; omega),E0 (by omega)]
    simp only [Option.bind_some]
    rw [show ((k:Int) + 1) = ((k + 1:Nat):Int) from rfl,← F0 left,D5u hkl']
    simp only [Option.bind_some]
    rw [V5 (by omega) (by simp only [List.nil_append,List.length_drop,List.length_take,F0]; omega),E0 (by omega)]
    simp only [Option.bind_some,List.nil_append,B4w,C0m,C91]
    rfl
   rw [H8,e]
   refine ih m' (i + 1) _ _ (by omega) (by omega) (by rw [List.length_append,ho]; rfl) ?_
   refine List.Perm.trans ?_ hp
   have hsp:left = left.take k++left[k]! :: left.drop (k + 1):= by
    rw [getElem!_pos left k hk,← List.drop_eq_getElem_cons hk,List.take_append_drop]
   conv=>rhs; rw [hsp]
   rw [List.append_assoc]
   exact List.Perm.append_left _ (List.perm_middle (l₁:=left.take k)).symm
theorem D6k {r:DrRoom} (ok:RmOk r) {x:List Int} (hx:N8 x):∃A:List Nat,A6m r x = some (ints A)∧A.Nodup∧(∀ f ∈ A,f < r.Figures.length)∧A.length = min r.Persons.length r.Figures.length:= by
 unfold A6m
 rw [D1g ok]
 simp only [Option.bind_some]
 have hP:=ok.persons
 have key:∃A:List Nat,loop (A8d r x) (0,[],ints (List.range r.Figures.length)) = some (ints A)∧A.Nodup∧(∀ f ∈ A,f < r.Figures.length)∧A.length = min r.Persons.length r.Figures.length :=
  D6p ok hx r.Persons.length _ 0 [] (List.range r.Figures.length) (by omega) (by omega) rfl (List.Perm.refl _)
 obtain ⟨A,e,h⟩:=key
 refine ⟨A,?_,h⟩
 rw [e]; rfl
def A44:List Nat→List Nat→Bool
 | [],[]=>false
 | [],_ :: _=>true
 | _ :: _,[]=>false
 | a :: l,b :: m=>if a = b then A44 l m else decide (a < b)
theorem B7c:∀l:List Nat,A44 l l = false
 | []=>rfl
 | a :: l=>by unfold A44; rw [if_pos rfl]; exact B7c l
theorem C0n:∀q a b:List Nat,A44 (q++a) (q++b) = A44 a b
 | [],a,b=>rfl
 | x :: q,a,b=>by
  show (if x = x then A44 (q++a) (q++b) else decide (x < x)) = _
  rw [if_pos rfl]; exact C0n q a b
theorem C7r (n:Nat):∀(d:Nat) (q:List Nat),(DF n d q).Pairwise fun a b=>A44 b a = false
 | 0,q=>by unfold DF; simp
 | d + 1,q=>by
  unfold DF
  rw [List.pairwise_flatMap]
  refine ⟨fun f _=>C7r n d _,?_⟩
  have hp:(A8n n q).Pairwise (· < ·):=List.Pairwise.filter _ List.pairwise_lt_range
  refine hp.imp fun {f g} hfg x hx y hy=>?_
  obtain ⟨s,rfl,-⟩:=B6e.mp hx
  obtain ⟨t,rfl,-⟩:=B6e.mp hy
  rw [List.append_assoc,List.append_assoc,C0n]
  show A44 (g :: t) (f :: s) = false
  unfold A44
  rw [if_neg (by omega),decide_eq_false (by omega)]
theorem D40 (a b:List Nat) (ha:a.length < 1000) (hb:b.length < 1000):∀(d m i:Nat),i + d = min a.length b.length→d < m →
  (A4d (A0a (ints a) (ints b)) m (i:Int)).bind (fun o=>match o with
   | .inl v=>some v
   | .inr _=>some (decide ((List.length (ints a):Int) < (List.length (ints b):Int)))) = some (A44 (a.drop i) (b.drop i)):= by
 intro d
 have hmin:D48 (List.length (ints a):Int) (List.length (ints b):Int) = ((min a.length b.length:Nat):Int):= by
  unfold D48; rw [F0,F0]; split <;> omega
 induction d with
 | zero =>
  intro m i hi hm
  obtain ⟨m',rfl⟩:∃m',m = m' + 1:=⟨m - 1,by omega⟩
  rw [H8]
  unfold A0a
  rw [hmin,if_neg (by simp; omega)]
  simp only [Option.bind_some]
  rw [F0,F0]
  by_cases c:a.length < b.length
  ·rw [List.drop_of_length_le (show a.length≤i by omega),List.drop_eq_getElem_cons (show i < b.length by omega)]
   simp only [A44]
   rw [decide_eq_true (by omega)]
  ·rw [List.drop_of_length_le (show b.length≤i by omega),decide_eq_false (by omega)]
   cases a.drop i <;> rfl
 | succ d ih =>
  intro m i hi hm
  obtain ⟨m',rfl⟩:∃m',m = m' + 1:=⟨m - 1,by omega⟩
  have h1:i < a.length:= by omega
  have h2:i < b.length:= by omega
  rw [H8,List.drop_eq_getElem_cons h1,List.drop_eq_getElem_cons h2]
  have e:A0a (ints a) (ints b) (i:Int) = if a[i]! = b[i]! then some (.inl ((i + 1:Nat):Int)) else some (.inr (.inl (decide (a[i]! < b[i]!)))):= by
   unfold A0a
   rw [hmin,if_pos (by simp; omega),A3v h1,A3v h2]
   simp only [Option.bind_some]
   by_cases c:a[i]! = b[i]!
   ·rw [if_pos c,if_neg (by simp [c]),E0 (by omega)]; rfl
   ·rw [if_neg c,if_pos (by rw [bne_iff_ne]; omega)]
    congr 3
    rw [decide_eq_decide]; omega
  rw [e]
  unfold A44
  rw [← getElem!_pos a i h1,← getElem!_pos b i h2]
  by_cases c:a[i]! = b[i]!
  ·rw [if_pos c,if_pos c]; exact ih m' (i + 1) (by omega) (by omega)
  ·rw [if_neg c,if_neg c]; rfl
theorem D4c (a b:List Nat) (ha:a.length < 1000) (hb:b.length < 1000):A5a (ints a) (ints b) = some (A44 a b):= by
 unfold A5a
 exact D40 a b ha hb (min a.length b.length) _ 0 (by omega) (by omega)
theorem C52 {r:DrRoom} {ps:List DrLook} {b q:List Nat} (h:X9 r ps = some b) (hq:q ∈ AL r ps) (he:W1 r ps q = W1 r ps b):A44 q b = false:= by
 obtain ⟨-,A,B,hAL,h3⟩:=B13 h
 have hp:(AL r ps).Pairwise fun a b=>A44 b a = false:=(C7r _ _ _).filter _
 rw [hAL] at hp hq
 rcases List.mem_append.mp hq with hq | hq
 ·have:=h3 q hq; omega
 ·rcases List.mem_cons.mp hq with rfl | hq
  ·exact B7c _
  ·have:=(List.pairwise_append.mp hp).2.1
   exact (List.pairwise_cons.mp this).1 q hq
theorem D6t {q:List Nat} (h:q.Nodup):B89 (ints q) = false:= by
 unfold B89
 rw [List.any_eq_false]
 intro i hi
 have hi:i < q.length:= by simpa [F0] using hi
 unfold A71
 rw [Bool.not_eq_true,List.any_eq_false]
 intro x hx
 rw [← C0m] at hx
 obtain ⟨y,hy,rfl⟩:=List.mem_map.mp hx
 have e:(ints q)[i]! = ((q[i]!:Nat):Int):= by
  have h1:i < (ints q).length:= by rw [F0]; exact hi
  rw [getElem!_pos (ints q) i h1,getElem!_pos q i hi]
  exact List.getElem_map _
 rw [e,beq_iff_eq]
 intro c
 have c:y = q[i]!:= by omega
 obtain ⟨j,hj,ej⟩:=List.mem_take_iff_getElem.mp hy
 have hjq:j < q.length:= by omega
 rw [getElem!_pos q i hi,← ej] at c
 have:=(List.getElem_inj (h₀:=hjq) (h₁:=hi) h).mp c
 omega
theorem C60 {r:DrRoom} (h0:(chk r).2.2 = 0) {q:List Nat} (h1:q.length = r.Persons.length) (h2:q.Nodup) (h3:∀f ∈ q,f < r.Figures.length):R4 r (ints q) = 0:= by
 unfold R4
 rw [if_neg (by omega),if_neg (by rw [F0]; omega),B1p.mpr (by
  intro y hy
  obtain ⟨f,hf,rfl⟩:=List.mem_map.mp hy
  have:=h3 f hf
  omega),D6t h2]
 rfl
end Ds
end
section
set_option maxRecDepth 100000
set_option maxHeartbeats 0
namespace Ds
open Go Am Go.Proofs.Ytdkflofgolehkaa.Cd
def A07 (a0:DrRoom) (a1:(List Int)):Option Bool :=
 (A0j a0).bind fun x1 =>
 (A3w a0).bind fun x2 =>
 if (!x2) = true then
  (if (((x1.2.2 != 0) && ((List.length x1.1:Int) == 0)) && (x1.2.1 == 0)) = true then
  (S8).bind fun x7 =>
  some x7
  else
  some false).bind fun x8 =>
  some x8
 else
  (A6m a0 a1).bind fun x9 =>
  (if ((List.length x9:Int) == (List.length a0.Persons:Int)) = true then
  (N6 a0 x9).bind fun x11 =>
  some x11
  else
  some false).bind fun x12 =>
  if (x1.2.2 != 0) = true then
  (if ((((x1.2.2 == 9) && ((List.length x1.1:Int) == 0)) && (x1.2.1 == 0)) && (!x12)) = true then
   (S8).bind fun x18 =>
   some x18
  else
   some false).bind fun x19 =>
  some x19
  else
  (A16 a0 x1.1).bind fun x20 =>
  (if (x20 != 0) = true then
   some true
  else
   (N6 a0 x1.1).bind fun x22 =>
   some (!x22)).bind fun x23 =>
  (if x23 = true then
   some true
  else
   (X2 a0 x1.1).bind fun x25 =>
   some (x25 != x1.2.1)).bind fun x26 =>
  if x26 = true then
   some false
  else
   (A0l a0 x1.1).bind fun x28 =>
   if ((x28.2 != 0) || (x28.1 != x1.2.1)) = true then
   some false
   else
   (if (!x12) = true then
    some true
   else
    (X2 a0 x9).bind fun x32 =>
    some (decide (x32 > x1.2.1))).bind fun x33 =>
   (if x33 = true then
    some true
   else
    (X2 a0 x9).bind fun x35 =>
    (if (x35 == x1.2.1) = true then
    (A5a x9 x1.1).bind fun x37 =>
    some (!x37)
    else
    some false).bind fun x38 =>
    some x38).bind fun x39 =>
   (if x39 = true then
    (S8).bind fun x41 =>
    some x41
   else
    some false).bind fun x42 =>
   some x42
theorem B0c {c:Sc} {H:A1} (hscv:R5 c H = true) {a0:DrRoom} {a1:(List Int)} {r:Bool} (h:A07 a0 a1 = some r) :
  E6 tab c H (.fn (.func 8) [] []) [(.agg (A4 a0)),(.seq 1 (List.map B3k a1))] [.b r]:= by
 unfold A07 at h
 refine cE rfl rfl<|sg 0 rfl<|A0 (F7 (cs:=A4 a0) rfl rfl rfl) rfl<|qm rfl<|es (ra2 rfl rfl)<|s0<|oB h fun x1 hx1 h=>A0 (C2 rfl rfl rfl) rfl<|B4 (rs:=[(.seq 1 (List.map cI x1.1)),.i x1.2.1,.i x1.2.2]) rfl rfl (A2 (D0 rfl) B5) ((A3m (A18 hscv) hx1).frz)<|qm rfl<|A0 (A7 rfl rfl) rfl<|A0 (A7 rfl rfl) rfl<|A0 (A7 rfl rfl) rfl<|qm rfl<|qm rfl<|qm rfl<|es (ra5 rfl rfl rfl rfl rfl)<|B7<|s0<|oB h fun x2 hx2 h=>A0 (C2 rfl rfl rfl) rfl<|B4 (rs:=[.b x2]) rfl rfl (A2 (D0 rfl) B5) ((B7s hx2).frz)<|A0 (P4 rfl) rfl<|es (ra6 rfl rfl rfl rfl rfl rfl)<|wi h rfl (fun hc3 h=>?_) fun hc3 h=>?_
 ·refine s0<|oB h fun x8 hx8 h=>qm rfl<|A0 (I7 rfl rfl) rfl<|qm rfl<|gp 4 27 (.b ((x1.2.2 != 0) && ((List.length x1.1:Int) == 0))) 23 rfl rfl (fun hg4=>?_) (fun hg4=>?_) ?_
  ·exact gT rfl hg4<|qm rfl<|gT rfl hg4<|A0 (D5 (f:=cI) rfl) rfl<|gT rfl hg4<|A0 (F5 rfl rfl) rfl<|A0 (C6 rfl hg4 rfl) rfl<|ge 4 (by rw [hg4]; rfl) rfl rfl
  ·exact nT rfl hg4 rfl<|nT rfl hg4 rfl<|nT rfl hg4 rfl<|A0 (C5 rfl hg4 rfl) rfl<|ge 4 (by rw [hg4]; rfl) rfl rfl
  refine qm rfl<|gp 3 31 (.b (((x1.2.2 != 0) && ((List.length x1.1:Int) == 0)) && (x1.2.1 == 0))) 28 rfl rfl (fun hg5=>?_) (fun hg5=>?_) ?_
  ·exact gT rfl hg5<|qm rfl<|gT rfl hg5<|A0 (F5 rfl rfl) rfl<|A0 (C6 rfl hg5 rfl) rfl<|ge 3 (by rw [hg5]; rfl) rfl rfl
  ·exact nT rfl hg5 rfl<|nT rfl hg5 rfl<|A0 (C5 rfl hg5 rfl) rfl<|ge 3 (by rw [hg5]; rfl) rfl rfl
  refine qm rfl<|gp 2 34 (.b x8) 32 rfl rfl (fun hg6=>?_) (fun hg6=>?_) ?_
  ·refine oB (bt hx8 hg6) fun x7 hx7 hx8=>?_
   obtain rfl:=os hx8
   exact gT rfl hg6<|B4 (rs:=[.b x7]) rfl rfl B5 ((T6 (A18 hscv) hx7).frz)<|A0 (C6 rfl hg6 rfl) rfl<|ge 2 rfl rfl rfl
  ·obtain rfl:=os (bf hx8 hg6)
   exact J3 (F1 rfl (by rw [hg6]; rfl)) rfl<|A0 (C5 rfl hg6 rfl) rfl<|ge 2 rfl rfl rfl
  refine qm rfl<|es (ra1 rfl)<|C4 ?_
  obtain rfl:=os h
  exact retq trivial (B1 rfl B8) (A6 rfl B9) (A3 A8 B2)
 ·refine C1<|s0<|oB h fun x9 hx9 h=>A0 (C2 rfl rfl rfl) rfl<|qm rfl<|B4 (rs:=[(.seq 1 (List.map cI x9))]) rfl rfl (A2 (D0 rfl) (A2 rfl B5)) ((C2e hx9).frz)<|qm rfl<|es (ra5 rfl rfl rfl rfl rfl)<|s0<|oB h fun x12 hx12 h=>qm rfl<|A0 (D5 (f:=cI) rfl) rfl<|A0 (D2 rfl) rfl<|A0 (C8 rfl rfl rfl) rfl<|A0 (D5 (f:=A5) rfl) rfl<|A0 (F5 rfl rfl) rfl<|qm rfl<|gp 4 48 (.b x12) 44 rfl rfl (fun hg10=>?_) (fun hg10=>?_) ?_
  ·refine oB (bt hx12 hg10) fun x11 hx11 hx12=>?_
   obtain rfl:=os hx12
   exact gT rfl hg10<|A0 (C2 rfl rfl rfl) rfl<|gT rfl hg10<|qm rfl<|gT rfl hg10<|B4 (rs:=[.b x11]) rfl rfl (A2 (D0 rfl) (A2 rfl B5)) ((A1b hx11).frz)<|A0 (C6 rfl hg10 rfl) rfl<|ge 4 rfl rfl rfl
  ·obtain rfl:=os (bf hx12 hg10)
   exact nT rfl hg10 rfl<|nT rfl hg10 rfl<|J3 (F1 rfl (by rw [hg10]; rfl)) rfl<|A0 (C5 rfl hg10 rfl) rfl<|ge 4 rfl rfl rfl
  refine qm rfl<|es (ra6 rfl rfl rfl rfl rfl rfl)<|B7<|s0<|qm rfl<|A0 (I7 rfl rfl) rfl<|es (ra7 rfl rfl rfl rfl rfl rfl rfl)<|wi h rfl (fun hc13 h=>?_) fun hc13 h=>?_
  ·refine s0<|oB h fun x19 hx19 h=>qm rfl<|A0 (F5 rfl rfl) rfl<|qm rfl<|gp 4 57 (.b ((x1.2.2 == 9) && ((List.length x1.1:Int) == 0))) 53 rfl rfl (fun hg14=>?_) (fun hg14=>?_) ?_
   ·exact gT rfl hg14<|qm rfl<|gT rfl hg14<|A0 (D5 (f:=cI) rfl) rfl<|gT rfl hg14<|A0 (F5 rfl rfl) rfl<|A0 (C6 rfl hg14 rfl) rfl<|ge 4 (by rw [hg14]; rfl) rfl rfl
   ·exact nT rfl hg14 rfl<|nT rfl hg14 rfl<|nT rfl hg14 rfl<|A0 (C5 rfl hg14 rfl) rfl<|ge 4 (by rw [hg14]; rfl) rfl rfl
   refine qm rfl<|gp 3 61 (.b (((x1.2.2 == 9) && ((List.length x1.1:Int) == 0)) && (x1.2.1 == 0))) 58 rfl rfl (fun hg15=>?_) (fun hg15=>?_) ?_
   ·exact gT rfl hg15<|qm rfl<|gT rfl hg15<|A0 (F5 rfl rfl) rfl<|A0 (C6 rfl hg15 rfl) rfl<|ge 3 (by rw [hg15]; rfl) rfl rfl
   ·exact nT rfl hg15 rfl<|nT rfl hg15 rfl<|A0 (C5 rfl hg15 rfl) rfl<|ge 3 (by rw [hg15]; rfl) rfl rfl
   refine qm rfl<|gp 3 65 (.b ((((x1.2.2 == 9) && ((List.length x1.1:Int) == 0)) && (x1.2.1 == 0)) && (!x12))) 62 rfl rfl (fun hg16=>?_) (fun hg16=>?_) ?_
   ·exact gT rfl hg16<|qm rfl<|gT rfl hg16<|A0 (P4 rfl) rfl<|A0 (C6 rfl hg16 rfl) rfl<|ge 3 (by rw [hg16]; rfl) rfl rfl
   ·exact nT rfl hg16 rfl<|nT rfl hg16 rfl<|A0 (C5 rfl hg16 rfl) rfl<|ge 3 (by rw [hg16]; rfl) rfl rfl
   refine qm rfl<|gp 2 68 (.b x19) 66 rfl rfl (fun hg17=>?_) (fun hg17=>?_) ?_
   ·refine oB (bt hx19 hg17) fun x18 hx18 hx19=>?_
    obtain rfl:=os hx19
    exact gT rfl hg17<|B4 (rs:=[.b x18]) rfl rfl B5 ((T6 (A18 hscv) hx18).frz)<|A0 (C6 rfl hg17 rfl) rfl<|ge 2 rfl rfl rfl
   ·obtain rfl:=os (bf hx19 hg17)
    exact J3 (F1 rfl (by rw [hg17]; rfl)) rfl<|A0 (C5 rfl hg17 rfl) rfl<|ge 2 rfl rfl rfl
   refine qm rfl<|es (ra1 rfl)<|C4 ?_
   obtain rfl:=os h
   exact retq trivial (B1 rfl B8) (A6 rfl B9) (A3 A8 B2)
  ·refine C1<|B7<|s0<|oB h fun x20 hx20 h=>oB h fun x23 hx23 h=>oB h fun x26 hx26 h=>A0 (C2 rfl rfl rfl) rfl<|qm rfl<|B4 (rs:=[.i x20]) rfl rfl (A2 (D0 rfl) (A2 rfl B5)) ((A59 hx20).frz)<|A0 (I7 rfl rfl) rfl<|qm rfl<|gp 5 78 (.b x23) 73 rfl rfl (fun hg21=>?_) (fun hg21=>?_) ?_
   ·obtain rfl:=os (bt hx23 hg21)
    exact nF rfl hg21 rfl<|nF rfl hg21 rfl<|J3 (F1 rfl (by rw [hg21]; rfl)) rfl<|nF rfl hg21 rfl<|A0 (C6 rfl hg21 rfl) rfl<|ge 5 rfl rfl rfl
   ·refine oB (bf hx23 hg21) fun x22 hx22 hx23=>?_
    obtain rfl:=os hx23
    exact gF rfl hg21<|A0 (C2 rfl rfl rfl) rfl<|gF rfl hg21<|qm rfl<|gF rfl hg21<|B4 (rs:=[.b x22]) rfl rfl (A2 (D0 rfl) (A2 rfl B5)) ((A1b hx22).frz)<|gF rfl hg21<|A0 (P4 rfl) rfl<|A0 (C5 rfl hg21 rfl) rfl<|ge 5 rfl rfl rfl
   refine qm rfl<|gp 6 85 (.b x26) 79 rfl rfl (fun hg24=>?_) (fun hg24=>?_) ?_
   ·obtain rfl:=os (bt hx26 hg24)
    exact nF rfl hg24 rfl<|nF rfl hg24 rfl<|J3 (F1 rfl (by rw [hg24]; rfl)) rfl<|nF rfl hg24 rfl<|nF rfl hg24 rfl<|A0 (C6 rfl hg24 rfl) rfl<|ge 6 rfl rfl rfl
   ·refine oB (bf hx26 hg24) fun x25 hx25 hx26=>?_
    obtain rfl:=os hx26
    exact gF rfl hg24<|A0 (C2 rfl rfl rfl) rfl<|gF rfl hg24<|qm rfl<|gF rfl hg24<|B4 (rs:=[.i x25]) rfl rfl (A2 (D0 rfl) (A2 rfl B5)) ((A2y hx25).frz)<|gF rfl hg24<|qm rfl<|gF rfl hg24<|A0 (I7 rfl rfl) rfl<|A0 (C5 rfl hg24 rfl) rfl<|ge 6 rfl rfl rfl
   refine es (ra6 rfl rfl rfl rfl rfl rfl)<|wi h rfl (fun hc27 h=>?_) fun hc27 h=>?_
   ·refine s0<|qm rfl<|es (ra1 rfl)<|C4 ?_
    obtain rfl:=os h
    exact retq trivial (B1 rfl B8) (A6 rfl B9) (A3 A8 B2)
   ·refine C1<|s0<|oB h fun x28 hx28 h=>A0 (C2 rfl rfl rfl) rfl<|qm rfl<|B4 (rs:=[.i x28.1,.i x28.2]) rfl rfl (A2 (D0 rfl) (A2 rfl B5)) ((A3o hx28).frz)<|qm rfl<|A0 (A7 rfl rfl) rfl<|A0 (A7 rfl rfl) rfl<|qm rfl<|qm rfl<|es (ra7 rfl rfl rfl rfl rfl rfl rfl)<|B7<|s0<|qm rfl<|A0 (I7 rfl rfl) rfl<|qm rfl<|gp 4 98 (.b ((x28.2 != 0) || (x28.1 != x1.2.1))) 94 rfl rfl (fun hg29=>?_) (fun hg29=>?_) ?_
    ·exact nF rfl hg29 rfl<|nF rfl hg29 rfl<|nF rfl hg29 rfl<|A0 (C6 rfl hg29 rfl) rfl<|ge 4 (by rw [hg29]; rfl) rfl rfl
    ·exact gF rfl hg29<|qm rfl<|gF rfl hg29<|qm rfl<|gF rfl hg29<|A0 (I7 rfl rfl) rfl<|A0 (C5 rfl hg29 rfl) rfl<|ge 4 (by rw [hg29]; rfl) rfl rfl
    refine es (ra6 rfl rfl rfl rfl rfl rfl)<|wi h rfl (fun hc30 h=>?_) fun hc30 h=>?_
    ·refine s0<|qm rfl<|es (ra1 rfl)<|C4 ?_
     obtain rfl:=os h
     exact retq trivial (B1 rfl B8) (A6 rfl B9) (A3 A8 B2)
    ·refine C1<|s0<|oB h fun x33 hx33 h=>oB h fun x39 hx39 h=>oB h fun x42 hx42 h=>qm rfl<|A0 (P4 rfl) rfl<|qm rfl<|gp 6 107 (.b x33) 101 rfl rfl (fun hg31=>?_) (fun hg31=>?_) ?_
     ·obtain rfl:=os (bt hx33 hg31)
      exact nF rfl hg31 rfl<|nF rfl hg31 rfl<|J3 (F1 rfl (by rw [hg31]; rfl)) rfl<|nF rfl hg31 rfl<|nF rfl hg31 rfl<|A0 (C6 rfl hg31 rfl) rfl<|ge 6 rfl rfl rfl
     ·refine oB (bf hx33 hg31) fun x32 hx32 hx33=>?_
      obtain rfl:=os hx33
      exact gF rfl hg31<|A0 (C2 rfl rfl rfl) rfl<|gF rfl hg31<|qm rfl<|gF rfl hg31<|B4 (rs:=[.i x32]) rfl rfl (A2 (D0 rfl) (A2 rfl B5)) ((A2y hx32).frz)<|gF rfl hg31<|qm rfl<|gF rfl hg31<|A0 (A70 rfl rfl) rfl<|A0 (C5 rfl hg31 rfl) rfl<|ge 6 rfl rfl rfl
     refine qm rfl<|gp 12 120 (.b x39) 108 rfl rfl (fun hg34=>?_) (fun hg34=>?_) ?_
     ·obtain rfl:=os (bt hx39 hg34)
      exact nF rfl hg34 rfl<|nF rfl hg34 rfl<|J3 (F1 rfl (by rw [hg34]; rfl)) rfl<|nF rfl hg34 rfl<|nF rfl hg34 rfl<|nF rfl hg34 rfl<|nX rfl rfl<|nX rfl rfl<|J3 (A7x rfl) rfl<|nX rfl rfl<|nF rfl hg34 rfl<|A0 (C6 rfl hg34 rfl) rfl<|ge 12 rfl rfl rfl
     ·refine oB (bf hx39 hg34) fun x35 hx35 hx39=>oB hx39 fun x38 hx38 hx39=>?_
      obtain rfl:=os hx39
      refine gF rfl hg34<|A0 (C2 rfl rfl rfl) rfl<|gF rfl hg34<|qm rfl<|gF rfl hg34<|B4 (rs:=[.i x35]) rfl rfl (A2 (D0 rfl) (A2 rfl B5)) ((A2y hx35).frz)<|gF rfl hg34<|qm rfl<|gF rfl hg34<|A0 (F5 rfl rfl) rfl<|gF rfl hg34<|qm rfl<|gq 5 119 (.b x38) 114 rfl rfl (fun hg36=>?_) (fun hg36=>?_) ?_
      ·refine oB (bt hx38 hg36) fun x37 hx37 hx38=>?_
       obtain rfl:=os hx38
       exact gT rfl hg36<|qm rfl<|gT rfl hg36<|qm rfl<|gT rfl hg36<|B4 (rs:=[.b x37]) rfl rfl (A2 rfl (A2 rfl B5)) ((B9f hx37).frz)<|gT rfl hg36<|A0 (P4 rfl) rfl<|gF rfl hg34<|A0 (C6 rfl hg36 rfl) rfl<|ge 5 rfl rfl rfl
      ·obtain rfl:=os (bf hx38 hg36)
       exact nT rfl hg36 rfl<|nT rfl hg36 rfl<|J3 (F1 rfl (by rw [hg36]; rfl)) rfl<|nT rfl hg36 rfl<|gF rfl hg34<|A0 (C5 rfl hg36 rfl) rfl<|ge 5 rfl rfl rfl
      exact A0 (C5 rfl hg34 rfl) rfl<|ge 8 rfl rfl rfl
     refine qm rfl<|gp 2 123 (.b x42) 121 rfl rfl (fun hg40=>?_) (fun hg40=>?_) ?_
     ·refine oB (bt hx42 hg40) fun x41 hx41 hx42=>?_
      obtain rfl:=os hx42
      exact gT rfl hg40<|B4 (rs:=[.b x41]) rfl rfl B5 ((T6 (A18 hscv) hx41).frz)<|A0 (C6 rfl hg40 rfl) rfl<|ge 2 rfl rfl rfl
     ·obtain rfl:=os (bf hx42 hg40)
      exact J3 (F1 rfl (by rw [hg40]; rfl)) rfl<|A0 (C5 rfl hg40 rfl) rfl<|ge 2 rfl rfl rfl
     refine qm rfl<|es (ra1 rfl)<|C4 ?_
     obtain rfl:=os h
     exact retq trivial (B1 rfl B8) (A6 rfl B9) (A3 A8 B2)
end Ds
end
section
namespace Ds
open Go Am
theorem B5m {r:DrRoom} {x:List Int} (hb:NB r) (hx:N8 x):A07 r x = some true:= by
 unfold A07
 rw [C7q r hb]
 simp only [Option.bind_some]
 rw [D30]
 simp only [Option.bind_some]
 by_cases h0:(chk r).2.2 = 0
 ·obtain ⟨ok,-⟩:=(S5 r).mp h0
  have hP:=ok.persons
  have hF:=ok.figures
  obtain ⟨A,hA,n1,n2,n3⟩:=D6k ok hx
  rw [if_neg (by simp [h0]),hA]
  simp only [Option.bind_some]
  have hcan:(if ((List.length (ints A):Int) == (List.length r.Persons:Int)) = true then (N6 r (ints A)).bind fun x11=>some x11 else some false) = some (decide (A ∈ AL r r.Persons)):= by
   by_cases c:A.length = r.Persons.length
   ·rw [if_pos (by rw [F0,beq_iff_eq]; omega),A63 ok ⟨by omega,n2⟩]
    simp only [Option.bind_some]
    congr 1
    rw [Bool.eq_iff_iff,decide_eq_true_iff,B0r]
    exact ⟨fun h=>⟨⟨c,n1,n2⟩,h⟩,fun h=>h.2⟩
   ·rw [if_neg (by rw [F0,beq_iff_eq]; omega)]
    congr 1
    symm
    rw [decide_eq_false_iff_not,B0r]
    exact fun h=>c h.1.1
  rw [hcan]
  simp only [Option.bind_some]
  unfold B0f
  have hr:∀{α:Type} (a b:α),(if (chk r).2.2 ≠ 0 then a else b) = b:=fun a b=>if_neg (fun c=>c h0)
  rw [hr]
  cases hq:X9 r r.Persons with
  | none =>
   have hn:AL r r.Persons = []:=B12.mp hq
   rw [hn]
   simp only [List.not_mem_nil,decide_false]
   rw [if_pos (by decide),if_pos (by decide),awake]; rfl
  | some b =>
   have hbm:=B0x hq
   obtain ⟨⟨b1,b2,b3⟩,b4⟩:=B0r.mp hbm
   have hbq:QOk r b:=⟨by omega,b3⟩
   have hpe:=C60 h0 b1 b2 b3
   simp only
   rw [if_neg (by decide),C1j r _ (by rw [F0]; omega),hpe]
   simp only [Option.bind_some]
   rw [if_neg (by decide),A63 ok hbq,show A4u r (prs r b) = true from b4]
   simp only [Option.bind_some]
   rw [if_neg (by decide),C1k ok hbq]
   simp only [Option.bind_some]
   rw [show A6c r (prs r b) = W1 r r.Persons b from rfl,if_neg (by simp),C7t r hb _ (by rw [F0]; omega),A87 r _ (by rw [F0]; omega),hpe,C99,show A4u r (prs r b) = true from b4]
   simp only [Option.bind_some,ne_eq,not_true_eq_false,if_false,if_true,show A6c r (prs r b) = W1 r r.Persons b from rfl]
   rw [if_neg (by simp)]
   by_cases c:A ∈ AL r r.Persons
   ·have hle:=D6a hq c
    have ca:=(B0r.mp c).1
    have haq:QOk r A:=⟨by omega,n2⟩
    rw [decide_eq_true c,if_neg (by decide),C1k ok haq,show A6c r (prs r A) = W1 r r.Persons A from rfl]
    simp only [Option.bind_some]
    by_cases d:W1 r r.Persons A > W1 r r.Persons b
    ·rw [if_pos (by simpa using d)]
     simp only [Option.bind_some,if_true]
     rw [awake]; rfl
    ·have e:W1 r r.Persons A = W1 r r.Persons b:= by omega
     rw [if_neg (by simpa using d),if_pos (by simpa using e),D4c _ _ (by omega) (by omega),C52 hq c e]
     simp only [Option.bind_some,Bool.not_false,if_true]
     rw [awake]; rfl
   ·rw [decide_eq_false c,if_pos (by decide)]
    simp only [Option.bind_some,if_true]
    rw [awake]; rfl
 ·have e:((chk r).2.2 == 0) = false:=beq_eq_false_iff_ne.mpr h0
  rw [e,if_pos (by decide)]
  unfold B0f
  rw [if_pos h0]
  simp only
  rw [if_pos (by simp [h0]),awake]; rfl
end Ds
end
