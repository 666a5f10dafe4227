/- Texts that the claim stands on, one behind another. -/
import Derived.Test.YtdkflofgolehkaaA6
set_option linter.unusedVariables false
set_option linter.unusedSimpArgs false
set_option linter.unnecessarySimpa false
section
set_option maxRecDepth 100000
namespace Am
open Go
theorem C0u {σ ρ:Type} {b:σ→Option (σ ⊕ ρ)} (I:σ→Prop) (J:ρ→Prop) (hs:∀x y,I x→b x = some (.inl y)→I y) (he:∀x r,I x→b x = some (.inr r)→J r) {x0:σ} {r:ρ} (h0:I x0) (h:loop b x0 = some r):J r:= by
 have key:∀n x0,I x0→A4e b n x0 = some r→J r:= by
  intro n
  induction n with
  | zero=>intro x0 _ h; cases h
  | succ n ih =>
   intro x0 hI h
   rw [H8] at h
   split at h
   ·next x' hb=>exact ih x' (hs _ _ hI hb) h
   ·next r' hb=>simp only [Option.some.injEq] at h; subst h; exact he _ _ hI hb
   ·cases h
 exact key _ _ h0 h
end Am
namespace Ds
open Go Am Go.Proofs.Ytdkflofgolehkaa.Cd
def B6e (a:Int) (s:Int × List Int):Option ((Int × List Int) ⊕ List Int) :=
 (if (decide (s.1 > a)) = true then (idx s.2 s.1).bind fun x=>(idx s.2 (w64 (s.1 - 1))).bind fun y=>(A67 x y).bind fun z=>some z else some false).bind fun g =>
 if g = true then
  (idx s.2 (w64 (s.1 - 1))).bind fun y=>(idx s.2 s.1).bind fun x =>
  (idx (B1f s.2 s.1 y) (w64 (s.1 - 1))).bind fun _ =>
  some (.inl (w64 (s.1 - 1),B1f (B1f s.2 s.1 y) (w64 (s.1 - 1)) x))
 else some (.inr s.2)
def B6d (a b:Int) (s:Int × List Int):Option ((Int × List Int) ⊕ List Int) :=
 if (decide (s.1 < b)) = true then
  (loop (B6e a) (s.1,s.2)).bind fun l=>some (.inl (w64 (s.1 + 1),l))
 else some (.inr s.2)
def C5k (a b:Int) (l:List Int):Option (List Int):=loop (B6d a b) (w64 (a + 1),l)
def ar1 (l:List Int):AO:=.arr 1 false (l.map cI)
theorem D3y {c:Sc} {A B:A1} {a b:Int} {l r:List Int} (h:C5k a b l = some r) :
  G5 tab c (A++(ar1 l :: B)) (.fn (.func 105) [] []) [.asl (A.length + 0) l.length,.i a,.i b] [] (A++(ar1 r :: B)):= by
 unfold C5k at h
 have htk:∀x:AO,(x :: B).take (B.length + 1) = x :: B:=fun x=>List.take_of_length_le (Nat.le_refl _)
 refine A8h (aq:=[.asl (A.length + 0) l.length,.i a,.i b]) rfl rfl rfl ?_
 refine s0<|qm rfl<|A0 (E9 rfl rfl) rfl<|qm rfl<|es (ra4 rfl rfl rfl rfl)<|C3<|wl (fun s=>[(0,.asl (A.length + 0) s.2.length),(1,.i a),(2,.i b),(6,.i s.1)]) (fun (_:Unit) s=>ar1 s.2 :: B) (B.length + 1) (fun r e s' H'=>PX 0 [] (A++(ar1 r :: B)) e s' H') () h rfl rfl (fun _ _=>rfl) (fun _=>rfl) rfl (fun s=>bdc (A0g (Nat.ble_eq_true_of_le (by omega))) (bdc A8 (bdc A8 (bdc A8 bdn)))) (fun _ s o hs=>?_) ?_
 ·unfold B6d at hs
  refine B7<|s0<|qm rfl<|qm rfl<|A0 (G9 rfl rfl) rfl<|es (ra5 rfl rfl rfl rfl rfl)<|wi hs rfl (fun hc hs=>?_) fun hc hs=>?_
  ·refine oB hs fun l1 hl1 hs=>?_
   refine C1<|B7<|C3<|s0<|qm rfl<|qm rfl<|es (ra5 rfl rfl rfl rfl rfl)<|C3<|wl (fun t=>[(0,.asl (A.length + 0) t.2.length),(1,.i a),(2,.i b),(6,.i s.1),(7,.i t.1)]) (fun (_:Unit) t=>ar1 t.2 :: B) (B.length + 1) (fun r e s' H'=>PX 2 [(0,.asl (A.length + 0) r.length),(1,.i a),(2,.i b),(6,.i s.1)] (A++(ar1 r :: B)) e s' H') () hl1 rfl rfl (fun _ _=>rfl) (fun _=>rfl) rfl (fun t=>bdc (A0g (Nat.ble_eq_true_of_le (by omega))) (bdc A8 (bdc A8 (bdc A8 (bdc A8 bdn))))) (fun _ t o' ht=>?_) ?_
   ·unfold B6e at ht
    refine oB ht fun g hg ht=>?_
    refine B7<|s0<|qm rfl<|qm rfl<|A0 (A71 rfl rfl) rfl<|qm rfl<|gp 11 30 (.b g) 19 rfl rfl (fun hb=>?_) (fun hb=>?_) ?_
    ·refine oB (bt hg hb) fun x hx hg=>oB hg fun y hy hg=>oB hg fun z hz hg=>?_
     obtain rfl:=os hg
     exact gT rfl hb<|qm rfl<|gT rfl hb<|qm rfl<|gT rfl hb<|A0 (A8x (f:=cI) rfl rfl rfl rfl hx) rfl<|gT rfl hb<|A0 (A9v (x:=.i x) rfl rfl (List.length_map _) (A87 hx) rfl) rfl<|gT rfl hb<|qm rfl<|gT rfl hb<|qm rfl<|gT rfl hb<|A0 (A0h rfl rfl) rfl<|gT rfl hb<|A0 (A8x (f:=cI) rfl rfl rfl rfl hy) rfl<|gT rfl hb<|A0 (A9v (x:=.i y) rfl rfl (List.length_map _) (A87 hy) rfl) rfl<|gT rfl hb<|B4 (rs:=[.b z]) rfl rfl (A2 rfl (A2 rfl B5)) ((B5p hz).frz)<|A0 (C6 rfl hb rfl) rfl<|ge 11 rfl rfl rfl
    ·obtain rfl:=os (bf hg hb)
     exact nT rfl hb rfl<|nT rfl hb rfl<|nT rfl hb rfl<|nT rfl hb rfl<|nT rfl hb rfl<|nT rfl hb rfl<|nT rfl hb rfl<|nT rfl hb rfl<|nT rfl hb rfl<|K9 (F8 rfl (by rw [hb]; rfl)) rfl<|A0 (C5 rfl hb rfl) rfl<|ge 11 rfl rfl rfl
    ·refine es (ra6 rfl rfl rfl rfl rfl rfl)<|wi ht rfl (fun hc2 ht=>?_) fun hc2 ht=>?_
     ·refine oB ht fun y hy ht=>oB ht fun x hx ht=>oB ht fun w hw ht=>?_
      refine C1<|B7<|C3<|r0<|qm rfl<|qm rfl<|qm rfl<|qm rfl<|A0 (A0h rfl rfl) rfl<|A0 (A8x (f:=cI) rfl rfl rfl rfl hy) rfl<|A0 (A9v (x:=.i y) rfl rfl (List.length_map _) (A87 hy) rfl) rfl<|qm rfl<|qm rfl<|A0 (A8x (f:=cI) rfl rfl rfl rfl hx) rfl<|A0 (A9v (x:=.i x) rfl rfl (List.length_map _) (A87 hx) rfl) rfl<|A0 (A8x (f:=cI) rfl rfl rfl rfl hx) rfl<|I0 (C4r (ds:=cI y) rfl rfl rfl rfl rfl (List.length_map _) (A87 hx) rfl rfl) rfl ?_
      rw [C4k]
      refine qm rfl<|qm rfl<|A0 (A0h rfl rfl) rfl<|A0 (A8x (f:=cI) (e:=B1f t.2 t.1 y) rfl rfl rfl (A5u _ _ _) hw) rfl<|I0 (C4r (ds:=cI x) rfl rfl rfl rfl rfl (by rw [List.length_map,A5u]) (A87 hw) rfl rfl) rfl ?_
      rw [C4k]
      refine en (ra5 rfl rfl rfl rfl rfl)<|r0<|qm rfl<|A0 (A0h rfl rfl) rfl<|qm rfl<|en (ra5 rfl rfl rfl rfl rfl) ?_
      cases ht
      exact lnT () (htk _) (su5 (by simp only [A5u]; rfl) rfl rfl rfl rfl)
     ·refine F5 ?_
      obtain rfl:=os ht
      exact lx rfl px (su4 rfl rfl rfl rfl)
   ·rintro e s' H' - ⟨rfl,rfl,rfl⟩
    refine r0<|qm rfl<|A0 (E9 rfl rfl) rfl<|qm rfl<|en (ra4 rfl rfl rfl rfl) ?_
    cases hs
    exact lnT () (htk _) (su4 rfl rfl rfl rfl)
  ·refine F5 ?_
   obtain rfl:=os hs
   exact lx rfl px (Sub.nil _)
 ·rintro e s' H' - ⟨rfl,rfl,rfl⟩
  show B87 _ _ _ _ .normal _ _
  exact C7b trivial B8 B9 B2 (List.take_of_length_le (by simp))
def D5t (a b:Int) (l:List Int):Option (List Int):=if (decide (w64 (b - a)≤12)) = true then C5k a b l else none
theorem D5u {c:Sc} {A B:A1} {a b k:Int} {l r:List Int} (h:D5t a b l = some r) :
  G5 tab c (A++(ar1 l :: B)) (.fn (.func 96) [] []) [.asl (A.length + 0) l.length,.i a,.i b,.i k] [] (A++(ar1 r :: B)):= by
 unfold D5t at h
 split at h
 ·next hc =>
  refine A8h (aq:=[.asl (A.length + 0) l.length,.i a,.i b,.i k]) rfl rfl rfl ?_
  refine s0<|qm rfl<|es (ra5 rfl rfl rfl rfl rfl)<|s0<|qm rfl<|es (ra6 rfl rfl rfl rfl rfl rfl)<|C3<|D32 (B.length + 1) rfl _ (fun S hS=>O7 (live:=[0,1,2,3,8,9]) rfl (by decide) (Sub.trans (su6 rfl rfl rfl rfl rfl rfl) hS))<|C3<|s0<|qm rfl<|qm rfl<|A0 (A0h rfl rfl) rfl<|qm rfl<|es (ra7 rfl rfl rfl rfl rfl rfl rfl)<|B7<|s0<|qm rfl<|A0 (B6n rfl rfl) rfl<|es (ra8 rfl rfl rfl rfl rfl rfl rfl rfl)<|R8 rfl hc<|s0<|qm rfl<|qm rfl<|qm rfl<|R3 (T1 rfl rfl (D3y h) rfl) rfl<|es .n<|C4 ?_
  refine .out rfl ?_
  show B87 _ _ _ _ .ret _ _
  exact C7b trivial B8 B9 B2 (List.take_of_length_le (by simp))
 ·cases h
def B8q (l:List Int):Option (List Int) :=
 (A53 (IntKind.u64.wrap (List.length l:Int))).bind fun _=>D5t 0 (List.length l:Int) l
theorem D51 {c:Sc} {A B:A1} {l r:List Int} (h:B8q l = some r) :
  G5 tab c (A++(ar1 l :: B)) (.fn (.func 67) [] []) [.asl (A.length + 0) l.length] [] (A++(ar1 r :: B)):= by
 unfold B8q at h
 refine oB h fun k hk h=>?_
 refine A8h (aq:=[.asl (A.length + 0) l.length]) rfl rfl rfl ?_
 refine s0<|qm rfl<|A0 (A8z (f:=cI) rfl rfl rfl) rfl<|qm rfl<|es (ra2 rfl rfl)<|r0<|qm rfl<|qm rfl<|qm rfl<|A0 (A7m rfl) rfl<|B4 (rs:=[.i k]) rfl rfl (A2 rfl B5) ((B33 hk).frz)<|R3 (T1 rfl rfl (D5u h) rfl) rfl<|en .n ?_
 show B87 _ _ _ _ .normal _ _
 exact C7b trivial B8 B9 B2 (List.take_of_length_le (by simp))
theorem D0u {a b:Int} {l r:List Int} (h:C5k a b l = some r):r.length = l.length:= by
 unfold C5k at h
 refine C0u (fun s=>s.2.length = l.length) (fun r=>r.length = l.length) (fun x y hx hy=>?_) (fun x r hx hr=>?_) rfl h
 ·unfold B6d at hy
  split at hy
  ·refine oB hy fun l1 hl1 hy=>?_
   cases hy
   refine C0u (fun s=>s.2.length = l.length) (fun r=>r.length = l.length) (fun x y hx hy=>?_) (fun x r hx hr=>?_) hx hl1
   ·unfold B6e at hy
    refine oB hy fun g _ hy=>?_
    split at hy
    ·refine oB hy fun _ _ hy=>oB hy fun _ _ hy=>oB hy fun _ _ hy=>?_
     cases hy
     simpa only [A5u] using hx
    ·cases hy
   ·unfold B6e at hr
    refine oB hr fun g _ hr=>?_
    split at hr
    ·refine oB hr fun _ _ hr=>oB hr fun _ _ hr=>oB hr fun _ _ hr=>?_
     cases hr
    ·cases hr; exact hx
  ·cases hy
 ·unfold B6d at hr
  split at hr
  ·refine oB hr fun _ _ hr=>?_
   cases hr
  ·cases hr; exact hx
theorem D0v {l r:List Int} (h:B8q l = some r):r.length = l.length:= by
 unfold B8q D5t at h
 refine oB h fun _ _ h=>?_
 split at h
 ·exact D0u h
 ·cases h
end Ds
end
section
set_option maxRecDepth 100000
namespace Ds
open Go Am Go.Proofs.Ytdkflofgolehkaa.Cd
def B6w (t:DrRoom) (person:Int):Option ((Chg × dress_plan) × Int) :=
 (L7 t).bind fun x1 =>
 if (x1.2.2 != 0) = true then some (([],plan0),x1.2.2)
 else (loop (M2 t) (0,[])).bind fun ch =>
  (J1 0 (w64 ((List.length t.Persons:Int) - 1)) [person]).bind fun k =>
  if k = true then some (([],plan0),4)
  else (J3 ⟨t⟩).bind fun w=>(P1 t ch w).bind fun z =>
   if (!z.2) = true then some (([],plan0),9) else some ((ch,z.1),0)
def C6d (N:Nat) (t:DrRoom) (ch:Chg) (p:dress_plan):List AO:=[.cells (A4 t),.cells (A9 p),.cells (A4 t),.map (A98 ch),.cells (A4h t (N + 3)),.cells (A9 p)]
def EnQ (H:A1) (t:DrRoom) (r:(Chg × dress_plan) × Int) (e:Ex) (s:B3) (H1:A1):Prop :=
 (match e with | .exit _=>False | _=>True)∧∃ rs H2,results s H1 [.tmp 4,.cell 5 (some 6),.tmp 6] = some rs∧P6 H.length H1 rs = some (rs,H2) ∧
  ((r.2 != 0) = true∧rs = [.lit (.pointer none),.agg (A9 plan0),.i r.2]∧trunc H.length rs H2 = H∨r.2 = 0∧rs = [.ptr (H.length + 4) 0,.agg (A9 r.1.2),.i 0]∧trunc H.length rs H2 = H++C6d H.length t r.1.1 r.1.2)
theorem C1x {H:A1} {l:List AO} {s:B3} {t:DrRoom} {e:Int} {x:Chg × dress_plan} (he:(e != 0) = true) (h4:sget s 4 = some (.lit (.pointer none))) (h5:sget s 5 = some (.ptr (H.length + 1) 0)) (h6:sget s 6 = some (.i e)) (hl:l[1]? = some (.cells (A9 plan0))):EnQ H t (x,e) .ret s (H++l) :=
 ⟨trivial,_,_,B1 h4 (O9 (I4 (ds:=A9 plan0) h5 hl rfl rfl) (B1 h6 B8)),A6 rfl (A6 (A1m rfl) (A6 rfl B9)),.inl ⟨he,rfl,by rw [C1g (by rfl),List.append_nil]⟩⟩
theorem D1w {c:Sc} {H:A1} (hscv:R5 c H = true) {t:DrRoom} {person:Int} {r:(Chg × dress_plan) × Int} (h:B6w t person = some r) :
  (r.2 != 0) = true∧G5 tab c H (.fn (.func 64) [] []) [.agg (A4 t),.i person] [.lit (.pointer none),.agg (A9 plan0),.i r.2] H ∨
  r.2 = 0∧G5 tab c H (.fn (.func 64) [] []) [.agg (A4 t),.i person] [.ptr (H.length + 4) 0,.agg (A9 r.1.2),.i 0] (H++C6d H.length t r.1.1 r.1.2):= by
 have key:WP tab c64 (I6 0 [.agg (A4 t),.i person]) (H++[]) ⟨H.length,c.cur :: c.outer⟩ (EnQ H t r):= by
  unfold B6w at h
  refine oB h fun x1 hx1 h=>?_
  refine sg 0 rfl<|A0 (F6 (cs:=A4 t) rfl rfl rfl) rfl<|qm rfl<|A0 E5 rfl<|qm rfl<|es (ra3 rfl rfl rfl) ?_
  by_cases hc1:(x1.2.2 != 0) = true
  ·rw [if_pos hc1] at h
   obtain rfl:=os h
   refine s0<|A0 (C2 rfl rfl rfl) rfl<|R3 (W9 rfl rfl (A2 (D0 rfl) B5) (B7h hx1 hc1) rfl) rfl<|qm rfl<|A0 (A7 rfl rfl) rfl<|A0 (A7 rfl rfl) rfl<|qm rfl<|qm rfl<|es (ra5 rfl rfl rfl rfl rfl)<|B7<|C3<|s0<|qm rfl<|A0 (J0 rfl rfl) rfl<|qm rfl<|es (ra6 rfl rfl rfl rfl rfl rfl)<|R8 rfl hc1<|s0<|A0 (L3 (cs:=A9 plan0) rfl rfl) rfl<|qm rfl<|qm rfl<|I0 (D2 (ds:=A9 plan0) rfl rfl rfl rfl (C8 rfl) rfl) rfl<|qm rfl<|es (ra3 rfl rfl rfl)<|C4<|C1x hc1 rfl rfl rfl rfl
  ·rw [if_neg hc1] at h
   have hc1:(x1.2.2 != 0) = false:=Bool.eq_false_iff.2 hc1
   refine oB h fun ch hch h=>oB h fun k hk h=>?_
   have hlook:G5 tab ⟨H.length,c.cur :: c.outer⟩ (H++[.cells (A4 t),.cells (A9 plan0)]) (.fn (.func 52) [] []) [(.agg (A4 t))] [.ptr (H.length + 4) 0,.i 0] (H++[.cells (A4 t),.cells (A9 plan0),.cells (A4 t),.map (A98 ch),.cells (A4h t (H.length + 3))]):= by
    have:=B7i (c:=⟨H.length,c.cur :: c.outer⟩) (H:=H++[.cells (A4 t),.cells (A9 plan0)]) hx1 hc1 hch
    unfold C8n at this
    rw [List.length_append,List.append_assoc] at this
    exact this
   refine s0<|A0 (C2 rfl rfl rfl) rfl<|R3 (W9 rfl rfl (A2 (D0 rfl) B5) hlook rfl) rfl<|qm rfl<|A0 (A7 rfl rfl) rfl<|A0 (A7 rfl rfl) rfl<|qm rfl<|qm rfl<|es (ra5 rfl rfl rfl rfl rfl)<|B7<|C3<|s0<|qm rfl<|A0 (O0 (v:=(.b false)) rfl rfl rfl) rfl<|qm rfl<|es (ra6 rfl rfl rfl rfl rfl rfl)<|Z1 rfl rfl<|s0<|A0 (D1 rfl) rfl<|A0 (C7 rfl rfl rfl) rfl<|A0 (D4 (f:=A5) rfl) rfl<|A0 (A0h rfl rfl) rfl<|qm rfl<|A0 (G4 (rows:=List.map cI [person]) rfl rfl (D8 (fun _=>rfl) _)) rfl<|B4 (rs:=[.b k]) rfl rfl (A2 rfl (A2 rfl (A2 rfl B5))) ((M3 hk).frz)<|qm rfl<|es (ra3 rfl rfl rfl)<|wi h rfl (fun hc2 h=>?_) fun hc2 h=>?_
   ·obtain rfl:=os h
    exact s0<|A0 (L3 (cs:=A9 plan0) rfl rfl) rfl<|qm rfl<|I0 (D2 (ds:=A9 plan0) rfl rfl rfl rfl (C8 rfl) rfl) rfl<|qm rfl<|es (ra3 rfl rfl rfl)<|C4<|C1x rfl rfl rfl rfl rfl
   refine oB h fun w hw h=>oB h fun z hz h=>?_
   refine C1<|sg 5 rfl<|qm rfl<|qm rfl<|B4 (rs:=[.i w]) rfl rfl (A2 rfl B5) ((N1 (a0:=⟨t⟩) (D7 rfl) hw).frz)<|B4 (rs:=[(.agg (A9 z.1)),.b z.2]) rfl rfl (A2 rfl (A2 rfl B5)) (B5v (t:=t) (ch:=ch) ⟨_,D7 rfl,A1r rfl⟩ (A1n hscv) hz)<|qm rfl<|A0 (A7 rfl rfl) rfl<|A0 (A7 rfl rfl) rfl<|A0 E5 rfl<|I0 (D2 (ds:=(A9 z.1)) rfl rfl rfl rfl (C8 rfl) rfl) rfl<|qm rfl<|es (ra4 rfl rfl rfl rfl)<|B7<|s0<|qm rfl<|A0 (Q2 rfl) rfl<|es (ra4 rfl rfl rfl rfl)<|wi h rfl (fun hc3 h=>?_) fun hc3 h=>?_
   ·obtain rfl:=os h
    exact s0<|A0 (L3 (cs:=A9 plan0) rfl rfl) rfl<|qm rfl<|I0 (D2 (ds:=A9 plan0) rfl rfl rfl rfl (C8 rfl) rfl) rfl<|qm rfl<|es (ra3 rfl rfl rfl)<|C4<|C1x rfl rfl rfl rfl rfl
   ·obtain rfl:=os h
    refine C1<|s0<|qm rfl<|A0 (C2 rfl rfl rfl) rfl<|qm rfl<|I0 (D2 (ds:=(A9 z.1)) rfl rfl rfl rfl (C8 rfl) rfl) rfl<|qm rfl<|es (ra3 rfl rfl rfl)<|C4 ?_
    exact ⟨trivial,_,_,B1 rfl (O9 (I4 (ds:=A9 z.1) rfl rfl rfl rfl) (B1 rfl B8)),A6 rfl (A6 (A1m rfl) (A6 rfl B9)),.inr ⟨rfl,rfl,B8w C70⟩⟩
 rw [List.append_nil] at key
 obtain ⟨e,S',s',H2,h1,h2,h3,rs,H3,h4,h5,h6⟩:=key _ (Sub.refl _)
 have hrun:∀H',trunc H.length rs H3 = H'→G5 tab c H (.fn (.func 64) [] []) [.agg (A4 t),.i person] rs H':=fun H' hH =>
  G5.fn (af:=a64) (bd:=c64) (aq:=[.agg (A4 t),.i person]) (rs0:=rs) (rs1:=rs) (H1:=H3) (e:=e) (st':=⟨S',H2,⟨H.length,c.cur :: c.outer⟩⟩) rfl rfl rfl rfl rfl rfl h1 (by cases e <;> first | rfl | exact h3.elim) (O8 h2 h4) h5 rfl hH.symm
 rcases h6 with ⟨h6,rfl,h7⟩ | ⟨h6,rfl,h7⟩
 ·exact .inl ⟨h6,hrun _ h7⟩
 ·exact .inr ⟨h6,hrun _ h7⟩
theorem retq0 {H:A1} {s:B3} {rv:List ARes} {rs:List AV} {e:Ex} (h:RetQ H rv rs e s (H++[])):RetQ H rv rs e s H:= by rwa [List.append_nil] at h
theorem D2i {c:Sc} {A B:A1} {b:Nat} {l:List Int} {x r:Int} (hb:A.length = b) (h:M1 l x = some r):E7 tab c (A++(ar1 l :: B)) (.fn (.func 95) [] []) [.asl b l.length,.i x] [.i r]:= by
 subst hb
 unfold M1 at h
 have htk:∀x:AO,(x :: B).take (B.length + 1) = x :: B:=fun x=>List.take_of_length_le (Nat.le_refl _)
 refine B6r (aq:=[.asl A.length l.length,.i x]) rfl rfl rfl ?_
 refine s0<|qm rfl<|es (ra2 rfl rfl)<|B7<|s0<|qm rfl<|A0 (A8z (f:=cI) (j:=0) rfl rfl rfl) rfl<|qm rfl<|es (ra4 rfl rfl rfl rfl)<|C3<|oB h fun o6 ho6 h=>wl (fun s1=>[(0,(.asl (A.length + 0) l.length)),(1,.i x),(7,(.i (List.length l:Int))),(8,.i s1)]) (fun (q2:Unit) s1=>ar1 l :: B) (B.length + 1) (fun r e s' H'=>(match r with | (.inl v)=>e = .ret∧RetQ (A++(ar1 l :: B)) [.tmp 4] [.i v] e s' H' | (.inr v)=>PX 0 [] (A++(ar1 l :: B)) e s' H':Prop)) () ho6 rfl rfl (fun _ _=>rfl) (fun _=>rfl) rfl (fun s1=>(bdc (A0g (Nat.ble_eq_true_of_le (by omega))) (bdc A8 (bdc A8 (bdc A8 bdn))))) (fun q2 s1 ys1 hs1=>?_) ?_
 ·unfold G3 at hs1
  refine s0<|A0 (G9 rfl rfl) rfl<|es (ra5 rfl rfl rfl rfl rfl)<|B7<|wi hs1 rfl (fun hc3 hs1=>?_) fun hc3 hs1=>?_
  ·refine C1<|B7<|C3<|s0<|qm rfl<|qm rfl<|es (ra5 rfl rfl rfl rfl rfl)<|s0<|oB hs1 fun x4 hx4 hs1=>qm rfl<|qm rfl<|qm rfl<|A0 (A8x (f:=cI) rfl rfl rfl rfl hx4) rfl<|A0 (A9v (x:=.i x4) rfl rfl (List.length_map _) (A87 hx4) rfl) rfl<|A0 (F7 rfl rfl) rfl<|es (ra6 rfl rfl rfl rfl rfl rfl)<|wi hs1 rfl (fun hc5 hs1=>?_) fun hc5 hs1=>?_
   ·refine s0<|qm rfl<|qm rfl<|es (ra1 rfl)<|C4 ?_
    obtain rfl:=os hs1
    exact lx rfl (And.intro rfl (retq0 (retq trivial (B1 rfl B8) (A6 rfl B9) (A3 A8 B2)))) (Sub.refl _)
   ·refine C1<|r0<|A0 (E9 rfl rfl) rfl<|qm rfl<|en (ra4 rfl rfl rfl rfl) ?_
    cases hs1
    exact lnT () (htk _) (su4 rfl rfl rfl rfl)
  ·refine F5 ?_
   obtain rfl:=os hs1
   exact lx rfl px (.nil _)
 ·rcases o6 with vo6_0 | vo6_1
  ·rintro e s' H' - ⟨rfl,hret⟩
   cases h
   exact hret
  ·rintro e s' H' - ⟨rfl,rfl,rfl⟩
   refine s0<|qm rfl<|es (ra1 rfl)<|C4 ?_
   obtain rfl:=os h
   exact retq0 (retq trivial (B1 rfl B8) (A6 rfl B9) (A3 A8 B2))
theorem C3s {c:Sc} {A B:A1} {b:Nat} {l:List Int} {x:Int} {r:Bool} (hb:A.length = b) (h:F9 l x = some r):E7 tab c (A++(ar1 l :: B)) (.fn (.func 66) [] []) [.asl b l.length,.i x] [.b r]:= by
 unfold F9 at h
 refine oB h fun x1 hx1 h=>?_
 refine B6r (aq:=[.asl b l.length,.i x]) rfl rfl rfl ?_
 refine s0<|qm rfl<|es (ra2 rfl rfl)<|s0<|qm rfl<|qm rfl<|R3 (A48 (rs:=[.i x1]) rfl rfl ((D2i hb hx1).frz)) rfl<|A0 (A6e rfl rfl) rfl<|qm rfl<|es (ra1 rfl)<|C4 ?_
 obtain rfl:=os h
 exact retq0 (retq trivial (B1 rfl B8) (A6 rfl B9) (A3 A8 B2))
def B4m (person:Int) (best:dress_plan) (l:List dress_plan) (s:Int × List Int):Option ((Int × List Int) ⊕ List Int) :=
 if (decide (s.1 < (List.length l:Int))) = true then
  (idx l s.1).bind fun p=>(idx p.figures_ person).bind fun f =>
  (if (p.cost_ == best.cost_) = true then (F9 s.2 f).bind fun k=>some (!k) else some false).bind fun g =>
  if g = true then (app 8 s.2 [f]).bind fun q=>some (.inl (w64 (s.1 + 1),q))
  else some (.inl (w64 (s.1 + 1),s.2))
 else some (.inr s.2)
def A2e (t:DrRoom) (person:Int):Option (List Int × Int) :=
 (B6w t person).bind fun r =>
 if (r.2 != 0) = true then some ([],r.2)
 else (J3 ⟨t⟩).bind fun w=>(R9 t r.1.1 w).bind fun l =>
  (loop (B4m person r.1.2 l) (0,[])).bind fun o=>(B8q o).bind fun q=>some (q,0)
def B4l (N:Nat) (t:DrRoom) (ch:Chg) (p:dress_plan) (s:List Int):List AO:=[.cells (A4 t),ar1 s,.cells (A9 p),.cells (A4 t),.cells (A9 p),.cells (A4 t),.map (A98 ch),.cells (A4h t (N + 6)),.cells (A9 p)]
theorem A4j {c:Sc} {H:A1} (hscv:R5 c H = true) {a0:DrRoom} {a1:Int} {r:List Int × Int} (h:A2e a0 a1 = some r) :
  T2 tab c H (.fn (.func 28) [] []) [(.agg (A4 a0)),.i a1] [(.seq 1 (List.map cI r.1)),.i r.2]:= by
 unfold A2e at h
 refine oB h fun x hx h=>?_
 refine cF rfl rfl<|sg 0 rfl<|A0 (F6 (cs:=A4 a0) rfl rfl rfl) rfl<|A0 A2y rfl<|qm rfl<|es (ra3 rfl rfl rfl)<|sg 2 rfl<|A0 (C2 rfl rfl rfl) rfl<|qm rfl ?_
 rcases D1w (c:=⟨H.length,c.cur :: c.outer⟩) (H:=H++[.cells (A4 a0),ar1 [],.dead]) (A1n hscv) hx with ⟨hc,hcall⟩ | ⟨hc,hcall⟩
 ·rw [if_pos hc] at h
  obtain rfl:=os h
  refine R3 (W9 rfl rfl (A2 (D0 rfl) (A2 rfl B5)) hcall rfl) rfl<|qm rfl<|A0 (A7 rfl rfl) rfl<|A0 (A7 rfl rfl) rfl<|A0 (A7 rfl rfl) rfl<|A0 E5 rfl<|qm rfl<|I0 (D2 (ds:=A9 plan0) rfl rfl rfl rfl (C8 rfl) rfl) rfl<|qm rfl<|es (ra5 rfl rfl rfl rfl rfl)<|B7<|s0<|qm rfl<|A0 (J0 rfl rfl) rfl<|es (ra6 rfl rfl rfl rfl rfl rfl)<|R8 rfl hc<|sg 3 rfl<|qm rfl<|A0 A2y rfl<|qm rfl<|es (ra2 rfl rfl)<|C4 ?_
  exact ⟨[.fresh 1 (List.map cI []),.i x.2],retq trivial (B1 rfl (B1 rfl B8)) (A6 (A16 rfl (List.length_map _)) (A6 rfl B9)) (A3 U7 (A3 A8 B2)),rfl⟩
 ·obtain ⟨⟨ch,best⟩,e⟩:=x
  dsimp only at hc
  subst hc
  rw [if_neg (by simp)] at h
  refine oB h fun w hw h=>oB h fun l hl h=>oB h fun o ho h=>oB h fun q hq h=>?_
  obtain rfl:=os h
  have hcall:G5 tab ⟨H.length,c.cur :: c.outer⟩ (H++[.cells (A4 a0),ar1 [],.dead]) (.fn (.func 64) [] []) [.agg (A4 a0),.i a1] [.ptr (H.length + 7) 0,.agg (A9 best),.i 0] (H++[.cells (A4 a0),ar1 [],.dead,.cells (A4 a0),.cells (A9 best),.cells (A4 a0),.map (A98 ch),.cells (A4h a0 (H.length + 6)),.cells (A9 best)]):= by
   unfold C6d at hcall
   rw [List.length_append,List.append_assoc] at hcall
   exact hcall
  have hH:∀s:List Int,H++B4l H.length a0 ch best s = (H++[.cells (A4 a0)])++(ar1 s :: (B4l H.length a0 ch best s).drop 2):=fun s=>by simp [B4l]
  have hA:(H++[AO.cells (A4 a0)]).length = H.length + 1:= by simp
  refine R3 (W9 rfl rfl (A2 (D0 rfl) (A2 rfl B5)) hcall rfl) rfl<|qm rfl<|A0 (A7 rfl rfl) rfl<|A0 (A7 rfl rfl) rfl<|A0 (A7 rfl rfl) rfl<|A0 E5 rfl<|qm rfl<|I0 (D2 (ds:=A9 best) rfl rfl rfl rfl (C8 rfl) rfl) rfl<|qm rfl<|es (ra5 rfl rfl rfl rfl rfl)<|B7<|s0<|qm rfl<|A0 (O0 (v:=(.b false)) rfl rfl rfl) rfl<|es (ra6 rfl rfl rfl rfl rfl rfl)<|Z1 rfl rfl<|C1<|B7<|s0<|qm rfl<|qm rfl<|B4 (rs:=[.i w]) rfl rfl (A2 rfl B5) ((N1 (a0:=⟨a0⟩) (D7 rfl) hw).frz)<|B4 (rs:=[.seq 6 (l.map A9)]) rfl rfl (A2 rfl (A2 rfl B5)) (C2w (t:=a0) (ch:=ch) ⟨_,D7 rfl,A1r rfl⟩ (A1n hscv) hl)<|A0 (D4 (f:=A9) rfl) rfl<|qm rfl<|es (ra6 rfl rfl rfl rfl rfl rfl)<|C3<|wl (fun s=>[(1,.i a1),(4,.asl (H.length + 1) s.2.length),(7,.ptr (H.length + 2) 0),(24,.seq 6 (l.map A9)),(25,.i (List.length l:Int)),(26,.i s.1)]) (fun (_:Unit) s=>B4l H.length a0 ch best s.2) 9 (fun r e s' H'=>PX 0 [(4,.asl (H.length + 1) r.length)] (H++B4l H.length a0 ch best r) e s' H') () ho rfl rfl (fun _ _=>rfl) (fun _=>rfl) rfl (fun s=>bdc A8 (bdc (A0g rfl) (bdc (F2 rfl) (bdc E6 (bdc A8 (bdc A8 bdn)))))) (fun _ s o hs=>?_) ?_
  ·unfold B4m at hs
   refine s0<|A0 (G9 rfl rfl) rfl<|es (ra7 rfl rfl rfl rfl rfl rfl rfl)<|B7<|wi hs rfl (fun hc hs=>?_) fun hc hs=>?_
   ·refine oB hs fun p hp hs=>oB hs fun f hf hs=>oB hs fun g hg hs=>?_
    refine C1<|B7<|C3<|sg 9 rfl<|A0 (E3 (f:=A9) rfl rfl hp) rfl<|A0 (M7 rfl rfl) rfl<|A0 E5 rfl<|I0 (D2 (ds:=A9 p) rfl rfl rfl rfl (C8 rfl) rfl) rfl<|es (ra7 rfl rfl rfl rfl rfl rfl rfl)<|s0<|A0 (D1 rfl) rfl<|A0 (C7 rfl rfl rfl) rfl<|qm rfl<|A0 (E3 (f:=cI) rfl rfl hf) rfl<|A0 (E8 rfl rfl) rfl<|qm rfl<|es (ra8 rfl rfl rfl rfl rfl rfl rfl rfl)<|s0<|A0 (D1 rfl) rfl<|A0 (C7 (x:=.i p.cost_) rfl rfl rfl) rfl<|A0 (D1 rfl) rfl<|A0 (C7 (x:=.i best.cost_) rfl rfl rfl) rfl<|A0 (F7 rfl rfl) rfl<|qm rfl<|gp 5 45 (.b g) 40 rfl rfl (fun hb=>?_) (fun hb=>?_) ?_
    ·refine oB (bt hg hb) fun k hk hg=>?_
     obtain rfl:=os hg
     have hcon:T2 tab ⟨H.length + 9,(⟨H.length,c.cur :: c.outer⟩:Sc).cur :: (⟨H.length,c.cur :: c.outer⟩:Sc).outer⟩ (H++(B4l H.length a0 ch best s.2++[.cells (A9 p)])) (.fn (.func 66) [] []) [.asl (H.length + 1) s.2.length,.i f] [.b k]:= by
      have:=(C3s (c:=⟨H.length + 9,(⟨H.length,c.cur :: c.outer⟩:Sc).cur :: (⟨H.length,c.cur :: c.outer⟩:Sc).outer⟩) (B:=(B4l H.length a0 ch best s.2).drop 2++[.cells (A9 p)]) hA hk).frz
      rw [show (H++[AO.cells (A4 a0)])++(ar1 s.2 :: ((B4l H.length a0 ch best s.2).drop 2++[.cells (A9 p)])) = H++(B4l H.length a0 ch best s.2++[.cells (A9 p)]) by simp [B4l]] at this
      exact this
     exact gT rfl hb<|qm rfl<|gT rfl hb<|qm rfl<|gT rfl hb<|R3 (A48 (rs:=[.b k]) rfl rfl hcon) rfl<|gT rfl hb<|A0 (Q2 rfl) rfl<|A0 (C6 rfl hb rfl) rfl<|ge 5 rfl rfl rfl
    ·obtain rfl:=os (bf hg hb)
     exact nT rfl hb rfl<|nT rfl hb rfl<|K9 (F8 rfl (by rw [hb]; rfl)) rfl<|nT rfl hb rfl<|A0 (C5 rfl hb rfl) rfl<|ge 5 rfl rfl rfl
    refine es (ra8 rfl rfl rfl rfl rfl rfl rfl rfl)<|wi hs rfl (fun hc2 hs=>?_) fun hc2 hs=>?_
    ·refine oB hs fun q hq hs=>?_
     refine r0<|qm rfl<|qm rfl<|A0 (G4 (rows:=List.map cI [f]) rfl rfl (D8 (fun _=>rfl) _)) rfl<|R3 (W6 (f:=cI) rfl rfl rfl rfl S8 (fun _=>rfl) hq) rfl<|qm rfl<|en (ra6 rfl rfl rfl rfl rfl rfl)<|r0<|A0 (E9 rfl rfl) rfl<|qm rfl<|en (ra6 rfl rfl rfl rfl rfl rfl) ?_
     cases hs
     exact lnT () rfl (su6 rfl rfl rfl rfl rfl rfl)
    ·refine C1<|r0<|A0 (E9 rfl rfl) rfl<|qm rfl<|en (ra6 rfl rfl rfl rfl rfl rfl) ?_
     cases hs
     exact lnT () rfl (su6 rfl rfl rfl rfl rfl rfl)
   ·refine F5 ?_
    obtain rfl:=os hs
    exact lx rfl px (su1 rfl)
  ·rintro e s' H' - ⟨rfl,rfl,rfl⟩
   have hsort:G5 tab ⟨H.length,c.cur :: c.outer⟩ (H++B4l H.length a0 ch best o) (.fn (.func 67) [] []) [.asl (H.length + 1) o.length] [] (H++B4l H.length a0 ch best q):= by
    have:=D51 (c:=⟨H.length,c.cur :: c.outer⟩) (A:=H++[AO.cells (A4 a0)]) (B:=(B4l H.length a0 ch best o).drop 2) hq
    rw [hA] at this
    rw [hH o,hH q]
    exact this
   refine s0<|qm rfl<|R3 (T1 rfl rfl hsort rfl) rfl<|es (ra1 rfl)<|s0<|qm rfl<|qm rfl<|qm rfl<|es (ra2 rfl rfl)<|C4 ?_
   exact ⟨[.fresh 1 (List.map cI q),.i 0],retq trivial (B1 rfl (B1 rfl B8)) (A6 (A16 rfl (by rw [List.length_map]; exact D0v hq)) (A6 rfl B9)) (A3 U7 (A3 A8 B2)),rfl⟩
end Ds
end
section
set_option maxRecDepth 100000
set_option maxHeartbeats 0
namespace Ds
open Go Am Go.Proofs.Ytdkflofgolehkaa.Cd
def S9 :Option Bool :=
 (A41 2).bind fun x1 =>
 (A41 1).bind fun x2 =>
 (A0m x1 0 0).bind fun x3 =>
 (A13 x1 [2,0,1]).bind fun x4 =>
 (A14 x1 [1,0,2]).bind fun x5 =>
 (A0l x1).bind fun x6 =>
 (A0l x2).bind fun x7 =>
 (A2e x1 2).bind fun x8 =>
 (X9 x1 1).bind fun x9 =>
 (A9i x2).bind fun x10 =>
 (A9h x2).bind fun x11 =>
 (if ((((((((((x3.2.2 == 0) && (x4.2 == 0)) && (x5.2 == 0)) && (x6.2.2 == 0)) && (x7.2.2 == 9)) && (x8.2 == 0)) && (x9.2 == 0)) && (x10.2 == 0)) && (x11.2.2 == 0)) && (x3.1 == 14)) = true then
  (L1 x3.2.1 [0,2]).bind fun x22 =>
  some x22
 else
  some false).bind fun x23 =>
 (if x23 = true then
  (L1 x4.1 [4,(-1)]).bind fun x25 =>
  some x25
 else
  some false).bind fun x26 =>
 (if (x26 && (x5.1 == 14)) = true then
  (L1 x6.1 [1,0,2]).bind fun x29 =>
  some x29
 else
  some false).bind fun x30 =>
 (if (x30 && (x6.2.1 == 14)) = true then
  (L1 x8.1 [2]).bind fun x33 =>
  some x33
 else
  some false).bind fun x34 =>
 (if (x34 && (x9.1 == 10)) = true then
  (L1 x10.1 [0]).bind fun x37 =>
  some x37
 else
  some false).bind fun x38 =>
 (if x38 = true then
  (L1 x11.1 [0,1]).bind fun x40 =>
  some x40
 else
  some false).bind fun x41 =>
 some (x41 && (x11.2.1 == 14))
theorem T7 {c:Sc} {H:A1} (hscv:R5 c H = true)  {r:Bool} (h:S9  = some r) :
  E7 tab c H (.fn (.func 21) [] []) [] [.b r]:= by
 unfold S9 at h
 refine cE rfl rfl<|s0<|qm rfl<|es .n<|sg 0 rfl<|oB h fun x1 hx1 h=>oB h fun x2 hx2 h=>B4 (rs:=[(.agg (A4 x1))]) rfl rfl (A2 rfl B5) ((A57 hx1).frz)<|B4 (rs:=[(.agg (A4 x2))]) rfl rfl (A2 rfl B5) ((A57 hx2).frz)<|A0 E5 rfl<|A0 E5 rfl<|I0 (D2 (ds:=(A4 x1)) rfl rfl rfl rfl (C8 rfl) rfl) rfl<|I0 (D2 (ds:=(A4 x2)) rfl rfl rfl rfl (C8 rfl) rfl) rfl<|es (ra2 rfl rfl)<|s0<|oB h fun x3 hx3 h=>A0 (C2 rfl rfl rfl) rfl<|B4 (rs:=[.i x3.1,(.seq 1 (List.map cI x3.2.1)),.i x3.2.2]) rfl rfl (A2 (D0 rfl) (A2 rfl (A2 rfl B5))) ((A3q hx3).frz)<|qm rfl<|A0 (A7 rfl rfl) rfl<|A0 (A7 rfl rfl) rfl<|A0 (A7 rfl rfl) rfl<|qm rfl<|qm rfl<|qm rfl<|es (ra5 rfl rfl rfl rfl rfl)<|s0<|oB h fun x4 hx4 h=>A0 (C2 rfl rfl rfl) rfl<|A0 (G4 (rows:=List.map cI [2,0,1]) rfl rfl (D8 (fun _=>rfl) _)) rfl<|B4 (rs:=[(.seq 1 (List.map cI x4.1)),.i x4.2]) rfl rfl (A2 (D0 rfl) (A2 rfl B5)) ((A55 hx4).frz)<|qm rfl<|A0 (A7 rfl rfl) rfl<|A0 (A7 rfl rfl) rfl<|qm rfl<|qm rfl<|es (ra7 rfl rfl rfl rfl rfl rfl rfl)<|s0<|oB h fun x5 hx5 h=>A0 (C2 rfl rfl rfl) rfl<|A0 (G4 (rows:=List.map cI [1,0,2]) rfl rfl (D8 (fun _=>rfl) _)) rfl<|B4 (rs:=[.i x5.1,.i x5.2]) rfl rfl (A2 (D0 rfl) (A2 rfl B5)) ((A56 hx5).frz)<|qm rfl<|A0 (A7 rfl rfl) rfl<|A0 (A7 rfl rfl) rfl<|qm rfl<|qm rfl<|es (ra9 rfl rfl rfl rfl rfl rfl rfl rfl rfl)<|s0<|oB h fun x6 hx6 h=>A0 (C2 rfl rfl rfl) rfl<|B4 (rs:=[(.seq 1 (List.map cI x6.1)),.i x6.2.1,.i x6.2.2]) rfl rfl (A2 (D0 rfl) B5) ((A3p (A1n hscv) hx6).frz)<|qm rfl<|A0 (A7 rfl rfl) rfl<|A0 (A7 rfl rfl) rfl<|A0 (A7 rfl rfl) rfl<|qm rfl<|qm rfl<|qm rfl<|es (ra12 rfl rfl rfl rfl rfl rfl rfl rfl rfl rfl rfl rfl)<|s0 ?_
 refine oB h fun x7 hx7 h=>A0 (C2 rfl rfl rfl) rfl<|B4 (rs:=[(.seq 1 (List.map cI x7.1)),.i x7.2.1,.i x7.2.2]) rfl rfl (A2 (D0 rfl) B5) ((A3p (A1n hscv) hx7).frz)<|qm rfl<|A0 (A7 rfl rfl) rfl<|A0 (A7 rfl rfl) rfl<|A0 (A7 rfl rfl) rfl<|qm rfl<|qm rfl<|qm rfl<|es (ra13 rfl rfl rfl rfl rfl rfl rfl rfl rfl rfl rfl rfl rfl)<|s0<|oB h fun x8 hx8 h=>A0 (C2 rfl rfl rfl) rfl<|B4 (rs:=[(.seq 1 (List.map cI x8.1)),.i x8.2]) rfl rfl (A2 (D0 rfl) (A2 rfl B5)) (A4j (A1n hscv) hx8)<|qm rfl<|A0 (A7 rfl rfl) rfl<|A0 (A7 rfl rfl) rfl<|qm rfl<|qm rfl<|es (.k rfl (.k rfl (.k rfl (.k rfl (.k rfl (.k rfl (.k rfl (.k rfl (.k rfl (.k rfl (.k rfl (.k rfl (.k rfl (.k rfl (.k rfl .n)))))))))))))))<|s0<|oB h fun x9 hx9 h=>A0 (C2 rfl rfl rfl) rfl<|B4 (rs:=[.i x9.1,.i x9.2]) rfl rfl (A2 (D0 rfl) (A2 rfl B5)) ((A2z (A1n hscv) hx9).frz)<|qm rfl<|A0 (A7 rfl rfl) rfl<|A0 (A7 rfl rfl) rfl<|qm rfl<|qm rfl<|es (.k rfl (.k rfl (.k rfl (.k rfl (.k rfl (.k rfl (.k rfl (.k rfl (.k rfl (.k rfl (.k rfl (.k rfl (.k rfl (.k rfl (.k rfl (.k rfl .n))))))))))))))))<|s0<|oB h fun x10 hx10 h=>A0 (C2 rfl rfl rfl) rfl<|B4 (rs:=[(.seq 1 (List.map cI x10.1)),.i x10.2]) rfl rfl (A2 (D0 rfl) B5) ((B2t (A1n hscv) hx10).frz)<|qm rfl<|A0 (A7 rfl rfl) rfl<|A0 (A7 rfl rfl) rfl<|qm rfl<|qm rfl<|es (.k rfl (.k rfl (.k rfl (.k rfl (.k rfl (.k rfl (.k rfl (.k rfl (.k rfl (.k rfl (.k rfl (.k rfl (.k rfl (.k rfl (.k rfl (.k rfl (.k rfl (.k rfl .n))))))))))))))))))<|s0<|oB h fun x11 hx11 h=>A0 (C2 rfl rfl rfl) rfl<|B4 (rs:=[(.seq 1 (List.map cI x11.1)),.i x11.2.1,.i x11.2.2]) rfl rfl (A2 (D0 rfl) B5) ((B2s (A1n hscv) hx11).frz)<|qm rfl<|A0 (A7 rfl rfl) rfl<|A0 (A7 rfl rfl) rfl<|A0 (A7 rfl rfl) rfl<|qm rfl<|qm rfl<|qm rfl<|es (.k rfl (.k rfl (.k rfl (.k rfl (.k rfl (.k rfl (.k rfl (.k rfl (.k rfl (.k rfl (.k rfl (.k rfl (.k rfl (.k rfl (.k rfl (.k rfl (.k rfl (.k rfl (.k rfl (.k rfl .n))))))))))))))))))))<|s0<|oB h fun x23 hx23 h=>oB h fun x26 hx26 h=>oB h fun x30 hx30 h=>oB h fun x34 hx34 h=>oB h fun x38 hx38 h=>oB h fun x41 hx41 h=>qm rfl ?_
 refine A0 (F7 rfl rfl) rfl<|qm rfl<|gp 3 83 (.b ((x3.2.2 == 0) && (x4.2 == 0))) 80 rfl rfl (fun hg12=>?_) (fun hg12=>?_) ?_
 ·exact gT rfl hg12<|qm rfl<|gT rfl hg12<|A0 (F7 rfl rfl) rfl<|A0 (C6 rfl hg12 rfl) rfl<|ge 3 (by rw [hg12]; rfl) rfl rfl
 ·exact nT rfl hg12 rfl<|nT rfl hg12 rfl<|A0 (C5 rfl hg12 rfl) rfl<|ge 3 (by rw [hg12]; rfl) rfl rfl
 refine qm rfl<|gp 3 87 (.b (((x3.2.2 == 0) && (x4.2 == 0)) && (x5.2 == 0))) 84 rfl rfl (fun hg13=>?_) (fun hg13=>?_) ?_
 ·exact gT rfl hg13<|qm rfl<|gT rfl hg13<|A0 (F7 rfl rfl) rfl<|A0 (C6 rfl hg13 rfl) rfl<|ge 3 (by rw [hg13]; rfl) rfl rfl
 ·exact nT rfl hg13 rfl<|nT rfl hg13 rfl<|A0 (C5 rfl hg13 rfl) rfl<|ge 3 (by rw [hg13]; rfl) rfl rfl
 refine qm rfl<|gp 3 91 (.b ((((x3.2.2 == 0) && (x4.2 == 0)) && (x5.2 == 0)) && (x6.2.2 == 0))) 88 rfl rfl (fun hg14=>?_) (fun hg14=>?_) ?_
 ·exact gT rfl hg14<|qm rfl<|gT rfl hg14<|A0 (F7 rfl rfl) rfl<|A0 (C6 rfl hg14 rfl) rfl<|ge 3 (by rw [hg14]; rfl) rfl rfl
 ·exact nT rfl hg14 rfl<|nT rfl hg14 rfl<|A0 (C5 rfl hg14 rfl) rfl<|ge 3 (by rw [hg14]; rfl) rfl rfl
 refine qm rfl<|gp 3 95 (.b (((((x3.2.2 == 0) && (x4.2 == 0)) && (x5.2 == 0)) && (x6.2.2 == 0)) && (x7.2.2 == 9))) 92 rfl rfl (fun hg15=>?_) (fun hg15=>?_) ?_
 ·exact gT rfl hg15<|qm rfl<|gT rfl hg15<|A0 (F7 rfl rfl) rfl<|A0 (C6 rfl hg15 rfl) rfl<|ge 3 (by rw [hg15]; rfl) rfl rfl
 ·exact nT rfl hg15 rfl<|nT rfl hg15 rfl<|A0 (C5 rfl hg15 rfl) rfl<|ge 3 (by rw [hg15]; rfl) rfl rfl
 refine qm rfl<|gp 3 99 (.b ((((((x3.2.2 == 0) && (x4.2 == 0)) && (x5.2 == 0)) && (x6.2.2 == 0)) && (x7.2.2 == 9)) && (x8.2 == 0))) 96 rfl rfl (fun hg16=>?_) (fun hg16=>?_) ?_
 ·exact gT rfl hg16<|qm rfl<|gT rfl hg16<|A0 (F7 rfl rfl) rfl<|A0 (C6 rfl hg16 rfl) rfl<|ge 3 (by rw [hg16]; rfl) rfl rfl
 ·exact nT rfl hg16 rfl<|nT rfl hg16 rfl<|A0 (C5 rfl hg16 rfl) rfl<|ge 3 (by rw [hg16]; rfl) rfl rfl
 refine qm rfl<|gp 3 103 (.b (((((((x3.2.2 == 0) && (x4.2 == 0)) && (x5.2 == 0)) && (x6.2.2 == 0)) && (x7.2.2 == 9)) && (x8.2 == 0)) && (x9.2 == 0))) 100 rfl rfl (fun hg17=>?_) (fun hg17=>?_) ?_
 ·exact gT rfl hg17<|qm rfl<|gT rfl hg17<|A0 (F7 rfl rfl) rfl<|A0 (C6 rfl hg17 rfl) rfl<|ge 3 (by rw [hg17]; rfl) rfl rfl
 ·exact nT rfl hg17 rfl<|nT rfl hg17 rfl<|A0 (C5 rfl hg17 rfl) rfl<|ge 3 (by rw [hg17]; rfl) rfl rfl
 refine qm rfl<|gp 3 107 (.b ((((((((x3.2.2 == 0) && (x4.2 == 0)) && (x5.2 == 0)) && (x6.2.2 == 0)) && (x7.2.2 == 9)) && (x8.2 == 0)) && (x9.2 == 0)) && (x10.2 == 0))) 104 rfl rfl (fun hg18=>?_) (fun hg18=>?_) ?_
 ·exact gT rfl hg18<|qm rfl<|gT rfl hg18<|A0 (F7 rfl rfl) rfl<|A0 (C6 rfl hg18 rfl) rfl<|ge 3 (by rw [hg18]; rfl) rfl rfl
 ·exact nT rfl hg18 rfl<|nT rfl hg18 rfl<|A0 (C5 rfl hg18 rfl) rfl<|ge 3 (by rw [hg18]; rfl) rfl rfl
 refine qm rfl<|gp 3 111 (.b (((((((((x3.2.2 == 0) && (x4.2 == 0)) && (x5.2 == 0)) && (x6.2.2 == 0)) && (x7.2.2 == 9)) && (x8.2 == 0)) && (x9.2 == 0)) && (x10.2 == 0)) && (x11.2.2 == 0))) 108 rfl rfl (fun hg19=>?_) (fun hg19=>?_) ?_
 ·exact gT rfl hg19<|qm rfl<|gT rfl hg19<|A0 (F7 rfl rfl) rfl<|A0 (C6 rfl hg19 rfl) rfl<|ge 3 (by rw [hg19]; rfl) rfl rfl
 ·exact nT rfl hg19 rfl<|nT rfl hg19 rfl<|A0 (C5 rfl hg19 rfl) rfl<|ge 3 (by rw [hg19]; rfl) rfl rfl
 refine qm rfl<|gp 3 115 (.b ((((((((((x3.2.2 == 0) && (x4.2 == 0)) && (x5.2 == 0)) && (x6.2.2 == 0)) && (x7.2.2 == 9)) && (x8.2 == 0)) && (x9.2 == 0)) && (x10.2 == 0)) && (x11.2.2 == 0)) && (x3.1 == 14))) 112 rfl rfl (fun hg20=>?_) (fun hg20=>?_) ?_
 ·exact gT rfl hg20<|qm rfl<|gT rfl hg20<|A0 (F7 rfl rfl) rfl<|A0 (C6 rfl hg20 rfl) rfl<|ge 3 (by rw [hg20]; rfl) rfl rfl
 ·exact nT rfl hg20 rfl<|nT rfl hg20 rfl<|A0 (C5 rfl hg20 rfl) rfl<|ge 3 (by rw [hg20]; rfl) rfl rfl
 refine qm rfl<|gp 4 120 (.b x23) 116 rfl rfl (fun hg21=>?_) (fun hg21=>?_) ?_
 ·refine oB (bt hx23 hg21) fun x22 hx22 hx23=>?_
  obtain rfl:=os hx23
  exact gT rfl hg21<|qm rfl<|gT rfl hg21<|A0 (G4 (rows:=List.map cI [0,2]) rfl rfl (D8 (fun _=>rfl) _)) rfl<|gT rfl hg21<|B4 (rs:=[.b x22]) rfl rfl (A2 rfl (A2 rfl B5)) ((K6 hx22).frz)<|A0 (C6 rfl hg21 rfl) rfl<|ge 4 rfl rfl rfl
 ·obtain rfl:=os (bf hx23 hg21)
  exact nT rfl hg21 rfl<|nT rfl hg21 rfl<|K9 (F8 rfl (by rw [hg21]; rfl)) rfl<|A0 (C5 rfl hg21 rfl) rfl<|ge 4 rfl rfl rfl
 refine qm rfl<|gp 4 125 (.b x26) 121 rfl rfl (fun hg24=>?_) (fun hg24=>?_) ?_
 ·refine oB (bt hx26 hg24) fun x25 hx25 hx26=>?_
  obtain rfl:=os hx26
  exact gT rfl hg24<|qm rfl<|gT rfl hg24<|A0 (G4 (rows:=List.map cI [4,(-1)]) rfl rfl (D8 (fun _=>rfl) _)) rfl<|gT rfl hg24<|B4 (rs:=[.b x25]) rfl rfl (A2 rfl (A2 rfl B5)) ((K6 hx25).frz)<|A0 (C6 rfl hg24 rfl) rfl<|ge 4 rfl rfl rfl
 ·obtain rfl:=os (bf hx26 hg24)
  exact nT rfl hg24 rfl<|nT rfl hg24 rfl<|K9 (F8 rfl (by rw [hg24]; rfl)) rfl<|A0 (C5 rfl hg24 rfl) rfl<|ge 4 rfl rfl rfl
 refine qm rfl<|gp 3 129 (.b (x26 && (x5.1 == 14))) 126 rfl rfl (fun hg27=>?_) (fun hg27=>?_) ?_
 ·exact gT rfl hg27<|qm rfl<|gT rfl hg27<|A0 (F7 rfl rfl) rfl<|A0 (C6 rfl hg27 rfl) rfl<|ge 3 (by rw [hg27]; rfl) rfl rfl
 ·exact nT rfl hg27 rfl<|nT rfl hg27 rfl<|A0 (C5 rfl hg27 rfl) rfl<|ge 3 (by rw [hg27]; rfl) rfl rfl
 refine qm rfl<|gp 4 134 (.b x30) 130 rfl rfl (fun hg28=>?_) (fun hg28=>?_) ?_
 ·refine oB (bt hx30 hg28) fun x29 hx29 hx30=>?_
  obtain rfl:=os hx30
  exact gT rfl hg28<|qm rfl<|gT rfl hg28<|A0 (G4 (rows:=List.map cI [1,0,2]) rfl rfl (D8 (fun _=>rfl) _)) rfl<|gT rfl hg28<|B4 (rs:=[.b x29]) rfl rfl (A2 rfl (A2 rfl B5)) ((K6 hx29).frz)<|A0 (C6 rfl hg28 rfl) rfl<|ge 4 rfl rfl rfl
 ·obtain rfl:=os (bf hx30 hg28)
  exact nT rfl hg28 rfl<|nT rfl hg28 rfl<|K9 (F8 rfl (by rw [hg28]; rfl)) rfl<|A0 (C5 rfl hg28 rfl) rfl<|ge 4 rfl rfl rfl
 refine qm rfl<|gp 3 138 (.b (x30 && (x6.2.1 == 14))) 135 rfl rfl (fun hg31=>?_) (fun hg31=>?_) ?_
 ·exact gT rfl hg31<|qm rfl<|gT rfl hg31<|A0 (F7 rfl rfl) rfl<|A0 (C6 rfl hg31 rfl) rfl<|ge 3 (by rw [hg31]; rfl) rfl rfl
 ·exact nT rfl hg31 rfl<|nT rfl hg31 rfl<|A0 (C5 rfl hg31 rfl) rfl<|ge 3 (by rw [hg31]; rfl) rfl rfl
 refine qm rfl<|gp 4 143 (.b x34) 139 rfl rfl (fun hg32=>?_) (fun hg32=>?_) ?_
 ·refine oB (bt hx34 hg32) fun x33 hx33 hx34=>?_
  obtain rfl:=os hx34
  exact gT rfl hg32<|qm rfl<|gT rfl hg32<|A0 (G4 (rows:=List.map cI [2]) rfl rfl (D8 (fun _=>rfl) _)) rfl<|gT rfl hg32<|B4 (rs:=[.b x33]) rfl rfl (A2 rfl (A2 rfl B5)) ((K6 hx33).frz)<|A0 (C6 rfl hg32 rfl) rfl<|ge 4 rfl rfl rfl
 ·obtain rfl:=os (bf hx34 hg32)
  exact nT rfl hg32 rfl<|nT rfl hg32 rfl<|K9 (F8 rfl (by rw [hg32]; rfl)) rfl<|A0 (C5 rfl hg32 rfl) rfl<|ge 4 rfl rfl rfl
 refine qm rfl<|gp 3 147 (.b (x34 && (x9.1 == 10))) 144 rfl rfl (fun hg35=>?_) (fun hg35=>?_) ?_
 ·exact gT rfl hg35<|qm rfl<|gT rfl hg35<|A0 (F7 rfl rfl) rfl<|A0 (C6 rfl hg35 rfl) rfl<|ge 3 (by rw [hg35]; rfl) rfl rfl
 ·exact nT rfl hg35 rfl<|nT rfl hg35 rfl<|A0 (C5 rfl hg35 rfl) rfl<|ge 3 (by rw [hg35]; rfl) rfl rfl
 refine qm rfl<|gp 4 152 (.b x38) 148 rfl rfl (fun hg36=>?_) (fun hg36=>?_) ?_
 ·refine oB (bt hx38 hg36) fun x37 hx37 hx38=>?_
  obtain rfl:=os hx38
  exact gT rfl hg36<|qm rfl<|gT rfl hg36<|A0 (G4 (rows:=List.map cI [0]) rfl rfl (D8 (fun _=>rfl) _)) rfl<|gT rfl hg36<|B4 (rs:=[.b x37]) rfl rfl (A2 rfl (A2 rfl B5)) ((K6 hx37).frz)<|A0 (C6 rfl hg36 rfl) rfl<|ge 4 rfl rfl rfl
 ·obtain rfl:=os (bf hx38 hg36)
  exact nT rfl hg36 rfl<|nT rfl hg36 rfl<|K9 (F8 rfl (by rw [hg36]; rfl)) rfl<|A0 (C5 rfl hg36 rfl) rfl<|ge 4 rfl rfl rfl
 refine qm rfl<|gp 4 157 (.b x41) 153 rfl rfl (fun hg39=>?_) (fun hg39=>?_) ?_
 ·refine oB (bt hx41 hg39) fun x40 hx40 hx41=>?_
  obtain rfl:=os hx41
  exact gT rfl hg39<|qm rfl<|gT rfl hg39<|A0 (G4 (rows:=List.map cI [0,1]) rfl rfl (D8 (fun _=>rfl) _)) rfl<|gT rfl hg39<|B4 (rs:=[.b x40]) rfl rfl (A2 rfl (A2 rfl B5)) ((K6 hx40).frz)<|A0 (C6 rfl hg39 rfl) rfl<|ge 4 rfl rfl rfl
 ·obtain rfl:=os (bf hx41 hg39)
  exact nT rfl hg39 rfl<|nT rfl hg39 rfl<|K9 (F8 rfl (by rw [hg39]; rfl)) rfl<|A0 (C5 rfl hg39 rfl) rfl<|ge 4 rfl rfl rfl
 refine qm rfl<|gp 3 161 (.b (x41 && (x11.2.1 == 14))) 158 rfl rfl (fun hg42=>?_) (fun hg42=>?_) ?_
 ·exact gT rfl hg42<|qm rfl<|gT rfl hg42<|A0 (F7 rfl rfl) rfl<|A0 (C6 rfl hg42 rfl) rfl<|ge 3 (by rw [hg42]; rfl) rfl rfl
 ·exact nT rfl hg42 rfl<|nT rfl hg42 rfl<|A0 (C5 rfl hg42 rfl) rfl<|ge 3 (by rw [hg42]; rfl) rfl rfl
 refine qm rfl<|es (ra1 rfl)<|C4 ?_
 obtain rfl:=os h
 exact retq trivial (B1 rfl B8) (A6 rfl B9) (A3 A8 B2)
end Ds
end
section
set_option maxRecDepth 100000
namespace Ds
theorem awake:S9 = some true:= by decide +kernel
end Ds
end
section
set_option maxRecDepth 100000
set_option maxHeartbeats 0
namespace Ds
open Go Am Go.Proofs.Ytdkflofgolehkaa.Cd
def A0d (a0:DrRoom) (a1:(List Int)) (s1:(Int × (List Int))) (s5:(Int × Int)):Option ((Int × Int) ⊕ Int) :=
 if (decide (s5.2 < (List.length a1:Int))) = true then
  (idx a1 s5.2).bind fun x8 =>
  (idx a0.Figures x8).bind fun x9 =>
  (idx a0.Persons s5.2).bind fun x10 =>
  (A0x x9 x10).bind fun x11 =>
  (A0b x11 0).bind fun x12 =>
  if (!x12) = true then
  some (.inl (s5.1,(w64 (s5.2 + 1))))
  else
  (idx x9.Looks 0).bind fun x14 =>
  if (x14 == s1.1) = true then
   (idx x10.Looks 0).bind fun x16 =>
   if (x16 == s1.1) = true then
   some (.inl ((w64 ((w64 (s5.1 + x9.Hair)) - x10.Hair)),(w64 (s5.2 + 1))))
   else
   some (.inl ((w64 (s5.1 + x9.Hair)),(w64 (s5.2 + 1))))
  else
   (idx x10.Looks 0).bind fun x18 =>
   if (x18 == s1.1) = true then
   some (.inl ((w64 (s5.1 - x10.Hair)),(w64 (s5.2 + 1))))
   else
   some (.inl (s5.1,(w64 (s5.2 + 1))))
 else
  some (.inr s5.1)
def A1w (a0:DrRoom) (a1:(List Int)) (s1:(Int × (List Int))):Option ((Int × (List Int)) ⊕ (List Int)) :=
 if (decide (s1.1 < (List.length a0.Ounces:Int))) = true then
  (idx a0.Ounces s1.1).bind fun x4 =>
  (loop (A0d a0 a1 s1) (x4,0)).bind fun (o20:Int) =>
  (app 8 s1.2 [o20]).bind fun x21 =>
  some (.inl ((w64 (s1.1 + 1)),x21))
 else
  some (.inr s1.2)
def A3g (a0:DrRoom) (a1:(List Int)):Option (List Int) :=
 (loop (A1w a0 a1) (0,([]:List Int))).bind fun (o22:(List Int)) =>
 some o22
theorem B0i {c:Sc} {H:A1} {a0:DrRoom} {a1:(List Int)} {r:(List Int)} (h:A3g a0 a1 = some r) :
  E7 tab c H (.fn (.func 59) [] []) [(.agg (A4 a0)),(.seq 1 (List.map cI a1))] [(.fresh 1 (List.map cI r))]:= by
 unfold A3g at h
 refine cE rfl rfl<|sg 0 rfl<|A0 (F6 (cs:=A4 a0) rfl rfl rfl) rfl<|qm rfl<|es (ra2 rfl rfl)<|sg 1 rfl<|A0 A2y rfl<|es (ra3 rfl rfl rfl)<|B7<|s0<|qm rfl<|es (ra4 rfl rfl rfl rfl)<|C3<|oB h fun o22 ho22 h=>wl (fun s1=>[(1,(.seq 1 (List.map cI a1))),(2,(.ptr (H.length + 0) 0)),(5,(.asl (H.length + 1) (List.length s1.2))),(6,.i s1.1)]) (fun (q2:Unit) s1=>[(.cells (A4 a0)),(.arr 1 false (List.map cI s1.2))]) 2 (fun r e s' H'=>PX 0 [(5,(.asl (H.length + 1) (List.length r)))] (H++[(.cells (A4 a0)),(.arr 1 false (List.map cI r))]) e s' H') () ho22 rfl rfl (fun _ _=>rfl) (fun _=>rfl) rfl (fun s1=>(bdc E6 (bdc (F2 rfl) (bdc (A0g rfl) (bdc A8 bdn))))) (fun q2 s1 ys1 hs1=>?_) ?_
 ·unfold A1w at hs1
  refine B7<|s0<|qm rfl<|A0 (D1 rfl) rfl<|A0 (C7 rfl rfl rfl) rfl<|A0 (D4 (f:=cI) rfl) rfl<|A0 (G9 rfl rfl) rfl<|es (ra5 rfl rfl rfl rfl rfl)<|wi hs1 rfl (fun hc3 hs1=>?_) fun hc3 hs1=>?_
  ·refine C1<|B7<|C3<|s0<|oB hs1 fun x4 hx4 hs1=>A0 (D1 rfl) rfl<|A0 (C7 rfl rfl rfl) rfl<|qm rfl<|A0 (E3 (f:=cI) rfl rfl hx4) rfl<|A0 (E8 rfl rfl) rfl<|qm rfl<|es (ra5 rfl rfl rfl rfl rfl)<|B7<|s0<|qm rfl<|es (ra6 rfl rfl rfl rfl rfl rfl)<|C3<|oB hs1 fun o20 ho20 hs1=>wl (fun s5=>[(1,(.seq 1 (List.map cI a1))),(2,(.ptr (H.length + 0) 0)),(5,(.asl (H.length + 1) (List.length s1.2))),(6,.i s1.1),(7,.i s5.1),(8,.i s5.2)]) (fun (q6:Unit) s5=>[(.cells (A4 a0)),(.arr 1 false (List.map cI s1.2))]) 2 (fun r e s' H'=>PX 2 [(1,(.seq 1 (List.map cI a1))),(2,(.ptr (H.length + 0) 0)),(5,(.asl (H.length + 1) (List.length s1.2))),(6,.i s1.1),(7,.i r)] (H++[(.cells (A4 a0)),(.arr 1 false (List.map cI s1.2))]) e s' H') () ho20 rfl rfl (fun _ _=>rfl) (fun _=>rfl) rfl (fun s5=>(bdc E6 (bdc (F2 rfl) (bdc (A0g rfl) (bdc A8 (bdc A8 (bdc A8 bdn))))))) (fun q6 s5 ys5 hs5=>?_) ?_
   ·unfold A0d at hs5
    refine B7<|s0<|qm rfl<|qm rfl<|A0 (D4 (f:=cI) rfl) rfl<|A0 (G9 rfl rfl) rfl<|es (ra7 rfl rfl rfl rfl rfl rfl rfl)<|wi hs5 rfl (fun hc7 hs5=>?_) fun hc7 hs5=>?_
    ·refine C1<|B7<|C3<|sg 2 rfl<|oB hs5 fun x8 hx8 hs5=>oB hs5 fun x9 hx9 hs5=>oB hs5 fun x10 hx10 hs5=>A0 (D1 rfl) rfl<|Q4 [2,3] (W5 [2,3] rfl J9 rfl rfl) (seen0 rfl) (C7 rfl rfl rfl) rfl<|qm rfl<|qm rfl<|Q4 [2,3] (W5 [2,3] rfl J9 rfl rfl) (seen0 rfl) (E3 (f:=cI) rfl rfl hx8) rfl<|Q4 [2,3] (W5 [2,3] rfl J9 rfl rfl) (seen0 rfl) (E8 rfl rfl) rfl<|Q4 [2,3] (W5 [2,3] rfl J9 rfl rfl) (seen0 rfl) (E3 (f:=A5) rfl rfl hx9) rfl<|Q4 [2,3] (W5 [2,3] rfl J9 rfl rfl) (seen0 rfl) (M7 rfl rfl) rfl<|A0 E5 rfl<|A0 E5 rfl<|A7q [0] [(.cells (A4 a0)),(.arr 1 false (List.map cI s1.2)),(.cells (A5 x9)),(.cells (A5 (DrLook.mk (ByteArray.mk #[]) ([]:List Int) 0)))] (W5 [] rfl (A61 rfl A4y J9) rfl rfl) (seen0 rfl) (D2 (ds:=(A5 x9)) rfl rfl rfl rfl (C8 rfl) rfl) rfl rfl rfl<|A0 (D1 rfl) rfl<|Q4 [2,3] (W5 [2,3] rfl J9 rfl rfl) (A94 (b:=H.length + 0) rfl (A3k (A02 _ rfl) A6z)) (C7 rfl rfl rfl) rfl<|qm rfl<|Q4 [2,3] (W5 [2,3] rfl J9 rfl rfl) (A93 rfl) (E3 (f:=A5) rfl rfl hx10) rfl<|Q4 [2,3] (W5 [2,3] rfl J9 rfl rfl) (A93 rfl) (M7 rfl rfl) rfl<|I0 (D2 (ds:=(A5 x10)) rfl rfl rfl rfl (C8 rfl) rfl) rfl<|es (ra8 rfl rfl rfl rfl rfl rfl rfl rfl)<|B7<|s0<|oB hs5 fun x11 hx11 hs5=>oB hs5 fun x12 hx12 hs5=>A0 (C2 rfl rfl rfl) rfl<|A0 (C2 rfl rfl rfl) rfl<|B4 (rs:=[(.seq 1 (List.map cI x11))]) rfl rfl (A2 (D0 rfl) (A2 (D0 rfl) B5)) ((A46 hx11).frz)<|B4 (rs:=[.b x12]) rfl rfl (A2 rfl (A2 rfl B5)) ((A1b hx12).frz)<|A0 (Q2 rfl) rfl<|es (ra9 rfl rfl rfl rfl rfl rfl rfl rfl rfl)<|wi hs5 rfl (fun hc13 hs5=>?_) fun hc13 hs5=>?_
     ·refine F5<|r0<|qm rfl<|A0 (E9 rfl rfl) rfl<|qm rfl<|en (ra6 rfl rfl rfl rfl rfl rfl) ?_
      cases hs5
      exact lnT () rfl (su6 rfl rfl rfl rfl rfl rfl)
     ·refine C1<|B7<|s0<|oB hs5 fun x14 hx14 hs5=>A0 (D1 rfl) rfl<|A0 (C7 rfl rfl rfl) rfl<|A0 (E3 (f:=cI) rfl rfl hx14) rfl<|A0 (E8 rfl rfl) rfl<|qm rfl<|A0 (F7 rfl rfl) rfl<|es (ra9 rfl rfl rfl rfl rfl rfl rfl rfl rfl)<|wi hs5 rfl (fun hc15 hs5=>?_) fun hc15 hs5=>?_
      ·refine r0<|qm rfl<|A0 (D1 rfl) rfl<|A0 (C7 rfl rfl rfl) rfl<|A0 (E9 rfl rfl) rfl<|qm rfl<|en (ra7 rfl rfl rfl rfl rfl rfl rfl)<|s0<|oB hs5 fun x16 hx16 hs5=>A0 (D1 rfl) rfl<|A0 (C7 rfl rfl rfl) rfl<|A0 (E3 (f:=cI) rfl rfl hx16) rfl<|A0 (E8 rfl rfl) rfl<|qm rfl<|A0 (F7 rfl rfl) rfl<|es (ra8 rfl rfl rfl rfl rfl rfl rfl rfl)<|wi hs5 rfl (fun hc17 hs5=>?_) fun hc17 hs5=>?_
       ·refine r0<|qm rfl<|A0 (D1 rfl) rfl<|A0 (C7 rfl rfl rfl) rfl<|A0 (A0h rfl rfl) rfl<|qm rfl<|en (ra6 rfl rfl rfl rfl rfl rfl)<|r0<|qm rfl<|A0 (E9 rfl rfl) rfl<|qm rfl<|en (ra6 rfl rfl rfl rfl rfl rfl) ?_
        cases hs5
        exact lnT () rfl (su6 rfl rfl rfl rfl rfl rfl)
       ·refine C1<|r0<|qm rfl<|A0 (E9 rfl rfl) rfl<|qm rfl<|en (ra6 rfl rfl rfl rfl rfl rfl) ?_
        cases hs5
        exact lnT () rfl (su6 rfl rfl rfl rfl rfl rfl)
      ·refine C1<|s0<|oB hs5 fun x18 hx18 hs5=>A0 (D1 rfl) rfl<|A0 (C7 rfl rfl rfl) rfl<|A0 (E3 (f:=cI) rfl rfl hx18) rfl<|A0 (E8 rfl rfl) rfl<|qm rfl<|A0 (F7 rfl rfl) rfl<|es (ra8 rfl rfl rfl rfl rfl rfl rfl rfl)<|wi hs5 rfl (fun hc19 hs5=>?_) fun hc19 hs5=>?_
       ·refine r0<|qm rfl<|A0 (D1 rfl) rfl<|A0 (C7 rfl rfl rfl) rfl<|A0 (A0h rfl rfl) rfl<|qm rfl<|en (ra6 rfl rfl rfl rfl rfl rfl)<|r0<|qm rfl<|A0 (E9 rfl rfl) rfl<|qm rfl<|en (ra6 rfl rfl rfl rfl rfl rfl) ?_
        cases hs5
        exact lnT () rfl (su6 rfl rfl rfl rfl rfl rfl)
       ·refine C1<|r0<|qm rfl<|A0 (E9 rfl rfl) rfl<|qm rfl<|en (ra6 rfl rfl rfl rfl rfl rfl) ?_
        cases hs5
        exact lnT () rfl (su6 rfl rfl rfl rfl rfl rfl)
    ·refine F5 ?_
     obtain rfl:=os hs5
     exact lx rfl px (su5 rfl rfl rfl rfl rfl)
   ·rintro e s' H' - ⟨rfl,rfl,rfl⟩
    refine r0<|oB hs1 fun x21 hx21 hs1=>qm rfl<|qm rfl<|A0 (G4 (rows:=List.map cI [o20]) rfl rfl (D8 (fun _=>rfl) _)) rfl<|R3 (W6 (f:=cI) rfl rfl rfl rfl S8 (fun _=>rfl) hx21) rfl<|qm rfl<|en (ra4 rfl rfl rfl rfl)<|r0<|qm rfl<|A0 (E9 rfl rfl) rfl<|qm rfl<|en (ra4 rfl rfl rfl rfl) ?_
    cases hs1
    exact lnT () rfl (su4 rfl rfl rfl rfl)
  ·refine F5 ?_
   obtain rfl:=os hs1
   exact lx rfl px (su1 rfl)
 ·rintro e s' H' - ⟨rfl,rfl,rfl⟩
  refine s0<|qm rfl<|qm rfl<|es (ra1 rfl)<|C4 ?_
  obtain rfl:=os h
  exact retq trivial (B1 rfl B8) (A6 (A16 rfl (List.length_map _)) B9) (A3 U7 B2)
def A0z (a0:(List Int)) (s1:(Int × Int × (List Int))):Option ((Int × Int × (List Int)) ⊕ (Int × (List Int))) :=
 if (decide (s1.2.1 < (List.length a0:Int))) = true then
  (idx a0 s1.2.1).bind fun x4 =>
  (app 8 s1.2.2 [(A8w 0 (w64 (0 - x4)))]).bind fun x5 =>
  some (.inl ((w64 (s1.1 + (A8w 0 (w64 (0 - x4))))),(w64 (s1.2.1 + 1)),x5))
 else
  some (.inr (s1.1,s1.2.2))
def A3z (a0:(List Int)):Option ((List Int) × Int) :=
 (loop (A0z a0) (0,0,([]:List Int))).bind fun (o6:(Int × (List Int))) =>
 some (o6.2,o6.1)
theorem B7x {c:Sc} {H:A1} {a0:(List Int)} {r:((List Int) × Int)} (h:A3z a0 = some r) :
  E7 tab c H (.fn (.func 79) [] []) [(.seq 1 (List.map cI a0))] [(.fresh 1 (List.map cI r.1)),.i r.2]:= by
 unfold A3z at h
 refine cE rfl rfl<|s0<|qm rfl<|qm rfl<|es (ra1 rfl)<|sg 0 rfl<|A0 A2y rfl<|es (ra2 rfl rfl)<|s0<|qm rfl<|es (ra3 rfl rfl rfl)<|B7<|s0<|qm rfl<|es (ra4 rfl rfl rfl rfl)<|C3<|oB h fun o6 ho6 h=>wl (fun s1=>[(0,(.seq 1 (List.map cI a0))),(4,(.asl (H.length + 0) (List.length s1.2.2))),(5,.i s1.1),(6,.i s1.2.1)]) (fun (q2:Unit) s1=>[(.arr 1 false (List.map cI s1.2.2))]) 1 (fun r e s' H'=>PX 0 [(4,(.asl (H.length + 0) (List.length r.2))),(5,.i r.1)] (H++[(.arr 1 false (List.map cI r.2))]) e s' H') () ho6 rfl rfl (fun _ _=>rfl) (fun _=>rfl) rfl (fun s1=>(bdc E6 (bdc (A0g rfl) (bdc A8 (bdc A8 bdn))))) (fun q2 s1 ys1 hs1=>?_) ?_
 ·unfold A0z at hs1
  refine B7<|s0<|qm rfl<|qm rfl<|A0 (D4 (f:=cI) rfl) rfl<|A0 (G9 rfl rfl) rfl<|es (ra5 rfl rfl rfl rfl rfl)<|wi hs1 rfl (fun hc3 hs1=>?_) fun hc3 hs1=>?_
  ·refine C1<|B7<|C3<|s0<|oB hs1 fun x4 hx4 hs1=>qm rfl<|qm rfl<|A0 (E3 (f:=cI) rfl rfl hx4) rfl<|A0 (E8 rfl rfl) rfl<|A0 (A0h rfl rfl) rfl<|A0 (D5e rfl rfl) rfl<|qm rfl<|es (ra5 rfl rfl rfl rfl rfl)<|s0<|oB hs1 fun x5 hx5 hs1=>qm rfl<|qm rfl<|A0 (G4 (rows:=List.map cI [(A8w 0 (w64 (0 - x4)))]) rfl rfl (D8 (fun _=>rfl) _)) rfl<|R3 (W6 (f:=cI) rfl rfl rfl rfl S8 (fun _=>rfl) hx5) rfl<|qm rfl<|es (ra5 rfl rfl rfl rfl rfl)<|r0<|qm rfl<|qm rfl<|A0 (E9 rfl rfl) rfl<|qm rfl<|en (ra4 rfl rfl rfl rfl)<|r0<|qm rfl<|A0 (E9 rfl rfl) rfl<|qm rfl<|en (ra4 rfl rfl rfl rfl) ?_
   cases hs1
   exact lnT () rfl (su4 rfl rfl rfl rfl)
  ·refine F5 ?_
   obtain rfl:=os hs1
   exact lx rfl px (su2 rfl rfl)
 ·rintro e s' H' - ⟨rfl,rfl,rfl⟩
  refine s0<|qm rfl<|qm rfl<|qm rfl<|qm rfl<|es (ra2 rfl rfl)<|C4 ?_
  obtain rfl:=os h
  exact retq trivial (B1 rfl (B1 rfl B8)) (A6 (A16 rfl (List.length_map _)) (A6 rfl B9)) (A3 U7 (A3 A8 B2))
def Q5 (a0:DrRoom) (a1:(List Int)):Option Bool :=
 (A3g a0 a1).bind fun x1 =>
 (A3z x1).bind fun x2 =>
 some (x2.2 == 0)
theorem A3d {c:Sc} {H:A1} {a0:DrRoom} {a1:(List Int)} {r:Bool} (h:Q5 a0 a1 = some r) :
  E7 tab c H (.fn (.func 39) [] []) [(.agg (A4 a0)),(.seq 1 (List.map cI a1))] [.b r]:= by
 unfold Q5 at h
 refine cE rfl rfl<|sg 0 rfl<|A0 (F6 (cs:=A4 a0) rfl rfl rfl) rfl<|qm rfl<|es (ra2 rfl rfl)<|s0<|oB h fun x1 hx1 h=>oB h fun x2 hx2 h=>A0 (C2 rfl rfl rfl) rfl<|qm rfl<|B4 (rs:=[(.seq 1 (List.map cI x1))]) rfl rfl (A2 (D0 rfl) (A2 rfl B5)) ((B0i hx1).frz)<|B4 (rs:=[(.seq 1 (List.map cI x2.1)),.i x2.2]) rfl rfl (A2 rfl B5) ((B7x hx2).frz)<|qm rfl<|A0 (A7 rfl rfl) rfl<|A0 (A7 rfl rfl) rfl<|qm rfl<|qm rfl<|es (ra1 rfl)<|s0<|qm rfl<|A0 (F7 rfl rfl) rfl<|qm rfl<|es (ra1 rfl)<|C4 ?_
 obtain rfl:=os h
 exact retq trivial (B1 rfl B8) (A6 rfl B9) (A3 A8 B2)
def A23 (a0:DrRoom) (a1:(List Int)) (s1:(Int × Int)):Option ((Int × Int) ⊕ Int) :=
 if (decide (s1.2 < (List.length a1:Int))) = true then
  (idx a1 s1.2).bind fun x4 =>
  (idx a0.Figures x4).bind fun x5 =>
  (idx a0.Persons s1.2).bind fun x6 =>
  (A4r a0 x5 x6).bind fun x7 =>
  some (.inl ((w64 (s1.1 + x7)),(w64 (s1.2 + 1))))
 else
  some (.inr s1.1)
def A1c (a0:DrRoom) (a1:(List Int)):Option Int :=
 (loop (A23 a0 a1) (0,0)).bind fun (o8:Int) =>
 some o8
theorem A7o {c:Sc} {H:A1} {a0:DrRoom} {a1:(List Int)} {r:Int} (h:A1c a0 a1 = some r) :
  E7 tab c H (.fn (.func 41) [] []) [(.agg (A4 a0)),(.seq 1 (List.map cI a1))] [.i r]:= by
 unfold A1c at h
 refine cE rfl rfl<|sg 0 rfl<|A0 (F6 (cs:=A4 a0) rfl rfl rfl) rfl<|qm rfl<|es (ra2 rfl rfl)<|s0<|qm rfl<|es (ra3 rfl rfl rfl)<|B7<|s0<|qm rfl<|es (ra4 rfl rfl rfl rfl)<|C3<|oB h fun o8 ho8 h=>wl (fun s1=>[(1,(.seq 1 (List.map cI a1))),(2,(.ptr (H.length + 0) 0)),(5,.i s1.1),(6,.i s1.2)]) (fun (q2:Unit) s1=>[(.cells (A4 a0))]) 1 (fun r e s' H'=>PX 0 [(5,.i r)] (H++[(.cells (A4 a0))]) e s' H') () ho8 rfl rfl (fun _ _=>rfl) (fun _=>rfl) rfl (fun s1=>(bdc E6 (bdc (F2 rfl) (bdc A8 (bdc A8 bdn))))) (fun q2 s1 ys1 hs1=>?_) ?_
 ·unfold A23 at hs1
  refine B7<|s0<|qm rfl<|qm rfl<|A0 (D4 (f:=cI) rfl) rfl<|A0 (G9 rfl rfl) rfl<|es (ra5 rfl rfl rfl rfl rfl)<|wi hs1 rfl (fun hc3 hs1=>?_) fun hc3 hs1=>?_
  ·refine C1<|B7<|C3<|r0<|oB hs1 fun x4 hx4 hs1=>oB hs1 fun x5 hx5 hs1=>oB hs1 fun x6 hx6 hs1=>oB hs1 fun x7 hx7 hs1=>A0 (C2 rfl rfl rfl) rfl<|A0 (D1 rfl) rfl<|A0 (C7 rfl rfl rfl) rfl<|qm rfl<|qm rfl<|A0 (E3 (f:=cI) rfl rfl hx4) rfl<|A0 (E8 rfl rfl) rfl<|A0 (E3 (f:=A5) rfl rfl hx5) rfl<|A0 (M7 rfl rfl) rfl<|A0 (D1 rfl) rfl<|A0 (C7 rfl rfl rfl) rfl<|qm rfl<|A0 (E3 (f:=A5) rfl rfl hx6) rfl<|A0 (M7 rfl rfl) rfl<|B4 (rs:=[.i x7]) rfl rfl (A2 (D0 rfl) (A2 (D0 rfl) (A2 (D0 rfl) B5))) ((B2x hx7).frz)<|qm rfl<|A0 (E9 rfl rfl) rfl<|qm rfl<|en (ra4 rfl rfl rfl rfl)<|r0<|qm rfl<|A0 (E9 rfl rfl) rfl<|qm rfl<|en (ra4 rfl rfl rfl rfl) ?_
   cases hs1
   exact lnT () rfl (su4 rfl rfl rfl rfl)
  ·refine F5 ?_
   obtain rfl:=os hs1
   exact lx rfl px (su1 rfl)
 ·rintro e s' H' - ⟨rfl,rfl,rfl⟩
  refine s0<|qm rfl<|qm rfl<|es (ra1 rfl)<|C4 ?_
  obtain rfl:=os h
  exact retq trivial (B1 rfl B8) (A6 rfl B9) (A3 A8 B2)
end Ds
end
section
namespace Ds
open Go Am
abbrev Prs:=List (Nat × DrLook)
def cst (r:DrRoom) (x:Nat × DrLook):Int:=one r r.Figures[x.1]! x.2
def hr (r:DrRoom) (c:Nat) (x:Nat × DrLook):Int:=A74 r.Figures[x.1]! x.2 (c:Int)
def A7z (r:DrRoom) (z:Prs):Int:=sm (z.map (cst r))
def E4 (r:DrRoom) (z:Prs) (c:Nat):Int:=r.Ounces.getD c 0 + sm (z.map (hr r c))
def J5 (r:DrRoom) (z:Prs):dress_plan:=⟨ints (z.map (·.1)),A7z r z,⟨E4 r z 0,E4 r z 1,E4 r z 2,E4 r z 3⟩⟩
def B5l (r:DrRoom) (z:Prs):Prop:=z.length≤5∧∀ x ∈ z,x.1 < r.Figures.length∧LkOk r (-1) x.2
theorem D1u {r:DrRoom} (ok:RmOk r) (x:Nat × DrLook):0≤cst r x∧cst r x≤400:=D27 ok _ _
theorem C2y {r:DrRoom} (ok:RmOk r) (z:Prs):0≤A7z r z∧A7z r z≤400 * z.length:= by
 have:=C5j (a:=0) (b:=400) (l:=z.map (cst r)) fun x hx=>by
  obtain ⟨k,_,rfl⟩:=List.mem_map.mp hx
  exact D1u ok k
 rw [List.length_map] at this
 unfold A7z; omega
theorem D6e {r:DrRoom} (ok:RmOk r) (c:Nat) {x:Nat × DrLook} (h:x.1 < r.Figures.length∧LkOk r (-1) x.2):-50≤hr r c x∧hr r c x≤50:= by
 have h1:=(ok.figure _ (I7 h.1)).hair
 have h2:=h.2.hair
 unfold hr A74
 split
 ·split <;> split <;> omega
 ·omega
theorem D3c {r:DrRoom} (ok:RmOk r) (c:Nat):0≤r.Ounces.getD c 0∧r.Ounces.getD c 0≤50:= by
 rw [List.getD_eq_getElem?_getD]
 by_cases h:c < r.Ounces.length
 ·rw [List.getElem?_eq_getElem h]; exact ok.ounce _ (List.getElem_mem h)
 ·rw [List.getElem?_eq_none (by omega)]; decide
theorem B2m {r:DrRoom} (ok:RmOk r) {z:Prs} (hz:B5l r z) (c:Nat):-250≤E4 r z c∧E4 r z c≤300:= by
 have:=C5j (a:=-50) (b:=50) (l:=z.map (hr r c)) fun x hx=>by
  obtain ⟨k,hk,rfl⟩:=List.mem_map.mp hx
  exact D6e ok c (hz.2 k hk)
 have h2:=D3c ok c
 have h3:=hz.1
 rw [List.length_map] at this
 unfold E4; omega
theorem B5l.take {r:DrRoom} {z:Prs} (h:B5l r z) (n:Nat):B5l r (z.take n) :=
 ⟨by have:=h.1; rw [List.length_take]; omega,fun x hx=>h.2 x (List.mem_of_mem_take hx)⟩
theorem D00 (r:DrRoom) (z:Prs) (x:Nat × DrLook):A7z r (z++[x]) = A7z r z + cst r x:= by
 unfold A7z; rw [List.map_append,A4s]; simp [sm]
theorem C6p (r:DrRoom) (z:Prs) (x:Nat × DrLook) (c:Nat):E4 r (z++[x]) c = E4 r z c + hr r c x:= by
 unfold E4; rw [List.map_append,A4s]; simp [sm]; omega
theorem C88 {r:DrRoom} (ok:RmOk r) {z:Prs} (hz:B5l r z) {f:Nat} {p:DrLook} (hx:f < r.Figures.length∧LkOk r (-1) p):U4 (J5 r z) (f:Int) (chg r r.Figures[f]! p) = some (J5 r (z++[(f,p)])):= by
 have hl:=hz.1
 have hs:=C2y ok z
 have hc:=D27 ok r.Figures[f]! p
 have hb:∀c:Nat,w64 (E4 r z c + A74 r.Figures[f]! p (c:Int)) = E4 r (z++[(f,p)]) c:=fun c=>by
  have h1:=B2m ok hz c
  have h2:=D6e ok c (x:=(f,p)) hx
  rw [C6p]
  have h2':-50≤A74 r.Figures[f]! p (c:Int)∧A74 r.Figures[f]! p (c:Int)≤50:=h2
  exact E0 (by omega)
 unfold U4
 rw [V6 (by omega) (by show (ints _).length + 1≤_; rw [F1,List.length_map]; omega)]
 simp only [Option.bind_some]
 have h0:=hb 0
 have h1:=hb 1
 have h2:=hb 2
 have h3:=hb 3
 have hloop:loop (T5 (chg r r.Figures[f]! p)) (0,(J5 r z).left_) = some (J5 r (z++[(f,p)])).left_:= by
  have:=J4 (b:=T5 (chg r r.Figures[f]! p)) (fun i=>((i:Int),(match i with
   | 0=>⟨E4 r z 0,E4 r z 1,E4 r z 2,E4 r z 3⟩
   | 1=>⟨E4 r (z++[(f,p)]) 0,E4 r z 1,E4 r z 2,E4 r z 3⟩
   | 2=>⟨E4 r (z++[(f,p)]) 0,E4 r (z++[(f,p)]) 1,E4 r z 2,E4 r z 3⟩
   | 3=>⟨E4 r (z++[(f,p)]) 0,E4 r (z++[(f,p)]) 1,E4 r (z++[(f,p)]) 2,E4 r z 3⟩
   | _=>(J5 r (z++[(f,p)])).left_:Ar4 Int))) 4 (r:=(J5 r (z++[(f,p)])).left_) (by omega) (fun i hi=>by
   unfold T5
   generalize r.Figures[f]! = F at h0 h1 h2 h3 ⊢
   rcases (by omega:i = 0∨i = 1∨i = 2∨i = 3) with rfl | rfl | rfl | rfl <;> simp [idx,Ar4.l,Ar4.set,chg,J5]
   ·exact ⟨E0 (by omega),h0⟩
   ·exact ⟨E0 (by omega),h1⟩
   ·exact ⟨E0 (by omega),h2⟩
   ·exact ⟨E0 (by omega),h3⟩) rfl
  exact this
 rw [hloop]
 simp only [Option.bind_some,Option.some.injEq]
 have e1:w64 (A7z r z + one r r.Figures[f]! p) = A7z r (z++[(f,p)]):= by
  rw [D00]; exact E0 (by omega)
 show (⟨ints (z.map (·.1))++[(f:Int)],w64 (A7z r z + one r r.Figures[f]! p),(J5 r (z++[(f,p)])).left_⟩:dress_plan) = J5 r (z++[(f,p)])
 rw [e1]
 unfold J5 ints
 simp
def below (x:Int):Int:=if x < 0 then -x else 0
def A75 (r:DrRoom) (z:Prs):List Int:=(List.range r.Ounces.length).map fun c=>below (E4 r z c)
def A5g (r:DrRoom) (z:Prs):Bool:=(List.range r.Ounces.length).all fun c=>decide (0≤E4 r z c)
theorem D2a {r:DrRoom} (ok:RmOk r) {x:Nat × DrLook} (h:x.1 < r.Figures.length∧LkOk r (-1) x.2) {c:Nat} (hc:r.Ounces.length≤c):hr r c x = 0:= by
 have h1:=(ok.figure _ (I7 h.1)).col
 have h2:=h.2.col
 unfold hr A74
 have e1:r.Figures[x.1]!.Looks[0]! ≠ (c:Int):= by omega
 have e2:x.2.Looks[0]! ≠ (c:Int):= by omega
 rw [if_neg e1,if_neg e2]
 simp
theorem C4e {r:DrRoom} (ok:RmOk r) {z:Prs} (hz:B5l r z) {c:Nat} (hc:r.Ounces.length≤c):E4 r z c = 0:= by
 unfold E4
 rw [List.getD_eq_getElem?_getD,List.getElem?_eq_none hc,D5z fun x hx=>D2a ok (hz.2 x hx) hc]; rfl
theorem B92 {x:Int} (h:-1000≤x∧x≤1000):A8w 0 (w64 (0 - x)) = below x:= by
 rw [E0 (by omega)]
 unfold A8w below
 split <;> split <;> omega
theorem B6o {x:Int} (h:-1000≤x∧x≤1000):0≤below x∧below x≤1000:= by
 unfold below; split <;> omega
theorem D2n {r:DrRoom} (ok:RmOk r) {z:Prs} (hz:B5l r z):M5 (J5 r z) = some (⟨below (E4 r z 0),below (E4 r z 1),below (E4 r z 2),below (E4 r z 3)⟩,sm (A75 r z)):= by
 have hb:∀c,-1000≤E4 r z c∧E4 r z c≤1000:=fun c=>by have:=B2m ok hz c; omega
 have m:=fun c=>B92 (hb c)
 have q:=fun c=>B6o (hb c)
 have q0:=q 0
 have q1:=q 1
 have q2:=q 2
 have q3:=q 3
 have hs:sm (A75 r z) = below (E4 r z 0) + below (E4 r z 1) + below (E4 r z 2) + below (E4 r z 3):= by
  have ho:=ok.ounces
  have hf:∀c,r.Ounces.length≤c→below (E4 r z c) = 0:=fun c hc=>by rw [C4e ok hz hc]; rfl
  unfold A75
  rcases (by omega:r.Ounces.length = 1∨r.Ounces.length = 2∨r.Ounces.length = 3∨r.Ounces.length = 4) with e | e | e | e <;> rw [e] at hf ⊢
  ·rw [hf 1 (by omega),hf 2 (by omega),hf 3 (by omega)]; simp [List.range,List.range.loop,sm]
  ·rw [hf 2 (by omega),hf 3 (by omega)]; simp [List.range,List.range.loop,sm]
  ·rw [hf 3 (by omega)]; simp [List.range,List.range.loop,sm]; omega
  ·simp [List.range,List.range.loop,sm]; omega
 unfold M5
 have m0:=m 0
 rw [Int.zero_sub] at m0
 have m1:=m 1
 rw [Int.zero_sub] at m1
 have m2:=m 2
 rw [Int.zero_sub] at m2
 have m3:=m 3
 rw [Int.zero_sub] at m3
 have:=J4 (b:=S0 (J5 r z)) (fun i=>(match i with
   | 0=>(0,0,⟨0,0,0,0⟩)
   | 1=>(below (E4 r z 0),1,⟨below (E4 r z 0),0,0,0⟩)
   | 2=>(below (E4 r z 0) + below (E4 r z 1),2,⟨below (E4 r z 0),below (E4 r z 1),0,0⟩)
   | 3=>(below (E4 r z 0) + below (E4 r z 1) + below (E4 r z 2),3,⟨below (E4 r z 0),below (E4 r z 1),below (E4 r z 2),0⟩)
   | _=>(sm (A75 r z),4,⟨below (E4 r z 0),below (E4 r z 1),below (E4 r z 2),below (E4 r z 3)⟩):Int × Int × Ar4 Int)) 4 (r:=(sm (A75 r z),⟨below (E4 r z 0),below (E4 r z 1),below (E4 r z 2),below (E4 r z 3)⟩)) (by omega) (fun i hi=>by
  unfold S0
  rcases (by omega:i = 0∨i = 1∨i = 2∨i = 3) with rfl | rfl | rfl | rfl
  ·simp only [J5,idx,Ar4.l,Ar4.set]
   simp [m0]
   first | exact ⟨E0 (by omega),E0 (by omega)⟩ | exact E0 (by omega)
  ·simp only [J5,idx,Ar4.l,Ar4.set]
   simp [m1]
   first | exact ⟨E0 (by omega),E0 (by omega)⟩ | exact E0 (by omega)
  ·simp only [J5,idx,Ar4.l,Ar4.set]
   simp [m2]
   first | exact ⟨E0 (by omega),E0 (by omega)⟩ | exact E0 (by omega)
  ·simp only [J5,idx,Ar4.l,Ar4.set]
   simp [m3,hs]
   first | exact ⟨E0 (by omega),E0 (by omega)⟩ | exact E0 (by omega)) rfl
 rw [show ((0:Int),(0:Int),(Ar4.mk (0:Int) 0 0 0)) = (match (0:Nat) with
   | 0=>(0,0,⟨0,0,0,0⟩)
   | 1=>(below (E4 r z 0),1,⟨below (E4 r z 0),0,0,0⟩)
   | 2=>(below (E4 r z 0) + below (E4 r z 1),2,⟨below (E4 r z 0),below (E4 r z 1),0,0⟩)
   | 3=>(below (E4 r z 0) + below (E4 r z 1) + below (E4 r z 2),3,⟨below (E4 r z 0),below (E4 r z 1),below (E4 r z 2),0⟩)
   | _=>(sm (A75 r z),4,⟨below (E4 r z 0),below (E4 r z 1),below (E4 r z 2),below (E4 r z 3)⟩):Int × Int × Ar4 Int) from rfl,this]; rfl
theorem B6p {x:Int}:(below x == 0) = decide (0≤x):= by
 unfold below
 rw [Bool.eq_iff_iff,beq_iff_eq,decide_eq_true_eq]
 split <;> omega
theorem B6l {r:DrRoom} (ok:RmOk r) {z:Prs} (hz:B5l r z):L8 (J5 r z) = some (A5g r z):= by
 unfold L8
 rw [D2n ok hz]
 simp only [Option.bind_some,B6p,Bool.and_true,Option.some.injEq]
 have ho:=ok.ounces
 have hf:∀c,r.Ounces.length≤c→decide (0≤E4 r z c) = true:=fun c hc=>by rw [C4e ok hz hc]; rfl
 unfold A5g
 rcases (by omega:r.Ounces.length = 1∨r.Ounces.length = 2∨r.Ounces.length = 3∨r.Ounces.length = 4) with e | e | e | e <;> rw [e] at hf ⊢
 ·rw [hf 1 (by omega),hf 2 (by omega),hf 3 (by omega)]; simp [List.range,List.range.loop]
 ·rw [hf 2 (by omega),hf 3 (by omega)]; simp [List.range,List.range.loop]
 ·rw [hf 3 (by omega)]; simp [List.range,List.range.loop]
 ·simp [List.range,List.range.loop]
theorem C96 {r:DrRoom} {z:Prs}:(sm (A75 r z) == 0) = A5g r z:= by
 unfold A75 A5g
 induction (List.range r.Ounces.length) with
 | nil=>rfl
 | cons c l ih =>
  have h0:∀l:List Nat,0≤sm (l.map fun c=>below (E4 r z c)):=fun l=>by
   have:∀x ∈ l.map fun c=>below (E4 r z c),0≤x:=fun x hx=>by
    obtain ⟨k,_,rfl⟩:=List.mem_map.mp hx
    unfold below; split <;> omega
   revert this
   generalize l.map (fun c=>below (E4 r z c)) = m
   intro this
   induction m with
   | nil=>exact Int.le_refl _
   | cons x l ih =>
    have h1:=this x (List.mem_cons_self ..)
    have h2:=ih fun y hy=>this y (List.mem_cons_of_mem _ hy)
    simp only [sm]; omega
  have h1:=h0 l
  have h2:0≤below (E4 r z c):= by unfold below; split <;> omega
  rw [List.all_cons,← ih,← B6p,Bool.eq_iff_iff,Bool.and_eq_true,beq_iff_eq,beq_iff_eq,beq_iff_eq]
  simp only [List.map_cons,sm]
  omega
theorem C21 {q:List Nat} {ps:List DrLook} {i:Nat} (h:i < q.length) (h2:q.length≤ps.length):(q.zip ps)[i]! = (q[i]!,ps[i]!):= by
 rw [getElem!_pos _ i (by rw [List.length_zip]; omega),List.getElem_zip,getElem!_pos q i h,getElem!_pos ps i (by omega)]
theorem B3f {q:List Nat} {ps:List DrLook} (h:q.length≤ps.length):(q.zip ps).length = q.length:= by
 rw [List.length_zip]; omega
theorem Z4 {q:List Nat} {i:Nat} (h:i < q.length):idx (ints q) (i:Int) = some ((q[i]!:Nat):Int) :=
 A40 (by unfold ints; rw [List.getElem?_map,List.getElem?_eq_getElem h,getElem!_pos q i h]; rfl)
structure QOk (r:DrRoom) (q:List Nat):Prop where
 len:q.length≤r.Persons.length
 fig:∀x ∈ q,x < r.Figures.length
def prs (r:DrRoom) (q:List Nat):Prs:=q.zip r.Persons
theorem QOk.pr {r:DrRoom} (ok:RmOk r) {q:List Nat} (h:QOk r q):B5l r (prs r q):= by
 refine ⟨by unfold prs; rw [B3f h.len]; have:=ok.persons; have:=h.len; omega,fun x hx=>?_⟩
 have:=List.of_mem_zip (a:=x.1) (b:=x.2) hx
 exact ⟨h.fig _ this.1,ok.person _ this.2⟩
theorem C51 {r:DrRoom} (ok:RmOk r) {q:List Nat} (h:QOk r q):A1c r (ints q) = some (A7z r (prs r q)):= by
 have hP:=ok.persons
 have hl:=h.len
 have hz:=h.pr ok
 have hzl:(prs r q).length = q.length:=B3f h.len
 unfold A1c
 have:=A9s (b:=A23 r (ints q)) (prs r q) (fun (t:Int) x=>t + cst r x) 0 (fun i t=>(t,(i:Int))) (r:=A7z r (prs r q)) (by omega) (fun i hi=>by
  rw [A4x (cst r)]
  have hs:=C2y ok ((prs r q).take i)
  rw [List.length_take] at hs
  have hx:=D1u ok (prs r q)[i]!
  have hi2:i < q.length:= by omega
  have e:(prs r q)[i]! = (q[i]!,r.Persons[i]!):=C21 hi2 h.len
  unfold A23
  simp only []
  rw [if_pos (by rw [F1]; simpa using hi2),Z4 hi2]
  simp only [Option.bind_some]
  have hf:=h.fig _ (I7 hi2)
  rw [H9 hf,H9 (by omega)]
  simp only [Option.bind_some]
  rw [D08 ok (ok.figure _ (I7 hf)).len (ok.person _ (I7 (by omega))).len]
  simp only [Option.bind_some]
  rw [show one r r.Figures[q[i]!]! r.Persons[i]! = cst r (prs r q)[i]! by rw [e]; rfl]
  unfold A7z at hs
  rw [E0 (by omega),E0 (by omega)]
  rfl) (by
  unfold A23
  simp only []
  rw [if_neg (by rw [F1,hzl]; simp),A4x (cst r)]
  unfold A7z; simp)
 rw [show ((0:Int),(0:Int)) = ((0:Int),((0:Nat):Int)) from rfl,this]; rfl
theorem D2b (n:Nat) (f p:DrLook) (hn:1≤n):(ints (N6 n f p)).any (· == 0) = ck f p 0:= by
 rw [Bool.eq_iff_iff,List.any_eq_true]
 constructor
 ·rintro ⟨x,hx,e⟩
  unfold ints N6 at hx
  obtain ⟨k,hk,rfl⟩:=List.mem_map.mp hx
  have:k = 0:= by simpa using e
  subst this
  exact (List.mem_filter.mp hk).2
 ·intro h
  refine ⟨0,?_,rfl⟩
  unfold ints N6
  exact List.mem_map.mpr ⟨0,List.mem_filter.mpr ⟨by simp; omega,h⟩,rfl⟩
theorem hair1 {r:DrRoom} (ok:RmOk r) {q:List Nat} (h:QOk r q) (c:Nat) (hc:c < r.Ounces.length) (l0:List Int):loop (A0d r (ints q) ((c:Int),l0)) (r.Ounces[c]!,0) = some (E4 r (prs r q) c):= by
 have hP:=ok.persons
 have hC:=ok.costs
 have hl:=h.len
 have hz:=h.pr ok
 have hzl:(prs r q).length = q.length:=B3f h.len
 have hd:r.Ounces.getD c 0 = r.Ounces[c]!:= by rw [List.getD_eq_getElem?_getD,List.getElem?_eq_getElem hc,getElem!_pos _ c hc]; rfl
 have:=A9s (b:=A0d r (ints q) ((c:Int),l0)) (prs r q) (fun (t:Int) x=>t + hr r c x) r.Ounces[c]! (fun i t=>(t,(i:Int))) (r:=E4 r (prs r q) c) (by omega) (fun i hi=>by
  rw [A4x (hr r c)]
  have hs:=B2m ok (hz.take i) c
  unfold E4 at hs
  rw [hd] at hs
  have hi2:i < q.length:= by omega
  have e:(prs r q)[i]! = (q[i]!,r.Persons[i]!):=C21 hi2 h.len
  have hf:=h.fig _ (I7 hi2)
  have lf:=ok.figure _ (I7 hf)
  have lp:=ok.person _ (I7 (l:=r.Persons) (i:=i) (by omega))
  generalize r.Ounces[c]! + sm (List.map (hr r c) ((prs r q).take i)) = t at hs ⊢
  unfold A0d
  simp only []
  rw [if_pos (by rw [F1]; simpa using hi2),Z4 hi2]
  simp only [Option.bind_some]
  rw [H9 hf,H9 (by omega)]
  simp only [Option.bind_some]
  rw [B6i ok lf.len lp.len]
  simp only [Option.bind_some]
  rw [B3h _ _ (by rw [F1]; have:=P0 r.Costs.length r.Figures[q[i]!]! r.Persons[i]!; omega),D2b _ _ _ hC.1,e]
  simp only [Option.bind_some]
  have h1:=lf.hair
  have h2:=lp.hair
  unfold hr A74
  generalize r.Figures[q[i]!]! = F at lf h1 ⊢
  generalize r.Persons[i]! = P at lp h2 ⊢
  rw [show idx F.Looks 0 = some F.Looks[0]! from H9 (i:=0) (by rw [lf.len]; omega),show idx P.Looks 0 = some P.Looks[0]! from H9 (i:=0) (by rw [lp.len]; omega)]
  simp only [Option.bind_some,beq_iff_eq]
  have hw:w64 ((i:Int) + 1) = ((i + 1:Nat):Int):=E0 (by omega)
  cases ck F P 0 with
  | false=>simp only [Bool.not_false,if_true,Bool.false_eq_true,if_false,hw,Int.add_zero]
  | true =>
   simp only [Bool.not_true,Bool.false_eq_true,if_false,if_true,hw]
   by_cases c1:F.Looks[0]! = (c:Int) <;> by_cases c2:P.Looks[0]! = (c:Int) <;> simp only [c1,c2,if_true,if_false]
   ·rw [E0 (n:=t + F.Hair) (by omega),E0 (by omega)]; congr 3; omega
   ·rw [E0 (n:=t + F.Hair) (by omega)]; congr 3; omega
   ·rw [E0 (by omega)]; congr 3; omega
   ·congr 3; omega) (by
  unfold A0d
  simp only []
  rw [if_neg (by rw [F1,hzl]; simp),A4x (hr r c)]
  unfold E4; rw [hd])
 exact this
def A4d (r:DrRoom) (z:Prs):List Int:=(List.range r.Ounces.length).map (E4 r z)
theorem C7v {r:DrRoom} (ok:RmOk r) {q:List Nat} (h:QOk r q):A3g r (ints q) = some (A4d r (prs r q)):= by
 have hO:=ok.ounces
 unfold A3g
 have:=A9s (b:=A1w r (ints q)) (List.range r.Ounces.length) (fun (t:List Int) c=>t++[E4 r (prs r q) c]) [] (fun i t=>((i:Int),t)) (r:=A4d r (prs r q)) (by simp; omega) (fun i hi=>by
  have hi2:i < r.Ounces.length:= by simpa using hi
  rw [A50 (E4 r (prs r q)),D0m hi2]
  unfold A1w
  simp only []
  rw [if_pos (by simpa using hi2),H9 hi2]
  simp only [Option.bind_some]
  rw [hair1 ok h i hi2]
  simp only [Option.bind_some]
  rw [V6 (by omega) (by simp; omega),E0 (by omega)]
  rfl) (by
  unfold A1w
  simp only []
  rw [if_neg (by simp),A50 (E4 r (prs r q))]
  simp [A4d])
 rw [show ((0:Int),([]:List Int)) = (((0:Nat):Int),([]:List Int)) from rfl,this]; rfl
theorem C2q {r:DrRoom} (ok:RmOk r) {z:Prs} (hz:B5l r z):A3z (A4d r z) = some (A75 r z,sm (A75 r z)):= by
 have hO:=ok.ounces
 have hb:∀c,-1000≤E4 r z c∧E4 r z c≤1000:=fun c=>by have:=B2m ok hz c; omega
 unfold A3z
 have:=J4 (b:=A0z (A4d r z)) (fun i=>(sm ((List.range i).map fun c=>below (E4 r z c)),(i:Int),(List.range i).map fun c=>below (E4 r z c))) r.Ounces.length (r:=(sm (A75 r z),A75 r z)) (by omega) (fun i hi=>by
  have hs:0≤sm ((List.range i).map fun c=>below (E4 r z c))∧sm ((List.range i).map fun c=>below (E4 r z c))≤1000 * i:= by
   have:=C5j (a:=0) (b:=1000) (l:=(List.range i).map fun c=>below (E4 r z c)) fun x hx=>by
    obtain ⟨k,_,rfl⟩:=List.mem_map.mp hx
    exact B6o (hb k)
   simp at this; omega
  unfold A0z
  simp only []
  rw [if_pos (by simpa [A4d] using hi),show idx (A4d r z) (i:Int) = some (E4 r z i) from A40 (by unfold A4d; rw [List.getElem?_map,List.getElem?_range hi]; rfl)]
  simp only [Option.bind_some]
  rw [B92 (hb i),V6 (by omega) (by simp; omega)]
  have hq:=B6o (hb i)
  simp only [Option.bind_some]
  rw [E0 (by omega),E0 (by omega),List.range_succ,List.map_append,A4s]
  simp [sm]) (by
  unfold A0z
  simp only []
  rw [if_neg (by simp [A4d])]; rfl)
 rw [show ((0:Int),(0:Int),([]:List Int)) = (sm ((List.range 0).map fun c=>below (E4 r z c)),((0:Nat):Int),(List.range 0).map fun c=>below (E4 r z c)) from rfl,this]; rfl
theorem B0p {r:DrRoom} (ok:RmOk r) {q:List Nat} (h:QOk r q):Q5 r (ints q) = some (A5g r (prs r q)):= by
 unfold Q5
 rw [C7v ok h]
 simp only [Option.bind_some]
 rw [C2q ok (h.pr ok)]
 simp only [Option.bind_some,C96]
end Ds
end
section
set_option maxRecDepth 100000
set_option maxHeartbeats 0
namespace Ds
open Go Am Go.Proofs.Ytdkflofgolehkaa.Cd
end Ds
end
section
namespace Ds
open Go Am
theorem C3c {r:DrRoom} (ok:RmOk r):begin0 r = J5 r []:= by
 have ho:=ok.ounces
 unfold begin0 J5 cpy4
 simp [ints,A7z,E4,sm,List.getD_eq_getElem?_getD]
section
variable {α β σ ρ:Type}
def W4 (f:α→σ→Option (σ ⊕ ρ)):List α→σ→Option (σ ⊕ ρ)
 | [],s=>some (.inl s)
 | a :: l,s=>(f a s).bind fun x=>match x with
  | .inl s'=>W4 f l s'
  | .inr r=>some (.inr r)
theorem B14 (f:α→σ→Option (σ ⊕ ρ)) (m:List α):∀(l:List α) (s:σ),W4 f (l++m) s = (W4 f l s).bind fun x=>match x with
  | .inl s'=>W4 f m s'
  | .inr r=>some (.inr r)
 | [],s=>rfl
 | a :: l,s=>by
  show (f a s).bind _ = ((f a s).bind _).bind _
  cases f a s with
  | none=>rfl
  | some x=>cases x with
   | inl s'=>exact B14 f m l s'
   | inr r=>rfl
theorem B64 (f:α→σ→Option (σ ⊕ ρ)) (h:β→List α):∀(l:List β) (s:σ),W4 f (l.flatMap h) s = W4 (fun b s=>W4 f (h b) s) l s
 | [],s=>rfl
 | b :: l,s=>by
  rw [List.flatMap_cons,B14]
  show _ = (W4 f (h b) s).bind _
  cases W4 f (h b) s with
  | none=>rfl
  | some x=>cases x with
   | inl s'=>exact B64 f h l s'
   | inr r=>rfl
theorem A7c (f:α→σ→Option (σ ⊕ ρ)) (p:α→Bool):∀(l:List α) (s:σ),W4 f (l.filter p) s = W4 (fun a s=>if p a then f a s else some (.inl s)) l s
 | [],s=>rfl
 | a :: l,s=>by
  rw [List.filter_cons]
  cases h:p a with
  | false =>
   rw [if_neg (by decide),A7c f p l s]
   show _ = (if p a then f a s else some (.inl s)).bind _
   rw [h]; rfl
  | true =>
   rw [if_pos rfl]
   show (f a s).bind _ = (if p a then f a s else some (.inl s)).bind _
   rw [h,if_pos rfl]
   cases f a s with
   | none=>rfl
   | some x=>cases x with
    | inl s'=>exact A7c f p l s'
    | inr r=>rfl
def E0a (i:Nat):σ ⊕ ρ→(Int × σ) ⊕ (ρ ⊕ σ)
 | .inl s=>.inl (((i + 1:Nat):Int),s)
 | .inr r=>.inr (.inl r)
def C85:σ ⊕ ρ→ρ ⊕ σ
 | .inl s=>.inr s
 | .inr r=>.inl r
end
def A8o (n:Nat) (q:List Nat):List Nat:=(List.range n).filter fun f=>!q.contains f
def DF (n:Nat):Nat→List Nat→List (List Nat)
 | 0,q=>[q]
 | d + 1,q=>(A8o n q).flatMap fun f=>DF n d (q++[f])
def bit (u i:Nat):Bool:=u / 2 ^ i % 2 == 1
def C2z (u:Int) (q:List Nat):Prop:=∃ n:Nat,u = (n:Int)∧n < 64∧∀ f,f < 6→bit n f = q.contains f
theorem C8v:∀u:Nat,u < 64→∀ p:Nat,p < 6→orI (u:Int) ((2 ^ p:Nat):Int) = ((u ||| 2 ^ p:Nat):Int)∧(u ||| 2 ^ p) < 64:= by decide +kernel
theorem D7p:∀u:Nat,u < 64→∀ p:Nat,p < 6→∀ t:Nat,t < 6→bit (u ||| 2 ^ p) t = (bit u t || t == p):= by decide +kernel
theorem C7m:C2z 0 []:=⟨0,rfl,by decide,by decide⟩
theorem D02 {u:Int} {q:List Nat} (hu:C2z u q) {p:Nat} (hp:p < 6):C2z (orI u ((2 ^ p:Nat):Int)) (q++[p]):= by
 obtain ⟨n,rfl,h1,h2⟩:=hu
 refine ⟨n ||| 2 ^ p,(C8v n h1 p hp).1,(C8v n h1 p hp).2,fun f hf=>?_⟩
 rw [D7p n h1 p hp f hf,h2 f hf,Bool.eq_iff_iff]
 simp
def B0c (n:Nat) (S k:Nat):List Nat:=(List.range n).filter fun i=>decide (k≤i) && bit S i
def A1h (r:DrRoom) (S k:Nat):List DrLook:=(B0c r.Persons.length S k).map fun i=>r.Persons[i]!
theorem B1d (n S k:Nat):B0c n S k = (List.range' k (n - k)).filter (bit S):= by
 unfold B0c
 by_cases h:k≤n
 ·have e:List.range n = List.range k++List.range' k (n - k):= by
   rw [List.range_eq_range',List.range_eq_range',show List.range' k (n - k) = List.range' (0 + 1 * k) (n - k) by simp,List.range'_append]; congr 1; omega
  rw [e,List.filter_append,List.filter_eq_nil_iff.mpr (by
   intro i hi
   have:i < k:= by simpa using hi
   simp; omega),List.nil_append]
  refine List.filter_congr fun i hi=>?_
  rw [List.mem_range'_1] at hi
  rw [decide_eq_true hi.1,Bool.true_and]
 ·rw [show n - k = 0 by omega,List.range'_zero,List.filter_nil,List.filter_eq_nil_iff]
  intro i hi
  have:i < n:= by simpa using hi
  simp; omega
theorem B4c {n S k:Nat} (h:k < n):B0c n S k = if bit S k then k :: B0c n S (k + 1) else B0c n S (k + 1):= by
 rw [B1d,B1d,show n - k = (n - (k + 1)) + 1 by omega,List.range'_succ,List.filter_cons]
theorem D3w {n S k:Nat} (h:n≤k):B0c n S k = []:= by rw [B1d,show n - k = 0 by omega]; rfl
theorem C83 (r:DrRoom) (hP:r.Persons.length≤5) {S:Nat} (hS:S < 64):∀(d k:Nat),k + d = r.Persons.length →
  ∃ k':Nat,loop (B8p r (S:Int)) (k:Int) = some (k':Int)∧k≤k'∧k'≤r.Persons.length∧B0c r.Persons.length S k = B0c r.Persons.length S k'∧(k' < r.Persons.length→bit S k' = true):= by
 intro d k hk
 have key:∀(d k m:Nat),k + d = r.Persons.length→d < m→∃ k':Nat,A4e (B8p r (S:Int)) m (k:Int) = some (k':Int)∧k≤k'∧k'≤r.Persons.length∧B0c r.Persons.length S k = B0c r.Persons.length S k'∧(k' < r.Persons.length→bit S k' = true):= by
  intro d
  induction d with
  | zero =>
   intro k m hk hm
   obtain ⟨m',rfl⟩:∃m',m = m' + 1:=⟨m - 1,by omega⟩
   refine ⟨k,?_,Nat.le_refl _,by omega,rfl,fun c=>by omega⟩
   rw [H8]
   unfold B8p
   rw [if_neg (by simp; omega)]; rfl
  | succ d ih =>
   intro k m hk hm
   obtain ⟨m',rfl⟩:∃m',m = m' + 1:=⟨m - 1,by omega⟩
   have hb:(B0r ((S / 2 ^ k:Nat):Int) 1 == 0) = !bit S k:=and0 (Nat.lt_of_le_of_lt (Nat.div_le_self _ _) hS)
   have e:B8p r (S:Int) (k:Int) = if bit S k then some (.inr (k:Int)) else some (.inl ((k + 1:Nat):Int)):= by
    unfold B8p
    rw [if_pos (by simp; omega),C2v _ _ (by omega)]
    simp only [Option.bind_some]
    rw [hb,E0 (by omega)]
    cases bit S k <;> rfl
   cases hq:bit S k with
   | true =>
    refine ⟨k,?_,Nat.le_refl _,by omega,rfl,fun _=>hq⟩
    rw [H8,e,hq]; rfl
   | false =>
    obtain ⟨k',h1,h2,h3,h4,h5⟩:=ih (k + 1) m' (by omega) (by omega)
    refine ⟨k',?_,by omega,h3,?_,h5⟩
    ·rw [H8,e,hq]; exact h1
    ·rw [B4c (by omega),hq,← h4]; rfl
 exact key d k _ hk (by omega)
section
variable {σ ρ:Type}
theorem D4b {q:List Nat} {ps:List DrLook} {f:Nat} {p:DrLook} {l:List DrLook} (h:ps.drop q.length = p :: l):(q++[f]).zip ps = q.zip ps++[(f,p)]∧ps.drop (q++[f]).length = l:= by
 have hps:ps = ps.take q.length++p :: l:= by rw [← h,List.take_append_drop]
 have hlen:(ps.take q.length).length = q.length:= by
  have:q.length < ps.length:= by
   have:=congrArg List.length h
   rw [List.length_drop] at this; simp at this; omega
  rw [List.length_take]; omega
 constructor
 ·generalize ps.take q.length = a at *
  subst hps
  rw [List.zip_append hlen.symm]
  have:q.zip (a++p :: l) = q.zip a++([]:List Nat).zip (p :: l):= by
   rw [← List.zip_append hlen.symm,List.append_nil]
  rw [this]; simp
 ·rw [List.length_append,← List.drop_drop,h]; rfl
theorem D2w {r:DrRoom} (ok:RmOk r) {ch:Chg} (hch:C5z r ch) {S:Nat} (hS:S < 64) (ps:List DrLook) (hps:∀p ∈ ps,LkOk r (-1) p) (hpl:ps.length≤5) (body:dress_plan→σ→Option (σ ⊕ ρ)) :
  ∀ (d k:Nat) (q:List Nat) (u:Int) (s:σ) (X:σ ⊕ ρ) (m:Nat),ps.drop q.length = A1h r S k→(A1h r S k).length = d→k≤r.Persons.length→C2z u q→(∀ f ∈ q,f < r.Figures.length)→q.length + d = ps.length→d < m →
   W4 (fun q s=>body (J5 r (q.zip ps)) s) (DF r.Figures.length d q) s = some X→A76 r ch (S:Int) body m (k:Int) u (J5 r (q.zip ps)) s = some X:= by
 have hP:=ok.persons
 have hF:=ok.figures
 intro d
 induction d with
 | zero =>
  intro k q u s X m hd hl hk hu hq hlen hm hf
  obtain ⟨m',rfl⟩:∃m',m = m' + 1:=⟨m - 1,by omega⟩
  obtain ⟨k',h1,h2,h3,h4,h5⟩:=C83 r hP hS (r.Persons.length - k) k (by omega)
  have e:k' = r.Persons.length:= by
   by_cases c:k' < r.Persons.length
   ·unfold A1h at hl
    rw [h4,B4c c,h5 c] at hl
    simp at hl
   ·omega
  subst e
  unfold A76
  rw [h1]
  simp only [Option.bind_some,BEq.rfl,if_true]
  unfold DF at hf
  unfold W4 at hf
  cases hb:body (J5 r (q.zip ps)) s with
  | none=>rw [hb] at hf; cases hf
  | some x=>rw [hb] at hf; cases x <;> cases hf <;> rfl
 | succ d ih =>
  intro k q u s X m hd hl hk hu hq hlen hm hf
  obtain ⟨m',rfl⟩:∃m',m = m' + 1:=⟨m - 1,by omega⟩
  obtain ⟨k',h1,h2,h3,h4,h5⟩:=C83 r hP hS (r.Persons.length - k) k (by omega)
  have c:k' < r.Persons.length:= by
   by_cases c:k' < r.Persons.length
   ·exact c
   ·unfold A1h at hl
    rw [h4,D3w (by omega)] at hl
    simp at hl
  have hsel:A1h r S k = r.Persons[k']! :: A1h r S (k' + 1):= by
   unfold A1h
   rw [h4,B4c c,h5 c]; rfl
  rw [hsel] at hd hl
  have hne:((k':Int) == (r.Persons.length:Int)) = false:= by simp; omega
  have hPk:LkOk r (-1) r.Persons[k']!:=ok.person _ (I7 c)
  have hz:B5l r (q.zip ps):=⟨by rw [List.length_zip]; omega,fun x hx=>by
   have:=List.of_mem_zip (a:=x.1) (b:=x.2) hx
   exact ⟨hq _ this.1,hps _ this.2⟩⟩
  unfold A76
  rw [h1]
  simp only [Option.bind_some,hne,Bool.false_eq_true,if_false]
  unfold DF A8o at hf
  rw [B64,A7c] at hf
  have hloop:loop (B9g r ch (A76 r ch (S:Int) body m') (k':Int) u (J5 r (q.zip ps))) (0,s) = some (C85 X):= by
   have key:∀(j i m2:Nat) (s:σ),i + j = r.Figures.length→j < m2→W4 (fun f s=>if (!q.contains f) = true then W4 (fun q s=>body (J5 r (q.zip ps)) s) (DF r.Figures.length d (q++[f])) s else some (.inl s)) ((List.range r.Figures.length).drop i) s = some X →
     A4e (B9g r ch (A76 r ch (S:Int) body m') (k':Int) u (J5 r (q.zip ps))) m2 ((i:Int),s) = some (C85 X):= by
    intro j
    induction j with
    | zero =>
     intro i m2 s hi hm2 h
     obtain ⟨m3,rfl⟩:∃m3,m2 = m3 + 1:=⟨m2 - 1,by omega⟩
     rw [List.drop_of_length_le (by simp; omega)] at h
     cases h
     rw [H8]
     unfold B9g
     simp only []
     rw [if_neg (by simp; omega)]; rfl
    | succ j ihj =>
     intro i m2 s hi hm2 h
     obtain ⟨m3,rfl⟩:∃m3,m2 = m3 + 1:=⟨m2 - 1,by omega⟩
     have hi2:i < (List.range r.Figures.length).length:= by simp; omega
     rw [List.drop_eq_getElem_cons hi2,List.getElem_range] at h
     obtain ⟨n,rfl,hn,hbit⟩:=hu
     have hb:(B0r ((n / 2 ^ i:Nat):Int) 1 == 1) = q.contains i:= by
      rw [and1 (Nat.lt_of_le_of_lt (Nat.div_le_self _ _) hn)]; exact hbit i (by omega)
     unfold W4 at h
     cases hc:q.contains i with
     | true =>
      have e:B9g r ch (A76 r ch (S:Int) body m') (k':Int) (n:Int) (J5 r (q.zip ps)) ((i:Int),s) = some (.inl (((i + 1:Nat):Int),s)):= by
       unfold B9g
       simp only []
       rw [if_pos (by simp; omega),C2v _ _ (by omega)]
       simp only [Option.bind_some]
       rw [hb,hc,if_pos rfl,E0 (by omega)]; rfl
      rw [hc] at h
      rw [H8,e]
      exact ihj (i + 1) m3 s (by omega) (by omega) h
     | false =>
      rw [hc] at h
      simp only [Bool.not_false,if_true] at h
      obtain ⟨z1,z2⟩:=D4b (f:=i) hd
      cases hX:W4 (fun q s=>body (J5 r (q.zip ps)) s) (DF r.Figures.length d (q++[i])) s with
      | none=>rw [hX] at h; cases h
      | some Y =>
       rw [hX] at h
       have hr:=ih (k' + 1) (q++[i]) (orI (n:Int) ((2 ^ i:Nat):Int)) s Y m' (by rw [z2]) (by simpa using hl) (by omega) (D02 ⟨n,rfl,hn,hbit⟩ (by omega)) (fun f hf=>by
        rcases List.mem_append.mp hf with hf | hf
        ·exact hq f hf
        ·have:f = i:= by simpa using hf
         omega) (by rw [List.length_append]; simp; omega) (by omega) hX
       rw [z1] at hr
       have e:B9g r ch (A76 r ch (S:Int) body m') (k':Int) (n:Int) (J5 r (q.zip ps)) ((i:Int),s) = some (E0a i Y):= by
        unfold B9g
        simp only []
        rw [if_pos (by simp; omega),C2v _ _ (by omega)]
        simp only [Option.bind_some]
        rw [hb,hc,if_neg (by decide)]
        have hg:=hch i k' (by omega) c
        unfold A39
        rw [hg,Option.getD_some,C88 ok hz ⟨by omega,hPk⟩]
        simp only [Option.bind_some]
        rw [A95 i (by omega),E0 (n:=(k':Int) + 1) (by omega)]
        simp only [Option.bind_some]
        rw [show (((k':Nat):Int) + 1) = ((k' + 1:Nat):Int) from rfl,hr]
        cases Y with
        | inl s'=>simp only [Option.bind_some]; rw [E0 (by omega)]; rfl
        | inr x=>rfl
       rw [H8,e]
       cases Y with
       | inl s'=>exact ihj (i + 1) m3 s' (by omega) (by omega) h
       | inr x=>cases h; rfl
   exact key r.Figures.length 0 _ s (by omega) (by omega) hf
  rw [hloop]
  cases X <;> rfl
end
theorem B6g {n:Nat}:∀{d:Nat} {q p:List Nat},p ∈ DF n d q↔∃ t,p = q++t∧t.length = d∧t.Nodup∧∀ x ∈ t,x < n∧x ∉ q
 | 0,q,p=>by
  unfold DF
  rw [List.mem_singleton]
  constructor
  ·rintro rfl; exact ⟨[],by simp⟩
  ·rintro ⟨t,rfl,h,-,-⟩
   rw [List.length_eq_zero_iff.mp h,List.append_nil]
 | d + 1,q,p=>by
  unfold DF A8o
  rw [List.mem_flatMap]
  constructor
  ·rintro ⟨f,hf,hp⟩
   obtain ⟨t,rfl,h1,h2,h3⟩:=B6g.mp hp
   have hf:=List.mem_filter.mp hf
   have hfn:f < n:= by simpa using hf.1
   have hfq:f ∉ q:= by simpa using hf.2
   refine ⟨f :: t,by simp,by simp [h1],?_,?_⟩
   ·rw [List.nodup_cons]
    exact ⟨fun c=>(h3 f c).2 (by simp),h2⟩
   ·intro x hx
    rcases List.mem_cons.mp hx with rfl | hx
    ·exact ⟨hfn,hfq⟩
    ·have:=h3 x hx
     exact ⟨this.1,fun c=>this.2 (List.mem_append_left _ c)⟩
  ·rintro ⟨t,rfl,h1,h2,h3⟩
   cases t with
   | nil=>cases h1
   | cons f t =>
    rw [List.nodup_cons] at h2
    have hf:=h3 f (List.mem_cons_self ..)
    refine ⟨f,List.mem_filter.mpr ⟨by simpa using hf.1,by simpa using hf.2⟩,B6g.mpr ⟨t,by simp,by simpa using h1,h2.2,fun x hx=>⟨(h3 x (List.mem_cons_of_mem _ hx)).1,fun c=>?_⟩⟩⟩
    rcases List.mem_append.mp c with c | c
    ·exact (h3 x (List.mem_cons_of_mem _ hx)).2 c
    ·have:x = f:= by simpa using c
     subst this; exact h2.1 hx
def perms (n d:Nat):List (List Nat):=DF n d []
theorem A9z {n d:Nat} {p:List Nat}:p ∈ perms n d↔p.length = d∧p.Nodup∧∀ x ∈ p,x < n:= by
 unfold perms
 rw [B6g]
 constructor
 ·rintro ⟨t,rfl,h1,h2,h3⟩
  exact ⟨h1,h2,fun x hx=>(h3 x hx).1⟩
 ·rintro ⟨h1,h2,h3⟩
  exact ⟨p,rfl,h1,h2,fun x hx=>⟨h3 x hx,by simp⟩⟩
theorem C10 {α β:Type} {f:α→List β} {b:Nat}:∀{l:List α},(∀ x ∈ l,(f x).length≤b)→(l.flatMap f).length≤l.length * b
 | [],_=>by simp
 | x :: l,h=>by
  have h1:=h x (List.mem_cons_self ..)
  have ih:=C10 (l:=l) fun y hy=>h y (List.mem_cons_of_mem _ hy)
  rw [List.flatMap_cons,List.length_append,List.length_cons,Nat.succ_mul]; omega
theorem B5r {n:Nat} (hn:n≤6):∀(d:Nat) (q:List Nat),(DF n d q).length≤6 ^ d
 | 0,q=>by simp [DF]
 | d + 1,q=>by
  unfold DF
  have h1:(A8o n q).length≤6:= by
   unfold A8o
   exact Nat.le_trans (List.length_filter_le _ _) (by simpa using hn)
  have:=C10 (l:=A8o n q) (f:=fun f=>DF n d (q++[f])) (b:=6 ^ d) fun f _=>B5r hn d _
  rw [Nat.pow_succ]
  calc _≤(A8o n q).length * 6 ^ d:=this
   _≤6 * 6 ^ d:=Nat.mul_le_mul_right _ h1
   _ = 6 ^ d * 6:=Nat.mul_comm _ _
theorem B1b {n d:Nat} (hn:n≤6) (hd:d≤5):(perms n d).length≤7776 :=
 Nat.le_trans (B5r hn d []) (Nat.le_trans (Nat.pow_le_pow_right (by decide) hd) (by decide))
def fm {α:Type} (k:α→Int):List α→Option α
 | []=>none
 | x :: l=>match fm k l with
  | none=>some x
  | some y=>if k y < k x then some y else some x
section
variable {α:Type} {k:α→Int}
theorem B5z:∀{l:List α},fm k l = none↔l = []
 | []=>⟨fun _=>rfl,fun _=>rfl⟩
 | x :: l=>by
  refine ⟨fun h=>?_,fun h=>by cases h⟩
  unfold fm at h
  split at h
  ·cases h
  ·split at h <;> cases h
theorem B13:∀{l:List α} {b:α},fm k l = some b→(∀ y ∈ l,k b≤k y)∧∃ A B,l = A++b :: B∧∀ a ∈ A,k b < k a
 | [],b,h=>by cases h
 | x :: l,b,h=>by
  unfold fm at h
  cases hf:fm k l with
  | none =>
   rw [hf] at h; cases h
   rw [B5z.mp hf]
   exact ⟨by simp,[],[],rfl,by simp⟩
  | some y =>
   rw [hf] at h
   obtain ⟨h1,A,B,rfl,h3⟩:=B13 hf
   simp only at h
   split at h
   ·next c =>
    cases h
    refine ⟨fun z hz=>?_,x :: A,B,rfl,fun a ha=>?_⟩
    ·rcases List.mem_cons.mp hz with rfl | hz
     ·omega
     ·exact h1 z hz
    ·rcases List.mem_cons.mp ha with rfl | ha
     ·exact c
     ·exact h3 a ha
   ·next c =>
    cases h
    refine ⟨fun z hz=>?_,[],A++y :: B,rfl,by simp⟩
    rcases List.mem_cons.mp hz with rfl | hz
    ·exact Int.le_refl _
    ·have:=h1 z hz; omega
theorem B0w {l:List α} {b:α} (h:fm k l = some b):b ∈ l:= by
 obtain ⟨_,A,B,rfl,_⟩:=B13 h
 simp
theorem C11 (y:α):∀(l:List α),fm k (l++[y]) = match fm k l with
  | none=>some y
  | some b=>if k y < k b then some y else some b
 | []=>rfl
 | x :: l=>by
  show (match fm k (l++[y]) with | none=>some x | some z=>if k z < k x then some z else some x) = match (match fm k l with | none=>some x | some z=>if k z < k x then some z else some x) with | none=>some y | some b=>if k y < k b then some y else some b
  rw [C11 y l]
  cases fm k l with
  | none=>rfl
  | some b =>
   simp only
   by_cases c1:k b < k x <;> by_cases c2:k y < k b <;> by_cases c3:k y < k x <;> simp only [c1,c2,c3,if_true,if_false] <;> omega
theorem D11 {β:Type} (g:β→α):∀(l:List β),fm k (l.map g) = (fm (fun x=>k (g x)) l).map g
 | []=>rfl
 | x :: l=>by
  rw [List.map_cons]
  unfold fm
  rw [D11 g l]
  cases fm (fun x=>k (g x)) l with
  | none=>rfl
  | some y =>
   simp only [Option.map_some]
   split <;> rfl
end
theorem D7r {r:DrRoom} {z:Prs} (h:z.length≤5):A2f (J5 r z) = some (J5 r z):= by
 have hl:(ints (z.map (·.1))).length = z.length:= by rw [F1,List.length_map]
 unfold A2f
 show (C0w 8 ((ints (z.map (·.1))).length:Int) 0).bind _ = _
 rw [hl]
 unfold C0w
 rw [if_pos ⟨by omega,by omega,by omega⟩]
 simp only [Option.bind_some,Option.some.injEq]
 have:cpy (List.replicate (z.length:Int).toNat (0:Int)) (ints (z.map (·.1))) = ints (z.map (·.1)):= by
  unfold cpy
  rw [List.length_replicate,Int.toNat_natCast,hl,Nat.min_self,List.take_of_length_le (by omega),List.drop_of_length_le (by simp),List.append_nil]
 show (⟨cpy _ (ints (z.map (·.1))),_,_⟩:dress_plan) = _
 rw [this]; rfl
section
variable {α β ρ:Type}
theorem B0g {f:α→List β→Option (List β ⊕ ρ)} {p:α→Bool} {g:α→β}:∀{l:List α} {s:List β},s.length + l.length≤1000000000→(∀ a ∈ l,∀ s:List β,s.length < 1000000000→f a s = some (.inl (if p a then s++[g a] else s)))→W4 f l s = some (.inl (s++(l.filter p).map g))
 | [],s,_,_=>by simp [W4]
 | a :: l,s,hl,h=>by
  rw [List.length_cons] at hl
  unfold W4
  rw [h a (List.mem_cons_self ..) s (by omega)]
  simp only [Option.bind_some]
  have hq:(if p a then s++[g a] else s).length + l.length≤1000000000:= by
   split
   ·rw [List.length_append,List.length_singleton]; omega
   ·omega
  rw [B0g hq fun b hb=>h b (List.mem_cons_of_mem _ hb),List.filter_cons]
  cases p a <;> simp
end
structure PsOk (r:DrRoom) (ps:List DrLook):Prop where
 len:ps.length≤5
 look:∀p ∈ ps,LkOk r (-1) p
theorem PsOk.pr {r:DrRoom} {ps:List DrLook} (h:PsOk r ps) {q:List Nat} (hq:q ∈ perms r.Figures.length ps.length):B5l r (q.zip ps):= by
 have hq:=A9z.mp hq
 refine ⟨by rw [List.length_zip]; have:=h.len; omega,fun x hx=>?_⟩
 have:=List.of_mem_zip (a:=x.1) (b:=x.2) hx
 exact ⟨hq.2.2 _ this.1,h.look _ this.2⟩
def AL (r:DrRoom) (ps:List DrLook):List (List Nat):=(perms r.Figures.length ps.length).filter fun q=>A5g r (q.zip ps)
theorem B6f {r:DrRoom} {ps:List DrLook} {q:List Nat}:q ∈ AL r ps↔(q.length = ps.length∧q.Nodup∧∀ x ∈ q,x < r.Figures.length)∧A5g r (q.zip ps) = true:= by
 unfold AL; rw [List.mem_filter,A9z]
theorem B5q {r:DrRoom} (ok:RmOk r) {ps:List DrLook} (h:PsOk r ps):(AL r ps).length≤7776 :=
 Nat.le_trans (List.length_filter_le _ _) (B1b ok.figures h.len)
theorem C2u {r:DrRoom} (ok:RmOk r) (S k:Nat):PsOk r (A1h r S k):= by
 refine ⟨?_,fun p hp=>?_⟩
 ·unfold A1h B0c
  rw [List.length_map]
  have:=List.length_filter_le (fun i=>decide (k≤i) && bit S i) (List.range r.Persons.length)
  have:=ok.persons
  simp at *; omega
 ·unfold A1h B0c at hp
  obtain ⟨i,hi,rfl⟩:=List.mem_map.mp hp
  have:i < r.Persons.length:= by simpa using (List.mem_filter.mp hi).1
  exact ok.person _ (I7 this)
theorem C63 {σ ρ:Type} {r:DrRoom} (ok:RmOk r) {ch:Chg} (hch:C5z r ch) {S:Nat} (hS:S < 64) (body:dress_plan→σ→Option (σ ⊕ ρ)) {s:σ} {X:σ ⊕ ρ}
  (h:W4 (fun q s=>body (J5 r (q.zip (A1h r S 0))) s) (perms r.Figures.length (A1h r S 0).length) s = some X):A90 r ch (S:Int) σ ρ body s = some X:= by
 have hp:=C2u ok S 0
 unfold A90
 have:=D2w ok hch hS (A1h r S 0) hp.look hp.len body (A1h r S 0).length 0 [] 0 s X 64 rfl rfl (Nat.zero_le _) C7m (by simp) (by simp) (by have:=hp.len; omega) h
 rw [C3c ok]
 exact this
theorem C84 {r:DrRoom} (ok:RmOk r) {ch:Chg} (hch:C5z r ch) {S:Nat} (hS:S < 64):R9 r ch (S:Int) = some ((AL r (A1h r S 0)).map fun q=>J5 r (q.zip (A1h r S 0))):= by
 have hp:=C2u ok S 0
 have hF:=ok.figures
 have hsz:=B1b hF hp.len
 unfold R9
 rw [C63 ok hch hS A96 (s:=[]) (X:=.inl ((AL r (A1h r S 0)).map fun q=>J5 r (q.zip (A1h r S 0)))) (by
  have:=B0g (ρ:=Unit) (l:=perms r.Figures.length (A1h r S 0).length) (s:=([]:List dress_plan)) (f:=fun q s=>A96 (J5 r (q.zip (A1h r S 0))) s) (p:=fun q=>A5g r (q.zip (A1h r S 0))) (g:=fun q=>J5 r (q.zip (A1h r S 0))) (by simp; omega) (fun q hq s hs=>by
   have hz:=hp.pr hq
   unfold A96
   rw [B6l ok hz]
   simp only [Option.bind_some]
   cases A5g r (q.zip (A1h r S 0)) with
   | false=>rfl
   | true =>
    rw [if_pos rfl,D7r hz.1]
    simp only [Option.bind_some]
    rw [V6 (by omega) (by simp; omega)]; rfl)
  rw [this]; rfl)]
 rfl
theorem less1 (p q:dress_plan):B7g by1 p q = some (decide (p.cost_ < q.cost_)):= by
 unfold B7g
 have h1:∀i:Nat,i = 0→A5n by1 p q (i:Int) = some (if p.cost_ = q.cost_ then .inl 1 else .inr (.inl (decide (p.cost_ < q.cost_)))):= by
  rintro i rfl
  unfold A5n
  rw [if_pos (by decide)]
  rw [show idx by1 ((0:Nat):Int) = some (94,U8) from rfl]
  simp only [Option.bind_some,U8]
  by_cases c:p.cost_ = q.cost_
  ·rw [if_neg (by simp [c]),if_pos c]; rfl
  ·rw [if_pos (by simpa using c),if_neg c]
 have h2:A5n by1 p q 1 = some (.inr (.inr ())):= by unfold A5n; rw [if_neg (by decide)]
 by_cases c:p.cost_ = q.cost_
 ·have:=J4 (b:=A5n by1 p q) (fun i=>(i:Int)) 1 (r:=.inr ()) (by omega) (fun i hi=>by rw [h1 i (by omega),if_pos c]; congr 2; omega) h2
  rw [show (0:Int) = ((0:Nat):Int) from rfl,this,c]; simp
 ·have:=J4 (b:=A5n by1 p q) (fun i=>(i:Int)) 0 (r:=.inl (decide (p.cost_ < q.cost_))) (by omega) (fun i hi=>absurd hi (Nat.not_lt_zero i)) (by rw [h1 0 rfl,if_neg c])
  rw [show (0:Int) = ((0:Nat):Int) from rfl,this]; rfl
instance:Inhabited dress_plan:=⟨plan0⟩
theorem C9s (l:List dress_plan) (g:dress_plan × dress_plan→Option Bool) (k:dress_plan→Int) (hl:l.length < 1000000000) (hg:∀x ∈ l,∀ y ∈ l,g (x,y) = some (decide (k x < k y))) :
  M4 l g = some (match fm k l with | none=>(plan0,false) | some b=>(b,true)):= by
 unfold M4
 have:=J4 (b:=I5 l g) (fun i=>((match fm k (l.take i) with | none=>(false,(i:Int),plan0) | some b=>(true,(i:Int),b)):Bool × Int × dress_plan)) l.length (r:=match fm k l with | none=>(false,plan0) | some b=>(true,b)) (by omega) (fun i hi=>by
  have hsn:fm k (l.take (i + 1)) = match fm k (l.take i) with | none=>some l[i]! | some b=>if k l[i]! < k b then some l[i]! else some b:= by
   rw [List.take_succ_eq_append_getElem hi,C11,getElem!_pos l i hi]
   cases fm k (l.take i) <;> rfl
  rw [hsn]
  cases hf:fm k (l.take i) with
  | none =>
   have h0:i = 0:= by
    have:=congrArg List.length (B5z.mp hf)
    rw [List.length_take,List.length_nil] at this; omega
   subst h0
   unfold I5
   simp only []
   rw [if_pos (by simpa using hi),H9 hi]; rfl
  | some b =>
   have h0:i ≠ 0:= by rintro rfl; cases hf
   have hb:b ∈ l:=List.mem_of_mem_take (B0w hf)
   unfold I5
   simp only []
   rw [if_pos (by simpa using hi),H9 hi]
   simp only [Option.bind_some]
   rw [if_neg (by simp; omega),hg _ (I7 hi) b hb,E0 (by omega)]
   simp only [Option.bind_some]
   by_cases c:k l[i]! < k b
   ·rw [if_pos (by simpa using c),if_pos c]; rfl
   ·rw [if_neg (by simpa using c),if_neg c]; rfl) (by
  rw [List.take_length]
  cases fm k l with
  | none=>unfold I5; simp only []; rw [if_neg (by simp)]
  | some b=>unfold I5; simp only []; rw [if_neg (by simp)])
 rw [show ((false,0,(dress_plan.mk ([]:List Int) 0 (Ar4.mk 0 0 0 0))):Bool × Int × dress_plan) = (match fm k (l.take 0) with | none=>(false,((0:Nat):Int),plan0) | some b=>(true,((0:Nat):Int),b)) from rfl,this]
 simp only [Option.bind_some]
 cases fm k l <;> rfl
def Z2 (r:DrRoom) (ps:List DrLook) (q:List Nat):Int:=A7z r (q.zip ps)
def X8 (r:DrRoom) (ps:List DrLook):Option (List Nat):=fm (Z2 r ps) (AL r ps)
theorem B5u {r:DrRoom} (ok:RmOk r) {ch:Chg} (hch:C5z r ch) {S:Nat} (hS:S < 64) :
  P1 r ch (S:Int) = some (match X8 r (A1h r S 0) with | none=>(plan0,false) | some q=>(J5 r (q.zip (A1h r S 0)),true)):= by
 unfold P1
 rw [C84 ok hch hS]
 simp only [Option.bind_some]
 rw [C9s _ _ (fun p=>p.cost_) (by rw [List.length_map]; have:=B5q ok (C2u ok S 0); omega) (fun x _ y _=>less1 x y),D11]
 unfold X8
 rw [show (fun x=>(J5 r (x.zip (A1h r S 0))).cost_) = Z2 r (A1h r S 0) from rfl]
 cases fm (Z2 r (A1h r S 0)) (AL r (A1h r S 0)) <;> rfl
end Ds
end
section
set_option maxRecDepth 100000
set_option maxHeartbeats 0
namespace Ds
open Go Am Go.Proofs.Ytdkflofgolehkaa.Cd
end Ds
end
section
set_option maxRecDepth 100000
namespace Ds
open Go Am Go.Proofs.Ytdkflofgolehkaa.Cd
end Ds
end
section
set_option maxRecDepth 100000
set_option maxHeartbeats 0
namespace Ds
open Go Am Go.Proofs.Ytdkflofgolehkaa.Cd
end Ds
end
section
namespace Ds
open Go Am
theorem B2k (q:List Nat) (f:Nat):(ints q).any (· == (f:Int)) = q.contains f:= by
 unfold ints
 rw [List.any_map,Bool.eq_iff_iff,List.any_eq_true]
 simp only [Function.comp_def,beq_iff_eq,List.contains_iff_mem]
 constructor
 ·rintro ⟨x,hx,e⟩
  have:x = f:= by omega
  subst this; exact hx
 ·intro h; exact ⟨f,h,rfl⟩
def B1s (r:DrRoom):List Int × Int × Int :=
 if (chk r).2.2 ≠ 0 then ([],0,(chk r).2.2) else
 match X8 r r.Persons with
 | none=>([],0,9)
 | some q=>(ints q,Z2 r r.Persons q,0)
theorem D3v {n S:Nat} (h:∀i,i < n→bit S i = true):B0c n S 0 = List.range n:= by
 unfold B0c
 rw [List.filter_eq_self]
 intro i hi
 rw [h i (by simpa using hi)]; simp
theorem C0v {α:Type} [Inhabited α] (l:List α):(List.range l.length).map (fun i=>l[i]!) = l:= by
 apply List.ext_getElem
 ·simp
 ·intro i h1 h2
  rw [List.getElem_map,List.getElem_range,getElem!_pos l i h2]
theorem D3x {r:DrRoom} {S:Nat} (h:∀i,i < r.Persons.length→bit S i = true):A1h r S 0 = r.Persons:= by
 unfold A1h
 rw [D3v h,C0v]
theorem C7o:∀n:Nat,n < 6→∀ i:Nat,i < n→bit (2 ^ n - 1) i = true:= by decide
theorem B3d {r:DrRoom} (ok:RmOk r):J3 ⟨r⟩ = some ((2 ^ r.Persons.length - 1:Nat):Int):= by
 have hP:=ok.persons
 unfold J3
 show (B9t .i64 1 (r.Persons.length:Int)).bind _ = _
 rw [A95 _ (by omega)]
 simp only [Option.bind_some,Option.some.injEq]
 have h1:0 < 2 ^ r.Persons.length:=Nat.two_pow_pos _
 have h2:2 ^ r.Persons.length≤32:=Nat.le_trans (Nat.pow_le_pow_right (by decide) hP) (by decide)
 rw [E0 (by omega)]; omega
theorem B3e {r:DrRoom} (ok:RmOk r):2 ^ r.Persons.length - 1 < 64:= by
 have:2 ^ r.Persons.length≤32:=Nat.le_trans (Nat.pow_le_pow_right (by decide) ok.persons) (by decide)
 omega
theorem A7v {r:DrRoom} (ok:RmOk r):A1h r (2 ^ r.Persons.length - 1) 0 = r.Persons :=
 D3x fun i hi=>C7o _ (by have:=ok.persons; omega) i hi
theorem C9a {q:List Nat} {ps:List DrLook} (h:q.length = ps.length):(q.zip ps).map (·.1) = q:=List.map_fst_zip (by omega)
theorem D06 {r:DrRoom} {ps:List DrLook} {q:List Nat} (h:q ∈ AL r ps):q.length = ps.length:=(B6f.mp h).1.1
theorem C7t (r:DrRoom) (hb:NB r):A0l r = some (B1s r):= by
 unfold A0l B1s
 rw [A6b r hb]
 simp only [Option.bind_some]
 by_cases h0:(chk r).2.2 = 0
 ·obtain ⟨ok,-⟩:=(S6 r).mp h0
  obtain ⟨ch,e1,hch⟩:=C3l ok
  have hr:∀(a b:List Int × Int × Int),(if (chk r).2.2 ≠ 0 then a else b) = b:=fun a b=>if_neg (fun c=>c h0)
  rw [hr,if_neg (by simp [h0]),show loop (A5y r) (0,[]) = some ch from e1,B3d ok]
  simp only [Option.bind_some]
  rw [B5u ok hch (B3e ok),A7v ok]
  simp only [Option.bind_some]
  cases hb:X8 r r.Persons with
  | none=>rfl
  | some q =>
   have hl:=D06 (B0w hb)
   show some (ints ((q.zip r.Persons).map (·.1)),_,_) = _
   rw [C9a hl]; rfl
 ·rw [if_pos h0,if_pos (by simpa using h0)]
end Ds
end
section
set_option maxRecDepth 100000
namespace Ds
open Go Am
theorem C7h:∀d,d < 7→∀ q ∈ perms 6 d,B8q (ints q) = some (ints ((List.range 6).filter fun f=>q.contains f)):= by decide +kernel
end Ds
end
section
set_option maxRecDepth 100000
set_option maxHeartbeats 0
namespace Ds
open Go Am Go.Proofs.Ytdkflofgolehkaa.Cd
end Ds
end
section
namespace Ds
open Go Am
theorem A9u:∀(n:Nat) (l:List Nat),l.Nodup→(∀ x ∈ l,x < n)→l.length≤n
 | 0,l,_,h=>by
  cases l with
  | nil=>simp
  | cons x l=>exact absurd (h x (List.mem_cons_self ..)) (Nat.not_lt_zero x)
 | n + 1,l,hd,h=>by
  have h1:=A9u n (l.filter fun x=>x != n) (hd.filter _) fun x hx=>by
   have:=List.mem_filter.mp hx
   have h2:=h x this.1
   have h3:x ≠ n:= by simpa using this.2
   omega
  have h2:(l.filter fun x=>!(x != n)).length≤1:= by
   have hn:(l.filter fun x=>!(x != n)).Nodup:=hd.filter _
   cases hl:l.filter fun x=>!(x != n) with
   | nil=>simp
   | cons a t =>
    cases t with
    | nil=>simp
    | cons b t =>
     rw [hl] at hn
     have ha:a ∈ l.filter fun x=>!(x != n):= by rw [hl]; simp
     have hb:b ∈ l.filter fun x=>!(x != n):= by rw [hl]; simp
     have ea:a = n:= by simpa using (List.mem_filter.mp ha).2
     have eb:b = n:= by simpa using (List.mem_filter.mp hb).2
     subst ea; subst eb
     simp at hn
  have h3:l.length = (l.filter fun x=>x != n).length + (l.filter fun x=>!(x != n)).length:= by
   clear h1 h2 hd h
   induction l with
   | nil=>rfl
   | cons x l ih =>
    rw [List.filter_cons,List.filter_cons]
    cases x != n <;> simp [ih] <;> omega
  omega
theorem D50 {q:List Nat} (hd:q.Nodup) (h:∀x ∈ q,x < 6):B8q (ints q) = some (ints ((List.range 6).filter fun f=>q.contains f)) :=
 C7h q.length (by have:=A9u 6 q hd h; omega) q (A9z.mpr ⟨rfl,hd,h⟩)
theorem C2o {n m:Nat} {p:Nat→Bool} (hnm:n≤m) (hp:∀i,p i = true→i < n):(List.range m).filter p = (List.range n).filter p:= by
 induction m with
 | zero =>
  have:n = 0:= by omega
  subst this; rfl
 | succ m ih =>
  by_cases e:n = m + 1
  ·subst e; rfl
  ·rw [List.range_succ,List.filter_append,ih (by omega),List.filter_cons,if_neg (by
    intro c; have:=hp m c; omega)]
   simp
def ddf (acc:List Nat) (x:Nat):List Nat:=if acc.contains x then acc else acc++[x]
theorem B6u:∀(l acc:List Nat),acc.Nodup→(l.foldl ddf acc).Nodup∧∀ x,x ∈ l.foldl ddf acc↔x ∈ acc∨x ∈ l
 | [],acc,h=>⟨h,by simp⟩
 | y :: l,acc,h=>by
  have hn:(ddf acc y).Nodup:= by
   unfold ddf
   split
   ·exact h
   ·next c =>
    rw [List.nodup_append]
    refine ⟨h,by simp,fun a ha b hb=>?_⟩
    have:b = y:= by simpa using hb
    subst this
    rintro rfl
    exact c (by simpa using ha)
  have ih:=B6u l (ddf acc y) hn
  refine ⟨ih.1,fun x=>?_⟩
  rw [List.foldl_cons,ih.2 x]
  unfold ddf
  split
  ·next c =>
   have hy:y ∈ acc:= by simpa using c
   rw [List.mem_cons]
   constructor
   ·rintro (h | h)
    ·exact .inl h
    ·exact .inr (.inr h)
   ·rintro (h | rfl | h)
    ·exact .inl h
    ·exact .inl hy
    ·exact .inr h
  ·rw [List.mem_append,List.mem_singleton,or_assoc,← List.mem_cons]
def CL (r:DrRoom) (ps:List DrLook) (b:List Nat):List (List Nat):=(AL r ps).filter fun q=>Z2 r ps q == Z2 r ps b
def B82 (r:DrRoom) (b:List Nat) (n:Nat):List Nat:=(List.range r.Figures.length).filter fun f=>(CL r r.Persons b).any fun q=>q[n]! == f
def B9x (r:DrRoom) (x:Int):List Int × Int :=
 if (chk r).2.2 ≠ 0 then ([],(chk r).2.2) else if out 0 ((r.Persons.length:Int) - 1) x then ([],4) else
 match X8 r r.Persons with
 | none=>([],9)
 | some b=>(ints (B82 r b x.toNat),0)
theorem D1v (r:DrRoom) (hb:NB r) (x:Int):∃ch,(((chk r).2.2 = 0→C5z r ch))∧B6w r x = some (if (chk r).2.2 ≠ 0 then (([],plan0),(chk r).2.2) else if out 0 ((r.Persons.length:Int) - 1) x then (([],plan0),4) else
  match X8 r r.Persons with
  | none=>(([],plan0),9)
  | some b=>((ch,J5 r (b.zip r.Persons)),0)):= by
 unfold B6w
 rw [A6b r hb]
 simp only [Option.bind_some]
 by_cases h0:(chk r).2.2 = 0
 ·obtain ⟨ok,-⟩:=(S6 r).mp h0
  have hP:=ok.persons
  obtain ⟨ch,e1,hch⟩:=C3l ok
  refine ⟨ch,fun _=>hch,?_⟩
  have hr:∀{α:Type} (a b:α),(if (chk r).2.2 ≠ 0 then a else b) = b:=fun a b=>if_neg (fun c=>c h0)
  rw [hr,if_neg (by simp [h0]),e1,E0 (by omega),beyond1]
  simp only [Option.bind_some]
  cases hx:out 0 ((r.Persons.length:Int) - 1) x with
  | true=>rfl
  | false =>
   simp only [Bool.false_eq_true,if_false]
   rw [B3d ok]
   simp only [Option.bind_some]
   rw [B5u ok hch (B3e ok),A7v ok]
   simp only [Option.bind_some]
   cases X8 r r.Persons <;> rfl
 ·refine ⟨[],fun c=>absurd c h0,?_⟩
  rw [if_pos h0,if_pos (by simpa using h0)]
theorem C3t (l:List Nat) (x:Nat) (hl:l.length < 1000):F9 (ints l) (x:Int) = some (l.contains x):= by
 unfold F9 M1
 have hil:=F1 l
 obtain ⟨o,ho,hc⟩:=A9m (ints l) (· == (x:Int)) (b:=G3 (ints l) (x:Int)) (by omega) (fun j hj=>by
  unfold G3
  rw [if_pos (by simpa using hj),H9 hj]
  simp only [Option.bind_some]
  rw [show ((x:Int) == (ints l)[j]!) = ((ints l)[j]! == (x:Int)) from Bool.beq_comm]
  cases (ints l)[j]! == (x:Int) <;> rfl) (by
  unfold G3
  rw [if_neg (by simp)])
 rw [ho]
 rw [B2k] at hc
 rcases o with k | u
 ·simp only [Option.bind_some]
  rw [hc.2,decide_eq_true hc.1]
 ·simp only [Option.bind_some]
  rw [hc]; rfl
theorem C1n (r:DrRoom) (hb:NB r) (x:Int):A2e r x = some (B9x r x):= by
 obtain ⟨ch,hch,he⟩:=D1v r hb x
 unfold A2e B9x
 rw [he]
 simp only [Option.bind_some]
 by_cases h0:(chk r).2.2 = 0
 ·obtain ⟨ok,-⟩:=(S6 r).mp h0
  have hP:=ok.persons
  have hF:=ok.figures
  have hr:∀{α:Type} (a b:α),(if (chk r).2.2 ≠ 0 then a else b) = b:=fun a b=>if_neg (fun c=>c h0)
  rw [hr,hr]
  cases hx:out 0 ((r.Persons.length:Int) - 1) x with
  | true=>rfl
  | false =>
   have ix:=A5p hx
   simp only [Bool.false_eq_true,if_false]
   cases hbq:X8 r r.Persons with
   | none=>rfl
   | some b =>
    simp only
    rw [if_neg (by simp),B3d ok]
    simp only [Option.bind_some]
    rw [C84 ok (hch h0) (B3e ok),A7v ok]
    simp only [Option.bind_some]
    have hA:∀q ∈ AL r r.Persons,q.length = r.Persons.length∧∀ f ∈ q,f < r.Figures.length:=fun q hq=>by
     have:=(B6f.mp hq).1
     exact ⟨this.1,this.2.2⟩
    have hAl:=B5q ok (ps:=r.Persons) ⟨hP,ok.person⟩
    unfold B82 CL
    have hcost:∀q,(J5 r (q.zip r.Persons)).cost_ = Z2 r r.Persons q:=fun q=>rfl
    generalize hA0:AL r r.Persons = A at hA hAl ⊢
    generalize hk:Z2 r r.Persons = k at hcost ⊢
    let acc:Nat→List Nat:=fun i=>(((A.take i).filter fun q=>k q == k b).map fun q=>q[x.toNat]!).foldl ddf []
    have hacc:∀i,(acc i).Nodup∧∀ f ∈ acc i,f < r.Figures.length:=fun i=>by
     have:=B6u (((A.take i).filter fun q=>k q == k b).map fun q=>q[x.toNat]!) [] (by simp)
     refine ⟨this.1,fun f hf=>?_⟩
     have:=(this.2 f).mp hf
     simp only [List.not_mem_nil,false_or] at this
     obtain ⟨q,hq,rfl⟩:=List.mem_map.mp this
     have hq:=hA q (List.mem_of_mem_take (List.mem_filter.mp hq).1)
     exact hq.2 _ (I7 (by omega))
    have hlp:loop (B4m x (J5 r (b.zip r.Persons)) (A.map fun q=>J5 r (q.zip r.Persons))) (0,[]) = some (ints (acc A.length)):= by
     have:=J4 (b:=B4m x (J5 r (b.zip r.Persons)) (A.map fun q=>J5 r (q.zip r.Persons))) (fun i=>((i:Int),ints (acc i))) A.length (r:=ints (acc A.length)) (by omega) (fun i hi=>by
      have hq:=hA _ (I7 hi)
      have hpl:idx (A.map fun q=>J5 r (q.zip r.Persons)) (i:Int) = some (J5 r (A[i]!.zip r.Persons)):=A40 (by rw [List.getElem?_map,List.getElem?_eq_getElem hi,getElem!_pos A i hi]; rfl)
      have hfg:idx (J5 r (A[i]!.zip r.Persons)).figures_ x = some ((A[i]![x.toNat]!:Nat):Int):= by
       show idx (ints ((A[i]!.zip r.Persons).map (·.1))) x = _
       rw [C9a hq.1]
       have e:x = (x.toNat:Int):=(Int.toNat_of_nonneg ix.1).symm
       conv=>lhs; rw [e]
       exact Z4 (by omega)
      have hl:(acc i).length≤6:= by
       have:=A9u r.Figures.length (acc i) (hacc i).1 (hacc i).2
       omega
      have hst:acc (i + 1) = if k A[i]! == k b then ddf (acc i) A[i]![x.toNat]! else acc i:= by
       show (((A.take (i + 1)).filter fun q=>k q == k b).map fun q=>q[x.toNat]!).foldl ddf [] = _
       rw [List.take_succ_eq_append_getElem hi,List.filter_append,List.map_append,List.foldl_append,← getElem!_pos A i hi,List.filter_cons]
       cases k A[i]! == k b <;> rfl
      unfold B4m
      simp only []
      rw [if_pos (by simpa using hi),hpl]
      simp only [Option.bind_some]
      rw [hfg]
      simp only [Option.bind_some]
      rw [hcost,hcost,hst,E0 (by omega)]
      cases hke:k A[i]! == k b with
      | false=>rfl
      | true =>
       rw [if_pos rfl,if_pos rfl,C3t _ _ (by omega)]
       simp only [Option.bind_some]
       unfold ddf
       cases (acc i).contains A[i]![x.toNat]! with
       | true=>rfl
       | false =>
        rw [if_pos (by decide),V6 (by omega) (by rw [F1]; simp only [List.length_singleton]; omega)]
        simp [ints]) (by
      unfold B4m
      simp only []
      rw [if_neg (by simp)])
     exact this
    rw [hlp]
    simp only [Option.bind_some]
    have ha:=hacc A.length
    rw [D50 ha.1 (fun f hf=>by have:=ha.2 f hf; omega)]
    simp only [Option.bind_some]
    have hmem:=(B6u (((A.take A.length).filter fun q=>k q == k b).map fun q=>q[x.toNat]!) [] (by simp)).2
    rw [C2o (n:=r.Figures.length) hF (fun i hi=>ha.2 i (by simpa using hi))]
    congr 3
    refine List.filter_congr fun f _=>?_
    rw [Bool.eq_iff_iff,List.contains_iff_mem,List.any_eq_true]
    show f ∈ (((A.take A.length).filter fun q=>k q == k b).map fun q=>q[x.toNat]!).foldl ddf []↔_
    rw [hmem f,List.take_length]
    simp only [List.not_mem_nil,false_or,List.mem_map,beq_iff_eq]
 ·have hr:∀{α:Type} (a b:α),(if (chk r).2.2 ≠ 0 then a else b) = a:=fun a b=>if_pos h0
  rw [hr,hr,if_pos (by simpa using h0)]
end Ds
end
section
set_option maxRecDepth 100000
set_option maxHeartbeats 0
namespace Ds
open Go Am Go.Proofs.Ytdkflofgolehkaa.Cd
def A42 (a0:(List Int)) (a1:Int):Option Int :=
 if ((List.length a0:Int) == 0) = true then
  some 0
 else
  (C69 a1 (List.length a0:Int)).bind fun x2 =>
  (idx a0 x2).bind fun x3 =>
  some (w64 x3)
theorem B9j {c:Sc} {H:A1} {a0:(List Int)} {a1:Int} {r:Int} (h:A42 a0 a1 = some r) :
  E7 tab c H (.fn (.func 46) [] []) [(.seq 1 (List.map B0s a0)),.i a1] [.i r]:= by
 unfold A42 at h
 refine cE rfl rfl<|s0<|qm rfl<|es (ra2 rfl rfl)<|B7<|s0<|qm rfl<|A0 (D4 (f:=B0s) rfl) rfl<|A0 (F7 rfl rfl) rfl<|es (ra3 rfl rfl rfl)<|wi h rfl (fun hc1 h=>?_) fun hc1 h=>?_
 ·refine s0<|qm rfl<|es (ra1 rfl)<|C4 ?_
  obtain rfl:=os h
  exact retq trivial (B1 rfl B8) (A6 rfl B9) (A3 A8 B2)
 ·refine C1<|s0<|oB h fun x2 hx2 h=>oB h fun x3 hx3 h=>qm rfl<|qm rfl<|qm rfl<|A0 (D4 (f:=B0s) rfl) rfl<|A0 (D26 rfl rfl hx2) rfl<|A0 (E3 (f:=B0s) rfl rfl hx3) rfl<|A0 (E8 rfl rfl) rfl<|A0 (A7m rfl) rfl<|qm rfl<|es (ra1 rfl)<|C4 ?_
  obtain rfl:=os h
  exact retq trivial (B1 rfl B8) (A6 rfl B9) (A3 A8 B2)
end Ds
end
section
set_option maxRecDepth 100000
namespace Ds
open Go Am Go.Proofs.Ytdkflofgolehkaa.Cd
def B3k (t:DrRoom) (s:Int × List Int):Option ((Int × List Int) ⊕ List Int) :=
 if (decide (s.1 < (List.length t.Figures:Int))) = true then
  (app 8 s.2 [s.1]).bind fun l=>some (.inl (w64 (s.1 + 1),l))
 else some (.inr s.2)
def A8e (t:DrRoom) (x:List Int) (s:Int × List Int × List Int):Option ((Int × List Int × List Int) ⊕ List Int) :=
 if (decide (s.1 < (List.length t.Persons:Int)) && decide ((List.length s.2.2:Int) > 0)) = true then
  (A42 x s.1).bind fun q=>(C69 q (List.length s.2.2:Int)).bind fun k =>
  (idx s.2.2 k).bind fun v=>(app 8 s.2.1 [v]).bind fun o =>
  (slc s.2.2 0 k).bind fun a=>(app 8 ([]:List Int) a).bind fun a' =>
  (slc s.2.2 (w64 (k + 1)) (List.length s.2.2:Int)).bind fun b=>(app 8 a' b).bind fun l =>
  some (.inl (w64 (s.1 + 1),o,l))
 else some (.inr s.2.1)
def A6l (t:DrRoom) (x:List Int):Option (List Int) :=
 (loop (B3k t) (0,[])).bind fun left=>(loop (A8e t x) (0,[],left)).bind fun o=>some o
def arP (p:Bool) (l:List Int):AO:=.arr 1 p (l.map cI)
theorem A34 {α:Type} {l:List α} {i:Nat} {x:α} (h:l[i]? = some x):l.set i x = l:= by
 apply List.ext_getElem?
 intro k
 by_cases e:i = k
 ·subst e; rw [List.getElem?_set_self (List.getElem?_eq_some_iff.1 h).1,h]
 ·rw [List.getElem?_set_ne e]
structure AnyG (room:List AV) where
 L:List AO
 j:Nat
 h0:L[0]? = some (.cells room)
 h2:2 < L.length
 hj:j < L.length
 j0:j ≠ 0
 j2:j ≠ 2
def AnyG.M {room:List AV} (g:AnyG room) (s:Int × List Int × List Int):List AO:=(g.L.set 2 (arP false s.2.1)).set g.j (arP false s.2.2)
theorem C2h {c:Sc} {H:A1} {a0:DrRoom} {a1:List Int} {r:List Int} (h:A6l a0 a1 = some r) :
  E7 tab c H (.fn (.func 38) [] []) [(.agg (A4 a0)),(.seq 1 (List.map B0s a1))] [(.fresh 1 (List.map cI r))]:= by
 unfold A6l at h
 refine oB h fun left hleft h=>oB h fun o ho h=>?_
 obtain rfl:=os h
 refine cE rfl rfl<|sg 0 rfl<|A0 (F6 (cs:=A4 a0) rfl rfl rfl) rfl<|qm rfl<|es (ra2 rfl rfl)<|sg 1 rfl<|A0 A2y rfl<|A0 A2y rfl<|es (ra4 rfl rfl rfl rfl)<|B7<|s0<|qm rfl<|es (ra5 rfl rfl rfl rfl rfl)<|C3<|wl (fun s=>[(1,(.seq 1 (List.map B0s a1))),(2,.ptr (H.length + 0) 0),(5,.asl (H.length + 1) s.2.length),(6,.asl (H.length + 2) 0),(7,.i s.1)]) (fun (_:Unit) s=>[.cells (A4 a0),arP false s.2,arP false []]) 3 (fun r e s' H'=>PX 0 [(1,(.seq 1 (List.map B0s a1))),(2,.ptr (H.length + 0) 0),(5,.asl (H.length + 1) r.length),(6,.asl (H.length + 2) 0)] (H++[.cells (A4 a0),arP false r,arP false []]) e s' H') () hleft rfl rfl (fun _ _=>rfl) (fun _=>rfl) rfl (fun s=>bdc E6 (bdc (F2 rfl) (bdc (A0g rfl) (bdc (A0g rfl) (bdc A8 bdn))))) (fun _ s o hs=>?_) ?_
 ·unfold B3k at hs
  refine B7<|s0<|qm rfl<|A0 (D1 rfl) rfl<|A0 (C7 rfl rfl rfl) rfl<|A0 (D4 (f:=A5) rfl) rfl<|A0 (G9 rfl rfl) rfl<|es (ra6 rfl rfl rfl rfl rfl rfl)<|wi hs rfl (fun hc hs=>?_) fun hc hs=>?_
  ·refine oB hs fun l hl hs=>?_
   refine C1<|B7<|C3<|r0<|qm rfl<|qm rfl<|A0 (G4 (rows:=List.map cI [s.1]) rfl rfl (D8 (fun _=>rfl) _)) rfl<|R3 (W6 (f:=cI) rfl rfl rfl rfl S8 (fun _=>rfl) hl) rfl<|qm rfl<|en (ra5 rfl rfl rfl rfl rfl)<|r0<|qm rfl<|A0 (E9 rfl rfl) rfl<|qm rfl<|en (ra5 rfl rfl rfl rfl rfl) ?_
   cases hs
   exact lnT () rfl (su5 rfl rfl rfl rfl rfl)
  ·refine F5 ?_
   obtain rfl:=os hs
   exact lx rfl px (su4 rfl rfl rfl rfl)
 ·rintro e s' H' - ⟨rfl,rfl,rfl⟩
  refine B7<|s0<|qm rfl<|es (ra5 rfl rfl rfl rfl rfl)<|C3<|A0f (C5w (fun (g:AnyG (A4 a0)) (s:Int × List Int × List Int)=>[(1,(.seq 1 (List.map B0s a1))),(2,.ptr (H.length + 0) 0),(5,.asl (H.length + g.j) s.2.2.length),(6,.asl (H.length + 2) s.2.1.length),(8,.i s.1)]) (fun g s=>H++g.M s) (fun r e s' H'=>∃ L:List AO,L[2]? = some (arP false r)∧PX 2 [(6,.asl (H.length + 2) r.length)] (H++L) e s' H') (fun _ _=>rfl) (by decide) (fun g s o hs=>?_) ho ⟨[.cells (A4 a0),arP false left,arP false []],1,rfl,Nat.le_refl 3,Nat.le_of_ble_eq_true rfl,by decide,by decide⟩) ?_
  ·obtain ⟨L,j,h0,h2,hj,j0,j2⟩:=g
   generalize hM:AnyG.M ⟨L,j,h0,h2,hj,j0,j2⟩ s = M
   have hMe:(L.set 2 (arP false s.2.1)).set j (arP false s.2.2) = M:=hM
   have hlen:M.length = L.length:= by rw [← hMe]; simp
   have m0:M[0]? = some (.cells (A4 a0)):= by
    rw [← hMe,List.getElem?_set_ne j0,List.getElem?_set_ne (by decide)]; exact h0
   have m2:M[2]? = some (arP false s.2.1):= by
    rw [← hMe,List.getElem?_set_ne j2,List.getElem?_set_self h2]
   have mj:M[j]? = some (arP false s.2.2):= by
    rw [← hMe,List.getElem?_set_self (by simpa using hj)]
   unfold A8e at hs
   refine B7<|s0<|qm rfl<|A0 (D1 rfl) rfl<|A0 (C7 rfl m0 rfl) rfl<|A0 (D4 (f:=A5) rfl) rfl<|A0 (G9 rfl rfl) rfl<|qm rfl<|gp 4 30 (.b (decide (s.1 < (List.length a0.Persons:Int)) && decide ((List.length s.2.2:Int) > 0))) 26 rfl rfl (fun hg=>?_) (fun hg=>?_) ?_
   ·exact gT rfl hg<|qm rfl<|gT rfl hg<|A0 (A8z (f:=cI) rfl mj rfl) rfl<|gT rfl hg<|A0 (A71 rfl rfl) rfl<|A0 (C6 rfl hg rfl) rfl<|ge 4 (by rw [hg]; rfl) rfl rfl
   ·exact nT rfl hg rfl<|nT rfl hg rfl<|nT rfl hg rfl<|A0 (C5 rfl hg rfl) rfl<|ge 4 (by rw [hg]; rfl) rfl rfl
   refine es (ra6 rfl rfl rfl rfl rfl rfl)<|wi hs rfl (fun hc hs=>?_) fun hc hs=>?_
   ·refine oB hs fun q hq hs=>oB hs fun k hk hs=>oB hs fun v hv hs=>oB hs fun o' ho' hs=>oB hs fun a ha hs=>oB hs fun a' ha' hs=>oB hs fun b hb hs=>oB hs fun l hl hs=>?_
    have P2:(M.set 2 (arP false o'))[j]? = some (arP false s.2.2):= by rw [List.getElem?_set_ne (fun e=>j2 e.symm)]; exact mj
    have hl2:(M.set 2 (arP false o')).length = L.length:= by rw [List.length_set,hlen]
    generalize hP:(M.set 2 (arP false o')).set j (arP true s.2.2) = P
    have pl:P.length = L.length:= by rw [← hP,List.length_set,hl2]
    have pj:P[j]? = some (arP true s.2.2):= by rw [← hP,List.getElem?_set_self (by rw [hl2]; exact hj)]
    have p2:P[2]? = some (arP false o'):= by rw [← hP,List.getElem?_set_ne j2,List.getElem?_set_self (by rw [hlen]; exact h2)]
    have p0:P[0]? = some (.cells (A4 a0)):= by rw [← hP,List.getElem?_set_ne j0,List.getElem?_set_ne (by decide)]; exact m0
    have jn:j ≠ P.length:= by rw [pl]; omega
    have nj:P.length ≠ j:=fun e=>jn e.symm
    have kget:∀x:AO,(P++[x])[P.length]? = some x:=fun x=>by simp
    have kset:∀x y:AO,(P++[x]).set P.length y = P++[y]:=fun x y=>by simp
    have kj:∀x:AO,(P++[x])[j]? = some (arP true s.2.2):=fun x=>by rw [List.getElem?_append_left (by omega)]; exact pj
    refine C1<|B7<|C3<|s0<|qm rfl<|qm rfl<|B4 (rs:=[.i q]) rfl rfl (A2 rfl (A2 rfl B5)) ((B9j hq).frz)<|qm rfl<|A0 (A8z (f:=cI) rfl mj rfl) rfl<|A0 (D26 rfl rfl hk) rfl<|qm rfl<|es (ra6 rfl rfl rfl rfl rfl rfl)<|s0<|qm rfl<|qm rfl<|qm rfl<|A0 (A8x (f:=cI) rfl rfl mj rfl hv) rfl<|A0 (A9v (x:=.i v) rfl mj (List.length_map _) (A87 hv) rfl) rfl<|A0 (G4 (rows:=List.map cI [v]) rfl rfl (D8 (fun _=>rfl) _)) rfl<|R3 (W6 (f:=cI) rfl rfl m2 rfl S8 (fun _=>rfl) ho') rfl<|qm rfl<|es (ra6 rfl rfl rfl rfl rfl rfl)<|D6l (C8z rfl (B0u P2 (List.length_map _))) ?_
    have e1:(M.set 2 (.arr 1 false (List.map cI o'))).set j (.arr 1 true (List.map cI s.2.2)) = P:=hP
    rw [e1]
    refine rg _ rfl<|A0 (C2d (rows:=List.map cI []) rfl rfl rfl) rfl ?_
    have e2:(P++List.replicate 1 AO.dead).set (P.length + 0) (.arr 1 false (List.map cI [])) = P++[arP false []]:=kset _ _
    rw [e2]
    have al:∀x:List Int,([P.length].all fun i=>Nat.blt i (P++[arP false x]).length && A5w (P++[arP false x]) i) = true:=fun x=>by
     have h1:Nat.blt P.length (P++[arP false x]).length = true:=Nat.ble_eq_true_of_le (by simp)
     have h2:A5w (P++[arP false x]) P.length = true:= by unfold A5w; rw [kget]; rfl
     simp only [List.all_cons,List.all_nil,h1,h2,Bool.and_self]
    have alj:∀x:List Int,([j].all fun i=>Nat.blt i (P++[arP false x]).length && A5w (P++[arP false x]) i) = true:=fun x=>by
     have h1:Nat.blt j (P++[arP false x]).length = true:=Nat.ble_eq_true_of_le (by simp; omega)
     have h2:A5w (P++[arP false x]) j = true:= by unfold A5w; rw [kj]; rfl
     simp only [List.all_cons,List.all_nil,h1,h2,Bool.and_self]
    have hj':∀x:List Int,(R1 (P++[arP false x]) [P.length])[j]? = some (arP true s.2.2):=fun x=>by
     simp only [R1]; rw [List.getElem?_set_ne nj,kj]
    have hn':(R1 (P++[arP false []]) [j])[P.length]? = some (.arr 1 false (List.map cI [])):= by
     simp only [R1]; rw [List.getElem?_set_ne jn,kget]; rfl
    have e3:Q8 (P++[arP false []]) ((R1 (P++[arP false []]) [j]).set P.length (.arr 1 false (List.map cI a'))) [j] = P++[arP false a']:= by
     simp only [Q8,kj,R1]
     rw [List.set_comm _ _ jn,List.set_set,List.set_comm _ _ nj,A34 (kj _)]
     exact kset _ _
    refine qm rfl<|qm rfl<|Q4 [P.length] (W5 [P.length] rfl J9 rfl (al _)) (seen0 rfl) (C0z (f:=cI) rfl (R0 (hj' _)) rfl rfl rfl ha) rfl<|A7q [j] (P++[arP false a']) (W5 [] rfl (A61 rfl A4y J9) rfl (alj _)) (seen0 rfl) (W6 (f:=cI) rfl rfl hn' rfl S8 (fun _=>rfl) ha') ?_ rfl e3<|qm rfl<|qm rfl<|A0 (E9 rfl rfl) rfl<|Q4 [P.length] (W5 [P.length] rfl J9 rfl (al _)) (A94 (b:=H.length + j) rfl (A3k (by simp) A6z)) (C0z (f:=cI) rfl (R0 (hj' _)) rfl rfl rfl hb) rfl<|R3 (W6 (f:=cI) rfl rfl (kget _) rfl S8 (fun _=>rfl) hl) rfl<|qm rfl ?_
    ·exact Nat.ble_eq_true_of_le (by simp [R1])
    ·simp only [Nat.add_zero]
     rw [kset]
     refine en (ra5 rfl rfl rfl rfl rfl)<|r0<|qm rfl<|A0 (E9 rfl rfl) rfl<|qm rfl<|en (ra5 rfl rfl rfl rfl rfl) ?_
     cases hs
     refine ⟨rfl,⟨P++[arP false l],P.length,?_,?_,?_,?_,?_⟩,su5 rfl rfl rfl rfl rfl,?_⟩
     ·rw [List.getElem?_append_left (by omega)]; exact p0
     ·simp; omega
     ·simp
     ·omega
     ·omega
     ·unfold AnyG.M
      show H++(P++[arP false l]) = H++((P++[arP false l]).set 2 (arP false o')).set P.length (arP false l)
      rw [A34 (l:=P++[arP false l]) (i:=2) (by rw [List.getElem?_append_left (by omega)]; exact p2),A34 (kget _)]
   ·refine F5 ?_
    obtain rfl:=os hs
    exact ⟨rfl,_,su1 rfl,M,m2,px⟩
  ·rintro e s' H' ⟨-,L,hL,rfl,rfl,rfl⟩
   refine s0<|qm rfl<|qm rfl<|es (ra1 rfl)<|C4 ?_
   exact retq trivial (B1 rfl B8) (A6 (A16 hL (List.length_map _)) B9) (A3 U7 B2)
end Ds
end
section
set_option maxRecDepth 100000
set_option maxHeartbeats 0
namespace Ds
open Go Am Go.Proofs.Ytdkflofgolehkaa.Cd
def A3x (a0:DrRoom):Option Bool :=
 (T0 a0).bind fun x1 =>
 some (x1.2.2 == 0)
theorem B7v {c:Sc} {H:A1} {a0:DrRoom} {r:Bool} (h:A3x a0 = some r) :
  E7 tab c H (.fn (.func 37) [] []) [(.agg (A4 a0))] [.b r]:= by
 unfold A3x at h
 refine cE rfl rfl<|sg 0 rfl<|A0 (F6 (cs:=A4 a0) rfl rfl rfl) rfl<|qm rfl<|es (ra1 rfl)<|s0<|oB h fun x1 hx1 h=>A0 (C2 rfl rfl rfl) rfl<|B4 (rs:=[.i x1.1,.i x1.2.1,.i x1.2.2]) rfl rfl (A2 (D0 rfl) B5) ((W7 hx1).frz)<|qm rfl<|A0 (A7 rfl rfl) rfl<|A0 (A7 rfl rfl) rfl<|A0 (A7 rfl rfl) rfl<|qm rfl<|qm rfl<|qm rfl<|es (ra1 rfl)<|s0<|qm rfl<|A0 (F7 rfl rfl) rfl<|qm rfl<|es (ra1 rfl)<|C4 ?_
 obtain rfl:=os h
 exact retq trivial (B1 rfl B8) (A6 rfl B9) (A3 A8 B2)
end Ds
end
section
namespace Ds
open Go Am
theorem C2t {a b:Int} (ha:0≤a) (hb:0 < b):∃r,C69 a b = some r∧0≤r∧r < b:= by
 unfold C69
 rw [if_neg (by omega)]
 exact ⟨a.tmod b,rfl,Int.tmod_nonneg _ ha,Int.tmod_lt_of_pos _ hb⟩
theorem D53 {l:List Int} (h:N8 l) (n:Nat):∃r,A42 l (n:Int) = some r∧0≤r∧r < 256:= by
 have h1:=h.1
 unfold A42
 by_cases c:l.length = 0
 ·rw [if_pos (by rw [c]; rfl)]; exact ⟨0,rfl,by omega,by omega⟩
 ·rw [if_neg (by rw [beq_iff_eq]; omega)]
  obtain ⟨r,h1,h2,h3⟩:=C2t (a:=(n:Int)) (b:=(l.length:Int)) (by omega) (by omega)
  rw [h1]
  simp only [Option.bind_some]
  rw [show r = ((r.toNat:Nat):Int) by omega,H9 (show r.toNat < l.length by omega)]
  have hb:=h.2 _ (I7 (show r.toNat < l.length by omega))
  simp only [Option.bind_some]
  rw [E0 (by omega)]
  exact ⟨_,rfl,hb.1,hb.2⟩
theorem D31 (h:DrRoom):A3x h = some ((chk h).2.2 == 0):= by
 unfold A3x
 rw [A1g]; rfl
theorem B4x (a b:List Nat):ints (a++b) = ints a++ints b:=List.map_append
theorem C0r (a:List Nat) (n:Nat):ints (a.take n) = (ints a).take n:=List.map_take
theorem C93 (a:List Nat) (n:Nat):ints (a.drop n) = (ints a).drop n:=List.map_drop
theorem D5y {α:Type} {l:List α} {i:Nat} (h:i≤l.length):slc l (i:Int) (l.length:Int) = some (l.drop i):= by
 unfold slc
 rw [if_pos ⟨by omega,by omega,by omega⟩,Int.toNat_natCast,Int.toNat_natCast,List.take_length]
theorem D1f {r:DrRoom} (ok:RmOk r):loop (B3k r) (0,[]) = some (ints (List.range r.Figures.length)):= by
 have hF:=ok.figures
 have:=J4 (b:=B3k r) (fun i=>((i:Int),ints (List.range i))) r.Figures.length (r:=ints (List.range r.Figures.length)) (by omega) (fun i hi=>by
  unfold B3k
  simp only []
  rw [if_pos (by simpa using hi),V6 (by omega) (by rw [F1,List.length_range]; simp only [List.length_singleton]; omega),E0 (by omega),List.range_succ,B4x]
  rfl) (by
  unfold B3k
  simp only []
  rw [if_neg (by simp)])
 exact this
theorem D6q {r:DrRoom} (ok:RmOk r) {x:List Int} (hx:N8 x):∀(d m:Nat) (i:Nat) (o left:List Nat),i + d = r.Persons.length→d < m→o.length = i→(o++left).Perm (List.range r.Figures.length) →
  ∃ A:List Nat,A4e (A8e r x) m ((i:Int),ints o,ints left) = some (ints A)∧A.Nodup∧(∀ f ∈ A,f < r.Figures.length)∧A.length = min r.Persons.length r.Figures.length:= by
 have hP:=ok.persons
 have hF:=ok.figures
 intro d
 have fin:∀(i m:Nat) (o left:List Nat),o.length = i→i≤r.Persons.length→(i = r.Persons.length∨left = [])→(o++left).Perm (List.range r.Figures.length) →
   ∃ A:List Nat,A4e (A8e r x) (m + 1) ((i:Int),ints o,ints left) = some (ints A)∧A.Nodup∧(∀ f ∈ A,f < r.Figures.length)∧A.length = min r.Persons.length r.Figures.length:= by
  intro i m o left ho hi hc hp
  have hn:(o++left).Nodup:=hp.nodup_iff.mpr List.nodup_range
  have hl:=hp.length_eq
  rw [List.length_append,List.length_range] at hl
  refine ⟨o,?_,(List.nodup_append.mp hn).1,fun f hf=>by simpa using hp.mem_iff.mp (List.mem_append_left _ hf),?_⟩
  ·rw [H8]
   unfold A8e
   simp only []
   rw [if_neg (by
    rw [Bool.and_eq_true,decide_eq_true_eq,decide_eq_true_eq,F1]
    rcases hc with h | h
    ·omega
    ·subst h; simp)]
  ·rcases hc with h | h
   ·omega
   ·subst h; simp at hl; omega
 induction d with
 | zero =>
  intro m i o left hi hm ho hp
  obtain ⟨m',rfl⟩:∃m',m = m' + 1:=⟨m - 1,by omega⟩
  exact fin i m' o left ho (by omega) (.inl (by omega)) hp
 | succ d ih =>
  intro m i o left hi hm ho hp
  obtain ⟨m',rfl⟩:∃m',m = m' + 1:=⟨m - 1,by omega⟩
  by_cases hc:left = []
  ·exact fin i m' o left ho (by omega) (.inr hc) hp
  ·have hl0:0 < left.length:=List.length_pos_iff.mpr hc
   have hl:=hp.length_eq
   rw [List.length_append,List.length_range] at hl
   obtain ⟨q,e1,q0,q1⟩:=D53 hx i
   obtain ⟨k,e2,k0,k1⟩:=C2t (a:=q) (b:=(left.length:Int)) q0 (by omega)
   obtain ⟨k,rfl⟩:∃n:Nat,k = (n:Int):=⟨k.toNat,by omega⟩
   have hk:k < left.length:= by omega
   have e:A8e r x ((i:Int),ints o,ints left) = some (.inl (((i + 1:Nat):Int),ints (o++[left[k]!]),ints (left.take k++left.drop (k + 1)))):= by
    unfold A8e
    simp only []
    have hkl:k≤(ints left).length:= by rw [F1]; omega
    have hkl':k + 1≤(ints left).length:= by rw [F1]; omega
    rw [if_pos (by rw [F1]; simp; omega),e1]
    simp only [Option.bind_some]
    rw [F1,e2]
    simp only [Option.bind_some]
    rw [Z4 hk]
    simp only [Option.bind_some]
    rw [V6 (by omega) (by rw [F1]; simp only [List.length_singleton]; omega),B6c hkl]
    simp only [Option.bind_some]
    rw [V6 (by omega) (by simp only [List.length_nil,List.length_take,F1]; omega),E0 (by omega)]
    simp only [Option.bind_some]
    rw [show ((k:Int) + 1) = ((k + 1:Nat):Int) from rfl,← F1 left,D5y hkl']
    simp only [Option.bind_some]
    rw [V6 (by omega) (by simp only [List.nil_append,List.length_drop,List.length_take,F1]; omega),E0 (by omega)]
    simp only [Option.bind_some,List.nil_append,B4x,C0r,C93]
    rfl
   rw [H8,e]
   refine ih m' (i + 1) _ _ (by omega) (by omega) (by rw [List.length_append,ho]; rfl) ?_
   refine List.Perm.trans ?_ hp
   have hsp:left = left.take k++left[k]! :: left.drop (k + 1):= by
    rw [getElem!_pos left k hk,← List.drop_eq_getElem_cons hk,List.take_append_drop]
   conv=>rhs; rw [hsp]
   rw [List.append_assoc]
   exact List.Perm.append_left _ (List.perm_middle (l₁:=left.take k)).symm
theorem D6m {r:DrRoom} (ok:RmOk r) {x:List Int} (hx:N8 x):∃A:List Nat,A6l r x = some (ints A)∧A.Nodup∧(∀ f ∈ A,f < r.Figures.length)∧A.length = min r.Persons.length r.Figures.length:= by
 unfold A6l
 rw [D1f ok]
 simp only [Option.bind_some]
 have hP:=ok.persons
 have key:∃A:List Nat,loop (A8e r x) (0,[],ints (List.range r.Figures.length)) = some (ints A)∧A.Nodup∧(∀ f ∈ A,f < r.Figures.length)∧A.length = min r.Persons.length r.Figures.length :=
  D6q ok hx r.Persons.length _ 0 [] (List.range r.Figures.length) (by omega) (by omega) rfl (List.Perm.refl _)
 obtain ⟨A,e,h⟩:=key
 refine ⟨A,?_,h⟩
 rw [e]; rfl
theorem E1i {x:Int} (h:0≤x∧x < 256):w64 x = x:=E0 (by omega)
end Ds
end
section
set_option maxRecDepth 100000
set_option maxHeartbeats 0
namespace Ds
open Go Am Go.Proofs.Ytdkflofgolehkaa.Cd
def R6 (a0:DrRoom) (x10:((List Int) × Int)) (s22:Int):Option (Int ⊕ (Bool ⊕ Unit)) :=
 if (decide (s22 < (List.length x10.1:Int))) = true then
  (idx x10.1 s22).bind fun x25 =>
  (if (decide (x25 < 0)) = true then
  some true
  else
  (idx x10.1 s22).bind fun x27 =>
  some (decide (x27 ≥ (List.length a0.Figures:Int)))).bind fun x28 =>
  (if x28 = true then
  some true
  else
  (if (decide (s22 > 0)) = true then
   (idx x10.1 s22).bind fun x31 =>
   (idx x10.1 (w64 (s22 - 1))).bind fun x32 =>
   some (decide (x31≤x32))
  else
   some false).bind fun x33 =>
  some x33).bind fun x34 =>
  if x34 = true then
  some (.inr (.inl false))
  else
  some (.inl (w64 (s22 + 1)))
 else
  some (.inr (.inr ()))
def A2u (a0:DrRoom) (a1:(List Int)) (a2:Int):Option Bool :=
 (A3x a0).bind fun x1 =>
 if ((!x1) || ((List.length a0.Persons:Int) == 0)) = true then
  (A2e a0 0).bind fun x4 =>
  (if (x4.2 != 0) = true then
  (S9).bind fun x6 =>
  some x6
  else
  some false).bind fun x7 =>
  some x7
 else
  (C69 (w64 a2) (List.length a0.Persons:Int)).bind fun x8 =>
  (A0l a0).bind fun x9 =>
  (A2e a0 x8).bind fun x10 =>
  if (x9.2.2 != 0) = true then
  (if ((x10.2 == x9.2.2) && ((List.length x10.1:Int) == 0)) = true then
   (S9).bind fun x14 =>
   some x14
  else
   some false).bind fun x15 =>
  some x15
  else
  (if ((x10.2 != 0) || ((List.length x9.1:Int) != (List.length a0.Persons:Int))) = true then
   some true
  else
   (idx x9.1 x8).bind fun x18 =>
   (A0b x10.1 x18).bind fun x19 =>
   some (!x19)).bind fun x20 =>
  if x20 = true then
   some false
  else
   (loop (R6 a0 x10) 0).bind fun (o36:(Bool ⊕ Unit)) =>
   match o36 with
   | (.inl vo36_0) =>
   some vo36_0
   | (.inr vo36_1) =>
   (A6l a0 a1).bind fun x37 =>
   (Q5 a0 x37).bind fun x38 =>
   (if (!x38) = true then
    some true
   else
    (A1c a0 x37).bind fun x40 =>
    some (x40 != x9.2.1)).bind fun x41 =>
   (if x41 = true then
    some true
   else
    (idx x37 x8).bind fun x43 =>
    (A0b x10.1 x43).bind fun x44 =>
    some x44).bind fun x45 =>
   (if x45 = true then
    (S9).bind fun x47 =>
    some x47
   else
    some false).bind fun x48 =>
   some x48
theorem B2w {c:Sc} {H:A1} (hscv:R5 c H = true) {a0:DrRoom} {a1:(List Int)} {a2:Int} {r:Bool} (h:A2u a0 a1 a2 = some r) :
  E7 tab c H (.fn (.func 9) [] []) [(.agg (A4 a0)),(.seq 1 (List.map B0s a1)),(.lit (.int .u8 a2))] [.b r]:= by
 unfold A2u at h
 refine cE rfl rfl<|sg 0 rfl<|A0 (F6 (cs:=A4 a0) rfl rfl rfl) rfl<|qm rfl<|es (ra3 rfl rfl rfl)<|B7<|s0<|oB h fun x1 hx1 h=>A0 (C2 rfl rfl rfl) rfl<|B4 (rs:=[.b x1]) rfl rfl (A2 (D0 rfl) B5) ((B7v hx1).frz)<|A0 (Q2 rfl) rfl<|qm rfl<|gp 5 25 (.b ((!x1) || ((List.length a0.Persons:Int) == 0))) 20 rfl rfl (fun hg2=>?_) (fun hg2=>?_) ?_
 ·exact nF rfl hg2 rfl<|nF rfl hg2 rfl<|nF rfl hg2 rfl<|nF rfl hg2 rfl<|A0 (C6 rfl hg2 rfl) rfl<|ge 5 (by rw [hg2]; rfl) rfl rfl
 ·exact gF rfl hg2<|A0 (D1 rfl) rfl<|gF rfl hg2<|A0 (C7 rfl rfl rfl) rfl<|gF rfl hg2<|A0 (D4 (f:=A5) rfl) rfl<|gF rfl hg2<|A0 (F7 rfl rfl) rfl<|A0 (C5 rfl hg2 rfl) rfl<|ge 5 (by rw [hg2]; rfl) rfl rfl
 refine es (ra4 rfl rfl rfl rfl)<|wi h rfl (fun hc3 h=>?_) fun hc3 h=>?_
 ·refine s0<|oB h fun x4 hx4 h=>A0 (C2 rfl rfl rfl) rfl<|B4 (rs:=[(.seq 1 (List.map cI x4.1)),.i x4.2]) rfl rfl (A2 (D0 rfl) (A2 rfl B5)) (A4j (A1n hscv) hx4)<|qm rfl<|A0 (A7 rfl rfl) rfl<|A0 (A7 rfl rfl) rfl<|qm rfl<|qm rfl<|es (ra1 rfl)<|s0<|oB h fun x7 hx7 h=>qm rfl<|A0 (J0 rfl rfl) rfl<|qm rfl<|gp 2 35 (.b x7) 33 rfl rfl (fun hg5=>?_) (fun hg5=>?_) ?_
  ·refine oB (bt hx7 hg5) fun x6 hx6 hx7=>?_
   obtain rfl:=os hx7
   exact gT rfl hg5<|B4 (rs:=[.b x6]) rfl rfl B5 ((T7 (A1n hscv) hx6).frz)<|A0 (C6 rfl hg5 rfl) rfl<|ge 2 rfl rfl rfl
  ·obtain rfl:=os (bf hx7 hg5)
   exact K9 (F8 rfl (by rw [hg5]; rfl)) rfl<|A0 (C5 rfl hg5 rfl) rfl<|ge 2 rfl rfl rfl
  refine qm rfl<|es (ra1 rfl)<|C4 ?_
  obtain rfl:=os h
  exact retq trivial (B1 rfl B8) (A6 rfl B9) (A3 A8 B2)
 ·refine C1<|s0<|oB h fun x8 hx8 h=>qm rfl<|A0 (A7m rfl) rfl<|A0 (D1 rfl) rfl<|A0 (C7 rfl rfl rfl) rfl<|A0 (D4 (f:=A5) rfl) rfl<|A0 (D26 rfl rfl hx8) rfl<|qm rfl<|es (ra3 rfl rfl rfl)<|s0<|oB h fun x9 hx9 h=>A0 (C2 rfl rfl rfl) rfl<|B4 (rs:=[(.seq 1 (List.map cI x9.1)),.i x9.2.1,.i x9.2.2]) rfl rfl (A2 (D0 rfl) B5) ((A3p (A1n hscv) hx9).frz)<|qm rfl<|A0 (A7 rfl rfl) rfl<|A0 (A7 rfl rfl) rfl<|A0 (A7 rfl rfl) rfl<|qm rfl<|qm rfl<|qm rfl<|es (ra6 rfl rfl rfl rfl rfl rfl)<|s0<|oB h fun x10 hx10 h=>A0 (C2 rfl rfl rfl) rfl<|qm rfl<|B4 (rs:=[(.seq 1 (List.map cI x10.1)),.i x10.2]) rfl rfl (A2 (D0 rfl) (A2 rfl B5)) (A4j (A1n hscv) hx10)<|qm rfl<|A0 (A7 rfl rfl) rfl<|A0 (A7 rfl rfl) rfl<|qm rfl<|qm rfl<|es (ra8 rfl rfl rfl rfl rfl rfl rfl rfl)<|B7<|s0<|qm rfl<|A0 (J0 rfl rfl) rfl<|es (ra9 rfl rfl rfl rfl rfl rfl rfl rfl rfl)<|wi h rfl (fun hc11 h=>?_) fun hc11 h=>?_
  ·refine s0<|oB h fun x15 hx15 h=>qm rfl<|qm rfl<|A0 (F7 rfl rfl) rfl<|qm rfl<|gp 4 63 (.b ((x10.2 == x9.2.2) && ((List.length x10.1:Int) == 0))) 59 rfl rfl (fun hg12=>?_) (fun hg12=>?_) ?_
   ·exact gT rfl hg12<|qm rfl<|gT rfl hg12<|A0 (D4 (f:=cI) rfl) rfl<|gT rfl hg12<|A0 (F7 rfl rfl) rfl<|A0 (C6 rfl hg12 rfl) rfl<|ge 4 (by rw [hg12]; rfl) rfl rfl
   ·exact nT rfl hg12 rfl<|nT rfl hg12 rfl<|nT rfl hg12 rfl<|A0 (C5 rfl hg12 rfl) rfl<|ge 4 (by rw [hg12]; rfl) rfl rfl
   refine qm rfl<|gp 2 66 (.b x15) 64 rfl rfl (fun hg13=>?_) (fun hg13=>?_) ?_
   ·refine oB (bt hx15 hg13) fun x14 hx14 hx15=>?_
    obtain rfl:=os hx15
    exact gT rfl hg13<|B4 (rs:=[.b x14]) rfl rfl B5 ((T7 (A1n hscv) hx14).frz)<|A0 (C6 rfl hg13 rfl) rfl<|ge 2 rfl rfl rfl
   ·obtain rfl:=os (bf hx15 hg13)
    exact K9 (F8 rfl (by rw [hg13]; rfl)) rfl<|A0 (C5 rfl hg13 rfl) rfl<|ge 2 rfl rfl rfl
   refine qm rfl<|es (ra1 rfl)<|C4 ?_
   obtain rfl:=os h
   exact retq trivial (B1 rfl B8) (A6 rfl B9) (A3 A8 B2)
  ·refine C1<|B7<|s0<|oB h fun x20 hx20 h=>qm rfl<|A0 (J0 rfl rfl) rfl<|qm rfl<|gp 7 76 (.b ((x10.2 != 0) || ((List.length x9.1:Int) != (List.length a0.Persons:Int)))) 69 rfl rfl (fun hg16=>?_) (fun hg16=>?_) ?_
   ·exact nF rfl hg16 rfl<|nF rfl hg16 rfl<|nF rfl hg16 rfl<|nF rfl hg16 rfl<|nF rfl hg16 rfl<|nF rfl hg16 rfl<|A0 (C6 rfl hg16 rfl) rfl<|ge 7 (by rw [hg16]; rfl) rfl rfl
   ·exact gF rfl hg16<|qm rfl<|gF rfl hg16<|A0 (D4 (f:=cI) rfl) rfl<|gF rfl hg16<|A0 (D1 rfl) rfl<|gF rfl hg16<|A0 (C7 rfl rfl rfl) rfl<|gF rfl hg16<|A0 (D4 (f:=A5) rfl) rfl<|gF rfl hg16<|A0 (J0 rfl rfl) rfl<|A0 (C5 rfl hg16 rfl) rfl<|ge 7 (by rw [hg16]; rfl) rfl rfl
   refine qm rfl<|gp 8 85 (.b x20) 77 rfl rfl (fun hg17=>?_) (fun hg17=>?_) ?_
   ·obtain rfl:=os (bt hx20 hg17)
    exact nF rfl hg17 rfl<|nF rfl hg17 rfl<|nF rfl hg17 rfl<|nF rfl hg17 rfl<|nF rfl hg17 rfl<|K9 (F8 rfl (by rw [hg17]; rfl)) rfl<|nF rfl hg17 rfl<|A0 (C6 rfl hg17 rfl) rfl<|ge 8 rfl rfl rfl
   ·refine oB (bf hx20 hg17) fun x18 hx18 hx20=>oB hx20 fun x19 hx19 hx20=>?_
    obtain rfl:=os hx20
    exact gF rfl hg17<|qm rfl<|gF rfl hg17<|qm rfl<|gF rfl hg17<|qm rfl<|gF rfl hg17<|A0 (E3 (f:=cI) rfl rfl hx18) rfl<|gF rfl hg17<|A0 (E8 rfl rfl) rfl<|gF rfl hg17<|B4 (rs:=[.b x19]) rfl rfl (A2 rfl (A2 rfl B5)) ((A1b hx19).frz)<|gF rfl hg17<|A0 (Q2 rfl) rfl<|A0 (C5 rfl hg17 rfl) rfl<|ge 8 rfl rfl rfl
   refine es (ra6 rfl rfl rfl rfl rfl rfl)<|wi h rfl (fun hc21 h=>?_) fun hc21 h=>?_
   ·refine s0<|qm rfl<|es (ra1 rfl)<|C4 ?_
    obtain rfl:=os h
    exact retq trivial (B1 rfl B8) (A6 rfl B9) (A3 A8 B2)
   ·refine C1<|B7<|s0<|qm rfl<|es (ra6 rfl rfl rfl rfl rfl rfl)<|C3<|oB h fun o36 ho36 h=>wl (fun s22=>[(1,(.seq 1 (List.map B0s a1))),(3,(.ptr (H.length + 0) 0)),(9,.i x8),(11,.i x9.2.1),(13,(.seq 1 (List.map cI x10.1))),(15,.i s22)]) (fun (q23:Unit) s22=>[(.cells (A4 a0))]) 1 (fun r e s' H'=>(match r with | (.inl v)=>e = .ret∧RetQ H [.tmp 6] [.b v] e s' H' | (.inr v)=>PX 0 [(1,(.seq 1 (List.map B0s a1))),(3,(.ptr (H.length + 0) 0)),(9,.i x8),(11,.i x9.2.1),(13,(.seq 1 (List.map cI x10.1)))] (H++[(.cells (A4 a0))]) e s' H':Prop)) () ho36 rfl rfl (fun _ _=>rfl) (fun _=>rfl) rfl (fun s22=>(bdc E6 (bdc (F2 rfl) (bdc A8 (bdc A8 (bdc E6 (bdc A8 bdn))))))) (fun q23 s22 ys22 hs22=>?_) ?_
    ·unfold R6 at hs22
     refine B7<|s0<|qm rfl<|qm rfl<|A0 (D4 (f:=cI) rfl) rfl<|A0 (G9 rfl rfl) rfl<|es (ra7 rfl rfl rfl rfl rfl rfl rfl)<|wi hs22 rfl (fun hc24 hs22=>?_) fun hc24 hs22=>?_
     ·refine C1<|B7<|C3<|s0<|oB hs22 fun x25 hx25 hs22=>oB hs22 fun x28 hx28 hs22=>oB hs22 fun x34 hx34 hs22=>qm rfl<|qm rfl<|A0 (E3 (f:=cI) rfl rfl hx25) rfl<|A0 (E8 rfl rfl) rfl<|A0 (G9 rfl rfl) rfl<|qm rfl<|gp 9 106 (.b x28) 97 rfl rfl (fun hg26=>?_) (fun hg26=>?_) ?_
      ·obtain rfl:=os (bt hx28 hg26)
       exact nF rfl hg26 rfl<|nF rfl hg26 rfl<|nF rfl hg26 rfl<|nF rfl hg26 rfl<|nF rfl hg26 rfl<|nF rfl hg26 rfl<|nF rfl hg26 rfl<|nF rfl hg26 rfl<|A0 (C6 rfl hg26 rfl) rfl<|ge 9 rfl rfl rfl
      ·refine oB (bf hx28 hg26) fun x27 hx27 hx28=>?_
       obtain rfl:=os hx28
       exact gF rfl hg26<|qm rfl<|gF rfl hg26<|qm rfl<|gF rfl hg26<|A0 (E3 (f:=cI) rfl rfl hx27) rfl<|gF rfl hg26<|A0 (E8 rfl rfl) rfl<|gF rfl hg26<|A0 (D1 rfl) rfl<|gF rfl hg26<|A0 (C7 rfl rfl rfl) rfl<|gF rfl hg26<|A0 (D4 (f:=A5) rfl) rfl<|gF rfl hg26<|A0 (A6e rfl rfl) rfl<|A0 (C5 rfl hg26 rfl) rfl<|ge 9 rfl rfl rfl
      refine qm rfl<|gp 15 122 (.b x34) 107 rfl rfl (fun hg29=>?_) (fun hg29=>?_) ?_
      ·obtain rfl:=os (bt hx34 hg29)
       exact nF rfl hg29 rfl<|nF rfl hg29 rfl<|nF rfl hg29 rfl<|nX rfl rfl<|nX rfl rfl<|nX rfl rfl<|nX rfl rfl<|nX rfl rfl<|nX rfl rfl<|nX rfl rfl<|nX rfl rfl<|nX rfl rfl<|nX rfl rfl<|nF rfl hg29 rfl<|A0 (C6 rfl hg29 rfl) rfl<|ge 15 rfl rfl rfl
      ·refine oB (bf hx34 hg29) fun x33 hx33 hx34=>?_
       obtain rfl:=os hx34
       refine gF rfl hg29<|qm rfl<|gF rfl hg29<|A0 (A71 rfl rfl) rfl<|gF rfl hg29<|qm rfl<|gq 11 121 (.b x33) 110 rfl rfl (fun hg30=>?_) (fun hg30=>?_) ?_
       ·refine oB (bt hx33 hg30) fun x31 hx31 hx33=>oB hx33 fun x32 hx32 hx33=>?_
        obtain rfl:=os hx33
        exact gT rfl hg30<|qm rfl<|gT rfl hg30<|qm rfl<|gT rfl hg30<|A0 (E3 (f:=cI) rfl rfl hx31) rfl<|gT rfl hg30<|A0 (E8 rfl rfl) rfl<|gT rfl hg30<|qm rfl<|gT rfl hg30<|qm rfl<|gT rfl hg30<|A0 (A0h rfl rfl) rfl<|gT rfl hg30<|A0 (E3 (f:=cI) rfl rfl hx32) rfl<|gT rfl hg30<|A0 (E8 rfl rfl) rfl<|gT rfl hg30<|A0 (B6n rfl rfl) rfl<|gF rfl hg29<|A0 (C6 rfl hg30 rfl) rfl<|ge 11 rfl rfl rfl
       ·obtain rfl:=os (bf hx33 hg30)
        exact nT rfl hg30 rfl<|nT rfl hg30 rfl<|nT rfl hg30 rfl<|nT rfl hg30 rfl<|nT rfl hg30 rfl<|nT rfl hg30 rfl<|nT rfl hg30 rfl<|nT rfl hg30 rfl<|nT rfl hg30 rfl<|nT rfl hg30 rfl<|gF rfl hg29<|A0 (C5 rfl hg30 rfl) rfl<|ge 11 rfl rfl rfl
       exact A0 (C5 rfl hg29 rfl) rfl<|ge 5 rfl rfl rfl
      refine es (ra7 rfl rfl rfl rfl rfl rfl rfl)<|wi hs22 rfl (fun hc35 hs22=>?_) fun hc35 hs22=>?_
      ·refine s0<|qm rfl<|es (ra1 rfl)<|C4 ?_
       obtain rfl:=os hs22
       exact lx rfl (And.intro rfl (retq trivial (B1 rfl B8) (A6 rfl B9) (A3 A8 B2))) (Sub.refl _)
      ·refine C1<|r0<|qm rfl<|A0 (E9 rfl rfl) rfl<|qm rfl<|en (ra6 rfl rfl rfl rfl rfl rfl) ?_
       cases hs22
       exact lnT () rfl (su6 rfl rfl rfl rfl rfl rfl)
     ·refine F5 ?_
      obtain rfl:=os hs22
      exact lx rfl px (su5 rfl rfl rfl rfl rfl)
    ·rcases o36 with vo36_0 | vo36_1
     ·rintro e s' H' - ⟨rfl,hret⟩
      cases h
      exact hret
     ·rintro e s' H' - ⟨rfl,rfl,rfl⟩
      refine s0<|oB h fun x37 hx37 h=>A0 (C2 rfl rfl rfl) rfl<|qm rfl<|B4 (rs:=[(.seq 1 (List.map cI x37))]) rfl rfl (A2 (D0 rfl) (A2 rfl B5)) ((C2h hx37).frz)<|qm rfl<|es (ra5 rfl rfl rfl rfl rfl)<|s0<|oB h fun x38 hx38 h=>oB h fun x41 hx41 h=>oB h fun x45 hx45 h=>oB h fun x48 hx48 h=>A0 (C2 rfl rfl rfl) rfl<|qm rfl<|B4 (rs:=[.b x38]) rfl rfl (A2 (D0 rfl) (A2 rfl B5)) ((A3d hx38).frz)<|A0 (Q2 rfl) rfl<|qm rfl<|gp 6 136 (.b x41) 130 rfl rfl (fun hg39=>?_) (fun hg39=>?_) ?_
      ·obtain rfl:=os (bt hx41 hg39)
       exact nF rfl hg39 rfl<|nF rfl hg39 rfl<|K9 (F8 rfl (by rw [hg39]; rfl)) rfl<|nF rfl hg39 rfl<|nF rfl hg39 rfl<|A0 (C6 rfl hg39 rfl) rfl<|ge 6 rfl rfl rfl
      ·refine oB (bf hx41 hg39) fun x40 hx40 hx41=>?_
       obtain rfl:=os hx41
       exact gF rfl hg39<|A0 (C2 rfl rfl rfl) rfl<|gF rfl hg39<|qm rfl<|gF rfl hg39<|B4 (rs:=[.i x40]) rfl rfl (A2 (D0 rfl) (A2 rfl B5)) ((A7o hx40).frz)<|gF rfl hg39<|qm rfl<|gF rfl hg39<|A0 (J0 rfl rfl) rfl<|A0 (C5 rfl hg39 rfl) rfl<|ge 6 rfl rfl rfl
      refine qm rfl<|gp 7 144 (.b x45) 137 rfl rfl (fun hg42=>?_) (fun hg42=>?_) ?_
      ·obtain rfl:=os (bt hx45 hg42)
       exact nF rfl hg42 rfl<|nF rfl hg42 rfl<|nF rfl hg42 rfl<|nF rfl hg42 rfl<|nF rfl hg42 rfl<|K9 (F8 rfl (by rw [hg42]; rfl)) rfl<|A0 (C6 rfl hg42 rfl) rfl<|ge 7 rfl rfl rfl
      ·refine oB (bf hx45 hg42) fun x43 hx43 hx45=>oB hx45 fun x44 hx44 hx45=>?_
       obtain rfl:=os hx45
       exact gF rfl hg42<|qm rfl<|gF rfl hg42<|qm rfl<|gF rfl hg42<|qm rfl<|gF rfl hg42<|A0 (E3 (f:=cI) rfl rfl hx43) rfl<|gF rfl hg42<|A0 (E8 rfl rfl) rfl<|gF rfl hg42<|B4 (rs:=[.b x44]) rfl rfl (A2 rfl (A2 rfl B5)) ((A1b hx44).frz)<|A0 (C5 rfl hg42 rfl) rfl<|ge 7 rfl rfl rfl
      refine qm rfl<|gp 2 147 (.b x48) 145 rfl rfl (fun hg46=>?_) (fun hg46=>?_) ?_
      ·refine oB (bt hx48 hg46) fun x47 hx47 hx48=>?_
       obtain rfl:=os hx48
       exact gT rfl hg46<|B4 (rs:=[.b x47]) rfl rfl B5 ((T7 (A1n hscv) hx47).frz)<|A0 (C6 rfl hg46 rfl) rfl<|ge 2 rfl rfl rfl
      ·obtain rfl:=os (bf hx48 hg46)
       exact K9 (F8 rfl (by rw [hg46]; rfl)) rfl<|A0 (C5 rfl hg46 rfl) rfl<|ge 2 rfl rfl rfl
      refine qm rfl<|es (ra1 rfl)<|C4 ?_
      obtain rfl:=os h
      exact retq trivial (B1 rfl B8) (A6 rfl B9) (A3 A8 B2)
end Ds
end
section
namespace Ds
open Go Am
theorem D7q {n:Nat} {i:Nat} (h:i < n):out 0 ((n:Int) - 1) (i:Int) = false:= by
 exact A7p.mpr (by omega)
theorem B83 {r:DrRoom} {b:List Nat} {n f:Nat}:f ∈ B82 r b n↔f < r.Figures.length∧∃ q ∈ CL r r.Persons b,q[n]! = f:= by
 unfold B82
 rw [List.mem_filter,List.mem_range,List.any_eq_true]
 simp only [beq_iff_eq]
theorem D34 (r:DrRoom) (b:List Nat) (n:Nat):(B82 r b n).Pairwise (· < ·):=List.Pairwise.filter _ List.pairwise_lt_range
theorem D3o {l:List Nat} (h:l.Pairwise (· < ·)) {i:Nat} (hi:i + 1 < l.length):l[i]! < l[i + 1]!:= by
 rw [getElem!_pos l i (by omega),getElem!_pos l (i + 1) hi]
 exact List.pairwise_iff_getElem.mp h i (i + 1) (by omega) hi (by omega)
theorem D36 {r:DrRoom} {l:List Nat} {e:Int} (hl:l.length≤6) (h1:∀f ∈ l,f < r.Figures.length) (h2:l.Pairwise (· < ·)):loop (R6 r (ints l,e)) 0 = some (.inr ()):= by
 have:=J4 (b:=R6 r (ints l,e)) (fun i=>(i:Int)) l.length (r:=.inr ()) (by omega) (fun i hi=>by
  have hm:=h1 _ (I7 hi)
  unfold R6
  simp only []
  rw [if_pos (by rw [F1]; simpa using hi),Z4 hi]
  simp only [Option.bind_some]
  rw [if_neg (by simp),decide_eq_false (by omega)]
  simp only [Option.bind_some,Bool.false_eq_true,if_false]
  by_cases c:i = 0
  ·subst c
   rw [if_neg (by decide)]; rfl
  ·obtain ⟨j,rfl⟩:∃j,i = j + 1:=⟨i - 1,by omega⟩
   have hp:=D3o h2 hi
   rw [if_pos (by simp),E0 (n:=((j + 1:Nat):Int) - 1) (by omega),show ((j + 1:Nat):Int) - 1 = (j:Int) by omega,Z4 (by omega)]
   simp only [Option.bind_some]
   rw [decide_eq_false (by omega),E0 (by omega)]; rfl) (by
  unfold R6
  simp only []
  rw [if_neg (by rw [F1]; simp)])
 exact this
theorem B9d {r:DrRoom} {x:List Int} {k:Int} (hb:NB r) (hx:N8 x) (hk:0≤k∧k < 256):A2u r x k = some true:= by
 unfold A2u
 rw [D31]
 simp only [Option.bind_some]
 by_cases h0:(chk r).2.2 = 0
 ·obtain ⟨ok,-⟩:=(S6 r).mp h0
  have hP:=ok.persons
  have hF:=ok.figures
  have hr:∀{α:Type} (a b:α),(if (chk r).2.2 ≠ 0 then a else b) = b:=fun a b=>if_neg (fun c=>c h0)
  by_cases hn:r.Persons.length = 0
  ·have hw:B9x r 0 = ([],4):= by
    unfold B9x
    rw [hr,if_pos (by rw [hn]; decide)]
   rw [if_pos (by simp [hn]),C1n r hb,hw]
   simp only [Option.bind_some]
   rw [if_pos (by decide),awake]; rfl
  ·obtain ⟨A,hA,n1,n2,n3⟩:=D6m ok hx
   rw [if_neg (by rw [h0]; simpa using hn),E1i hk]
   obtain ⟨i,e1,i0,i1⟩:=C2t (a:=k) (b:=(r.Persons.length:Int)) hk.1 (by omega)
   obtain ⟨i,rfl⟩:∃n:Nat,i = (n:Int):=⟨i.toNat,by omega⟩
   have hi:i < r.Persons.length:= by omega
   rw [e1]
   simp only [Option.bind_some]
   rw [C7t r hb,C1n r hb]
   simp only [Option.bind_some]
   unfold B9x B1s
   rw [hr,hr,D7q hi]
   cases hq:X8 r r.Persons with
   | none =>
    simp only [Bool.false_eq_true,if_false]
    rw [if_pos (by decide),if_pos (by decide),awake]; rfl
   | some b =>
    have hbm:=B0w hq
    obtain ⟨⟨b1,b2,b3⟩,b4⟩:=B6f.mp hbm
    have hnl:=A9u _ b b2 b3
    have hwl:(B82 r b i).length≤6:= by
     have:=List.length_filter_le (fun f=>(CL r r.Persons b).any fun z=>z[i]! == f) (List.range r.Figures.length)
     rw [List.length_range] at this
     unfold B82; omega
    have hbi:b[i]! ∈ B82 r b i:=B83.mpr ⟨b3 _ (I7 (by omega)),b,List.mem_filter.mpr ⟨hbm,by simp⟩,rfl⟩
    simp only [Bool.false_eq_true,if_false,Int.toNat_natCast]
    rw [if_neg (by decide),if_neg (by rw [F1]; simp [b1]),Z4 (by omega)]
    simp only [Option.bind_some]
    rw [B3h _ _ (by rw [F1]; omega),B2k,List.contains_iff_mem.mpr hbi]
    simp only [Option.bind_some]
    rw [if_neg (by decide),D36 hwl (fun f hf=>(B83.mp hf).1) (D34 r b i)]
    simp only [Option.bind_some]
    rw [hA]
    simp only [Option.bind_some]
    have haq:QOk r A:=⟨by omega,n2⟩
    rw [B0p ok haq]
    simp only [Option.bind_some]
    cases ha:A5g r (prs r A) with
    | false=>rw [if_pos (by decide)]; simp only [Option.bind_some,if_true]; rw [awake]; rfl
    | true =>
     rw [if_neg (by decide),C51 ok haq]
     simp only [Option.bind_some]
     rw [show A7z r (prs r A) = Z2 r r.Persons A from rfl]
     by_cases c:Z2 r r.Persons A = Z2 r r.Persons b
     ·have hai:A[i]! ∈ B82 r b i:=B83.mpr ⟨n2 _ (I7 (by omega)),A,List.mem_filter.mpr ⟨B6f.mpr ⟨⟨by omega,n1,n2⟩,ha⟩,by simpa using c⟩,rfl⟩
      rw [if_neg (by simp [c]),Z4 (by omega)]
      simp only [Option.bind_some]
      rw [B3h _ _ (by rw [F1]; omega),B2k,List.contains_iff_mem.mpr hai]
      simp only [Option.bind_some,if_true]
      rw [awake]; rfl
     ·rw [if_pos (by simpa using c)]; simp only [Option.bind_some,if_true]; rw [awake]; rfl
 ·have e:((chk r).2.2 == 0) = false:=beq_eq_false_iff_ne.mpr h0
  rw [e,if_pos (by rfl),C1n r hb]
  simp only [Option.bind_some]
  unfold B9x
  rw [if_pos h0]
  simp only
  rw [if_pos (by simpa using h0),awake]; rfl
end Ds
end
