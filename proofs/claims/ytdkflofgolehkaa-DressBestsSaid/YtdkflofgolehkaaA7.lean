/- Texts that the claim stands on, one behind another. -/
import Derived.Test.YtdkflofgolehkaaA6
set_option linter.unusedVariables false
set_option linter.unusedSimpArgs false
set_option linter.unnecessarySimpa false
section
set_option maxRecDepth 100000
namespace Am
open Go
theorem B90 {σ ρ:Type} {b:σ→Option (σ ⊕ ρ)} (I:σ→Prop) (J:ρ→Prop) (hs:∀x y,I x→b x = some (.inl y)→I y) (he:∀x r,I x→b x = some (.inr r)→J r) {x0:σ} {r:ρ} (h0:I x0) (h:loop b x0 = some r):J r:= by
 have key:∀n x0,I x0→A55 b n x0 = some r→J r:= by
  intro n
  induction n with
  | zero=>intro x0 _ h; cases h
  | succ n ih =>
   intro x0 hI h
   rw [J5] at h
   split at h
   ·next x' hb=>exact ih x' (hs _ _ hI hb) h
   ·next r' hb=>simp only [Option.some.injEq] at h; subst h; exact he _ _ hI hb
   ·cases h
 exact key _ _ h0 h
end Am
namespace Ds
open Go Am Go.Proofs.Ytdkflofgolehkaa.Cd
def B5t (a:Int) (s:Int × List Int):Option ((Int × List Int) ⊕ List Int) :=
 (if (decide (s.1 > a)) = true then (idx s.2 s.1).bind fun x=>(idx s.2 (w64 (s.1 - 1))).bind fun y=>(A6q x y).bind fun z=>some z else some false).bind fun g =>
 if g = true then
  (idx s.2 (w64 (s.1 - 1))).bind fun y=>(idx s.2 s.1).bind fun x =>
  (idx (B0s s.2 s.1 y) (w64 (s.1 - 1))).bind fun _ =>
  some (.inl (w64 (s.1 - 1),B0s (B0s s.2 s.1 y) (w64 (s.1 - 1)) x))
 else some (.inr s.2)
def B5s (a b:Int) (s:Int × List Int):Option ((Int × List Int) ⊕ List Int) :=
 if (decide (s.1 < b)) = true then
  (loop (B5t a) (s.1,s.2)).bind fun l=>some (.inl (w64 (s.1 + 1),l))
 else some (.inr s.2)
def C4q (a b:Int) (l:List Int):Option (List Int):=loop (B5s a b) (w64 (a + 1),l)
def ar1 (l:List Int):AO:=.arr 1 false (l.map cI)
theorem D2y {c:Sc} {A B:A1} {a b:Int} {l r:List Int} (h:C4q a b l = some r) :
  G3 tab c (A++(ar1 l :: B)) (.fn (.func 105) [] []) [.asl (A.length + 0) l.length,.i a,.i b] [] (A++(ar1 r :: B)):= by
 unfold C4q at h
 have htk:∀x:AO,(x :: B).take (B.length + 1) = x :: B:=fun x=>List.take_of_length_le (Nat.le_refl _)
 refine A7u (aq:=[.asl (A.length + 0) l.length,.i a,.i b]) rfl rfl rfl ?_
 refine s0<|qm rfl<|A0 (E7 rfl rfl) rfl<|qm rfl<|es (ra4 rfl rfl rfl rfl)<|C3<|wl (fun s=>[(0,.asl (A.length + 0) s.2.length),(1,.i a),(2,.i b),(6,.i s.1)]) (fun (_:Unit) s=>ar1 s.2 :: B) (B.length + 1) (fun r e s' H'=>PX 0 [] (A++(ar1 r :: B)) e s' H') () h rfl rfl (fun _ _=>rfl) (fun _=>rfl) rfl (fun s=>bdc (A08 (Nat.ble_eq_true_of_le (by omega))) (bdc A8 (bdc A8 (bdc A8 bdn)))) (fun _ s o hs=>?_) ?_
 ·unfold B5s at hs
  refine B7<|s0<|qm rfl<|qm rfl<|A0 (I4 rfl rfl) rfl<|es (ra5 rfl rfl rfl rfl rfl)<|wi hs rfl (fun hc hs=>?_) fun hc hs=>?_
  ·refine oB hs fun l1 hl1 hs=>?_
   refine C1<|B7<|C3<|s0<|qm rfl<|qm rfl<|es (ra5 rfl rfl rfl rfl rfl)<|C3<|wl (fun t=>[(0,.asl (A.length + 0) t.2.length),(1,.i a),(2,.i b),(6,.i s.1),(7,.i t.1)]) (fun (_:Unit) t=>ar1 t.2 :: B) (B.length + 1) (fun r e s' H'=>PX 2 [(0,.asl (A.length + 0) r.length),(1,.i a),(2,.i b),(6,.i s.1)] (A++(ar1 r :: B)) e s' H') () hl1 rfl rfl (fun _ _=>rfl) (fun _=>rfl) rfl (fun t=>bdc (A08 (Nat.ble_eq_true_of_le (by omega))) (bdc A8 (bdc A8 (bdc A8 (bdc A8 bdn))))) (fun _ t o' ht=>?_) ?_
   ·unfold B5t at ht
    refine oB ht fun g hg ht=>?_
    refine B7<|s0<|qm rfl<|qm rfl<|A0 (A9o rfl rfl) rfl<|qm rfl<|gp 11 30 (.b g) 19 rfl rfl (fun hb=>?_) (fun hb=>?_) ?_
    ·refine oB (bt hg hb) fun x hx hg=>oB hg fun y hy hg=>oB hg fun z hz hg=>?_
     obtain rfl:=os hg
     exact gT rfl hb<|qm rfl<|gT rfl hb<|qm rfl<|gT rfl hb<|A0 (B0g (f:=cI) rfl rfl rfl rfl hx) rfl<|gT rfl hb<|A0 (B1y (x:=.i x) rfl rfl (List.length_map _) (B0o hx) rfl) rfl<|gT rfl hb<|qm rfl<|gT rfl hb<|qm rfl<|gT rfl hb<|A0 (Z8 rfl rfl) rfl<|gT rfl hb<|A0 (B0g (f:=cI) rfl rfl rfl rfl hy) rfl<|gT rfl hb<|A0 (B1y (x:=.i y) rfl rfl (List.length_map _) (B0o hy) rfl) rfl<|gT rfl hb<|B5 (rs:=[.b z]) rfl rfl (A2 rfl (A2 rfl B6)) ((B42 hz).frz)<|A0 (C9 rfl hb rfl) rfl<|ge 11 rfl rfl rfl
    ·obtain rfl:=os (bf hg hb)
     exact nT rfl hb rfl<|nT rfl hb rfl<|nT rfl hb rfl<|nT rfl hb rfl<|nT rfl hb rfl<|nT rfl hb rfl<|nT rfl hb rfl<|nT rfl hb rfl<|nT rfl hb rfl<|O1 (G6 rfl (by rw [hb]; rfl)) rfl<|A0 (C8 rfl hb rfl) rfl<|ge 11 rfl rfl rfl
    ·refine es (ra6 rfl rfl rfl rfl rfl rfl)<|wi ht rfl (fun hc2 ht=>?_) fun hc2 ht=>?_
     ·refine oB ht fun y hy ht=>oB ht fun x hx ht=>oB ht fun w hw ht=>?_
      refine C1<|B7<|C3<|r0<|qm rfl<|qm rfl<|qm rfl<|qm rfl<|A0 (Z8 rfl rfl) rfl<|A0 (B0g (f:=cI) rfl rfl rfl rfl hy) rfl<|A0 (B1y (x:=.i y) rfl rfl (List.length_map _) (B0o hy) rfl) rfl<|qm rfl<|qm rfl<|A0 (B0g (f:=cI) rfl rfl rfl rfl hx) rfl<|A0 (B1y (x:=.i x) rfl rfl (List.length_map _) (B0o hx) rfl) rfl<|A0 (B0g (f:=cI) rfl rfl rfl rfl hx) rfl<|H6 (C3x (ds:=cI y) rfl rfl rfl rfl rfl (List.length_map _) (B0o hx) rfl rfl) rfl ?_
      rw [C3q]
      refine qm rfl<|qm rfl<|A0 (Z8 rfl rfl) rfl<|A0 (B0g (f:=cI) (e:=B0s t.2 t.1 y) rfl rfl rfl (A5e _ _ _) hw) rfl<|H6 (C3x (ds:=cI x) rfl rfl rfl rfl rfl (by rw [List.length_map,A5e]) (B0o hw) rfl rfl) rfl ?_
      rw [C3q]
      refine en (ra5 rfl rfl rfl rfl rfl)<|r0<|qm rfl<|A0 (Z8 rfl rfl) rfl<|qm rfl<|en (ra5 rfl rfl rfl rfl rfl) ?_
      cases ht
      exact lnT () (htk _) (su5 (by simp only [A5e]; rfl) rfl rfl rfl rfl)
     ·refine F4 ?_
      obtain rfl:=os ht
      exact lx rfl px (su4 rfl rfl rfl rfl)
   ·rintro e s' H' - ⟨rfl,rfl,rfl⟩
    refine r0<|qm rfl<|A0 (E7 rfl rfl) rfl<|qm rfl<|en (ra4 rfl rfl rfl rfl) ?_
    cases hs
    exact lnT () (htk _) (su4 rfl rfl rfl rfl)
  ·refine F4 ?_
   obtain rfl:=os hs
   exact lx rfl px (Sub.nil _)
 ·rintro e s' H' - ⟨rfl,rfl,rfl⟩
  show B8h _ _ _ _ .normal _ _
  exact C6g trivial B8 B9 B3 (List.take_of_length_le (by simp))
def D4p (a b:Int) (l:List Int):Option (List Int):=if (decide (w64 (b - a)≤12)) = true then C4q a b l else none
theorem D4q {c:Sc} {A B:A1} {a b k:Int} {l r:List Int} (h:D4p a b l = some r) :
  G3 tab c (A++(ar1 l :: B)) (.fn (.func 96) [] []) [.asl (A.length + 0) l.length,.i a,.i b,.i k] [] (A++(ar1 r :: B)):= by
 unfold D4p at h
 split at h
 ·next hc =>
  refine A7u (aq:=[.asl (A.length + 0) l.length,.i a,.i b,.i k]) rfl rfl rfl ?_
  refine s0<|qm rfl<|es (ra5 rfl rfl rfl rfl rfl)<|s0<|qm rfl<|es (ra6 rfl rfl rfl rfl rfl rfl)<|C3<|D22 (B.length + 1) rfl _ (fun S hS=>O7 (live:=[0,1,2,3,8,9]) rfl (by decide) (Sub.trans (su6 rfl rfl rfl rfl rfl rfl) hS))<|C3<|s0<|qm rfl<|qm rfl<|A0 (Z8 rfl rfl) rfl<|qm rfl<|es (ra7 rfl rfl rfl rfl rfl rfl rfl)<|B7<|s0<|qm rfl<|A0 (B87 rfl rfl) rfl<|es (ra8 rfl rfl rfl rfl rfl rfl rfl rfl)<|Q7 rfl hc<|s0<|qm rfl<|qm rfl<|qm rfl<|R4 (S3 rfl rfl (D2y h) rfl) rfl<|es .n<|C4 ?_
  refine .out rfl ?_
  show B8h _ _ _ _ .ret _ _
  exact C6g trivial B8 B9 B3 (List.take_of_length_le (by simp))
 ·cases h
def B71 (l:List Int):Option (List Int) :=
 (A5n (IntKind.u64.wrap (List.length l:Int))).bind fun _=>D4p 0 (List.length l:Int) l
theorem D4x {c:Sc} {A B:A1} {l r:List Int} (h:B71 l = some r) :
  G3 tab c (A++(ar1 l :: B)) (.fn (.func 67) [] []) [.asl (A.length + 0) l.length] [] (A++(ar1 r :: B)):= by
 unfold B71 at h
 refine oB h fun k hk h=>?_
 refine A7u (aq:=[.asl (A.length + 0) l.length]) rfl rfl rfl ?_
 refine s0<|qm rfl<|A0 (B3g (f:=cI) rfl rfl rfl) rfl<|qm rfl<|es (ra2 rfl rfl)<|r0<|qm rfl<|qm rfl<|qm rfl<|A0 (B0f rfl) rfl<|B5 (rs:=[.i k]) rfl rfl (A2 rfl B6) ((B3i hk).frz)<|R4 (S3 rfl rfl (D4q h) rfl) rfl<|en .n ?_
 show B8h _ _ _ _ .normal _ _
 exact C6g trivial B8 B9 B3 (List.take_of_length_le (by simp))
theorem C9v {a b:Int} {l r:List Int} (h:C4q a b l = some r):r.length = l.length:= by
 unfold C4q at h
 refine B90 (fun s=>s.2.length = l.length) (fun r=>r.length = l.length) (fun x y hx hy=>?_) (fun x r hx hr=>?_) rfl h
 ·unfold B5s at hy
  split at hy
  ·refine oB hy fun l1 hl1 hy=>?_
   cases hy
   refine B90 (fun s=>s.2.length = l.length) (fun r=>r.length = l.length) (fun x y hx hy=>?_) (fun x r hx hr=>?_) hx hl1
   ·unfold B5t at hy
    refine oB hy fun g _ hy=>?_
    split at hy
    ·refine oB hy fun _ _ hy=>oB hy fun _ _ hy=>oB hy fun _ _ hy=>?_
     cases hy
     simpa only [A5e] using hx
    ·cases hy
   ·unfold B5t at hr
    refine oB hr fun g _ hr=>?_
    split at hr
    ·refine oB hr fun _ _ hr=>oB hr fun _ _ hr=>oB hr fun _ _ hr=>?_
     cases hr
    ·cases hr; exact hx
  ·cases hy
 ·unfold B5s at hr
  split at hr
  ·refine oB hr fun _ _ hr=>?_
   cases hr
  ·cases hr; exact hx
theorem C9w {l r:List Int} (h:B71 l = some r):r.length = l.length:= by
 unfold B71 D4p at h
 refine oB h fun _ _ h=>?_
 split at h
 ·exact C9v h
 ·cases h
end Ds
end
section
set_option maxRecDepth 100000
namespace Ds
open Go Am Go.Proofs.Ytdkflofgolehkaa.Cd
def B58 (t:DrRoom) (person:Int):Option ((Chg × dress_plan) × Int) :=
 (L4 t).bind fun x1 =>
 if (x1.2.2 != 0) = true then some (([],plan0),x1.2.2)
 else (loop (M1 t) (0,[])).bind fun ch =>
  (I7 0 (w64 ((List.length t.Persons:Int) - 1)) [person]).bind fun k =>
  if k = true then some (([],plan0),4)
  else (I9 ⟨t⟩).bind fun w=>(P1 t ch w).bind fun z =>
   if (!z.2) = true then some (([],plan0),9) else some ((ch,z.1),0)
def C5j (N:Nat) (t:DrRoom) (ch:Chg) (p:dress_plan):List AO:=[.cells (A4 t),.cells (A9 p),.cells (A4 t),.map (A9j ch),.cells (A33 t (N + 3)),.cells (A9 p)]
def EnQ (H:A1) (t:DrRoom) (r:(Chg × dress_plan) × Int) (e:Ex) (s:B2) (H1:A1):Prop :=
 (match e with | .exit _=>False | _=>True)∧∃ rs H2,results s H1 [.tmp 4,.cell 5 (some 6),.tmp 6] = some rs∧P5 H.length H1 rs = some (rs,H2) ∧
  ((r.2 != 0) = true∧rs = [.lit (.pointer none),.agg (A9 plan0),.i r.2]∧trunc H.length rs H2 = H∨r.2 = 0∧rs = [.ptr (H.length + 4) 0,.agg (A9 r.1.2),.i 0]∧trunc H.length rs H2 = H++C5j H.length t r.1.1 r.1.2)
theorem C03 {H:A1} {l:List AO} {s:B2} {t:DrRoom} {e:Int} {x:Chg × dress_plan} (he:(e != 0) = true) (h4:sget s 4 = some (.lit (.pointer none))) (h5:sget s 5 = some (.ptr (H.length + 1) 0)) (h6:sget s 6 = some (.i e)) (hl:l[1]? = some (.cells (A9 plan0))):EnQ H t (x,e) .ret s (H++l) :=
 ⟨trivial,_,_,B1 h4 (O9 (I1 (ds:=A9 plan0) h5 hl rfl rfl) (B1 h6 B8)),A6 rfl (A6 (A1c rfl) (A6 rfl B9)),.inl ⟨he,rfl,by rw [C0l (by rfl),List.append_nil]⟩⟩
theorem D0y {c:Sc} {H:A1} (hscv:Q9 c H = true) {t:DrRoom} {person:Int} {r:(Chg × dress_plan) × Int} (h:B58 t person = some r) :
  (r.2 != 0) = true∧G3 tab c H (.fn (.func 64) [] []) [.agg (A4 t),.i person] [.lit (.pointer none),.agg (A9 plan0),.i r.2] H ∨
  r.2 = 0∧G3 tab c H (.fn (.func 64) [] []) [.agg (A4 t),.i person] [.ptr (H.length + 4) 0,.agg (A9 r.1.2),.i 0] (H++C5j H.length t r.1.1 r.1.2):= by
 have key:WP tab c64 (I3 0 [.agg (A4 t),.i person]) (H++[]) ⟨H.length,c.cur :: c.outer⟩ (EnQ H t r):= by
  unfold B58 at h
  refine oB h fun x1 hx1 h=>?_
  refine sg 0 rfl<|A0 (F3 (cs:=A4 t) rfl rfl rfl) rfl<|qm rfl<|A0 E4 rfl<|qm rfl<|es (ra3 rfl rfl rfl) ?_
  by_cases hc1:(x1.2.2 != 0) = true
  ·rw [if_pos hc1] at h
   obtain rfl:=os h
   refine s0<|A0 (C2 rfl rfl rfl) rfl<|R4 (W0 rfl rfl (A2 (D2 rfl) B6) (B6s hx1 hc1) rfl) rfl<|qm rfl<|A0 (A7 rfl rfl) rfl<|A0 (A7 rfl rfl) rfl<|qm rfl<|qm rfl<|es (ra5 rfl rfl rfl rfl rfl)<|B7<|C3<|s0<|qm rfl<|A0 (J8 rfl rfl) rfl<|qm rfl<|es (ra6 rfl rfl rfl rfl rfl rfl)<|Q7 rfl hc1<|s0<|A0 (K9 (cs:=A9 plan0) rfl rfl) rfl<|qm rfl<|qm rfl<|H6 (D0 (ds:=A9 plan0) rfl rfl rfl rfl (C5 rfl) rfl) rfl<|qm rfl<|es (ra3 rfl rfl rfl)<|C4<|C03 hc1 rfl rfl rfl rfl
  ·rw [if_neg hc1] at h
   have hc1:(x1.2.2 != 0) = false:=Bool.eq_false_iff.2 hc1
   refine oB h fun ch hch h=>oB h fun k hk h=>?_
   have hlook:G3 tab ⟨H.length,c.cur :: c.outer⟩ (H++[.cells (A4 t),.cells (A9 plan0)]) (.fn (.func 52) [] []) [(.agg (A4 t))] [.ptr (H.length + 4) 0,.i 0] (H++[.cells (A4 t),.cells (A9 plan0),.cells (A4 t),.map (A9j ch),.cells (A33 t (H.length + 3))]):= by
    have:=B6t (c:=⟨H.length,c.cur :: c.outer⟩) (H:=H++[.cells (A4 t),.cells (A9 plan0)]) hx1 hc1 hch
    unfold C7q at this
    rw [List.length_append,List.append_assoc] at this
    exact this
   refine s0<|A0 (C2 rfl rfl rfl) rfl<|R4 (W0 rfl rfl (A2 (D2 rfl) B6) hlook rfl) rfl<|qm rfl<|A0 (A7 rfl rfl) rfl<|A0 (A7 rfl rfl) rfl<|qm rfl<|qm rfl<|es (ra5 rfl rfl rfl rfl rfl)<|B7<|C3<|s0<|qm rfl<|A0 (N9 (v:=(.b false)) rfl rfl rfl) rfl<|qm rfl<|es (ra6 rfl rfl rfl rfl rfl rfl)<|Y2 rfl rfl<|s0<|A0 (D3 rfl) rfl<|A0 (C7 rfl rfl rfl) rfl<|A0 (D9 (f:=A5) rfl) rfl<|A0 (Z8 rfl rfl) rfl<|qm rfl<|A0 (G7 (rows:=List.map cI [person]) rfl rfl (D8 (fun _=>rfl) _)) rfl<|B5 (rs:=[.b k]) rfl rfl (A2 rfl (A2 rfl (A2 rfl B6))) ((M2 hk).frz)<|qm rfl<|es (ra3 rfl rfl rfl)<|wi h rfl (fun hc2 h=>?_) fun hc2 h=>?_
   ·obtain rfl:=os h
    exact s0<|A0 (K9 (cs:=A9 plan0) rfl rfl) rfl<|qm rfl<|H6 (D0 (ds:=A9 plan0) rfl rfl rfl rfl (C5 rfl) rfl) rfl<|qm rfl<|es (ra3 rfl rfl rfl)<|C4<|C03 rfl rfl rfl rfl rfl
   refine oB h fun w hw h=>oB h fun z hz h=>?_
   refine C1<|sg 5 rfl<|qm rfl<|qm rfl<|B5 (rs:=[.i w]) rfl rfl (A2 rfl B6) ((N0 (a0:=⟨t⟩) (D6 rfl) hw).frz)<|B5 (rs:=[(.agg (A9 z.1)),.b z.2]) rfl rfl (A2 rfl (A2 rfl B6)) (B5a (t:=t) (ch:=ch) ⟨_,D6 rfl,A1f rfl⟩ (A29 hscv) hz)<|qm rfl<|A0 (A7 rfl rfl) rfl<|A0 (A7 rfl rfl) rfl<|A0 E4 rfl<|H6 (D0 (ds:=(A9 z.1)) rfl rfl rfl rfl (C5 rfl) rfl) rfl<|qm rfl<|es (ra4 rfl rfl rfl rfl)<|B7<|s0<|qm rfl<|A0 (R6 rfl) rfl<|es (ra4 rfl rfl rfl rfl)<|wi h rfl (fun hc3 h=>?_) fun hc3 h=>?_
   ·obtain rfl:=os h
    exact s0<|A0 (K9 (cs:=A9 plan0) rfl rfl) rfl<|qm rfl<|H6 (D0 (ds:=A9 plan0) rfl rfl rfl rfl (C5 rfl) rfl) rfl<|qm rfl<|es (ra3 rfl rfl rfl)<|C4<|C03 rfl rfl rfl rfl rfl
   ·obtain rfl:=os h
    refine C1<|s0<|qm rfl<|A0 (C2 rfl rfl rfl) rfl<|qm rfl<|H6 (D0 (ds:=(A9 z.1)) rfl rfl rfl rfl (C5 rfl) rfl) rfl<|qm rfl<|es (ra3 rfl rfl rfl)<|C4 ?_
    exact ⟨trivial,_,_,B1 rfl (O9 (I1 (ds:=A9 z.1) rfl rfl rfl rfl) (B1 rfl B8)),A6 rfl (A6 (A1c rfl) (A6 rfl B9)),.inr ⟨rfl,rfl,B77 C63⟩⟩
 rw [List.append_nil] at key
 obtain ⟨e,S',s',H2,h1,h2,h3,rs,H3,h4,h5,h6⟩:=key _ (Sub.refl _)
 have hrun:∀H',trunc H.length rs H3 = H'→G3 tab c H (.fn (.func 64) [] []) [.agg (A4 t),.i person] rs H':=fun H' hH =>
  G3.fn (af:=a64) (bd:=c64) (aq:=[.agg (A4 t),.i person]) (rs0:=rs) (rs1:=rs) (H1:=H3) (e:=e) (st':=⟨S',H2,⟨H.length,c.cur :: c.outer⟩⟩) rfl rfl rfl rfl rfl rfl h1 (by cases e <;> first | rfl | exact h3.elim) (O8 h2 h4) h5 rfl hH.symm
 rcases h6 with ⟨h6,rfl,h7⟩ | ⟨h6,rfl,h7⟩
 ·exact .inl ⟨h6,hrun _ h7⟩
 ·exact .inr ⟨h6,hrun _ h7⟩
theorem retq0 {H:A1} {s:B2} {rv:List ARes} {rs:List AV} {e:Ex} (h:RetQ H rv rs e s (H++[])):RetQ H rv rs e s H:= by rwa [List.append_nil] at h
theorem D1k {c:Sc} {A B:A1} {b:Nat} {l:List Int} {x r:Int} (hb:A.length = b) (h:L9 l x = some r):E5 tab c (A++(ar1 l :: B)) (.fn (.func 95) [] []) [.asl b l.length,.i x] [.i r]:= by
 subst hb
 unfold L9 at h
 have htk:∀x:AO,(x :: B).take (B.length + 1) = x :: B:=fun x=>List.take_of_length_le (Nat.le_refl _)
 refine B53 (aq:=[.asl A.length l.length,.i x]) rfl rfl rfl ?_
 refine s0<|qm rfl<|es (ra2 rfl rfl)<|B7<|s0<|qm rfl<|A0 (B3g (f:=cI) (j:=0) rfl rfl rfl) rfl<|qm rfl<|es (ra4 rfl rfl rfl rfl)<|C3<|oB h fun o6 ho6 h=>wl (fun s1=>[(0,(.asl (A.length + 0) l.length)),(1,.i x),(7,(.i (List.length l:Int))),(8,.i s1)]) (fun (q2:Unit) s1=>ar1 l :: B) (B.length + 1) (fun r e s' H'=>(match r with | (.inl v)=>e = .ret∧RetQ (A++(ar1 l :: B)) [.tmp 4] [.i v] e s' H' | (.inr v)=>PX 0 [] (A++(ar1 l :: B)) e s' H':Prop)) () ho6 rfl rfl (fun _ _=>rfl) (fun _=>rfl) rfl (fun s1=>(bdc (A08 (Nat.ble_eq_true_of_le (by omega))) (bdc A8 (bdc A8 (bdc A8 bdn))))) (fun q2 s1 ys1 hs1=>?_) ?_
 ·unfold G1 at hs1
  refine s0<|A0 (I4 rfl rfl) rfl<|es (ra5 rfl rfl rfl rfl rfl)<|B7<|wi hs1 rfl (fun hc3 hs1=>?_) fun hc3 hs1=>?_
  ·refine C1<|B7<|C3<|s0<|qm rfl<|qm rfl<|es (ra5 rfl rfl rfl rfl rfl)<|s0<|oB hs1 fun x4 hx4 hs1=>qm rfl<|qm rfl<|qm rfl<|A0 (B0g (f:=cI) rfl rfl rfl rfl hx4) rfl<|A0 (B1y (x:=.i x4) rfl rfl (List.length_map _) (B0o hx4) rfl) rfl<|A0 (F6 rfl rfl) rfl<|es (ra6 rfl rfl rfl rfl rfl rfl)<|wi hs1 rfl (fun hc5 hs1=>?_) fun hc5 hs1=>?_
   ·refine s0<|qm rfl<|qm rfl<|es (ra1 rfl)<|C4 ?_
    obtain rfl:=os hs1
    exact lx rfl (And.intro rfl (retq0 (retq trivial (B1 rfl B8) (A6 rfl B9) (A3 A8 B3)))) (Sub.refl _)
   ·refine C1<|r0<|A0 (E7 rfl rfl) rfl<|qm rfl<|en (ra4 rfl rfl rfl rfl) ?_
    cases hs1
    exact lnT () (htk _) (su4 rfl rfl rfl rfl)
  ·refine F4 ?_
   obtain rfl:=os hs1
   exact lx rfl px (.nil _)
 ·rcases o6 with vo6_0 | vo6_1
  ·rintro e s' H' - ⟨rfl,hret⟩
   cases h
   exact hret
  ·rintro e s' H' - ⟨rfl,rfl,rfl⟩
   refine s0<|qm rfl<|es (ra1 rfl)<|C4 ?_
   obtain rfl:=os h
   exact retq0 (retq trivial (B1 rfl B8) (A6 rfl B9) (A3 A8 B3))
theorem C2w {c:Sc} {A B:A1} {b:Nat} {l:List Int} {x:Int} {r:Bool} (hb:A.length = b) (h:F7 l x = some r):E5 tab c (A++(ar1 l :: B)) (.fn (.func 66) [] []) [.asl b l.length,.i x] [.b r]:= by
 unfold F7 at h
 refine oB h fun x1 hx1 h=>?_
 refine B53 (aq:=[.asl b l.length,.i x]) rfl rfl rfl ?_
 refine s0<|qm rfl<|es (ra2 rfl rfl)<|s0<|qm rfl<|qm rfl<|R4 (A4u (rs:=[.i x1]) rfl rfl ((D1k hb hx1).frz)) rfl<|A0 (A7f rfl rfl) rfl<|qm rfl<|es (ra1 rfl)<|C4 ?_
 obtain rfl:=os h
 exact retq0 (retq trivial (B1 rfl B8) (A6 rfl B9) (A3 A8 B3))
def B3z (person:Int) (best:dress_plan) (l:List dress_plan) (s:Int × List Int):Option ((Int × List Int) ⊕ List Int) :=
 if (decide (s.1 < (List.length l:Int))) = true then
  (idx l s.1).bind fun p=>(idx p.figures_ person).bind fun f =>
  (if (p.cost_ == best.cost_) = true then (F7 s.2 f).bind fun k=>some (!k) else some false).bind fun g =>
  if g = true then (app 8 s.2 [f]).bind fun q=>some (.inl (w64 (s.1 + 1),q))
  else some (.inl (w64 (s.1 + 1),s.2))
 else some (.inr s.2)
def A39 (t:DrRoom) (person:Int):Option (List Int × Int) :=
 (B58 t person).bind fun r =>
 if (r.2 != 0) = true then some ([],r.2)
 else (I9 ⟨t⟩).bind fun w=>(Q8 t r.1.1 w).bind fun l =>
  (loop (B3z person r.1.2 l) (0,[])).bind fun o=>(B71 o).bind fun q=>some (q,0)
def B3y (N:Nat) (t:DrRoom) (ch:Chg) (p:dress_plan) (s:List Int):List AO:=[.cells (A4 t),ar1 s,.cells (A9 p),.cells (A4 t),.cells (A9 p),.cells (A4 t),.map (A9j ch),.cells (A33 t (N + 6)),.cells (A9 p)]
theorem B13 {c:Sc} {H:A1} (hscv:Q9 c H = true) {a0:DrRoom} {a1:Int} {r:List Int × Int} (h:A39 a0 a1 = some r) :
  S4 tab c H (.fn (.func 28) [] []) [(.agg (A4 a0)),.i a1] [(.seq 1 (List.map cI r.1)),.i r.2]:= by
 unfold A39 at h
 refine oB h fun x hx h=>?_
 refine cF rfl rfl<|sg 0 rfl<|A0 (F3 (cs:=A4 a0) rfl rfl rfl) rfl<|A0 A3m rfl<|qm rfl<|es (ra3 rfl rfl rfl)<|sg 2 rfl<|A0 (C2 rfl rfl rfl) rfl<|qm rfl ?_
 rcases D0y (c:=⟨H.length,c.cur :: c.outer⟩) (H:=H++[.cells (A4 a0),ar1 [],.dead]) (A29 hscv) hx with ⟨hc,hcall⟩ | ⟨hc,hcall⟩
 ·rw [if_pos hc] at h
  obtain rfl:=os h
  refine R4 (W0 rfl rfl (A2 (D2 rfl) (A2 rfl B6)) hcall rfl) rfl<|qm rfl<|A0 (A7 rfl rfl) rfl<|A0 (A7 rfl rfl) rfl<|A0 (A7 rfl rfl) rfl<|A0 E4 rfl<|qm rfl<|H6 (D0 (ds:=A9 plan0) rfl rfl rfl rfl (C5 rfl) rfl) rfl<|qm rfl<|es (ra5 rfl rfl rfl rfl rfl)<|B7<|s0<|qm rfl<|A0 (J8 rfl rfl) rfl<|es (ra6 rfl rfl rfl rfl rfl rfl)<|Q7 rfl hc<|sg 3 rfl<|qm rfl<|A0 A3m rfl<|qm rfl<|es (ra2 rfl rfl)<|C4 ?_
  exact ⟨[.fresh 1 (List.map cI []),.i x.2],retq trivial (B1 rfl (B1 rfl B8)) (A6 (A2o rfl (List.length_map _)) (A6 rfl B9)) (A3 V7 (A3 A8 B3)),rfl⟩
 ·obtain ⟨⟨ch,best⟩,e⟩:=x
  dsimp only at hc
  subst hc
  rw [if_neg (by simp)] at h
  refine oB h fun w hw h=>oB h fun l hl h=>oB h fun o ho h=>oB h fun q hq h=>?_
  obtain rfl:=os h
  have hcall:G3 tab ⟨H.length,c.cur :: c.outer⟩ (H++[.cells (A4 a0),ar1 [],.dead]) (.fn (.func 64) [] []) [.agg (A4 a0),.i a1] [.ptr (H.length + 7) 0,.agg (A9 best),.i 0] (H++[.cells (A4 a0),ar1 [],.dead,.cells (A4 a0),.cells (A9 best),.cells (A4 a0),.map (A9j ch),.cells (A33 a0 (H.length + 6)),.cells (A9 best)]):= by
   unfold C5j at hcall
   rw [List.length_append,List.append_assoc] at hcall
   exact hcall
  have hH:∀s:List Int,H++B3y H.length a0 ch best s = (H++[.cells (A4 a0)])++(ar1 s :: (B3y H.length a0 ch best s).drop 2):=fun s=>by simp [B3y]
  have hA:(H++[AO.cells (A4 a0)]).length = H.length + 1:= by simp
  refine R4 (W0 rfl rfl (A2 (D2 rfl) (A2 rfl B6)) hcall rfl) rfl<|qm rfl<|A0 (A7 rfl rfl) rfl<|A0 (A7 rfl rfl) rfl<|A0 (A7 rfl rfl) rfl<|A0 E4 rfl<|qm rfl<|H6 (D0 (ds:=A9 best) rfl rfl rfl rfl (C5 rfl) rfl) rfl<|qm rfl<|es (ra5 rfl rfl rfl rfl rfl)<|B7<|s0<|qm rfl<|A0 (N9 (v:=(.b false)) rfl rfl rfl) rfl<|es (ra6 rfl rfl rfl rfl rfl rfl)<|Y2 rfl rfl<|C1<|B7<|s0<|qm rfl<|qm rfl<|B5 (rs:=[.i w]) rfl rfl (A2 rfl B6) ((N0 (a0:=⟨a0⟩) (D6 rfl) hw).frz)<|B5 (rs:=[.seq 6 (l.map A9)]) rfl rfl (A2 rfl (A2 rfl B6)) (C10 (t:=a0) (ch:=ch) ⟨_,D6 rfl,A1f rfl⟩ (A29 hscv) hl)<|A0 (D9 (f:=A9) rfl) rfl<|qm rfl<|es (ra6 rfl rfl rfl rfl rfl rfl)<|C3<|wl (fun s=>[(1,.i a1),(4,.asl (H.length + 1) s.2.length),(7,.ptr (H.length + 2) 0),(24,.seq 6 (l.map A9)),(25,.i (List.length l:Int)),(26,.i s.1)]) (fun (_:Unit) s=>B3y H.length a0 ch best s.2) 9 (fun r e s' H'=>PX 0 [(4,.asl (H.length + 1) r.length)] (H++B3y H.length a0 ch best r) e s' H') () ho rfl rfl (fun _ _=>rfl) (fun _=>rfl) rfl (fun s=>bdc A8 (bdc (A08 rfl) (bdc (F1 rfl) (bdc E8 (bdc A8 (bdc A8 bdn)))))) (fun _ s o hs=>?_) ?_
  ·unfold B3z at hs
   refine s0<|A0 (I4 rfl rfl) rfl<|es (ra7 rfl rfl rfl rfl rfl rfl rfl)<|B7<|wi hs rfl (fun hc hs=>?_) fun hc hs=>?_
   ·refine oB hs fun p hp hs=>oB hs fun f hf hs=>oB hs fun g hg hs=>?_
    refine C1<|B7<|C3<|sg 9 rfl<|A0 (E9 (f:=A9) rfl rfl hp) rfl<|A0 (M6 rfl rfl) rfl<|A0 E4 rfl<|H6 (D0 (ds:=A9 p) rfl rfl rfl rfl (C5 rfl) rfl) rfl<|es (ra7 rfl rfl rfl rfl rfl rfl rfl)<|s0<|A0 (D3 rfl) rfl<|A0 (C7 rfl rfl rfl) rfl<|qm rfl<|A0 (E9 (f:=cI) rfl rfl hf) rfl<|A0 (F5 rfl rfl) rfl<|qm rfl<|es (ra8 rfl rfl rfl rfl rfl rfl rfl rfl)<|s0<|A0 (D3 rfl) rfl<|A0 (C7 (x:=.i p.cost_) rfl rfl rfl) rfl<|A0 (D3 rfl) rfl<|A0 (C7 (x:=.i best.cost_) rfl rfl rfl) rfl<|A0 (F6 rfl rfl) rfl<|qm rfl<|gp 5 45 (.b g) 40 rfl rfl (fun hb=>?_) (fun hb=>?_) ?_
    ·refine oB (bt hg hb) fun k hk hg=>?_
     obtain rfl:=os hg
     have hcon:S4 tab ⟨H.length + 9,(⟨H.length,c.cur :: c.outer⟩:Sc).cur :: (⟨H.length,c.cur :: c.outer⟩:Sc).outer⟩ (H++(B3y H.length a0 ch best s.2++[.cells (A9 p)])) (.fn (.func 66) [] []) [.asl (H.length + 1) s.2.length,.i f] [.b k]:= by
      have:=(C2w (c:=⟨H.length + 9,(⟨H.length,c.cur :: c.outer⟩:Sc).cur :: (⟨H.length,c.cur :: c.outer⟩:Sc).outer⟩) (B:=(B3y H.length a0 ch best s.2).drop 2++[.cells (A9 p)]) hA hk).frz
      rw [show (H++[AO.cells (A4 a0)])++(ar1 s.2 :: ((B3y H.length a0 ch best s.2).drop 2++[.cells (A9 p)])) = H++(B3y H.length a0 ch best s.2++[.cells (A9 p)]) by simp [B3y]] at this
      exact this
     exact gT rfl hb<|qm rfl<|gT rfl hb<|qm rfl<|gT rfl hb<|R4 (A4u (rs:=[.b k]) rfl rfl hcon) rfl<|gT rfl hb<|A0 (R6 rfl) rfl<|A0 (C9 rfl hb rfl) rfl<|ge 5 rfl rfl rfl
    ·obtain rfl:=os (bf hg hb)
     exact nT rfl hb rfl<|nT rfl hb rfl<|O1 (G6 rfl (by rw [hb]; rfl)) rfl<|nT rfl hb rfl<|A0 (C8 rfl hb rfl) rfl<|ge 5 rfl rfl rfl
    refine es (ra8 rfl rfl rfl rfl rfl rfl rfl rfl)<|wi hs rfl (fun hc2 hs=>?_) fun hc2 hs=>?_
    ·refine oB hs fun q hq hs=>?_
     refine r0<|qm rfl<|qm rfl<|A0 (G7 (rows:=List.map cI [f]) rfl rfl (D8 (fun _=>rfl) _)) rfl<|R4 (A1b (f:=cI) rfl rfl rfl rfl W2 (fun _=>rfl) hq) rfl<|qm rfl<|en (ra6 rfl rfl rfl rfl rfl rfl)<|r0<|A0 (E7 rfl rfl) rfl<|qm rfl<|en (ra6 rfl rfl rfl rfl rfl rfl) ?_
     cases hs
     exact lnT () rfl (su6 rfl rfl rfl rfl rfl rfl)
    ·refine C1<|r0<|A0 (E7 rfl rfl) rfl<|qm rfl<|en (ra6 rfl rfl rfl rfl rfl rfl) ?_
     cases hs
     exact lnT () rfl (su6 rfl rfl rfl rfl rfl rfl)
   ·refine F4 ?_
    obtain rfl:=os hs
    exact lx rfl px (su1 rfl)
  ·rintro e s' H' - ⟨rfl,rfl,rfl⟩
   have hsort:G3 tab ⟨H.length,c.cur :: c.outer⟩ (H++B3y H.length a0 ch best o) (.fn (.func 67) [] []) [.asl (H.length + 1) o.length] [] (H++B3y H.length a0 ch best q):= by
    have:=D4x (c:=⟨H.length,c.cur :: c.outer⟩) (A:=H++[AO.cells (A4 a0)]) (B:=(B3y H.length a0 ch best o).drop 2) hq
    rw [hA] at this
    rw [hH o,hH q]
    exact this
   refine s0<|qm rfl<|R4 (S3 rfl rfl hsort rfl) rfl<|es (ra1 rfl)<|s0<|qm rfl<|qm rfl<|qm rfl<|es (ra2 rfl rfl)<|C4 ?_
   exact ⟨[.fresh 1 (List.map cI q),.i 0],retq trivial (B1 rfl (B1 rfl B8)) (A6 (A2o rfl (by rw [List.length_map]; exact C9w hq)) (A6 rfl B9)) (A3 V7 (A3 A8 B3)),rfl⟩
end Ds
end
section
set_option maxRecDepth 100000
set_option maxHeartbeats 0
namespace Ds
open Go Am Go.Proofs.Ytdkflofgolehkaa.Cd
def A0g :Option Bool :=
 (A4p 2).bind fun x1 =>
 (A4p 1).bind fun x2 =>
 (Z9 x1 0 0).bind fun x3 =>
 (A1s x1 [2,0,1]).bind fun x4 =>
 (A1t x1 [1,0,2]).bind fun x5 =>
 (A1r x1).bind fun x6 =>
 (A1r x2).bind fun x7 =>
 (A39 x1 2).bind fun x8 =>
 (X0 x1 1).bind fun x9 =>
 (A8v x2).bind fun x10 =>
 (A8u x2).bind fun x11 =>
 (if ((((((((((x3.2.2 == 0) && (x4.2 == 0)) && (x5.2 == 0)) && (x6.2.2 == 0)) && (x7.2.2 == 9)) && (x8.2 == 0)) && (x9.2 == 0)) && (x10.2 == 0)) && (x11.2.2 == 0)) && (x3.1 == 14)) = true then
  (K7 x3.2.1 [0,2]).bind fun x22 =>
  some x22
 else
  some false).bind fun x23 =>
 (if x23 = true then
  (K7 x4.1 [4,(-1)]).bind fun x25 =>
  some x25
 else
  some false).bind fun x26 =>
 (if (x26 && (x5.1 == 14)) = true then
  (K7 x6.1 [1,0,2]).bind fun x29 =>
  some x29
 else
  some false).bind fun x30 =>
 (if (x30 && (x6.2.1 == 14)) = true then
  (K7 x8.1 [2]).bind fun x33 =>
  some x33
 else
  some false).bind fun x34 =>
 (if (x34 && (x9.1 == 10)) = true then
  (K7 x10.1 [0]).bind fun x37 =>
  some x37
 else
  some false).bind fun x38 =>
 (if x38 = true then
  (K7 x11.1 [0,1]).bind fun x40 =>
  some x40
 else
  some false).bind fun x41 =>
 some (x41 && (x11.2.1 == 14))
theorem A2n {c:Sc} {H:A1} (hscv:Q9 c H = true)  {r:Bool} (h:A0g  = some r) :
  E5 tab c H (.fn (.func 21) [] []) [] [.b r]:= by
 unfold A0g at h
 refine cE rfl rfl<|s0<|qm rfl<|es .n<|sg 0 rfl<|oB h fun x1 hx1 h=>oB h fun x2 hx2 h=>B5 (rs:=[(.agg (A4 x1))]) rfl rfl (A2 rfl B6) ((A5s hx1).frz)<|B5 (rs:=[(.agg (A4 x2))]) rfl rfl (A2 rfl B6) ((A5s hx2).frz)<|A0 E4 rfl<|A0 E4 rfl<|H6 (D0 (ds:=(A4 x1)) rfl rfl rfl rfl (C5 rfl) rfl) rfl<|H6 (D0 (ds:=(A4 x2)) rfl rfl rfl rfl (C5 rfl) rfl) rfl<|es (ra2 rfl rfl)<|s0<|oB h fun x3 hx3 h=>A0 (C2 rfl rfl rfl) rfl<|B5 (rs:=[.i x3.1,(.seq 1 (List.map cI x3.2.1)),.i x3.2.2]) rfl rfl (A2 (D2 rfl) (A2 rfl (A2 rfl B6))) ((A3e hx3).frz)<|qm rfl<|A0 (A7 rfl rfl) rfl<|A0 (A7 rfl rfl) rfl<|A0 (A7 rfl rfl) rfl<|qm rfl<|qm rfl<|qm rfl<|es (ra5 rfl rfl rfl rfl rfl)<|s0<|oB h fun x4 hx4 h=>A0 (C2 rfl rfl rfl) rfl<|A0 (G7 (rows:=List.map cI [2,0,1]) rfl rfl (D8 (fun _=>rfl) _)) rfl<|B5 (rs:=[(.seq 1 (List.map cI x4.1)),.i x4.2]) rfl rfl (A2 (D2 rfl) (A2 rfl B6)) ((A5q hx4).frz)<|qm rfl<|A0 (A7 rfl rfl) rfl<|A0 (A7 rfl rfl) rfl<|qm rfl<|qm rfl<|es (ra7 rfl rfl rfl rfl rfl rfl rfl)<|s0<|oB h fun x5 hx5 h=>A0 (C2 rfl rfl rfl) rfl<|A0 (G7 (rows:=List.map cI [1,0,2]) rfl rfl (D8 (fun _=>rfl) _)) rfl<|B5 (rs:=[.i x5.1,.i x5.2]) rfl rfl (A2 (D2 rfl) (A2 rfl B6)) ((A5r hx5).frz)<|qm rfl<|A0 (A7 rfl rfl) rfl<|A0 (A7 rfl rfl) rfl<|qm rfl<|qm rfl<|es (ra9 rfl rfl rfl rfl rfl rfl rfl rfl rfl)<|s0<|oB h fun x6 hx6 h=>A0 (C2 rfl rfl rfl) rfl<|B5 (rs:=[(.seq 1 (List.map cI x6.1)),.i x6.2.1,.i x6.2.2]) rfl rfl (A2 (D2 rfl) B6) ((A5p (A29 hscv) hx6).frz)<|qm rfl<|A0 (A7 rfl rfl) rfl<|A0 (A7 rfl rfl) rfl<|A0 (A7 rfl rfl) rfl<|qm rfl<|qm rfl<|qm rfl<|es (ra12 rfl rfl rfl rfl rfl rfl rfl rfl rfl rfl rfl rfl)<|s0 ?_
 refine oB h fun x7 hx7 h=>A0 (C2 rfl rfl rfl) rfl<|B5 (rs:=[(.seq 1 (List.map cI x7.1)),.i x7.2.1,.i x7.2.2]) rfl rfl (A2 (D2 rfl) B6) ((A5p (A29 hscv) hx7).frz)<|qm rfl<|A0 (A7 rfl rfl) rfl<|A0 (A7 rfl rfl) rfl<|A0 (A7 rfl rfl) rfl<|qm rfl<|qm rfl<|qm rfl<|es (ra13 rfl rfl rfl rfl rfl rfl rfl rfl rfl rfl rfl rfl rfl)<|s0<|oB h fun x8 hx8 h=>A0 (C2 rfl rfl rfl) rfl<|B5 (rs:=[(.seq 1 (List.map cI x8.1)),.i x8.2]) rfl rfl (A2 (D2 rfl) (A2 rfl B6)) (B13 (A29 hscv) hx8)<|qm rfl<|A0 (A7 rfl rfl) rfl<|A0 (A7 rfl rfl) rfl<|qm rfl<|qm rfl<|es (.k rfl (.k rfl (.k rfl (.k rfl (.k rfl (.k rfl (.k rfl (.k rfl (.k rfl (.k rfl (.k rfl (.k rfl (.k rfl (.k rfl (.k rfl .n)))))))))))))))<|s0<|oB h fun x9 hx9 h=>A0 (C2 rfl rfl rfl) rfl<|B5 (rs:=[.i x9.1,.i x9.2]) rfl rfl (A2 (D2 rfl) (A2 rfl B6)) ((A2m (A29 hscv) hx9).frz)<|qm rfl<|A0 (A7 rfl rfl) rfl<|A0 (A7 rfl rfl) rfl<|qm rfl<|qm rfl<|es (.k rfl (.k rfl (.k rfl (.k rfl (.k rfl (.k rfl (.k rfl (.k rfl (.k rfl (.k rfl (.k rfl (.k rfl (.k rfl (.k rfl (.k rfl (.k rfl .n))))))))))))))))<|s0<|oB h fun x10 hx10 h=>A0 (C2 rfl rfl rfl) rfl<|B5 (rs:=[(.seq 1 (List.map cI x10.1)),.i x10.2]) rfl rfl (A2 (D2 rfl) B6) ((B12 (A29 hscv) hx10).frz)<|qm rfl<|A0 (A7 rfl rfl) rfl<|A0 (A7 rfl rfl) rfl<|qm rfl<|qm rfl<|es (.k rfl (.k rfl (.k rfl (.k rfl (.k rfl (.k rfl (.k rfl (.k rfl (.k rfl (.k rfl (.k rfl (.k rfl (.k rfl (.k rfl (.k rfl (.k rfl (.k rfl (.k rfl .n))))))))))))))))))<|s0<|oB h fun x11 hx11 h=>A0 (C2 rfl rfl rfl) rfl<|B5 (rs:=[(.seq 1 (List.map cI x11.1)),.i x11.2.1,.i x11.2.2]) rfl rfl (A2 (D2 rfl) B6) ((B11 (A29 hscv) hx11).frz)<|qm rfl<|A0 (A7 rfl rfl) rfl<|A0 (A7 rfl rfl) rfl<|A0 (A7 rfl rfl) rfl<|qm rfl<|qm rfl<|qm rfl<|es (.k rfl (.k rfl (.k rfl (.k rfl (.k rfl (.k rfl (.k rfl (.k rfl (.k rfl (.k rfl (.k rfl (.k rfl (.k rfl (.k rfl (.k rfl (.k rfl (.k rfl (.k rfl (.k rfl (.k rfl .n))))))))))))))))))))<|s0<|oB h fun x23 hx23 h=>oB h fun x26 hx26 h=>oB h fun x30 hx30 h=>oB h fun x34 hx34 h=>oB h fun x38 hx38 h=>oB h fun x41 hx41 h=>qm rfl ?_
 refine A0 (F6 rfl rfl) rfl<|qm rfl<|gp 3 83 (.b ((x3.2.2 == 0) && (x4.2 == 0))) 80 rfl rfl (fun hg12=>?_) (fun hg12=>?_) ?_
 ·exact gT rfl hg12<|qm rfl<|gT rfl hg12<|A0 (F6 rfl rfl) rfl<|A0 (C9 rfl hg12 rfl) rfl<|ge 3 (by rw [hg12]; rfl) rfl rfl
 ·exact nT rfl hg12 rfl<|nT rfl hg12 rfl<|A0 (C8 rfl hg12 rfl) rfl<|ge 3 (by rw [hg12]; rfl) rfl rfl
 refine qm rfl<|gp 3 87 (.b (((x3.2.2 == 0) && (x4.2 == 0)) && (x5.2 == 0))) 84 rfl rfl (fun hg13=>?_) (fun hg13=>?_) ?_
 ·exact gT rfl hg13<|qm rfl<|gT rfl hg13<|A0 (F6 rfl rfl) rfl<|A0 (C9 rfl hg13 rfl) rfl<|ge 3 (by rw [hg13]; rfl) rfl rfl
 ·exact nT rfl hg13 rfl<|nT rfl hg13 rfl<|A0 (C8 rfl hg13 rfl) rfl<|ge 3 (by rw [hg13]; rfl) rfl rfl
 refine qm rfl<|gp 3 91 (.b ((((x3.2.2 == 0) && (x4.2 == 0)) && (x5.2 == 0)) && (x6.2.2 == 0))) 88 rfl rfl (fun hg14=>?_) (fun hg14=>?_) ?_
 ·exact gT rfl hg14<|qm rfl<|gT rfl hg14<|A0 (F6 rfl rfl) rfl<|A0 (C9 rfl hg14 rfl) rfl<|ge 3 (by rw [hg14]; rfl) rfl rfl
 ·exact nT rfl hg14 rfl<|nT rfl hg14 rfl<|A0 (C8 rfl hg14 rfl) rfl<|ge 3 (by rw [hg14]; rfl) rfl rfl
 refine qm rfl<|gp 3 95 (.b (((((x3.2.2 == 0) && (x4.2 == 0)) && (x5.2 == 0)) && (x6.2.2 == 0)) && (x7.2.2 == 9))) 92 rfl rfl (fun hg15=>?_) (fun hg15=>?_) ?_
 ·exact gT rfl hg15<|qm rfl<|gT rfl hg15<|A0 (F6 rfl rfl) rfl<|A0 (C9 rfl hg15 rfl) rfl<|ge 3 (by rw [hg15]; rfl) rfl rfl
 ·exact nT rfl hg15 rfl<|nT rfl hg15 rfl<|A0 (C8 rfl hg15 rfl) rfl<|ge 3 (by rw [hg15]; rfl) rfl rfl
 refine qm rfl<|gp 3 99 (.b ((((((x3.2.2 == 0) && (x4.2 == 0)) && (x5.2 == 0)) && (x6.2.2 == 0)) && (x7.2.2 == 9)) && (x8.2 == 0))) 96 rfl rfl (fun hg16=>?_) (fun hg16=>?_) ?_
 ·exact gT rfl hg16<|qm rfl<|gT rfl hg16<|A0 (F6 rfl rfl) rfl<|A0 (C9 rfl hg16 rfl) rfl<|ge 3 (by rw [hg16]; rfl) rfl rfl
 ·exact nT rfl hg16 rfl<|nT rfl hg16 rfl<|A0 (C8 rfl hg16 rfl) rfl<|ge 3 (by rw [hg16]; rfl) rfl rfl
 refine qm rfl<|gp 3 103 (.b (((((((x3.2.2 == 0) && (x4.2 == 0)) && (x5.2 == 0)) && (x6.2.2 == 0)) && (x7.2.2 == 9)) && (x8.2 == 0)) && (x9.2 == 0))) 100 rfl rfl (fun hg17=>?_) (fun hg17=>?_) ?_
 ·exact gT rfl hg17<|qm rfl<|gT rfl hg17<|A0 (F6 rfl rfl) rfl<|A0 (C9 rfl hg17 rfl) rfl<|ge 3 (by rw [hg17]; rfl) rfl rfl
 ·exact nT rfl hg17 rfl<|nT rfl hg17 rfl<|A0 (C8 rfl hg17 rfl) rfl<|ge 3 (by rw [hg17]; rfl) rfl rfl
 refine qm rfl<|gp 3 107 (.b ((((((((x3.2.2 == 0) && (x4.2 == 0)) && (x5.2 == 0)) && (x6.2.2 == 0)) && (x7.2.2 == 9)) && (x8.2 == 0)) && (x9.2 == 0)) && (x10.2 == 0))) 104 rfl rfl (fun hg18=>?_) (fun hg18=>?_) ?_
 ·exact gT rfl hg18<|qm rfl<|gT rfl hg18<|A0 (F6 rfl rfl) rfl<|A0 (C9 rfl hg18 rfl) rfl<|ge 3 (by rw [hg18]; rfl) rfl rfl
 ·exact nT rfl hg18 rfl<|nT rfl hg18 rfl<|A0 (C8 rfl hg18 rfl) rfl<|ge 3 (by rw [hg18]; rfl) rfl rfl
 refine qm rfl<|gp 3 111 (.b (((((((((x3.2.2 == 0) && (x4.2 == 0)) && (x5.2 == 0)) && (x6.2.2 == 0)) && (x7.2.2 == 9)) && (x8.2 == 0)) && (x9.2 == 0)) && (x10.2 == 0)) && (x11.2.2 == 0))) 108 rfl rfl (fun hg19=>?_) (fun hg19=>?_) ?_
 ·exact gT rfl hg19<|qm rfl<|gT rfl hg19<|A0 (F6 rfl rfl) rfl<|A0 (C9 rfl hg19 rfl) rfl<|ge 3 (by rw [hg19]; rfl) rfl rfl
 ·exact nT rfl hg19 rfl<|nT rfl hg19 rfl<|A0 (C8 rfl hg19 rfl) rfl<|ge 3 (by rw [hg19]; rfl) rfl rfl
 refine qm rfl<|gp 3 115 (.b ((((((((((x3.2.2 == 0) && (x4.2 == 0)) && (x5.2 == 0)) && (x6.2.2 == 0)) && (x7.2.2 == 9)) && (x8.2 == 0)) && (x9.2 == 0)) && (x10.2 == 0)) && (x11.2.2 == 0)) && (x3.1 == 14))) 112 rfl rfl (fun hg20=>?_) (fun hg20=>?_) ?_
 ·exact gT rfl hg20<|qm rfl<|gT rfl hg20<|A0 (F6 rfl rfl) rfl<|A0 (C9 rfl hg20 rfl) rfl<|ge 3 (by rw [hg20]; rfl) rfl rfl
 ·exact nT rfl hg20 rfl<|nT rfl hg20 rfl<|A0 (C8 rfl hg20 rfl) rfl<|ge 3 (by rw [hg20]; rfl) rfl rfl
 refine qm rfl<|gp 4 120 (.b x23) 116 rfl rfl (fun hg21=>?_) (fun hg21=>?_) ?_
 ·refine oB (bt hx23 hg21) fun x22 hx22 hx23=>?_
  obtain rfl:=os hx23
  exact gT rfl hg21<|qm rfl<|gT rfl hg21<|A0 (G7 (rows:=List.map cI [0,2]) rfl rfl (D8 (fun _=>rfl) _)) rfl<|gT rfl hg21<|B5 (rs:=[.b x22]) rfl rfl (A2 rfl (A2 rfl B6)) ((K4 hx22).frz)<|A0 (C9 rfl hg21 rfl) rfl<|ge 4 rfl rfl rfl
 ·obtain rfl:=os (bf hx23 hg21)
  exact nT rfl hg21 rfl<|nT rfl hg21 rfl<|O1 (G6 rfl (by rw [hg21]; rfl)) rfl<|A0 (C8 rfl hg21 rfl) rfl<|ge 4 rfl rfl rfl
 refine qm rfl<|gp 4 125 (.b x26) 121 rfl rfl (fun hg24=>?_) (fun hg24=>?_) ?_
 ·refine oB (bt hx26 hg24) fun x25 hx25 hx26=>?_
  obtain rfl:=os hx26
  exact gT rfl hg24<|qm rfl<|gT rfl hg24<|A0 (G7 (rows:=List.map cI [4,(-1)]) rfl rfl (D8 (fun _=>rfl) _)) rfl<|gT rfl hg24<|B5 (rs:=[.b x25]) rfl rfl (A2 rfl (A2 rfl B6)) ((K4 hx25).frz)<|A0 (C9 rfl hg24 rfl) rfl<|ge 4 rfl rfl rfl
 ·obtain rfl:=os (bf hx26 hg24)
  exact nT rfl hg24 rfl<|nT rfl hg24 rfl<|O1 (G6 rfl (by rw [hg24]; rfl)) rfl<|A0 (C8 rfl hg24 rfl) rfl<|ge 4 rfl rfl rfl
 refine qm rfl<|gp 3 129 (.b (x26 && (x5.1 == 14))) 126 rfl rfl (fun hg27=>?_) (fun hg27=>?_) ?_
 ·exact gT rfl hg27<|qm rfl<|gT rfl hg27<|A0 (F6 rfl rfl) rfl<|A0 (C9 rfl hg27 rfl) rfl<|ge 3 (by rw [hg27]; rfl) rfl rfl
 ·exact nT rfl hg27 rfl<|nT rfl hg27 rfl<|A0 (C8 rfl hg27 rfl) rfl<|ge 3 (by rw [hg27]; rfl) rfl rfl
 refine qm rfl<|gp 4 134 (.b x30) 130 rfl rfl (fun hg28=>?_) (fun hg28=>?_) ?_
 ·refine oB (bt hx30 hg28) fun x29 hx29 hx30=>?_
  obtain rfl:=os hx30
  exact gT rfl hg28<|qm rfl<|gT rfl hg28<|A0 (G7 (rows:=List.map cI [1,0,2]) rfl rfl (D8 (fun _=>rfl) _)) rfl<|gT rfl hg28<|B5 (rs:=[.b x29]) rfl rfl (A2 rfl (A2 rfl B6)) ((K4 hx29).frz)<|A0 (C9 rfl hg28 rfl) rfl<|ge 4 rfl rfl rfl
 ·obtain rfl:=os (bf hx30 hg28)
  exact nT rfl hg28 rfl<|nT rfl hg28 rfl<|O1 (G6 rfl (by rw [hg28]; rfl)) rfl<|A0 (C8 rfl hg28 rfl) rfl<|ge 4 rfl rfl rfl
 refine qm rfl<|gp 3 138 (.b (x30 && (x6.2.1 == 14))) 135 rfl rfl (fun hg31=>?_) (fun hg31=>?_) ?_
 ·exact gT rfl hg31<|qm rfl<|gT rfl hg31<|A0 (F6 rfl rfl) rfl<|A0 (C9 rfl hg31 rfl) rfl<|ge 3 (by rw [hg31]; rfl) rfl rfl
 ·exact nT rfl hg31 rfl<|nT rfl hg31 rfl<|A0 (C8 rfl hg31 rfl) rfl<|ge 3 (by rw [hg31]; rfl) rfl rfl
 refine qm rfl<|gp 4 143 (.b x34) 139 rfl rfl (fun hg32=>?_) (fun hg32=>?_) ?_
 ·refine oB (bt hx34 hg32) fun x33 hx33 hx34=>?_
  obtain rfl:=os hx34
  exact gT rfl hg32<|qm rfl<|gT rfl hg32<|A0 (G7 (rows:=List.map cI [2]) rfl rfl (D8 (fun _=>rfl) _)) rfl<|gT rfl hg32<|B5 (rs:=[.b x33]) rfl rfl (A2 rfl (A2 rfl B6)) ((K4 hx33).frz)<|A0 (C9 rfl hg32 rfl) rfl<|ge 4 rfl rfl rfl
 ·obtain rfl:=os (bf hx34 hg32)
  exact nT rfl hg32 rfl<|nT rfl hg32 rfl<|O1 (G6 rfl (by rw [hg32]; rfl)) rfl<|A0 (C8 rfl hg32 rfl) rfl<|ge 4 rfl rfl rfl
 refine qm rfl<|gp 3 147 (.b (x34 && (x9.1 == 10))) 144 rfl rfl (fun hg35=>?_) (fun hg35=>?_) ?_
 ·exact gT rfl hg35<|qm rfl<|gT rfl hg35<|A0 (F6 rfl rfl) rfl<|A0 (C9 rfl hg35 rfl) rfl<|ge 3 (by rw [hg35]; rfl) rfl rfl
 ·exact nT rfl hg35 rfl<|nT rfl hg35 rfl<|A0 (C8 rfl hg35 rfl) rfl<|ge 3 (by rw [hg35]; rfl) rfl rfl
 refine qm rfl<|gp 4 152 (.b x38) 148 rfl rfl (fun hg36=>?_) (fun hg36=>?_) ?_
 ·refine oB (bt hx38 hg36) fun x37 hx37 hx38=>?_
  obtain rfl:=os hx38
  exact gT rfl hg36<|qm rfl<|gT rfl hg36<|A0 (G7 (rows:=List.map cI [0]) rfl rfl (D8 (fun _=>rfl) _)) rfl<|gT rfl hg36<|B5 (rs:=[.b x37]) rfl rfl (A2 rfl (A2 rfl B6)) ((K4 hx37).frz)<|A0 (C9 rfl hg36 rfl) rfl<|ge 4 rfl rfl rfl
 ·obtain rfl:=os (bf hx38 hg36)
  exact nT rfl hg36 rfl<|nT rfl hg36 rfl<|O1 (G6 rfl (by rw [hg36]; rfl)) rfl<|A0 (C8 rfl hg36 rfl) rfl<|ge 4 rfl rfl rfl
 refine qm rfl<|gp 4 157 (.b x41) 153 rfl rfl (fun hg39=>?_) (fun hg39=>?_) ?_
 ·refine oB (bt hx41 hg39) fun x40 hx40 hx41=>?_
  obtain rfl:=os hx41
  exact gT rfl hg39<|qm rfl<|gT rfl hg39<|A0 (G7 (rows:=List.map cI [0,1]) rfl rfl (D8 (fun _=>rfl) _)) rfl<|gT rfl hg39<|B5 (rs:=[.b x40]) rfl rfl (A2 rfl (A2 rfl B6)) ((K4 hx40).frz)<|A0 (C9 rfl hg39 rfl) rfl<|ge 4 rfl rfl rfl
 ·obtain rfl:=os (bf hx41 hg39)
  exact nT rfl hg39 rfl<|nT rfl hg39 rfl<|O1 (G6 rfl (by rw [hg39]; rfl)) rfl<|A0 (C8 rfl hg39 rfl) rfl<|ge 4 rfl rfl rfl
 refine qm rfl<|gp 3 161 (.b (x41 && (x11.2.1 == 14))) 158 rfl rfl (fun hg42=>?_) (fun hg42=>?_) ?_
 ·exact gT rfl hg42<|qm rfl<|gT rfl hg42<|A0 (F6 rfl rfl) rfl<|A0 (C9 rfl hg42 rfl) rfl<|ge 3 (by rw [hg42]; rfl) rfl rfl
 ·exact nT rfl hg42 rfl<|nT rfl hg42 rfl<|A0 (C8 rfl hg42 rfl) rfl<|ge 3 (by rw [hg42]; rfl) rfl rfl
 refine qm rfl<|es (ra1 rfl)<|C4 ?_
 obtain rfl:=os h
 exact retq trivial (B1 rfl B8) (A6 rfl B9) (A3 A8 B3)
end Ds
end
section
set_option maxRecDepth 100000
namespace Ds
theorem awake:A0g = some true:= by decide +kernel
end Ds
end
section
set_option maxRecDepth 100000
set_option maxHeartbeats 0
namespace Ds
open Go Am Go.Proofs.Ytdkflofgolehkaa.Cd
def Z0 (a0:DrRoom) (a1:(List Int)) (s1:(Int × (List Int))) (s5:(Int × Int)):Option ((Int × Int) ⊕ Int) :=
 if (decide (s5.2 < (List.length a1:Int))) = true then
  (idx a1 s5.2).bind fun x8 =>
  (idx a0.Figures x8).bind fun x9 =>
  (idx a0.Persons s5.2).bind fun x10 =>
  (A0m x9 x10).bind fun x11 =>
  (A14 x11 0).bind fun x12 =>
  if (!x12) = true then
  some (.inl (s5.1,(w64 (s5.2 + 1))))
  else
  (idx x9.Looks 0).bind fun x14 =>
  if (x14 == s1.1) = true then
   (idx x10.Looks 0).bind fun x16 =>
   if (x16 == s1.1) = true then
   some (.inl ((w64 ((w64 (s5.1 + x9.Hair)) - x10.Hair)),(w64 (s5.2 + 1))))
   else
   some (.inl ((w64 (s5.1 + x9.Hair)),(w64 (s5.2 + 1))))
  else
   (idx x10.Looks 0).bind fun x18 =>
   if (x18 == s1.1) = true then
   some (.inl ((w64 (s5.1 - x10.Hair)),(w64 (s5.2 + 1))))
   else
   some (.inl (s5.1,(w64 (s5.2 + 1))))
 else
  some (.inr s5.1)
def A1k (a0:DrRoom) (a1:(List Int)) (s1:(Int × (List Int))):Option ((Int × (List Int)) ⊕ (List Int)) :=
 if (decide (s1.1 < (List.length a0.Ounces:Int))) = true then
  (idx a0.Ounces s1.1).bind fun x4 =>
  (loop (Z0 a0 a1 s1) (x4,0)).bind fun (o20:Int) =>
  (app 8 s1.2 [o20]).bind fun x21 =>
  some (.inl ((w64 (s1.1 + 1)),x21))
 else
  some (.inr s1.2)
def A25 (a0:DrRoom) (a1:(List Int)):Option (List Int) :=
 (loop (A1k a0 a1) (0,([]:List Int))).bind fun (o22:(List Int)) =>
 some o22
theorem A9v {c:Sc} {H:A1} {a0:DrRoom} {a1:(List Int)} {r:(List Int)} (h:A25 a0 a1 = some r) :
  E5 tab c H (.fn (.func 59) [] []) [(.agg (A4 a0)),(.seq 1 (List.map cI a1))] [(.fresh 1 (List.map cI r))]:= by
 unfold A25 at h
 refine cE rfl rfl<|sg 0 rfl<|A0 (F3 (cs:=A4 a0) rfl rfl rfl) rfl<|qm rfl<|es (ra2 rfl rfl)<|sg 1 rfl<|A0 A3m rfl<|es (ra3 rfl rfl rfl)<|B7<|s0<|qm rfl<|es (ra4 rfl rfl rfl rfl)<|C3<|oB h fun o22 ho22 h=>wl (fun s1=>[(1,(.seq 1 (List.map cI a1))),(2,(.ptr (H.length + 0) 0)),(5,(.asl (H.length + 1) (List.length s1.2))),(6,.i s1.1)]) (fun (q2:Unit) s1=>[(.cells (A4 a0)),(.arr 1 false (List.map cI s1.2))]) 2 (fun r e s' H'=>PX 0 [(5,(.asl (H.length + 1) (List.length r)))] (H++[(.cells (A4 a0)),(.arr 1 false (List.map cI r))]) e s' H') () ho22 rfl rfl (fun _ _=>rfl) (fun _=>rfl) rfl (fun s1=>(bdc E8 (bdc (F1 rfl) (bdc (A08 rfl) (bdc A8 bdn))))) (fun q2 s1 ys1 hs1=>?_) ?_
 ·unfold A1k at hs1
  refine B7<|s0<|qm rfl<|A0 (D3 rfl) rfl<|A0 (C7 rfl rfl rfl) rfl<|A0 (D9 (f:=cI) rfl) rfl<|A0 (I4 rfl rfl) rfl<|es (ra5 rfl rfl rfl rfl rfl)<|wi hs1 rfl (fun hc3 hs1=>?_) fun hc3 hs1=>?_
  ·refine C1<|B7<|C3<|s0<|oB hs1 fun x4 hx4 hs1=>A0 (D3 rfl) rfl<|A0 (C7 rfl rfl rfl) rfl<|qm rfl<|A0 (E9 (f:=cI) rfl rfl hx4) rfl<|A0 (F5 rfl rfl) rfl<|qm rfl<|es (ra5 rfl rfl rfl rfl rfl)<|B7<|s0<|qm rfl<|es (ra6 rfl rfl rfl rfl rfl rfl)<|C3<|oB hs1 fun o20 ho20 hs1=>wl (fun s5=>[(1,(.seq 1 (List.map cI a1))),(2,(.ptr (H.length + 0) 0)),(5,(.asl (H.length + 1) (List.length s1.2))),(6,.i s1.1),(7,.i s5.1),(8,.i s5.2)]) (fun (q6:Unit) s5=>[(.cells (A4 a0)),(.arr 1 false (List.map cI s1.2))]) 2 (fun r e s' H'=>PX 2 [(1,(.seq 1 (List.map cI a1))),(2,(.ptr (H.length + 0) 0)),(5,(.asl (H.length + 1) (List.length s1.2))),(6,.i s1.1),(7,.i r)] (H++[(.cells (A4 a0)),(.arr 1 false (List.map cI s1.2))]) e s' H') () ho20 rfl rfl (fun _ _=>rfl) (fun _=>rfl) rfl (fun s5=>(bdc E8 (bdc (F1 rfl) (bdc (A08 rfl) (bdc A8 (bdc A8 (bdc A8 bdn))))))) (fun q6 s5 ys5 hs5=>?_) ?_
   ·unfold Z0 at hs5
    refine B7<|s0<|qm rfl<|qm rfl<|A0 (D9 (f:=cI) rfl) rfl<|A0 (I4 rfl rfl) rfl<|es (ra7 rfl rfl rfl rfl rfl rfl rfl)<|wi hs5 rfl (fun hc7 hs5=>?_) fun hc7 hs5=>?_
    ·refine C1<|B7<|C3<|sg 2 rfl<|oB hs5 fun x8 hx8 hs5=>oB hs5 fun x9 hx9 hs5=>oB hs5 fun x10 hx10 hs5=>A0 (D3 rfl) rfl<|R8 [2,3] (Z4 [2,3] rfl M0 rfl rfl) (seen0 rfl) (C7 rfl rfl rfl) rfl<|qm rfl<|qm rfl<|R8 [2,3] (Z4 [2,3] rfl M0 rfl rfl) (seen0 rfl) (E9 (f:=cI) rfl rfl hx8) rfl<|R8 [2,3] (Z4 [2,3] rfl M0 rfl rfl) (seen0 rfl) (F5 rfl rfl) rfl<|R8 [2,3] (Z4 [2,3] rfl M0 rfl rfl) (seen0 rfl) (E9 (f:=A5) rfl rfl hx9) rfl<|R8 [2,3] (Z4 [2,3] rfl M0 rfl rfl) (seen0 rfl) (M6 rfl rfl) rfl<|A0 E4 rfl<|A0 E4 rfl<|A88 [0] [(.cells (A4 a0)),(.arr 1 false (List.map cI s1.2)),(.cells (A5 x9)),(.cells (A5 (DrLook.mk (ByteArray.mk #[]) ([]:List Int) 0)))] (Z4 [] rfl (A9h rfl A6w M0) rfl rfl) (seen0 rfl) (D0 (ds:=(A5 x9)) rfl rfl rfl rfl (C5 rfl) rfl) rfl rfl rfl<|A0 (D3 rfl) rfl<|R8 [2,3] (Z4 [2,3] rfl M0 rfl rfl) (B2l (b:=H.length + 0) rfl (A4f (A0r _ rfl) A8l)) (C7 rfl rfl rfl) rfl<|qm rfl<|R8 [2,3] (Z4 [2,3] rfl M0 rfl rfl) (A9e rfl) (E9 (f:=A5) rfl rfl hx10) rfl<|R8 [2,3] (Z4 [2,3] rfl M0 rfl rfl) (A9e rfl) (M6 rfl rfl) rfl<|H6 (D0 (ds:=(A5 x10)) rfl rfl rfl rfl (C5 rfl) rfl) rfl<|es (ra8 rfl rfl rfl rfl rfl rfl rfl rfl)<|B7<|s0<|oB hs5 fun x11 hx11 hs5=>oB hs5 fun x12 hx12 hs5=>A0 (C2 rfl rfl rfl) rfl<|A0 (C2 rfl rfl rfl) rfl<|B5 (rs:=[(.seq 1 (List.map cI x11))]) rfl rfl (A2 (D2 rfl) (A2 (D2 rfl) B6)) ((A4s hx11).frz)<|B5 (rs:=[.b x12]) rfl rfl (A2 rfl (A2 rfl B6)) ((A35 hx12).frz)<|A0 (R6 rfl) rfl<|es (ra9 rfl rfl rfl rfl rfl rfl rfl rfl rfl)<|wi hs5 rfl (fun hc13 hs5=>?_) fun hc13 hs5=>?_
     ·refine F4<|r0<|qm rfl<|A0 (E7 rfl rfl) rfl<|qm rfl<|en (ra6 rfl rfl rfl rfl rfl rfl) ?_
      cases hs5
      exact lnT () rfl (su6 rfl rfl rfl rfl rfl rfl)
     ·refine C1<|B7<|s0<|oB hs5 fun x14 hx14 hs5=>A0 (D3 rfl) rfl<|A0 (C7 rfl rfl rfl) rfl<|A0 (E9 (f:=cI) rfl rfl hx14) rfl<|A0 (F5 rfl rfl) rfl<|qm rfl<|A0 (F6 rfl rfl) rfl<|es (ra9 rfl rfl rfl rfl rfl rfl rfl rfl rfl)<|wi hs5 rfl (fun hc15 hs5=>?_) fun hc15 hs5=>?_
      ·refine r0<|qm rfl<|A0 (D3 rfl) rfl<|A0 (C7 rfl rfl rfl) rfl<|A0 (E7 rfl rfl) rfl<|qm rfl<|en (ra7 rfl rfl rfl rfl rfl rfl rfl)<|s0<|oB hs5 fun x16 hx16 hs5=>A0 (D3 rfl) rfl<|A0 (C7 rfl rfl rfl) rfl<|A0 (E9 (f:=cI) rfl rfl hx16) rfl<|A0 (F5 rfl rfl) rfl<|qm rfl<|A0 (F6 rfl rfl) rfl<|es (ra8 rfl rfl rfl rfl rfl rfl rfl rfl)<|wi hs5 rfl (fun hc17 hs5=>?_) fun hc17 hs5=>?_
       ·refine r0<|qm rfl<|A0 (D3 rfl) rfl<|A0 (C7 rfl rfl rfl) rfl<|A0 (Z8 rfl rfl) rfl<|qm rfl<|en (ra6 rfl rfl rfl rfl rfl rfl)<|r0<|qm rfl<|A0 (E7 rfl rfl) rfl<|qm rfl<|en (ra6 rfl rfl rfl rfl rfl rfl) ?_
        cases hs5
        exact lnT () rfl (su6 rfl rfl rfl rfl rfl rfl)
       ·refine C1<|r0<|qm rfl<|A0 (E7 rfl rfl) rfl<|qm rfl<|en (ra6 rfl rfl rfl rfl rfl rfl) ?_
        cases hs5
        exact lnT () rfl (su6 rfl rfl rfl rfl rfl rfl)
      ·refine C1<|s0<|oB hs5 fun x18 hx18 hs5=>A0 (D3 rfl) rfl<|A0 (C7 rfl rfl rfl) rfl<|A0 (E9 (f:=cI) rfl rfl hx18) rfl<|A0 (F5 rfl rfl) rfl<|qm rfl<|A0 (F6 rfl rfl) rfl<|es (ra8 rfl rfl rfl rfl rfl rfl rfl rfl)<|wi hs5 rfl (fun hc19 hs5=>?_) fun hc19 hs5=>?_
       ·refine r0<|qm rfl<|A0 (D3 rfl) rfl<|A0 (C7 rfl rfl rfl) rfl<|A0 (Z8 rfl rfl) rfl<|qm rfl<|en (ra6 rfl rfl rfl rfl rfl rfl)<|r0<|qm rfl<|A0 (E7 rfl rfl) rfl<|qm rfl<|en (ra6 rfl rfl rfl rfl rfl rfl) ?_
        cases hs5
        exact lnT () rfl (su6 rfl rfl rfl rfl rfl rfl)
       ·refine C1<|r0<|qm rfl<|A0 (E7 rfl rfl) rfl<|qm rfl<|en (ra6 rfl rfl rfl rfl rfl rfl) ?_
        cases hs5
        exact lnT () rfl (su6 rfl rfl rfl rfl rfl rfl)
    ·refine F4 ?_
     obtain rfl:=os hs5
     exact lx rfl px (su5 rfl rfl rfl rfl rfl)
   ·rintro e s' H' - ⟨rfl,rfl,rfl⟩
    refine r0<|oB hs1 fun x21 hx21 hs1=>qm rfl<|qm rfl<|A0 (G7 (rows:=List.map cI [o20]) rfl rfl (D8 (fun _=>rfl) _)) rfl<|R4 (A1b (f:=cI) rfl rfl rfl rfl W2 (fun _=>rfl) hx21) rfl<|qm rfl<|en (ra4 rfl rfl rfl rfl)<|r0<|qm rfl<|A0 (E7 rfl rfl) rfl<|qm rfl<|en (ra4 rfl rfl rfl rfl) ?_
    cases hs1
    exact lnT () rfl (su4 rfl rfl rfl rfl)
  ·refine F4 ?_
   obtain rfl:=os hs1
   exact lx rfl px (su1 rfl)
 ·rintro e s' H' - ⟨rfl,rfl,rfl⟩
  refine s0<|qm rfl<|qm rfl<|es (ra1 rfl)<|C4 ?_
  obtain rfl:=os h
  exact retq trivial (B1 rfl B8) (A6 (A2o rfl (List.length_map _)) B9) (A3 V7 B3)
def A0o (a0:(List Int)) (s1:(Int × Int × (List Int))):Option ((Int × Int × (List Int)) ⊕ (Int × (List Int))) :=
 if (decide (s1.2.1 < (List.length a0:Int))) = true then
  (idx a0 s1.2.1).bind fun x4 =>
  (app 8 s1.2.2 [(A8a 0 (w64 (0 - x4)))]).bind fun x5 =>
  some (.inl ((w64 (s1.1 + (A8a 0 (w64 (0 - x4))))),(w64 (s1.2.1 + 1)),x5))
 else
  some (.inr (s1.1,s1.2.2))
def A3n (a0:(List Int)):Option ((List Int) × Int) :=
 (loop (A0o a0) (0,0,([]:List Int))).bind fun (o6:(Int × (List Int))) =>
 some (o6.2,o6.1)
theorem B67 {c:Sc} {H:A1} {a0:(List Int)} {r:((List Int) × Int)} (h:A3n a0 = some r) :
  E5 tab c H (.fn (.func 79) [] []) [(.seq 1 (List.map cI a0))] [(.fresh 1 (List.map cI r.1)),.i r.2]:= by
 unfold A3n at h
 refine cE rfl rfl<|s0<|qm rfl<|qm rfl<|es (ra1 rfl)<|sg 0 rfl<|A0 A3m rfl<|es (ra2 rfl rfl)<|s0<|qm rfl<|es (ra3 rfl rfl rfl)<|B7<|s0<|qm rfl<|es (ra4 rfl rfl rfl rfl)<|C3<|oB h fun o6 ho6 h=>wl (fun s1=>[(0,(.seq 1 (List.map cI a0))),(4,(.asl (H.length + 0) (List.length s1.2.2))),(5,.i s1.1),(6,.i s1.2.1)]) (fun (q2:Unit) s1=>[(.arr 1 false (List.map cI s1.2.2))]) 1 (fun r e s' H'=>PX 0 [(4,(.asl (H.length + 0) (List.length r.2))),(5,.i r.1)] (H++[(.arr 1 false (List.map cI r.2))]) e s' H') () ho6 rfl rfl (fun _ _=>rfl) (fun _=>rfl) rfl (fun s1=>(bdc E8 (bdc (A08 rfl) (bdc A8 (bdc A8 bdn))))) (fun q2 s1 ys1 hs1=>?_) ?_
 ·unfold A0o at hs1
  refine B7<|s0<|qm rfl<|qm rfl<|A0 (D9 (f:=cI) rfl) rfl<|A0 (I4 rfl rfl) rfl<|es (ra5 rfl rfl rfl rfl rfl)<|wi hs1 rfl (fun hc3 hs1=>?_) fun hc3 hs1=>?_
  ·refine C1<|B7<|C3<|s0<|oB hs1 fun x4 hx4 hs1=>qm rfl<|qm rfl<|A0 (E9 (f:=cI) rfl rfl hx4) rfl<|A0 (F5 rfl rfl) rfl<|A0 (Z8 rfl rfl) rfl<|A0 (D59 rfl rfl) rfl<|qm rfl<|es (ra5 rfl rfl rfl rfl rfl)<|s0<|oB hs1 fun x5 hx5 hs1=>qm rfl<|qm rfl<|A0 (G7 (rows:=List.map cI [(A8a 0 (w64 (0 - x4)))]) rfl rfl (D8 (fun _=>rfl) _)) rfl<|R4 (A1b (f:=cI) rfl rfl rfl rfl W2 (fun _=>rfl) hx5) rfl<|qm rfl<|es (ra5 rfl rfl rfl rfl rfl)<|r0<|qm rfl<|qm rfl<|A0 (E7 rfl rfl) rfl<|qm rfl<|en (ra4 rfl rfl rfl rfl)<|r0<|qm rfl<|A0 (E7 rfl rfl) rfl<|qm rfl<|en (ra4 rfl rfl rfl rfl) ?_
   cases hs1
   exact lnT () rfl (su4 rfl rfl rfl rfl)
  ·refine F4 ?_
   obtain rfl:=os hs1
   exact lx rfl px (su2 rfl rfl)
 ·rintro e s' H' - ⟨rfl,rfl,rfl⟩
  refine s0<|qm rfl<|qm rfl<|qm rfl<|qm rfl<|es (ra2 rfl rfl)<|C4 ?_
  obtain rfl:=os h
  exact retq trivial (B1 rfl (B1 rfl B8)) (A6 (A2o rfl (List.length_map _)) (A6 rfl B9)) (A3 V7 (A3 A8 B3))
def S0 (a0:DrRoom) (a1:(List Int)):Option Bool :=
 (A25 a0 a1).bind fun x1 =>
 (A3n x1).bind fun x2 =>
 some (x2.2 == 0)
theorem A59 {c:Sc} {H:A1} {a0:DrRoom} {a1:(List Int)} {r:Bool} (h:S0 a0 a1 = some r) :
  E5 tab c H (.fn (.func 39) [] []) [(.agg (A4 a0)),(.seq 1 (List.map cI a1))] [.b r]:= by
 unfold S0 at h
 refine cE rfl rfl<|sg 0 rfl<|A0 (F3 (cs:=A4 a0) rfl rfl rfl) rfl<|qm rfl<|es (ra2 rfl rfl)<|s0<|oB h fun x1 hx1 h=>oB h fun x2 hx2 h=>A0 (C2 rfl rfl rfl) rfl<|qm rfl<|B5 (rs:=[(.seq 1 (List.map cI x1))]) rfl rfl (A2 (D2 rfl) (A2 rfl B6)) ((A9v hx1).frz)<|B5 (rs:=[(.seq 1 (List.map cI x2.1)),.i x2.2]) rfl rfl (A2 rfl B6) ((B67 hx2).frz)<|qm rfl<|A0 (A7 rfl rfl) rfl<|A0 (A7 rfl rfl) rfl<|qm rfl<|qm rfl<|es (ra1 rfl)<|s0<|qm rfl<|A0 (F6 rfl rfl) rfl<|qm rfl<|es (ra1 rfl)<|C4 ?_
 obtain rfl:=os h
 exact retq trivial (B1 rfl B8) (A6 rfl B9) (A3 A8 B3)
def A2s (a0:DrRoom) (a1:(List Int)) (s1:(Int × Int)):Option ((Int × Int) ⊕ Int) :=
 if (decide (s1.2 < (List.length a1:Int))) = true then
  (idx a1 s1.2).bind fun x4 =>
  (idx a0.Figures x4).bind fun x5 =>
  (idx a0.Persons s1.2).bind fun x6 =>
  (A4e a0 x5 x6).bind fun x7 =>
  some (.inl ((w64 (s1.1 + x7)),(w64 (s1.2 + 1))))
 else
  some (.inr s1.1)
def A15 (a0:DrRoom) (a1:(List Int)):Option Int :=
 (loop (A2s a0 a1) (0,0)).bind fun (o8:Int) =>
 some o8
theorem B17 {c:Sc} {H:A1} {a0:DrRoom} {a1:(List Int)} {r:Int} (h:A15 a0 a1 = some r) :
  E5 tab c H (.fn (.func 41) [] []) [(.agg (A4 a0)),(.seq 1 (List.map cI a1))] [.i r]:= by
 unfold A15 at h
 refine cE rfl rfl<|sg 0 rfl<|A0 (F3 (cs:=A4 a0) rfl rfl rfl) rfl<|qm rfl<|es (ra2 rfl rfl)<|s0<|qm rfl<|es (ra3 rfl rfl rfl)<|B7<|s0<|qm rfl<|es (ra4 rfl rfl rfl rfl)<|C3<|oB h fun o8 ho8 h=>wl (fun s1=>[(1,(.seq 1 (List.map cI a1))),(2,(.ptr (H.length + 0) 0)),(5,.i s1.1),(6,.i s1.2)]) (fun (q2:Unit) s1=>[(.cells (A4 a0))]) 1 (fun r e s' H'=>PX 0 [(5,.i r)] (H++[(.cells (A4 a0))]) e s' H') () ho8 rfl rfl (fun _ _=>rfl) (fun _=>rfl) rfl (fun s1=>(bdc E8 (bdc (F1 rfl) (bdc A8 (bdc A8 bdn))))) (fun q2 s1 ys1 hs1=>?_) ?_
 ·unfold A2s at hs1
  refine B7<|s0<|qm rfl<|qm rfl<|A0 (D9 (f:=cI) rfl) rfl<|A0 (I4 rfl rfl) rfl<|es (ra5 rfl rfl rfl rfl rfl)<|wi hs1 rfl (fun hc3 hs1=>?_) fun hc3 hs1=>?_
  ·refine C1<|B7<|C3<|r0<|oB hs1 fun x4 hx4 hs1=>oB hs1 fun x5 hx5 hs1=>oB hs1 fun x6 hx6 hs1=>oB hs1 fun x7 hx7 hs1=>A0 (C2 rfl rfl rfl) rfl<|A0 (D3 rfl) rfl<|A0 (C7 rfl rfl rfl) rfl<|qm rfl<|qm rfl<|A0 (E9 (f:=cI) rfl rfl hx4) rfl<|A0 (F5 rfl rfl) rfl<|A0 (E9 (f:=A5) rfl rfl hx5) rfl<|A0 (M6 rfl rfl) rfl<|A0 (D3 rfl) rfl<|A0 (C7 rfl rfl rfl) rfl<|qm rfl<|A0 (E9 (f:=A5) rfl rfl hx6) rfl<|A0 (M6 rfl rfl) rfl<|B5 (rs:=[.i x7]) rfl rfl (A2 (D2 rfl) (A2 (D2 rfl) (A2 (D2 rfl) B6))) ((B16 hx7).frz)<|qm rfl<|A0 (E7 rfl rfl) rfl<|qm rfl<|en (ra4 rfl rfl rfl rfl)<|r0<|qm rfl<|A0 (E7 rfl rfl) rfl<|qm rfl<|en (ra4 rfl rfl rfl rfl) ?_
   cases hs1
   exact lnT () rfl (su4 rfl rfl rfl rfl)
  ·refine F4 ?_
   obtain rfl:=os hs1
   exact lx rfl px (su1 rfl)
 ·rintro e s' H' - ⟨rfl,rfl,rfl⟩
  refine s0<|qm rfl<|qm rfl<|es (ra1 rfl)<|C4 ?_
  obtain rfl:=os h
  exact retq trivial (B1 rfl B8) (A6 rfl B9) (A3 A8 B3)
end Ds
end
section
namespace Ds
open Go Am
abbrev Prs:=List (Nat × DrLook)
def cst (r:DrRoom) (x:Nat × DrLook):Int:=one r r.Figures[x.1]! x.2
def hr (r:DrRoom) (c:Nat) (x:Nat × DrLook):Int:=A7h r.Figures[x.1]! x.2 (c:Int)
def A7p (r:DrRoom) (z:Prs):Int:=sm (z.map (cst r))
def E3 (r:DrRoom) (z:Prs) (c:Nat):Int:=r.Ounces.getD c 0 + sm (z.map (hr r c))
def J0 (r:DrRoom) (z:Prs):dress_plan:=⟨ints (z.map (·.1)),A7p r z,⟨E3 r z 0,E3 r z 1,E3 r z 2,E3 r z 3⟩⟩
def B4y (r:DrRoom) (z:Prs):Prop:=z.length≤5∧∀ x ∈ z,x.1 < r.Figures.length∧LkOk r (-1) x.2
theorem D0w {r:DrRoom} (ok:RmOk r) (x:Nat × DrLook):0≤cst r x∧cst r x≤400:=D18 ok _ _
theorem C12 {r:DrRoom} (ok:RmOk r) (z:Prs):0≤A7p r z∧A7p r z≤400 * z.length:= by
 have:=C4p (a:=0) (b:=400) (l:=z.map (cst r)) fun x hx=>by
  obtain ⟨k,_,rfl⟩:=List.mem_map.mp hx
  exact D0w ok k
 rw [List.length_map] at this
 unfold A7p; omega
theorem D5a {r:DrRoom} (ok:RmOk r) (c:Nat) {x:Nat × DrLook} (h:x.1 < r.Figures.length∧LkOk r (-1) x.2):-50≤hr r c x∧hr r c x≤50:= by
 have h1:=(ok.figure _ (J4 h.1)).hair
 have h2:=h.2.hair
 unfold hr A7h
 split
 ·split <;> split <;> omega
 ·omega
theorem D2d {r:DrRoom} (ok:RmOk r) (c:Nat):0≤r.Ounces.getD c 0∧r.Ounces.getD c 0≤50:= by
 rw [List.getD_eq_getElem?_getD]
 by_cases h:c < r.Ounces.length
 ·rw [List.getElem?_eq_getElem h]; exact ok.ounce _ (List.getElem_mem h)
 ·rw [List.getElem?_eq_none (by omega)]; decide
theorem B1u {r:DrRoom} (ok:RmOk r) {z:Prs} (hz:B4y r z) (c:Nat):-250≤E3 r z c∧E3 r z c≤300:= by
 have:=C4p (a:=-50) (b:=50) (l:=z.map (hr r c)) fun x hx=>by
  obtain ⟨k,hk,rfl⟩:=List.mem_map.mp hx
  exact D5a ok c (hz.2 k hk)
 have h2:=D2d ok c
 have h3:=hz.1
 rw [List.length_map] at this
 unfold E3; omega
theorem B4y.take {r:DrRoom} {z:Prs} (h:B4y r z) (n:Nat):B4y r (z.take n) :=
 ⟨by have:=h.1; rw [List.length_take]; omega,fun x hx=>h.2 x (List.mem_of_mem_take hx)⟩
theorem C91 (r:DrRoom) (z:Prs) (x:Nat × DrLook):A7p r (z++[x]) = A7p r z + cst r x:= by
 unfold A7p; rw [List.map_append,A4g]; simp [sm]
theorem C5v (r:DrRoom) (z:Prs) (x:Nat × DrLook) (c:Nat):E3 r (z++[x]) c = E3 r z c + hr r c x:= by
 unfold E3; rw [List.map_append,A4g]; simp [sm]; omega
theorem C8a {r:DrRoom} (ok:RmOk r) {z:Prs} (hz:B4y r z) {f:Nat} {p:DrLook} (hx:f < r.Figures.length∧LkOk r (-1) p):T7 (J0 r z) (f:Int) (chg r r.Figures[f]! p) = some (J0 r (z++[(f,p)])):= by
 have hl:=hz.1
 have hs:=C12 ok z
 have hc:=D18 ok r.Figures[f]! p
 have hb:∀c:Nat,w64 (E3 r z c + A7h r.Figures[f]! p (c:Int)) = E3 r (z++[(f,p)]) c:=fun c=>by
  have h1:=B1u ok hz c
  have h2:=D5a ok c (x:=(f,p)) hx
  rw [C5v]
  have h2':-50≤A7h r.Figures[f]! p (c:Int)∧A7h r.Figures[f]! p (c:Int)≤50:=h2
  exact E2 (by omega)
 unfold T7
 rw [Z7 (by omega) (by show (ints _).length + 1≤_; rw [L6,List.length_map]; omega)]
 simp only [Option.bind_some]
 have h0:=hb 0
 have h1:=hb 1
 have h2:=hb 2
 have h3:=hb 3
 have hloop:loop (S7 (chg r r.Figures[f]! p)) (0,(J0 r z).left_) = some (J0 r (z++[(f,p)])).left_:= by
  have:=K1 (b:=S7 (chg r r.Figures[f]! p)) (fun i=>((i:Int),(match i with
   | 0=>⟨E3 r z 0,E3 r z 1,E3 r z 2,E3 r z 3⟩
   | 1=>⟨E3 r (z++[(f,p)]) 0,E3 r z 1,E3 r z 2,E3 r z 3⟩
   | 2=>⟨E3 r (z++[(f,p)]) 0,E3 r (z++[(f,p)]) 1,E3 r z 2,E3 r z 3⟩
   | 3=>⟨E3 r (z++[(f,p)]) 0,E3 r (z++[(f,p)]) 1,E3 r (z++[(f,p)]) 2,E3 r z 3⟩
   | _=>(J0 r (z++[(f,p)])).left_:Ar4 Int))) 4 (r:=(J0 r (z++[(f,p)])).left_) (by omega) (fun i hi=>by
   unfold S7
   generalize r.Figures[f]! = F at h0 h1 h2 h3 ⊢
   rcases (by omega:i = 0∨i = 1∨i = 2∨i = 3) with rfl | rfl | rfl | rfl <;> simp [idx,Ar4.l,Ar4.set,chg,J0]
   ·exact ⟨E2 (by omega),h0⟩
   ·exact ⟨E2 (by omega),h1⟩
   ·exact ⟨E2 (by omega),h2⟩
   ·exact ⟨E2 (by omega),h3⟩) rfl
  exact this
 rw [hloop]
 simp only [Option.bind_some,Option.some.injEq]
 have e1:w64 (A7p r z + one r r.Figures[f]! p) = A7p r (z++[(f,p)]):= by
  rw [C91]; exact E2 (by omega)
 show (⟨ints (z.map (·.1))++[(f:Int)],w64 (A7p r z + one r r.Figures[f]! p),(J0 r (z++[(f,p)])).left_⟩:dress_plan) = J0 r (z++[(f,p)])
 rw [e1]
 unfold J0 ints
 simp
def below (x:Int):Int:=if x < 0 then -x else 0
def A7i (r:DrRoom) (z:Prs):List Int:=(List.range r.Ounces.length).map fun c=>below (E3 r z c)
def A5g (r:DrRoom) (z:Prs):Bool:=(List.range r.Ounces.length).all fun c=>decide (0≤E3 r z c)
theorem D1c {r:DrRoom} (ok:RmOk r) {x:Nat × DrLook} (h:x.1 < r.Figures.length∧LkOk r (-1) x.2) {c:Nat} (hc:r.Ounces.length≤c):hr r c x = 0:= by
 have h1:=(ok.figure _ (J4 h.1)).col
 have h2:=h.2.col
 unfold hr A7h
 have e1:r.Figures[x.1]!.Looks[0]! ≠ (c:Int):= by omega
 have e2:x.2.Looks[0]! ≠ (c:Int):= by omega
 rw [if_neg e1,if_neg e2]
 simp
theorem C3k {r:DrRoom} (ok:RmOk r) {z:Prs} (hz:B4y r z) {c:Nat} (hc:r.Ounces.length≤c):E3 r z c = 0:= by
 unfold E3
 rw [List.getD_eq_getElem?_getD,List.getElem?_eq_none hc,D4v fun x hx=>D1c ok (hz.2 x hx) hc]; rfl
theorem B9a {x:Int} (h:-1000≤x∧x≤1000):A8a 0 (w64 (0 - x)) = below x:= by
 rw [E2 (by omega)]
 unfold A8a below
 split <;> split <;> omega
theorem B50 {x:Int} (h:-1000≤x∧x≤1000):0≤below x∧below x≤1000:= by
 unfold below; split <;> omega
theorem D1p {r:DrRoom} (ok:RmOk r) {z:Prs} (hz:B4y r z):M4 (J0 r z) = some (⟨below (E3 r z 0),below (E3 r z 1),below (E3 r z 2),below (E3 r z 3)⟩,sm (A7i r z)):= by
 have hb:∀c,-1000≤E3 r z c∧E3 r z c≤1000:=fun c=>by have:=B1u ok hz c; omega
 have m:=fun c=>B9a (hb c)
 have q:=fun c=>B50 (hb c)
 have q0:=q 0
 have q1:=q 1
 have q2:=q 2
 have q3:=q 3
 have hs:sm (A7i r z) = below (E3 r z 0) + below (E3 r z 1) + below (E3 r z 2) + below (E3 r z 3):= by
  have ho:=ok.ounces
  have hf:∀c,r.Ounces.length≤c→below (E3 r z c) = 0:=fun c hc=>by rw [C3k ok hz hc]; rfl
  unfold A7i
  rcases (by omega:r.Ounces.length = 1∨r.Ounces.length = 2∨r.Ounces.length = 3∨r.Ounces.length = 4) with e | e | e | e <;> rw [e] at hf ⊢
  ·rw [hf 1 (by omega),hf 2 (by omega),hf 3 (by omega)]; simp [List.range,List.range.loop,sm]
  ·rw [hf 2 (by omega),hf 3 (by omega)]; simp [List.range,List.range.loop,sm]
  ·rw [hf 3 (by omega)]; simp [List.range,List.range.loop,sm]; omega
  ·simp [List.range,List.range.loop,sm]; omega
 unfold M4
 have m0:=m 0
 rw [Int.zero_sub] at m0
 have m1:=m 1
 rw [Int.zero_sub] at m1
 have m2:=m 2
 rw [Int.zero_sub] at m2
 have m3:=m 3
 rw [Int.zero_sub] at m3
 have:=K1 (b:=R0 (J0 r z)) (fun i=>(match i with
   | 0=>(0,0,⟨0,0,0,0⟩)
   | 1=>(below (E3 r z 0),1,⟨below (E3 r z 0),0,0,0⟩)
   | 2=>(below (E3 r z 0) + below (E3 r z 1),2,⟨below (E3 r z 0),below (E3 r z 1),0,0⟩)
   | 3=>(below (E3 r z 0) + below (E3 r z 1) + below (E3 r z 2),3,⟨below (E3 r z 0),below (E3 r z 1),below (E3 r z 2),0⟩)
   | _=>(sm (A7i r z),4,⟨below (E3 r z 0),below (E3 r z 1),below (E3 r z 2),below (E3 r z 3)⟩):Int × Int × Ar4 Int)) 4 (r:=(sm (A7i r z),⟨below (E3 r z 0),below (E3 r z 1),below (E3 r z 2),below (E3 r z 3)⟩)) (by omega) (fun i hi=>by
  unfold R0
  rcases (by omega:i = 0∨i = 1∨i = 2∨i = 3) with rfl | rfl | rfl | rfl
  ·simp only [J0,idx,Ar4.l,Ar4.set]
   simp [m0]
   first | exact ⟨E2 (by omega),E2 (by omega)⟩ | exact E2 (by omega)
  ·simp only [J0,idx,Ar4.l,Ar4.set]
   simp [m1]
   first | exact ⟨E2 (by omega),E2 (by omega)⟩ | exact E2 (by omega)
  ·simp only [J0,idx,Ar4.l,Ar4.set]
   simp [m2]
   first | exact ⟨E2 (by omega),E2 (by omega)⟩ | exact E2 (by omega)
  ·simp only [J0,idx,Ar4.l,Ar4.set]
   simp [m3,hs]
   first | exact ⟨E2 (by omega),E2 (by omega)⟩ | exact E2 (by omega)) rfl
 rw [show ((0:Int),(0:Int),(Ar4.mk (0:Int) 0 0 0)) = (match (0:Nat) with
   | 0=>(0,0,⟨0,0,0,0⟩)
   | 1=>(below (E3 r z 0),1,⟨below (E3 r z 0),0,0,0⟩)
   | 2=>(below (E3 r z 0) + below (E3 r z 1),2,⟨below (E3 r z 0),below (E3 r z 1),0,0⟩)
   | 3=>(below (E3 r z 0) + below (E3 r z 1) + below (E3 r z 2),3,⟨below (E3 r z 0),below (E3 r z 1),below (E3 r z 2),0⟩)
   | _=>(sm (A7i r z),4,⟨below (E3 r z 0),below (E3 r z 1),below (E3 r z 2),below (E3 r z 3)⟩):Int × Int × Ar4 Int) from rfl,this]; rfl
theorem B51 {x:Int}:(below x == 0) = decide (0≤x):= by
 unfold below
 rw [Bool.eq_iff_iff,beq_iff_eq,decide_eq_true_eq]
 split <;> omega
theorem B5y {r:DrRoom} (ok:RmOk r) {z:Prs} (hz:B4y r z):L5 (J0 r z) = some (A5g r z):= by
 unfold L5
 rw [D1p ok hz]
 simp only [Option.bind_some,B51,Bool.and_true,Option.some.injEq]
 have ho:=ok.ounces
 have hf:∀c,r.Ounces.length≤c→decide (0≤E3 r z c) = true:=fun c hc=>by rw [C3k ok hz hc]; rfl
 unfold A5g
 rcases (by omega:r.Ounces.length = 1∨r.Ounces.length = 2∨r.Ounces.length = 3∨r.Ounces.length = 4) with e | e | e | e <;> rw [e] at hf ⊢
 ·rw [hf 1 (by omega),hf 2 (by omega),hf 3 (by omega)]; simp [List.range,List.range.loop]
 ·rw [hf 2 (by omega),hf 3 (by omega)]; simp [List.range,List.range.loop]
 ·rw [hf 3 (by omega)]; simp [List.range,List.range.loop]
 ·simp [List.range,List.range.loop]
theorem C87 {r:DrRoom} {z:Prs}:(sm (A7i r z) == 0) = A5g r z:= by
 unfold A7i A5g
 induction (List.range r.Ounces.length) with
 | nil=>rfl
 | cons c l ih =>
  have h0:∀l:List Nat,0≤sm (l.map fun c=>below (E3 r z c)):=fun l=>by
   have:∀x ∈ l.map fun c=>below (E3 r z c),0≤x:=fun x hx=>by
    obtain ⟨k,_,rfl⟩:=List.mem_map.mp hx
    unfold below; split <;> omega
   revert this
   generalize l.map (fun c=>below (E3 r z c)) = m
   intro this
   induction m with
   | nil=>exact Int.le_refl _
   | cons x l ih =>
    have h1:=this x (List.mem_cons_self ..)
    have h2:=ih fun y hy=>this y (List.mem_cons_of_mem _ hy)
    simp only [sm]; omega
  have h1:=h0 l
  have h2:0≤below (E3 r z c):= by unfold below; split <;> omega
  rw [List.all_cons,← ih,← B51,Bool.eq_iff_iff,Bool.and_eq_true,beq_iff_eq,beq_iff_eq,beq_iff_eq]
  simp only [List.map_cons,sm]
  omega
theorem C15 {q:List Nat} {ps:List DrLook} {i:Nat} (h:i < q.length) (h2:q.length≤ps.length):(q.zip ps)[i]! = (q[i]!,ps[i]!):= by
 rw [getElem!_pos _ i (by rw [List.length_zip]; omega),List.getElem_zip,getElem!_pos q i h,getElem!_pos ps i (by omega)]
theorem B2r {q:List Nat} {ps:List DrLook} (h:q.length≤ps.length):(q.zip ps).length = q.length:= by
 rw [List.length_zip]; omega
theorem A76 {q:List Nat} {i:Nat} (h:i < q.length):idx (ints q) (i:Int) = some ((q[i]!:Nat):Int) :=
 A4o (by unfold ints; rw [List.getElem?_map,List.getElem?_eq_getElem h,getElem!_pos q i h]; rfl)
structure QOk (r:DrRoom) (q:List Nat):Prop where
 len:q.length≤r.Persons.length
 fig:∀x ∈ q,x < r.Figures.length
def prs (r:DrRoom) (q:List Nat):Prs:=q.zip r.Persons
theorem QOk.pr {r:DrRoom} (ok:RmOk r) {q:List Nat} (h:QOk r q):B4y r (prs r q):= by
 refine ⟨by unfold prs; rw [B2r h.len]; have:=ok.persons; have:=h.len; omega,fun x hx=>?_⟩
 have:=List.of_mem_zip (a:=x.1) (b:=x.2) hx
 exact ⟨h.fig _ this.1,ok.person _ this.2⟩
theorem D0e {r:DrRoom} (ok:RmOk r) {q:List Nat} (h:QOk r q):A15 r (ints q) = some (A7p r (prs r q)):= by
 have hP:=ok.persons
 have hl:=h.len
 have hz:=h.pr ok
 have hzl:(prs r q).length = q.length:=B2r h.len
 unfold A15
 have:=A85 (b:=A2s r (ints q)) (prs r q) (fun (t:Int) x=>t + cst r x) 0 (fun i t=>(t,(i:Int))) (r:=A7p r (prs r q)) (by omega) (fun i hi=>by
  rw [A4m (cst r)]
  have hs:=C12 ok ((prs r q).take i)
  rw [List.length_take] at hs
  have hx:=D0w ok (prs r q)[i]!
  have hi2:i < q.length:= by omega
  have e:(prs r q)[i]! = (q[i]!,r.Persons[i]!):=C15 hi2 h.len
  unfold A2s
  simp only []
  rw [if_pos (by rw [L6]; simpa using hi2),A76 hi2]
  simp only [Option.bind_some]
  have hf:=h.fig _ (J4 hi2)
  rw [I0 hf,I0 (by omega)]
  simp only [Option.bind_some]
  rw [D0a ok (ok.figure _ (J4 hf)).len (ok.person _ (J4 (by omega))).len]
  simp only [Option.bind_some]
  rw [show one r r.Figures[q[i]!]! r.Persons[i]! = cst r (prs r q)[i]! by rw [e]; rfl]
  unfold A7p at hs
  rw [E2 (by omega),E2 (by omega)]
  rfl) (by
  unfold A2s
  simp only []
  rw [if_neg (by rw [L6,hzl]; simp),A4m (cst r)]
  unfold A7p; simp)
 rw [show ((0:Int),(0:Int)) = ((0:Int),((0:Nat):Int)) from rfl,this]; rfl
theorem D1d (n:Nat) (f p:DrLook) (hn:1≤n):(ints (N5 n f p)).any (· == 0) = ck f p 0:= by
 rw [Bool.eq_iff_iff,List.any_eq_true]
 constructor
 ·rintro ⟨x,hx,e⟩
  unfold ints N5 at hx
  obtain ⟨k,hk,rfl⟩:=List.mem_map.mp hx
  have:k = 0:= by simpa using e
  subst this
  exact (List.mem_filter.mp hk).2
 ·intro h
  refine ⟨0,?_,rfl⟩
  unfold ints N5
  exact List.mem_map.mpr ⟨0,List.mem_filter.mpr ⟨by simp; omega,h⟩,rfl⟩
theorem hair1 {r:DrRoom} (ok:RmOk r) {q:List Nat} (h:QOk r q) (c:Nat) (hc:c < r.Ounces.length) (l0:List Int):loop (Z0 r (ints q) ((c:Int),l0)) (r.Ounces[c]!,0) = some (E3 r (prs r q) c):= by
 have hP:=ok.persons
 have hC:=ok.costs
 have hl:=h.len
 have hz:=h.pr ok
 have hzl:(prs r q).length = q.length:=B2r h.len
 have hd:r.Ounces.getD c 0 = r.Ounces[c]!:= by rw [List.getD_eq_getElem?_getD,List.getElem?_eq_getElem hc,getElem!_pos _ c hc]; rfl
 have:=A85 (b:=Z0 r (ints q) ((c:Int),l0)) (prs r q) (fun (t:Int) x=>t + hr r c x) r.Ounces[c]! (fun i t=>(t,(i:Int))) (r:=E3 r (prs r q) c) (by omega) (fun i hi=>by
  rw [A4m (hr r c)]
  have hs:=B1u ok (hz.take i) c
  unfold E3 at hs
  rw [hd] at hs
  have hi2:i < q.length:= by omega
  have e:(prs r q)[i]! = (q[i]!,r.Persons[i]!):=C15 hi2 h.len
  have hf:=h.fig _ (J4 hi2)
  have lf:=ok.figure _ (J4 hf)
  have lp:=ok.person _ (J4 (l:=r.Persons) (i:=i) (by omega))
  generalize r.Ounces[c]! + sm (List.map (hr r c) ((prs r q).take i)) = t at hs ⊢
  unfold Z0
  simp only []
  rw [if_pos (by rw [L6]; simpa using hi2),A76 hi2]
  simp only [Option.bind_some]
  rw [I0 hf,I0 (by omega)]
  simp only [Option.bind_some]
  rw [B5v ok lf.len lp.len]
  simp only [Option.bind_some]
  rw [C0s _ _ (by rw [L6]; have:=P0 r.Costs.length r.Figures[q[i]!]! r.Persons[i]!; omega),D1d _ _ _ hC.1,e]
  simp only [Option.bind_some]
  have h1:=lf.hair
  have h2:=lp.hair
  unfold hr A7h
  generalize r.Figures[q[i]!]! = F at lf h1 ⊢
  generalize r.Persons[i]! = P at lp h2 ⊢
  rw [show idx F.Looks 0 = some F.Looks[0]! from I0 (i:=0) (by rw [lf.len]; omega),show idx P.Looks 0 = some P.Looks[0]! from I0 (i:=0) (by rw [lp.len]; omega)]
  simp only [Option.bind_some,beq_iff_eq]
  have hw:w64 ((i:Int) + 1) = ((i + 1:Nat):Int):=E2 (by omega)
  cases ck F P 0 with
  | false=>simp only [Bool.not_false,if_true,Bool.false_eq_true,if_false,hw,Int.add_zero]
  | true =>
   simp only [Bool.not_true,Bool.false_eq_true,if_false,if_true,hw]
   by_cases c1:F.Looks[0]! = (c:Int) <;> by_cases c2:P.Looks[0]! = (c:Int) <;> simp only [c1,c2,if_true,if_false]
   ·rw [E2 (n:=t + F.Hair) (by omega),E2 (by omega)]; congr 3; omega
   ·rw [E2 (n:=t + F.Hair) (by omega)]; congr 3; omega
   ·rw [E2 (by omega)]; congr 3; omega
   ·congr 3; omega) (by
  unfold Z0
  simp only []
  rw [if_neg (by rw [L6,hzl]; simp),A4m (hr r c)]
  unfold E3; rw [hd])
 exact this
def A30 (r:DrRoom) (z:Prs):List Int:=(List.range r.Ounces.length).map (E3 r z)
theorem C6y {r:DrRoom} (ok:RmOk r) {q:List Nat} (h:QOk r q):A25 r (ints q) = some (A30 r (prs r q)):= by
 have hO:=ok.ounces
 unfold A25
 have:=A85 (b:=A1k r (ints q)) (List.range r.Ounces.length) (fun (t:List Int) c=>t++[E3 r (prs r q) c]) [] (fun i t=>((i:Int),t)) (r:=A30 r (prs r q)) (by simp; omega) (fun i hi=>by
  have hi2:i < r.Ounces.length:= by simpa using hi
  rw [A5k (E3 r (prs r q)),C9n hi2]
  unfold A1k
  simp only []
  rw [if_pos (by simpa using hi2),I0 hi2]
  simp only [Option.bind_some]
  rw [hair1 ok h i hi2]
  simp only [Option.bind_some]
  rw [Z7 (by omega) (by simp; omega),E2 (by omega)]
  rfl) (by
  unfold A1k
  simp only []
  rw [if_neg (by simp),A5k (E3 r (prs r q))]
  simp [A30])
 rw [show ((0:Int),([]:List Int)) = (((0:Nat):Int),([]:List Int)) from rfl,this]; rfl
theorem C1u {r:DrRoom} (ok:RmOk r) {z:Prs} (hz:B4y r z):A3n (A30 r z) = some (A7i r z,sm (A7i r z)):= by
 have hO:=ok.ounces
 have hb:∀c,-1000≤E3 r z c∧E3 r z c≤1000:=fun c=>by have:=B1u ok hz c; omega
 unfold A3n
 have:=K1 (b:=A0o (A30 r z)) (fun i=>(sm ((List.range i).map fun c=>below (E3 r z c)),(i:Int),(List.range i).map fun c=>below (E3 r z c))) r.Ounces.length (r:=(sm (A7i r z),A7i r z)) (by omega) (fun i hi=>by
  have hs:0≤sm ((List.range i).map fun c=>below (E3 r z c))∧sm ((List.range i).map fun c=>below (E3 r z c))≤1000 * i:= by
   have:=C4p (a:=0) (b:=1000) (l:=(List.range i).map fun c=>below (E3 r z c)) fun x hx=>by
    obtain ⟨k,_,rfl⟩:=List.mem_map.mp hx
    exact B50 (hb k)
   simp at this; omega
  unfold A0o
  simp only []
  rw [if_pos (by simpa [A30] using hi),show idx (A30 r z) (i:Int) = some (E3 r z i) from A4o (by unfold A30; rw [List.getElem?_map,List.getElem?_range hi]; rfl)]
  simp only [Option.bind_some]
  rw [B9a (hb i),Z7 (by omega) (by simp; omega)]
  have hq:=B50 (hb i)
  simp only [Option.bind_some]
  rw [E2 (by omega),E2 (by omega),List.range_succ,List.map_append,A4g]
  simp [sm]) (by
  unfold A0o
  simp only []
  rw [if_neg (by simp [A30])]; rfl)
 rw [show ((0:Int),(0:Int),([]:List Int)) = (sm ((List.range 0).map fun c=>below (E3 r z c)),((0:Nat):Int),(List.range 0).map fun c=>below (E3 r z c)) from rfl,this]; rfl
theorem B5u {r:DrRoom} (ok:RmOk r) {q:List Nat} (h:QOk r q):S0 r (ints q) = some (A5g r (prs r q)):= by
 unfold S0
 rw [C6y ok h]
 simp only [Option.bind_some]
 rw [C1u ok (h.pr ok)]
 simp only [Option.bind_some,C87]
end Ds
end
section
set_option maxRecDepth 100000
set_option maxHeartbeats 0
namespace Ds
open Go Am Go.Proofs.Ytdkflofgolehkaa.Cd
end Ds
end
section
namespace Ds
open Go Am
theorem C2g {r:DrRoom} (ok:RmOk r):begin0 r = J0 r []:= by
 have ho:=ok.ounces
 unfold begin0 J0 cpy4
 simp [ints,A7p,E3,sm,List.getD_eq_getElem?_getD]
section
variable {α β σ ρ:Type}
def V8 (f:α→σ→Option (σ ⊕ ρ)):List α→σ→Option (σ ⊕ ρ)
 | [],s=>some (.inl s)
 | a :: l,s=>(f a s).bind fun x=>match x with
  | .inl s'=>V8 f l s'
  | .inr r=>some (.inr r)
theorem B1d (f:α→σ→Option (σ ⊕ ρ)) (m:List α):∀(l:List α) (s:σ),V8 f (l++m) s = (V8 f l s).bind fun x=>match x with
  | .inl s'=>V8 f m s'
  | .inr r=>some (.inr r)
 | [],s=>rfl
 | a :: l,s=>by
  show (f a s).bind _ = ((f a s).bind _).bind _
  cases f a s with
  | none=>rfl
  | some x=>cases x with
   | inl s'=>exact B1d f m l s'
   | inr r=>rfl
theorem B6g (f:α→σ→Option (σ ⊕ ρ)) (h:β→List α):∀(l:List β) (s:σ),V8 f (l.flatMap h) s = V8 (fun b s=>V8 f (h b) s) l s
 | [],s=>rfl
 | b :: l,s=>by
  rw [List.flatMap_cons,B1d]
  show _ = (V8 f (h b) s).bind _
  cases V8 f (h b) s with
  | none=>rfl
  | some x=>cases x with
   | inl s'=>exact B6g f h l s'
   | inr r=>rfl
theorem A6v (f:α→σ→Option (σ ⊕ ρ)) (p:α→Bool):∀(l:List α) (s:σ),V8 f (l.filter p) s = V8 (fun a s=>if p a then f a s else some (.inl s)) l s
 | [],s=>rfl
 | a :: l,s=>by
  rw [List.filter_cons]
  cases h:p a with
  | false =>
   rw [if_neg (by decide),A6v f p l s]
   show _ = (if p a then f a s else some (.inl s)).bind _
   rw [h]; rfl
  | true =>
   rw [if_pos rfl]
   show (f a s).bind _ = (if p a then f a s else some (.inl s)).bind _
   rw [h,if_pos rfl]
   cases f a s with
   | none=>rfl
   | some x=>cases x with
    | inl s'=>exact A6v f p l s'
    | inr r=>rfl
def D83 (i:Nat):σ ⊕ ρ→(Int × σ) ⊕ (ρ ⊕ σ)
 | .inl s=>.inl (((i + 1:Nat):Int),s)
 | .inr r=>.inr (.inl r)
def C78:σ ⊕ ρ→ρ ⊕ σ
 | .inl s=>.inr s
 | .inr r=>.inl r
end
def A9t (n:Nat) (q:List Nat):List Nat:=(List.range n).filter fun f=>!q.contains f
def DF (n:Nat):Nat→List Nat→List (List Nat)
 | 0,q=>[q]
 | d + 1,q=>(A9t n q).flatMap fun f=>DF n d (q++[f])
def bit (u i:Nat):Bool:=u / 2 ^ i % 2 == 1
def C13 (u:Int) (q:List Nat):Prop:=∃ n:Nat,u = (n:Int)∧n < 64∧∀ f,f < 6→bit n f = q.contains f
theorem C7z:∀u:Nat,u < 64→∀ p:Nat,p < 6→orI (u:Int) ((2 ^ p:Nat):Int) = ((u ||| 2 ^ p:Nat):Int)∧(u ||| 2 ^ p) < 64:= by decide +kernel
theorem D6h:∀u:Nat,u < 64→∀ p:Nat,p < 6→∀ t:Nat,t < 6→bit (u ||| 2 ^ p) t = (bit u t || t == p):= by decide +kernel
theorem C6r:C13 0 []:=⟨0,rfl,by decide,by decide⟩
theorem C93 {u:Int} {q:List Nat} (hu:C13 u q) {p:Nat} (hp:p < 6):C13 (orI u ((2 ^ p:Nat):Int)) (q++[p]):= by
 obtain ⟨n,rfl,h1,h2⟩:=hu
 refine ⟨n ||| 2 ^ p,(C7z n h1 p hp).1,(C7z n h1 p hp).2,fun f hf=>?_⟩
 rw [D6h n h1 p hp f hf,h2 f hf,Bool.eq_iff_iff]
 simp
def A9n (n:Nat) (S k:Nat):List Nat:=(List.range n).filter fun i=>decide (k≤i) && bit S i
def A03 (r:DrRoom) (S k:Nat):List DrLook:=(A9n r.Persons.length S k).map fun i=>r.Persons[i]!
theorem B0q (n S k:Nat):A9n n S k = (List.range' k (n - k)).filter (bit S):= by
 unfold A9n
 by_cases h:k≤n
 ·have e:List.range n = List.range k++List.range' k (n - k):= by
   rw [List.range_eq_range',List.range_eq_range',show List.range' k (n - k) = List.range' (0 + 1 * k) (n - k) by simp,List.range'_append]; congr 1; omega
  rw [e,List.filter_append,List.filter_eq_nil_iff.mpr (by
   intro i hi
   have:i < k:= by simpa using hi
   simp; omega),List.nil_append]
  refine List.filter_congr fun i hi=>?_
  rw [List.mem_range'_1] at hi
  rw [decide_eq_true hi.1,Bool.true_and]
 ·rw [show n - k = 0 by omega,List.range'_zero,List.filter_nil,List.filter_eq_nil_iff]
  intro i hi
  have:i < n:= by simpa using hi
  simp; omega
theorem B3r {n S k:Nat} (h:k < n):A9n n S k = if bit S k then k :: A9n n S (k + 1) else A9n n S (k + 1):= by
 rw [B0q,B0q,show n - k = (n - (k + 1)) + 1 by omega,List.range'_succ,List.filter_cons]
theorem D2w {n S k:Nat} (h:n≤k):A9n n S k = []:= by rw [B0q,show n - k = 0 by omega]; rfl
theorem C76 (r:DrRoom) (hP:r.Persons.length≤5) {S:Nat} (hS:S < 64):∀(d k:Nat),k + d = r.Persons.length →
  ∃ k':Nat,loop (B70 r (S:Int)) (k:Int) = some (k':Int)∧k≤k'∧k'≤r.Persons.length∧A9n r.Persons.length S k = A9n r.Persons.length S k'∧(k' < r.Persons.length→bit S k' = true):= by
 intro d k hk
 have key:∀(d k m:Nat),k + d = r.Persons.length→d < m→∃ k':Nat,A55 (B70 r (S:Int)) m (k:Int) = some (k':Int)∧k≤k'∧k'≤r.Persons.length∧A9n r.Persons.length S k = A9n r.Persons.length S k'∧(k' < r.Persons.length→bit S k' = true):= by
  intro d
  induction d with
  | zero =>
   intro k m hk hm
   obtain ⟨m',rfl⟩:∃m',m = m' + 1:=⟨m - 1,by omega⟩
   refine ⟨k,?_,Nat.le_refl _,by omega,rfl,fun c=>by omega⟩
   rw [J5]
   unfold B70
   rw [if_neg (by simp; omega)]; rfl
  | succ d ih =>
   intro k m hk hm
   obtain ⟨m',rfl⟩:∃m',m = m' + 1:=⟨m - 1,by omega⟩
   have hb:(A93 ((S / 2 ^ k:Nat):Int) 1 == 0) = !bit S k:=and0 (Nat.lt_of_le_of_lt (Nat.div_le_self _ _) hS)
   have e:B70 r (S:Int) (k:Int) = if bit S k then some (.inr (k:Int)) else some (.inl ((k + 1:Nat):Int)):= by
    unfold B70
    rw [if_pos (by simp; omega),C1y _ _ (by omega)]
    simp only [Option.bind_some]
    rw [hb,E2 (by omega)]
    cases bit S k <;> rfl
   cases hq:bit S k with
   | true =>
    refine ⟨k,?_,Nat.le_refl _,by omega,rfl,fun _=>hq⟩
    rw [J5,e,hq]; rfl
   | false =>
    obtain ⟨k',h1,h2,h3,h4,h5⟩:=ih (k + 1) m' (by omega) (by omega)
    refine ⟨k',?_,by omega,h3,?_,h5⟩
    ·rw [J5,e,hq]; exact h1
    ·rw [B3r (by omega),hq,← h4]; rfl
 exact key d k _ hk (by omega)
section
variable {σ ρ:Type}
theorem D3a {q:List Nat} {ps:List DrLook} {f:Nat} {p:DrLook} {l:List DrLook} (h:ps.drop q.length = p :: l):(q++[f]).zip ps = q.zip ps++[(f,p)]∧ps.drop (q++[f]).length = l:= by
 have hps:ps = ps.take q.length++p :: l:= by rw [← h,List.take_append_drop]
 have hlen:(ps.take q.length).length = q.length:= by
  have:q.length < ps.length:= by
   have:=congrArg List.length h
   rw [List.length_drop] at this; simp at this; omega
  rw [List.length_take]; omega
 constructor
 ·generalize ps.take q.length = a at *
  subst hps
  rw [List.zip_append hlen.symm]
  have:q.zip (a++p :: l) = q.zip a++([]:List Nat).zip (p :: l):= by
   rw [← List.zip_append hlen.symm,List.append_nil]
  rw [this]; simp
 ·rw [List.length_append,← List.drop_drop,h]; rfl
theorem D1y {r:DrRoom} (ok:RmOk r) {ch:Chg} (hch:C45 r ch) {S:Nat} (hS:S < 64) (ps:List DrLook) (hps:∀p ∈ ps,LkOk r (-1) p) (hpl:ps.length≤5) (body:dress_plan→σ→Option (σ ⊕ ρ)) :
  ∀ (d k:Nat) (q:List Nat) (u:Int) (s:σ) (X:σ ⊕ ρ) (m:Nat),ps.drop q.length = A03 r S k→(A03 r S k).length = d→k≤r.Persons.length→C13 u q→(∀ f ∈ q,f < r.Figures.length)→q.length + d = ps.length→d < m →
   V8 (fun q s=>body (J0 r (q.zip ps)) s) (DF r.Figures.length d q) s = some X→A7j r ch (S:Int) body m (k:Int) u (J0 r (q.zip ps)) s = some X:= by
 have hP:=ok.persons
 have hF:=ok.figures
 intro d
 induction d with
 | zero =>
  intro k q u s X m hd hl hk hu hq hlen hm hf
  obtain ⟨m',rfl⟩:∃m',m = m' + 1:=⟨m - 1,by omega⟩
  obtain ⟨k',h1,h2,h3,h4,h5⟩:=C76 r hP hS (r.Persons.length - k) k (by omega)
  have e:k' = r.Persons.length:= by
   by_cases c:k' < r.Persons.length
   ·unfold A03 at hl
    rw [h4,B3r c,h5 c] at hl
    simp at hl
   ·omega
  subst e
  unfold A7j
  rw [h1]
  simp only [Option.bind_some,BEq.rfl,if_true]
  unfold DF at hf
  unfold V8 at hf
  cases hb:body (J0 r (q.zip ps)) s with
  | none=>rw [hb] at hf; cases hf
  | some x=>rw [hb] at hf; cases x <;> cases hf <;> rfl
 | succ d ih =>
  intro k q u s X m hd hl hk hu hq hlen hm hf
  obtain ⟨m',rfl⟩:∃m',m = m' + 1:=⟨m - 1,by omega⟩
  obtain ⟨k',h1,h2,h3,h4,h5⟩:=C76 r hP hS (r.Persons.length - k) k (by omega)
  have c:k' < r.Persons.length:= by
   by_cases c:k' < r.Persons.length
   ·exact c
   ·unfold A03 at hl
    rw [h4,D2w (by omega)] at hl
    simp at hl
  have hsel:A03 r S k = r.Persons[k']! :: A03 r S (k' + 1):= by
   unfold A03
   rw [h4,B3r c,h5 c]; rfl
  rw [hsel] at hd hl
  have hne:((k':Int) == (r.Persons.length:Int)) = false:= by simp; omega
  have hPk:LkOk r (-1) r.Persons[k']!:=ok.person _ (J4 c)
  have hz:B4y r (q.zip ps):=⟨by rw [List.length_zip]; omega,fun x hx=>by
   have:=List.of_mem_zip (a:=x.1) (b:=x.2) hx
   exact ⟨hq _ this.1,hps _ this.2⟩⟩
  unfold A7j
  rw [h1]
  simp only [Option.bind_some,hne,Bool.false_eq_true,if_false]
  unfold DF A9t at hf
  rw [B6g,A6v] at hf
  have hloop:loop (B8o r ch (A7j r ch (S:Int) body m') (k':Int) u (J0 r (q.zip ps))) (0,s) = some (C78 X):= by
   have key:∀(j i m2:Nat) (s:σ),i + j = r.Figures.length→j < m2→V8 (fun f s=>if (!q.contains f) = true then V8 (fun q s=>body (J0 r (q.zip ps)) s) (DF r.Figures.length d (q++[f])) s else some (.inl s)) ((List.range r.Figures.length).drop i) s = some X →
     A55 (B8o r ch (A7j r ch (S:Int) body m') (k':Int) u (J0 r (q.zip ps))) m2 ((i:Int),s) = some (C78 X):= by
    intro j
    induction j with
    | zero =>
     intro i m2 s hi hm2 h
     obtain ⟨m3,rfl⟩:∃m3,m2 = m3 + 1:=⟨m2 - 1,by omega⟩
     rw [List.drop_of_length_le (by simp; omega)] at h
     cases h
     rw [J5]
     unfold B8o
     simp only []
     rw [if_neg (by simp; omega)]; rfl
    | succ j ihj =>
     intro i m2 s hi hm2 h
     obtain ⟨m3,rfl⟩:∃m3,m2 = m3 + 1:=⟨m2 - 1,by omega⟩
     have hi2:i < (List.range r.Figures.length).length:= by simp; omega
     rw [List.drop_eq_getElem_cons hi2,List.getElem_range] at h
     obtain ⟨n,rfl,hn,hbit⟩:=hu
     have hb:(A93 ((n / 2 ^ i:Nat):Int) 1 == 1) = q.contains i:= by
      rw [and1 (Nat.lt_of_le_of_lt (Nat.div_le_self _ _) hn)]; exact hbit i (by omega)
     unfold V8 at h
     cases hc:q.contains i with
     | true =>
      have e:B8o r ch (A7j r ch (S:Int) body m') (k':Int) (n:Int) (J0 r (q.zip ps)) ((i:Int),s) = some (.inl (((i + 1:Nat):Int),s)):= by
       unfold B8o
       simp only []
       rw [if_pos (by simp; omega),C1y _ _ (by omega)]
       simp only [Option.bind_some]
       rw [hb,hc,if_pos rfl,E2 (by omega)]; rfl
      rw [hc] at h
      rw [J5,e]
      exact ihj (i + 1) m3 s (by omega) (by omega) h
     | false =>
      rw [hc] at h
      simp only [Bool.not_false,if_true] at h
      obtain ⟨z1,z2⟩:=D3a (f:=i) hd
      cases hX:V8 (fun q s=>body (J0 r (q.zip ps)) s) (DF r.Figures.length d (q++[i])) s with
      | none=>rw [hX] at h; cases h
      | some Y =>
       rw [hX] at h
       have hr:=ih (k' + 1) (q++[i]) (orI (n:Int) ((2 ^ i:Nat):Int)) s Y m' (by rw [z2]) (by simpa using hl) (by omega) (C93 ⟨n,rfl,hn,hbit⟩ (by omega)) (fun f hf=>by
        rcases List.mem_append.mp hf with hf | hf
        ·exact hq f hf
        ·have:f = i:= by simpa using hf
         omega) (by rw [List.length_append]; simp; omega) (by omega) hX
       rw [z1] at hr
       have e:B8o r ch (A7j r ch (S:Int) body m') (k':Int) (n:Int) (J0 r (q.zip ps)) ((i:Int),s) = some (D83 i Y):= by
        unfold B8o
        simp only []
        rw [if_pos (by simp; omega),C1y _ _ (by omega)]
        simp only [Option.bind_some]
        rw [hb,hc,if_neg (by decide)]
        have hg:=hch i k' (by omega) c
        unfold A3w
        rw [hg,Option.getD_some,C8a ok hz ⟨by omega,hPk⟩]
        simp only [Option.bind_some]
        rw [A9f i (by omega),E2 (n:=(k':Int) + 1) (by omega)]
        simp only [Option.bind_some]
        rw [show (((k':Nat):Int) + 1) = ((k' + 1:Nat):Int) from rfl,hr]
        cases Y with
        | inl s'=>simp only [Option.bind_some]; rw [E2 (by omega)]; rfl
        | inr x=>rfl
       rw [J5,e]
       cases Y with
       | inl s'=>exact ihj (i + 1) m3 s' (by omega) (by omega) h
       | inr x=>cases h; rfl
   exact key r.Figures.length 0 _ s (by omega) (by omega) hf
  rw [hloop]
  cases X <;> rfl
end
theorem C46 {n:Nat}:∀{d:Nat} {q p:List Nat},p ∈ DF n d q↔∃ t,p = q++t∧t.length = d∧t.Nodup∧∀ x ∈ t,x < n∧x ∉ q
 | 0,q,p=>by
  unfold DF
  rw [List.mem_singleton]
  constructor
  ·rintro rfl; exact ⟨[],by simp⟩
  ·rintro ⟨t,rfl,h,-,-⟩
   rw [List.length_eq_zero_iff.mp h,List.append_nil]
 | d + 1,q,p=>by
  unfold DF A9t
  rw [List.mem_flatMap]
  constructor
  ·rintro ⟨f,hf,hp⟩
   obtain ⟨t,rfl,h1,h2,h3⟩:=C46.mp hp
   have hf:=List.mem_filter.mp hf
   have hfn:f < n:= by simpa using hf.1
   have hfq:f ∉ q:= by simpa using hf.2
   refine ⟨f :: t,by simp,by simp [h1],?_,?_⟩
   ·rw [List.nodup_cons]
    exact ⟨fun c=>(h3 f c).2 (by simp),h2⟩
   ·intro x hx
    rcases List.mem_cons.mp hx with rfl | hx
    ·exact ⟨hfn,hfq⟩
    ·have:=h3 x hx
     exact ⟨this.1,fun c=>this.2 (List.mem_append_left _ c)⟩
  ·rintro ⟨t,rfl,h1,h2,h3⟩
   cases t with
   | nil=>cases h1
   | cons f t =>
    rw [List.nodup_cons] at h2
    have hf:=h3 f (List.mem_cons_self ..)
    refine ⟨f,List.mem_filter.mpr ⟨by simpa using hf.1,by simpa using hf.2⟩,C46.mpr ⟨t,by simp,by simpa using h1,h2.2,fun x hx=>⟨(h3 x (List.mem_cons_of_mem _ hx)).1,fun c=>?_⟩⟩⟩
    rcases List.mem_append.mp c with c | c
    ·exact (h3 x (List.mem_cons_of_mem _ hx)).2 c
    ·have:x = f:= by simpa using c
     subst this; exact h2.1 hx
def perms (n d:Nat):List (List Nat):=DF n d []
theorem A9a {n d:Nat} {p:List Nat}:p ∈ perms n d↔p.length = d∧p.Nodup∧∀ x ∈ p,x < n:= by
 unfold perms
 rw [C46]
 constructor
 ·rintro ⟨t,rfl,h1,h2,h3⟩
  exact ⟨h1,h2,fun x hx=>(h3 x hx).1⟩
 ·rintro ⟨h1,h2,h3⟩
  exact ⟨p,rfl,h1,h2,fun x hx=>⟨h3 x hx,by simp⟩⟩
theorem C06 {α β:Type} {f:α→List β} {b:Nat}:∀{l:List α},(∀ x ∈ l,(f x).length≤b)→(l.flatMap f).length≤l.length * b
 | [],_=>by simp
 | x :: l,h=>by
  have h1:=h x (List.mem_cons_self ..)
  have ih:=C06 (l:=l) fun y hy=>h y (List.mem_cons_of_mem _ hy)
  rw [List.flatMap_cons,List.length_append,List.length_cons,Nat.succ_mul]; omega
theorem B44 {n:Nat} (hn:n≤6):∀(d:Nat) (q:List Nat),(DF n d q).length≤6 ^ d
 | 0,q=>by simp [DF]
 | d + 1,q=>by
  unfold DF
  have h1:(A9t n q).length≤6:= by
   unfold A9t
   exact Nat.le_trans (List.length_filter_le _ _) (by simpa using hn)
  have:=C06 (l:=A9t n q) (f:=fun f=>DF n d (q++[f])) (b:=6 ^ d) fun f _=>B44 hn d _
  rw [Nat.pow_succ]
  calc _≤(A9t n q).length * 6 ^ d:=this
   _≤6 * 6 ^ d:=Nat.mul_le_mul_right _ h1
   _ = 6 ^ d * 6:=Nat.mul_comm _ _
theorem B0n {n d:Nat} (hn:n≤6) (hd:d≤5):(perms n d).length≤7776 :=
 Nat.le_trans (B44 hn d []) (Nat.le_trans (Nat.pow_le_pow_right (by decide) hd) (by decide))
def fm {α:Type} (k:α→Int):List α→Option α
 | []=>none
 | x :: l=>match fm k l with
  | none=>some x
  | some y=>if k y < k x then some y else some x
section
variable {α:Type} {k:α→Int}
theorem B5e:∀{l:List α},fm k l = none↔l = []
 | []=>⟨fun _=>rfl,fun _=>rfl⟩
 | x :: l=>by
  refine ⟨fun h=>?_,fun h=>by cases h⟩
  unfold fm at h
  split at h
  ·cases h
  ·split at h <;> cases h
theorem B5f:∀{l:List α} {b:α},fm k l = some b→(∀ y ∈ l,k b≤k y)∧∃ A B,l = A++b :: B∧∀ a ∈ A,k b < k a
 | [],b,h=>by cases h
 | x :: l,b,h=>by
  unfold fm at h
  cases hf:fm k l with
  | none =>
   rw [hf] at h; cases h
   rw [B5e.mp hf]
   exact ⟨by simp,[],[],rfl,by simp⟩
  | some y =>
   rw [hf] at h
   obtain ⟨h1,A,B,rfl,h3⟩:=B5f hf
   simp only at h
   split at h
   ·next c =>
    cases h
    refine ⟨fun z hz=>?_,x :: A,B,rfl,fun a ha=>?_⟩
    ·rcases List.mem_cons.mp hz with rfl | hz
     ·omega
     ·exact h1 z hz
    ·rcases List.mem_cons.mp ha with rfl | ha
     ·exact c
     ·exact h3 a ha
   ·next c =>
    cases h
    refine ⟨fun z hz=>?_,[],A++y :: B,rfl,by simp⟩
    rcases List.mem_cons.mp hz with rfl | hz
    ·exact Int.le_refl _
    ·have:=h1 z hz; omega
theorem B22 {l:List α} {b:α} (h:fm k l = some b):b ∈ l:= by
 obtain ⟨_,A,B,rfl,_⟩:=B5f h
 simp
theorem D7x {l:List α} {b:α} (h:fm k l = some b) {y:α} (hy:y ∈ l):k b≤k y:=(B5f h).1 y hy
theorem C07 (y:α):∀(l:List α),fm k (l++[y]) = match fm k l with
  | none=>some y
  | some b=>if k y < k b then some y else some b
 | []=>rfl
 | x :: l=>by
  show (match fm k (l++[y]) with | none=>some x | some z=>if k z < k x then some z else some x) = match (match fm k l with | none=>some x | some z=>if k z < k x then some z else some x) with | none=>some y | some b=>if k y < k b then some y else some b
  rw [C07 y l]
  cases fm k l with
  | none=>rfl
  | some b =>
   simp only
   by_cases c1:k b < k x <;> by_cases c2:k y < k b <;> by_cases c3:k y < k x <;> simp only [c1,c2,c3,if_true,if_false] <;> omega
theorem D03 {β:Type} (g:β→α):∀(l:List β),fm k (l.map g) = (fm (fun x=>k (g x)) l).map g
 | []=>rfl
 | x :: l=>by
  rw [List.map_cons]
  unfold fm
  rw [D03 g l]
  cases fm (fun x=>k (g x)) l with
  | none=>rfl
  | some y =>
   simp only [Option.map_some]
   split <;> rfl
theorem D3p {l:List α} {b:α} (h:fm k l = some b):(l.filter fun x=>k x == k b).head? = some b:= by
 obtain ⟨_,A,B,rfl,h3⟩:=B5f h
 rw [List.filter_append,List.filter_eq_nil_iff.mpr (fun a ha=>by have:=h3 a ha; simp; omega),List.nil_append,List.filter_cons,if_pos (by simp)]
 rfl
end
theorem D6i {r:DrRoom} {z:Prs} (h:z.length≤5):A12 (J0 r z) = some (J0 r z):= by
 have hl:(ints (z.map (·.1))).length = z.length:= by rw [L6,List.length_map]
 unfold A12
 show (B92 8 ((ints (z.map (·.1))).length:Int) 0).bind _ = _
 rw [hl]
 unfold B92
 rw [if_pos ⟨by omega,by omega,by omega⟩]
 simp only [Option.bind_some,Option.some.injEq]
 have:cpy (List.replicate (z.length:Int).toNat (0:Int)) (ints (z.map (·.1))) = ints (z.map (·.1)):= by
  unfold cpy
  rw [List.length_replicate,Int.toNat_natCast,hl,Nat.min_self,List.take_of_length_le (by omega),List.drop_of_length_le (by simp),List.append_nil]
 show (⟨cpy _ (ints (z.map (·.1))),_,_⟩:dress_plan) = _
 rw [this]; rfl
section
variable {α β ρ:Type}
theorem A9s {f:α→List β→Option (List β ⊕ ρ)} {p:α→Bool} {g:α→β}:∀{l:List α} {s:List β},s.length + l.length≤1000000000→(∀ a ∈ l,∀ s:List β,s.length < 1000000000→f a s = some (.inl (if p a then s++[g a] else s)))→V8 f l s = some (.inl (s++(l.filter p).map g))
 | [],s,_,_=>by simp [V8]
 | a :: l,s,hl,h=>by
  rw [List.length_cons] at hl
  unfold V8
  rw [h a (List.mem_cons_self ..) s (by omega)]
  simp only [Option.bind_some]
  have hq:(if p a then s++[g a] else s).length + l.length≤1000000000:= by
   split
   ·rw [List.length_append,List.length_singleton]; omega
   ·omega
  rw [A9s hq fun b hb=>h b (List.mem_cons_of_mem _ hb),List.filter_cons]
  cases p a <;> simp
end
structure PsOk (r:DrRoom) (ps:List DrLook):Prop where
 len:ps.length≤5
 look:∀p ∈ ps,LkOk r (-1) p
theorem PsOk.pr {r:DrRoom} {ps:List DrLook} (h:PsOk r ps) {q:List Nat} (hq:q ∈ perms r.Figures.length ps.length):B4y r (q.zip ps):= by
 have hq:=A9a.mp hq
 refine ⟨by rw [List.length_zip]; have:=h.len; omega,fun x hx=>?_⟩
 have:=List.of_mem_zip (a:=x.1) (b:=x.2) hx
 exact ⟨hq.2.2 _ this.1,h.look _ this.2⟩
def AL (r:DrRoom) (ps:List DrLook):List (List Nat):=(perms r.Figures.length ps.length).filter fun q=>A5g r (q.zip ps)
theorem C44 {r:DrRoom} {ps:List DrLook} {q:List Nat}:q ∈ AL r ps↔(q.length = ps.length∧q.Nodup∧∀ x ∈ q,x < r.Figures.length)∧A5g r (q.zip ps) = true:= by
 unfold AL; rw [List.mem_filter,A9a]
theorem B43 {r:DrRoom} (ok:RmOk r) {ps:List DrLook} (h:PsOk r ps):(AL r ps).length≤7776 :=
 Nat.le_trans (List.length_filter_le _ _) (B0n ok.figures h.len)
theorem C1x {r:DrRoom} (ok:RmOk r) (S k:Nat):PsOk r (A03 r S k):= by
 refine ⟨?_,fun p hp=>?_⟩
 ·unfold A03 A9n
  rw [List.length_map]
  have:=List.length_filter_le (fun i=>decide (k≤i) && bit S i) (List.range r.Persons.length)
  have:=ok.persons
  simp at *; omega
 ·unfold A03 A9n at hp
  obtain ⟨i,hi,rfl⟩:=List.mem_map.mp hp
  have:i < r.Persons.length:= by simpa using (List.mem_filter.mp hi).1
  exact ok.person _ (J4 this)
theorem C59 {σ ρ:Type} {r:DrRoom} (ok:RmOk r) {ch:Chg} (hch:C45 r ch) {S:Nat} (hS:S < 64) (body:dress_plan→σ→Option (σ ⊕ ρ)) {s:σ} {X:σ ⊕ ρ}
  (h:V8 (fun q s=>body (J0 r (q.zip (A03 r S 0))) s) (perms r.Figures.length (A03 r S 0).length) s = some X):A9b r ch (S:Int) σ ρ body s = some X:= by
 have hp:=C1x ok S 0
 unfold A9b
 have:=D1y ok hch hS (A03 r S 0) hp.look hp.len body (A03 r S 0).length 0 [] 0 s X 64 rfl rfl (Nat.zero_le _) C6r (by simp) (by simp) (by have:=hp.len; omega) h
 rw [C2g ok]
 exact this
theorem C77 {r:DrRoom} (ok:RmOk r) {ch:Chg} (hch:C45 r ch) {S:Nat} (hS:S < 64):Q8 r ch (S:Int) = some ((AL r (A03 r S 0)).map fun q=>J0 r (q.zip (A03 r S 0))):= by
 have hp:=C1x ok S 0
 have hF:=ok.figures
 have hsz:=B0n hF hp.len
 unfold Q8
 rw [C59 ok hch hS A9g (s:=[]) (X:=.inl ((AL r (A03 r S 0)).map fun q=>J0 r (q.zip (A03 r S 0)))) (by
  have:=A9s (ρ:=Unit) (l:=perms r.Figures.length (A03 r S 0).length) (s:=([]:List dress_plan)) (f:=fun q s=>A9g (J0 r (q.zip (A03 r S 0))) s) (p:=fun q=>A5g r (q.zip (A03 r S 0))) (g:=fun q=>J0 r (q.zip (A03 r S 0))) (by simp; omega) (fun q hq s hs=>by
   have hz:=hp.pr hq
   unfold A9g
   rw [B5y ok hz]
   simp only [Option.bind_some]
   cases A5g r (q.zip (A03 r S 0)) with
   | false=>rfl
   | true =>
    rw [if_pos rfl,D6i hz.1]
    simp only [Option.bind_some]
    rw [Z7 (by omega) (by simp; omega)]; rfl)
  rw [this]; rfl)]
 rfl
theorem less1 (p q:dress_plan):B6r by1 p q = some (decide (p.cost_ < q.cost_)):= by
 unfold B6r
 have h1:∀i:Nat,i = 0→A47 by1 p q (i:Int) = some (if p.cost_ = q.cost_ then .inl 1 else .inr (.inl (decide (p.cost_ < q.cost_)))):= by
  rintro i rfl
  unfold A47
  rw [if_pos (by decide)]
  rw [show idx by1 ((0:Nat):Int) = some (94,U0) from rfl]
  simp only [Option.bind_some,U0]
  by_cases c:p.cost_ = q.cost_
  ·rw [if_neg (by simp [c]),if_pos c]; rfl
  ·rw [if_pos (by simpa using c),if_neg c]
 have h2:A47 by1 p q 1 = some (.inr (.inr ())):= by unfold A47; rw [if_neg (by decide)]
 by_cases c:p.cost_ = q.cost_
 ·have:=K1 (b:=A47 by1 p q) (fun i=>(i:Int)) 1 (r:=.inr ()) (by omega) (fun i hi=>by rw [h1 i (by omega),if_pos c]; congr 2; omega) h2
  rw [show (0:Int) = ((0:Nat):Int) from rfl,this,c]; simp
 ·have:=K1 (b:=A47 by1 p q) (fun i=>(i:Int)) 0 (r:=.inl (decide (p.cost_ < q.cost_))) (by omega) (fun i hi=>absurd hi (Nat.not_lt_zero i)) (by rw [h1 0 rfl,if_neg c])
  rw [show (0:Int) = ((0:Nat):Int) from rfl,this]; rfl
instance:Inhabited dress_plan:=⟨plan0⟩
theorem C8u (l:List dress_plan) (g:dress_plan × dress_plan→Option Bool) (k:dress_plan→Int) (hl:l.length < 1000000000) (hg:∀x ∈ l,∀ y ∈ l,g (x,y) = some (decide (k x < k y))) :
  M3 l g = some (match fm k l with | none=>(plan0,false) | some b=>(b,true)):= by
 unfold M3
 have:=K1 (b:=I2 l g) (fun i=>((match fm k (l.take i) with | none=>(false,(i:Int),plan0) | some b=>(true,(i:Int),b)):Bool × Int × dress_plan)) l.length (r:=match fm k l with | none=>(false,plan0) | some b=>(true,b)) (by omega) (fun i hi=>by
  have hsn:fm k (l.take (i + 1)) = match fm k (l.take i) with | none=>some l[i]! | some b=>if k l[i]! < k b then some l[i]! else some b:= by
   rw [List.take_succ_eq_append_getElem hi,C07,getElem!_pos l i hi]
   cases fm k (l.take i) <;> rfl
  rw [hsn]
  cases hf:fm k (l.take i) with
  | none =>
   have h0:i = 0:= by
    have:=congrArg List.length (B5e.mp hf)
    rw [List.length_take,List.length_nil] at this; omega
   subst h0
   unfold I2
   simp only []
   rw [if_pos (by simpa using hi),I0 hi]; rfl
  | some b =>
   have h0:i ≠ 0:= by rintro rfl; cases hf
   have hb:b ∈ l:=List.mem_of_mem_take (B22 hf)
   unfold I2
   simp only []
   rw [if_pos (by simpa using hi),I0 hi]
   simp only [Option.bind_some]
   rw [if_neg (by simp; omega),hg _ (J4 hi) b hb,E2 (by omega)]
   simp only [Option.bind_some]
   by_cases c:k l[i]! < k b
   ·rw [if_pos (by simpa using c),if_pos c]; rfl
   ·rw [if_neg (by simpa using c),if_neg c]; rfl) (by
  rw [List.take_length]
  cases fm k l with
  | none=>unfold I2; simp only []; rw [if_neg (by simp)]
  | some b=>unfold I2; simp only []; rw [if_neg (by simp)])
 rw [show ((false,0,(dress_plan.mk ([]:List Int) 0 (Ar4.mk 0 0 0 0))):Bool × Int × dress_plan) = (match fm k (l.take 0) with | none=>(false,((0:Nat):Int),plan0) | some b=>(true,((0:Nat):Int),b)) from rfl,this]
 simp only [Option.bind_some]
 cases fm k l <;> rfl
def A09 (r:DrRoom) (ps:List DrLook) (q:List Nat):Int:=A7p r (q.zip ps)
def Z2 (r:DrRoom) (ps:List DrLook):Option (List Nat):=fm (A09 r ps) (AL r ps)
theorem B49 {r:DrRoom} (ok:RmOk r) {ch:Chg} (hch:C45 r ch) {S:Nat} (hS:S < 64) :
  P1 r ch (S:Int) = some (match Z2 r (A03 r S 0) with | none=>(plan0,false) | some q=>(J0 r (q.zip (A03 r S 0)),true)):= by
 unfold P1
 rw [C77 ok hch hS]
 simp only [Option.bind_some]
 rw [C8u _ _ (fun p=>p.cost_) (by rw [List.length_map]; have:=B43 ok (C1x ok S 0); omega) (fun x _ y _=>less1 x y),D03]
 unfold Z2
 rw [show (fun x=>(J0 r (x.zip (A03 r S 0))).cost_) = A09 r (A03 r S 0) from rfl]
 cases fm (A09 r (A03 r S 0)) (AL r (A03 r S 0)) <;> rfl
end Ds
end
section
set_option maxRecDepth 100000
set_option maxHeartbeats 0
namespace Ds
open Go Am Go.Proofs.Ytdkflofgolehkaa.Cd
def A3q (a0:DrRoom) (a1:(List Int)) (g99:((DrRoom × (List Int))→Option (List (List Int)))) (s2:(Int × (List (List Int)))):Option ((Int × (List (List Int))) ⊕ (List (List Int))) :=
 if (decide (s2.1 < (List.length a0.Figures:Int))) = true then
  (A14 a1 s2.1).bind fun x5 =>
  if (!x5) = true then
  (app 8 ([]:List Int) a1).bind fun x7 =>
  (app 8 x7 [s2.1]).bind fun x8 =>
  (g99 (a0,x8)).bind fun x9 =>
  (app 24 s2.2 x9).bind fun x10 =>
  some (.inl ((w64 (s2.1 + 1)),x10))
  else
  some (.inl ((w64 (s2.1 + 1)),s2.2))
 else
  some (.inr s2.2)
def A1y (g99:((DrRoom × (List Int))→Option (List (List Int)))) (a0:DrRoom) (a1:(List Int)):Option (List (List Int)) :=
 if ((List.length a1:Int) == (List.length a0.Persons:Int)) = true then
  some [a1]
 else
  (loop (A3q a0 a1 g99) (0,([]:List (List Int)))).bind fun (o11:(List (List Int))) =>
  some o11
def X8:Nat→(DrRoom × (List Int))→Option (List (List Int))
 | 0=>fun _=>none
 | k + 1=>fun y=>A1y (X8 k) y.1 y.2
def B7o (a0:DrRoom) (a1:(List Int)):Option (List (List Int)):=X8 64 (a0,a1)
theorem B8w {g99:((DrRoom × (List Int))→Option (List (List Int)))} (hg99:∀{c:Sc} {H:A1} {y:(DrRoom × (List Int))} {r:(List (List Int))},g99 y = some r→S4 tab c H (.fn (.func 99) [] []) [(.agg (A4 y.1)),(.seq 1 (List.map cI y.2))] [(.seq 1 (List.map (cL 1 cI) r))]) {c:Sc} {H:A1} {a0:DrRoom} {a1:(List Int)} {r:(List (List Int))} (h:A1y g99 a0 a1 = some r) :
  S4 tab c H (.fn (.func 99) [] []) [(.agg (A4 a0)),(.seq 1 (List.map cI a1))] [(.seq 1 (List.map (cL 1 cI) r))]:= by
 unfold A1y at h
 refine cF rfl rfl<|sg 0 rfl<|A0 (F3 (cs:=A4 a0) rfl rfl rfl) rfl<|qm rfl<|es (ra2 rfl rfl)<|B7<|s0<|qm rfl<|A0 (D9 (f:=cI) rfl) rfl<|A0 (D3 rfl) rfl<|A0 (C7 rfl rfl rfl) rfl<|A0 (D9 (f:=A5) rfl) rfl<|A0 (F6 rfl rfl) rfl<|es (ra3 rfl rfl rfl)<|wi h rfl (fun hc1 h=>?_) fun hc1 h=>?_
 ·refine s0<|qm rfl<|A0 (G7 (rows:=List.map (cL 1 cI) [a1]) rfl rfl (D8 (fun _=>rfl) _)) rfl<|qm rfl<|es (ra1 rfl)<|C4 ?_
  obtain rfl:=os h
  refine Exists.intro [(.seq 1 (List.map (cL 1 cI) [a1]))] (And.intro ?_ rfl)
  exact retq trivial (B1 rfl B8) (A6 rfl B9) (A3 E8 B3)
 ·refine C1<|sg 1 rfl<|A0 A3m rfl<|es (ra3 rfl rfl rfl)<|B7<|s0<|qm rfl<|es (ra4 rfl rfl rfl rfl)<|C3<|oB h fun o11 ho11 h=>wl (fun s2=>[(1,(.seq 1 (List.map cI a1))),(2,(.ptr (H.length + 0) 0)),(5,(.asl (H.length + 1) (List.length s2.2))),(6,.i s2.1)]) (fun (q3:Unit) s2=>[(.cells (A4 a0)),(.arr 1 false (List.map (cL 1 cI) s2.2))]) 2 (fun r e s' H'=>PX 0 [(5,(.asl (H.length + 1) (List.length r)))] (H++[(.cells (A4 a0)),(.arr 1 false (List.map (cL 1 cI) r))]) e s' H') () ho11 rfl rfl (fun _ _=>rfl) (fun _=>rfl) rfl (fun s2=>(bdc E8 (bdc (F1 rfl) (bdc (A08 rfl) (bdc A8 bdn))))) (fun q3 s2 ys2 hs2=>?_) ?_
  ·unfold A3q at hs2
   refine B7<|s0<|qm rfl<|A0 (D3 rfl) rfl<|A0 (C7 rfl rfl rfl) rfl<|A0 (D9 (f:=A5) rfl) rfl<|A0 (I4 rfl rfl) rfl<|es (ra5 rfl rfl rfl rfl rfl)<|wi hs2 rfl (fun hc4 hs2=>?_) fun hc4 hs2=>?_
   ·refine C1<|B7<|C3<|s0<|oB hs2 fun x5 hx5 hs2=>qm rfl<|qm rfl<|B5 (rs:=[.b x5]) rfl rfl (A2 rfl (A2 rfl B6)) ((A35 hx5).frz)<|A0 (R6 rfl) rfl<|es (ra5 rfl rfl rfl rfl rfl)<|wi hs2 rfl (fun hc6 hs2=>?_) fun hc6 hs2=>?_
    ·refine rg 2 rfl<|oB hs2 fun x7 hx7 hs2=>oB hs2 fun x8 hx8 hs2=>oB hs2 fun x9 hx9 hs2=>oB hs2 fun x10 hx10 hs2=>A0 (C7w (rows:=List.map cI []) rfl rfl (D8 (fun _=>rfl) _)) rfl<|qm rfl<|A88 [0] [(.cells (A4 a0)),(.arr 1 false (List.map (cL 1 cI) s2.2)),(.arr 1 false (List.map cI x7))] (Z4 [] rfl (A9h rfl A6w M0) rfl rfl) (seen0 rfl) (A1b (f:=cI) rfl rfl rfl rfl W2 (fun _=>rfl) hx7) rfl rfl rfl<|qm rfl<|A0 (G7 (rows:=List.map cI [s2.1]) rfl rfl (D8 (fun _=>rfl) _)) rfl<|A88 [0] [(.cells (A4 a0)),(.arr 1 false (List.map (cL 1 cI) s2.2)),.dead] (Z4 [] rfl (A9h rfl A6w M0) rfl rfl) (seen0 rfl) (C7u (f:=cI) rfl rfl rfl rfl W2 (fun _=>rfl) hx8) rfl rfl rfl<|R8 [2] (Z4 [2] rfl M0 rfl rfl) (B2l (b:=H.length + 0) rfl (A4f (A0r _ rfl) (A4f (A0r _ rfl) A8l))) (C2 rfl rfl rfl) rfl<|B5 (rs:=[(.seq 1 (List.map (cL 1 cI) x9))]) rfl rfl (A2 (D2 rfl) (A2 rfl B6)) (hg99 hx9)<|qm rfl<|R4 (A1b (f:=(cL 1 cI)) rfl rfl rfl rfl W2 (fun _=>rfl) hx10) rfl<|qm rfl<|en (ra4 rfl rfl rfl rfl)<|r0<|qm rfl<|A0 (E7 rfl rfl) rfl<|qm rfl<|en (ra4 rfl rfl rfl rfl) ?_
     cases hs2
     exact lnT () rfl (su4 rfl rfl rfl rfl)
    ·refine C1<|r0<|qm rfl<|A0 (E7 rfl rfl) rfl<|qm rfl<|en (ra4 rfl rfl rfl rfl) ?_
     cases hs2
     exact lnT () rfl (su4 rfl rfl rfl rfl)
   ·refine F4 ?_
    obtain rfl:=os hs2
    exact lx rfl px (su1 rfl)
  ·rintro e s' H' - ⟨rfl,rfl,rfl⟩
   refine s0<|qm rfl<|qm rfl<|es (ra1 rfl)<|C4 ?_
   obtain rfl:=os h
   refine Exists.intro [(.fresh 1 (List.map (cL 1 cI) o11))] (And.intro ?_ rfl)
   exact retq trivial (B1 rfl B8) (A6 (A2o rfl (List.length_map _)) B9) (A3 V7 B3)
theorem A9x:∀(k:Nat) {c:Sc} {H:A1} {y:(DrRoom × (List Int))} {r:(List (List Int))},X8 k y = some r→S4 tab c H (.fn (.func 99) [] []) [(.agg (A4 y.1)),(.seq 1 (List.map cI y.2))] [(.seq 1 (List.map (cL 1 cI) r))]
 | 0,_,_,_,_,h=>by cases h
 | k + 1,_,_,_,_,h=>B8w (A9x k) h
theorem C30 {c:Sc} {H:A1} {a0:DrRoom} {a1:(List Int)} {r:(List (List Int))} (h:B7o a0 a1 = some r):S4 tab c H (.fn (.func 99) [] []) [(.agg (A4 a0)),(.seq 1 (List.map cI a1))] [(.seq 1 (List.map (cL 1 cI) r))]:=A9x 64 h
def W3 (a0:DrRoom) (a1:Bool) (x1:(List (List Int))) (s2:(Int × (List (List Int)))):Option ((Int × (List (List Int))) ⊕ (List (List Int))) :=
 if (decide (s2.1 < (List.length x1:Int))) = true then
  (if (!a1) = true then
  some true
  else
  (idx x1 s2.1).bind fun x6 =>
  (S0 a0 x6).bind fun x7 =>
  some x7).bind fun x8 =>
  if x8 = true then
  (idx x1 s2.1).bind fun x10 =>
  (app 24 s2.2 [x10]).bind fun x11 =>
  some (.inl ((w64 (s2.1 + 1)),x11))
  else
  some (.inl ((w64 (s2.1 + 1)),s2.2))
 else
  some (.inr s2.2)
def A3o (a0:DrRoom) (a1:Bool):Option (List (List Int)) :=
 (B7o a0 ([]:List Int)).bind fun x1 =>
 (loop (W3 a0 a1 x1) (0,([]:List (List Int)))).bind fun (o12:(List (List Int))) =>
 some o12
theorem B68 {c:Sc} {H:A1} {a0:DrRoom} {a1:Bool} {r:(List (List Int))} (h:A3o a0 a1 = some r) :
  E5 tab c H (.fn (.func 71) [] []) [(.agg (A4 a0)),.b a1] [(.fresh 1 (List.map (cL 1 cI) r))]:= by
 unfold A3o at h
 refine cE rfl rfl<|sg 0 rfl<|A0 (F3 (cs:=A4 a0) rfl rfl rfl) rfl<|qm rfl<|es (ra2 rfl rfl)<|s0<|oB h fun x1 hx1 h=>A0 (C2 rfl rfl rfl) rfl<|B5 (rs:=[(.seq 1 (List.map (cL 1 cI) x1))]) rfl rfl (A2 (D2 rfl) (A2 rfl B6)) (C30 hx1)<|qm rfl<|es (ra3 rfl rfl rfl)<|sg 1 rfl<|A0 A3m rfl<|es (ra4 rfl rfl rfl rfl)<|B7<|s0<|qm rfl<|es (ra5 rfl rfl rfl rfl rfl)<|C3<|oB h fun o12 ho12 h=>wl (fun s2=>[(1,.b a1),(2,(.ptr (H.length + 0) 0)),(5,(.seq 1 (List.map (cL 1 cI) x1))),(6,(.asl (H.length + 1) (List.length s2.2))),(7,.i s2.1)]) (fun (q3:Unit) s2=>[(.cells (A4 a0)),(.arr 1 false (List.map (cL 1 cI) s2.2))]) 2 (fun r e s' H'=>PX 0 [(6,(.asl (H.length + 1) (List.length r)))] (H++[(.cells (A4 a0)),(.arr 1 false (List.map (cL 1 cI) r))]) e s' H') () ho12 rfl rfl (fun _ _=>rfl) (fun _=>rfl) rfl (fun s2=>(bdc A8 (bdc (F1 rfl) (bdc E8 (bdc (A08 rfl) (bdc A8 bdn)))))) (fun q3 s2 ys2 hs2=>?_) ?_
 ·unfold W3 at hs2
  refine B7<|s0<|qm rfl<|qm rfl<|A0 (D9 (f:=(cL 1 cI)) rfl) rfl<|A0 (I4 rfl rfl) rfl<|es (ra6 rfl rfl rfl rfl rfl rfl)<|wi hs2 rfl (fun hc4 hs2=>?_) fun hc4 hs2=>?_
  ·refine C1<|B7<|C3<|s0<|oB hs2 fun x8 hx8 hs2=>qm rfl<|A0 (R6 rfl) rfl<|qm rfl<|gp 7 25 (.b x8) 18 rfl rfl (fun hg5=>?_) (fun hg5=>?_) ?_
   ·obtain rfl:=os (bt hx8 hg5)
    exact nF rfl hg5 rfl<|nF rfl hg5 rfl<|nF rfl hg5 rfl<|nF rfl hg5 rfl<|nF rfl hg5 rfl<|O1 (G6 rfl (by rw [hg5]; rfl)) rfl<|A0 (C9 rfl hg5 rfl) rfl<|ge 7 rfl rfl rfl
   ·refine oB (bf hx8 hg5) fun x6 hx6 hx8=>oB hx8 fun x7 hx7 hx8=>?_
    obtain rfl:=os hx8
    exact gF rfl hg5<|A0 (C2 rfl rfl rfl) rfl<|gF rfl hg5<|qm rfl<|gF rfl hg5<|qm rfl<|gF rfl hg5<|A0 (E9 (f:=(cL 1 cI)) rfl rfl hx6) rfl<|gF rfl hg5<|A0 (F5 rfl rfl) rfl<|gF rfl hg5<|B5 (rs:=[.b x7]) rfl rfl (A2 (D2 rfl) (A2 rfl B6)) ((A59 hx7).frz)<|A0 (C8 rfl hg5 rfl) rfl<|ge 7 rfl rfl rfl
   refine es (ra6 rfl rfl rfl rfl rfl rfl)<|wi hs2 rfl (fun hc9 hs2=>?_) fun hc9 hs2=>?_
   ·refine r0<|oB hs2 fun x10 hx10 hs2=>oB hs2 fun x11 hx11 hs2=>qm rfl<|qm rfl<|qm rfl<|A0 (E9 (f:=(cL 1 cI)) rfl rfl hx10) rfl<|A0 (F5 rfl rfl) rfl<|A0 (G7 (rows:=List.map (cL 1 cI) [x10]) rfl rfl (D8 (fun _=>rfl) _)) rfl<|R4 (A1b (f:=(cL 1 cI)) rfl rfl rfl rfl W2 (fun _=>rfl) hx11) rfl<|qm rfl<|en (ra5 rfl rfl rfl rfl rfl)<|r0<|qm rfl<|A0 (E7 rfl rfl) rfl<|qm rfl<|en (ra5 rfl rfl rfl rfl rfl) ?_
    cases hs2
    exact lnT () rfl (su5 rfl rfl rfl rfl rfl)
   ·refine C1<|r0<|qm rfl<|A0 (E7 rfl rfl) rfl<|qm rfl<|en (ra5 rfl rfl rfl rfl rfl) ?_
    cases hs2
    exact lnT () rfl (su5 rfl rfl rfl rfl rfl)
  ·refine F4 ?_
   obtain rfl:=os hs2
   exact lx rfl px (su1 rfl)
 ·rintro e s' H' - ⟨rfl,rfl,rfl⟩
  refine s0<|qm rfl<|qm rfl<|es (ra1 rfl)<|C4 ?_
  obtain rfl:=os h
  exact retq trivial (B1 rfl B8) (A6 (A2o rfl (List.length_map _)) B9) (A3 V7 B3)
end Ds
end
section
set_option maxRecDepth 100000
namespace Ds
open Go Am Go.Proofs.Ytdkflofgolehkaa.Cd
abbrev LL:=List (List Int)
def A50 (t:DrRoom) (all:LL) (s:Int × LL × Int):Option ((Int × LL × Int) ⊕ (LL × Int)) :=
 if (decide (s.1 < (List.length all:Int))) = true then
  (idx all s.1).bind fun p=>(A15 t p).bind fun n =>
  if ((List.length s.2.1:Int) == 0 || decide (n < s.2.2)) = true then
   if (n == n) = true then
    (idx all s.1).bind fun p2=>(app 24 ([]:LL) [p2]).bind fun q=>some (.inl (w64 (s.1 + 1),q,n))
   else some (.inl (w64 (s.1 + 1),[],n))
  else
   if (n == s.2.2) = true then
    (idx all s.1).bind fun p2=>(app 24 s.2.1 [p2]).bind fun q=>some (.inl (w64 (s.1 + 1),q,s.2.2))
   else some (.inl (w64 (s.1 + 1),s.2.1,s.2.2))
 else some (.inr (s.2.1,s.2.2))
def W5 (t:DrRoom):Option (LL × Int) :=
 (A3o t true).bind fun all=>(loop (A50 t all) (0,[],0)).bind fun o=>some o
def arL (l:LL):AO:=.arr 1 false (l.map (cL 1 cI))
theorem B1l {g:List AO} {x a:AO}:(a :: (g++[x]))[1 + g.length]? = some x:= by
 rw [Nat.add_comm,List.getElem?_cons_succ]; simp
theorem B7x {g:List AO} {x y a:AO}:(a :: (g++[x])).set (1 + g.length) y = a :: (g++[y]):= by
 rw [Nat.add_comm,List.set_cons_succ]; simp
theorem A48 {c:Sc} {H:A1} {a0:DrRoom} {r:LL × Int} (h:W5 a0 = some r) :
  S4 tab c H (.fn (.func 63) [] []) [(.agg (A4 a0))] [(.seq 1 (List.map (cL 1 cI) r.1)),.i r.2]:= by
 unfold W5 at h
 refine oB h fun all hall h=>oB h fun o ho h=>?_
 obtain rfl:=os h
 refine cF rfl rfl<|sg 0 rfl<|A0 (F3 (cs:=A4 a0) rfl rfl rfl) rfl<|qm rfl<|qm rfl<|es (ra1 rfl)<|s0<|A0 (C2 rfl rfl rfl) rfl<|B5 (rs:=[(.seq 1 (List.map (cL 1 cI) all))]) rfl rfl (A2 (D2 rfl) (A2 rfl B6)) ((B68 hall).frz)<|qm rfl<|es (ra2 rfl rfl)<|sg 1 rfl<|A0 A3m rfl<|es (ra3 rfl rfl rfl)<|s0<|qm rfl<|es (ra4 rfl rfl rfl rfl)<|B7<|s0<|qm rfl<|es (ra5 rfl rfl rfl rfl rfl)<|C3<|A05 (D28 (fun (g:List AO) (s:Int × LL × Int)=>[(1,.ptr (H.length + 0) 0),(4,(.seq 1 (List.map (cL 1 cI) all))),(5,.asl (H.length + (1 + g.length)) s.2.1.length),(6,.i s.2.2),(7,.i s.1)]) (fun g s=>H++(.cells (A4 a0) :: (g++[arL s.2.1]))) (fun r e s' H'=>∃ g:List AO,PX 0 [(5,.asl (H.length + (1 + g.length)) r.1.length),(6,.i r.2)] (H++(.cells (A4 a0) :: (g++[arL r.1]))) e s' H') (fun _ _=>rfl) (by decide) (fun g s o hs=>?_) ho []) ?_
 ·unfold A50 at hs
  refine B7<|s0<|qm rfl<|qm rfl<|A0 (D9 (f:=cL 1 cI) rfl) rfl<|A0 (I4 rfl rfl) rfl<|es (ra6 rfl rfl rfl rfl rfl rfl)<|wi hs rfl (fun hc hs=>?_) fun hc hs=>?_
  ·refine oB hs fun p hp hs=>oB hs fun n hn hs=>?_
   refine C1<|B7<|C3<|s0<|A0 (C2 rfl rfl rfl) rfl<|qm rfl<|qm rfl<|A0 (E9 (f:=(cL 1 cI)) rfl rfl hp) rfl<|A0 (F5 rfl rfl) rfl<|B5 (rs:=[.i n]) rfl rfl (A2 (D2 rfl) (A2 rfl B6)) ((B17 hn).frz)<|qm rfl<|es (ra6 rfl rfl rfl rfl rfl rfl)<|B7<|s0<|qm rfl<|A0 (B3g (f:=cL 1 cI) rfl B1l rfl) rfl<|A0 (F6 rfl rfl) rfl<|qm rfl<|gp 4 30 (.b ((List.length s.2.1:Int) == 0 || decide (n < s.2.2))) 26 rfl rfl (fun hg=>?_) (fun hg=>?_) ?_
   ·exact nF rfl hg rfl<|nF rfl hg rfl<|nF rfl hg rfl<|A0 (C9 rfl hg rfl) rfl<|ge 4 (by rw [hg]; rfl) rfl rfl
   ·exact gF rfl hg<|qm rfl<|gF rfl hg<|qm rfl<|gF rfl hg<|A0 (I4 rfl rfl) rfl<|A0 (C8 rfl hg rfl) rfl<|ge 4 (by rw [hg]; rfl) rfl rfl
   refine es (ra7 rfl rfl rfl rfl rfl rfl rfl)<|wi hs rfl (fun hc2 hs=>?_) fun hc2 hs=>?_
   ·have hlen:(.cells (A4 a0) :: (g++[arL s.2.1])).length = 1 + (g++[arL s.2.1]).length:= by simp; omega
    refine rg _ hlen<|qm rfl<|A0 A3m rfl<|qm rfl ?_
    have hset:(AO.cells (A4 a0) :: (g++[arL s.2.1])++List.replicate 1 AO.dead).set (1 + (g++[arL s.2.1]).length + 0) (.arr 1 false []) = .cells (A4 a0) :: ((g++[arL s.2.1])++[arL []]):= by
     rw [List.cons_append]; exact B7x
    rw [hset]
    refine en (ra6 rfl rfl rfl rfl rfl rfl)<|s0<|qm rfl<|qm rfl<|A0 (F6 rfl rfl) rfl<|es (ra6 rfl rfl rfl rfl rfl rfl)<|wi hs rfl (fun hc3 hs=>?_) fun hc3 hs=>?_
    ·refine oB hs fun p2 hp2 hs=>oB hs fun q hq hs=>?_
     refine r0<|qm rfl<|qm rfl<|qm rfl<|A0 (E9 (f:=(cL 1 cI)) rfl rfl hp2) rfl<|A0 (F5 rfl rfl) rfl<|A0 (G7 (rows:=List.map (cL 1 cI) [p2]) rfl rfl (D8 (fun _=>rfl) _)) rfl<|R4 (A1b (f:=(cL 1 cI)) rfl rfl B1l rfl W2 (fun _=>rfl) hq) rfl ?_
     simp only [Nat.add_zero]
     rw [B7x]
     refine qm rfl<|en (ra5 rfl rfl rfl rfl rfl)<|r0<|qm rfl<|A0 (E7 rfl rfl) rfl<|qm rfl<|en (ra5 rfl rfl rfl rfl rfl) ?_
     cases hs
     exact ⟨rfl,_,su5 rfl rfl rfl rfl rfl,rfl⟩
    ·refine C1<|r0<|qm rfl<|A0 (E7 rfl rfl) rfl<|qm rfl<|en (ra5 rfl rfl rfl rfl rfl) ?_
     cases hs
     exact ⟨rfl,_,su5 rfl rfl rfl rfl rfl,rfl⟩
   ·refine C1<|s0<|qm rfl<|qm rfl<|A0 (F6 rfl rfl) rfl<|es (ra6 rfl rfl rfl rfl rfl rfl)<|wi hs rfl (fun hc3 hs=>?_) fun hc3 hs=>?_
    ·refine oB hs fun p2 hp2 hs=>oB hs fun q hq hs=>?_
     refine r0<|qm rfl<|qm rfl<|qm rfl<|A0 (E9 (f:=(cL 1 cI)) rfl rfl hp2) rfl<|A0 (F5 rfl rfl) rfl<|A0 (G7 (rows:=List.map (cL 1 cI) [p2]) rfl rfl (D8 (fun _=>rfl) _)) rfl<|R4 (A1b (f:=(cL 1 cI)) rfl rfl B1l rfl W2 (fun _=>rfl) hq) rfl ?_
     rw [B7x]
     refine qm rfl<|en (ra5 rfl rfl rfl rfl rfl)<|r0<|qm rfl<|A0 (E7 rfl rfl) rfl<|qm rfl<|en (ra5 rfl rfl rfl rfl rfl) ?_
     cases hs
     exact ⟨rfl,_,su5 rfl rfl rfl rfl rfl,rfl⟩
    ·refine C1<|r0<|qm rfl<|A0 (E7 rfl rfl) rfl<|qm rfl<|en (ra5 rfl rfl rfl rfl rfl) ?_
     cases hs
     exact ⟨rfl,_,su5 rfl rfl rfl rfl rfl,rfl⟩
  ·refine F4 ?_
   obtain rfl:=os hs
   exact ⟨rfl,_,su2 rfl rfl,g,px⟩
 ·rintro e s' H' ⟨-,g,rfl,rfl,rfl⟩
  refine s0<|qm rfl<|qm rfl<|qm rfl<|qm rfl<|es (ra2 rfl rfl)<|C4 ?_
  exact ⟨[.fresh 1 (List.map (cL 1 cI) o.1),.i o.2],retq trivial (B1 rfl (B1 rfl B8)) (A6 (A2o B1l (List.length_map _)) (A6 rfl B9)) (A3 V7 (A3 A8 B3)),rfl⟩
end Ds
end
section
set_option maxRecDepth 100000
set_option maxHeartbeats 0
namespace Ds
open Go Am Go.Proofs.Ytdkflofgolehkaa.Cd
def A1x (a0:DrRoom):Option ((List Int) × Int × Int) :=
 (U5 a0).bind fun x1 =>
 if (x1.2.2 != 0) = true then
  some (([]:List Int),0,x1.2.2)
 else
  (W5 a0).bind fun x3 =>
  if ((List.length x3.1:Int) == 0) = true then
  some (([]:List Int),0,9)
  else
  (idx x3.1 0).bind fun x5 =>
  some (x5,x3.2,0)
theorem A5t {c:Sc} {H:A1} {a0:DrRoom} {r:((List Int) × Int × Int)} (h:A1x a0 = some r) :
  E5 tab c H (.fn (.func 27) [] []) [(.agg (A4 a0))] [(.seq 1 (List.map cI r.1)),.i r.2.1,.i r.2.2]:= by
 unfold A1x at h
 refine cE rfl rfl<|sg 0 rfl<|A0 (F3 (cs:=A4 a0) rfl rfl rfl) rfl<|qm rfl<|qm rfl<|qm rfl<|es (ra1 rfl)<|s0<|oB h fun x1 hx1 h=>A0 (C2 rfl rfl rfl) rfl<|B5 (rs:=[.i x1.1,.i x1.2.1,.i x1.2.2]) rfl rfl (A2 (D2 rfl) B6) ((A0i hx1).frz)<|qm rfl<|A0 (A7 rfl rfl) rfl<|A0 (A7 rfl rfl) rfl<|A0 (A7 rfl rfl) rfl<|qm rfl<|qm rfl<|qm rfl<|es (ra2 rfl rfl)<|B7<|s0<|qm rfl<|A0 (J8 rfl rfl) rfl<|es (ra3 rfl rfl rfl)<|wi h rfl (fun hc2 h=>?_) fun hc2 h=>?_
 ·refine s0<|qm rfl<|qm rfl<|qm rfl<|qm rfl<|es (ra3 rfl rfl rfl)<|C4 ?_
  obtain rfl:=os h
  exact retq trivial (B1 rfl (B1 rfl (B1 rfl B8))) (A6 rfl (A6 rfl (A6 rfl B9))) (A3 E8 (A3 A8 (A3 A8 B3)))
 ·refine C1<|s0<|oB h fun x3 hx3 h=>A0 (C2 rfl rfl rfl) rfl<|B5 (rs:=[(.seq 1 (List.map (cL 1 cI) x3.1)),.i x3.2]) rfl rfl (A2 (D2 rfl) B6) (A48 hx3)<|qm rfl<|A0 (A7 rfl rfl) rfl<|A0 (A7 rfl rfl) rfl<|qm rfl<|qm rfl<|es (ra2 rfl rfl)<|B7<|s0<|qm rfl<|A0 (D9 (f:=(cL 1 cI)) rfl) rfl<|A0 (F6 rfl rfl) rfl<|es (ra3 rfl rfl rfl)<|wi h rfl (fun hc4 h=>?_) fun hc4 h=>?_
  ·refine s0<|qm rfl<|qm rfl<|qm rfl<|es (ra3 rfl rfl rfl)<|C4 ?_
   obtain rfl:=os h
   exact retq trivial (B1 rfl (B1 rfl (B1 rfl B8))) (A6 rfl (A6 rfl (A6 rfl B9))) (A3 E8 (A3 A8 (A3 A8 B3)))
  ·refine C1<|s0<|oB h fun x5 hx5 h=>qm rfl<|A0 (E9 (f:=(cL 1 cI)) rfl rfl hx5) rfl<|A0 (F5 rfl rfl) rfl<|qm rfl<|qm rfl<|qm rfl<|qm rfl<|es (ra3 rfl rfl rfl)<|C4 ?_
   obtain rfl:=os h
   exact retq trivial (B1 rfl (B1 rfl (B1 rfl B8))) (A6 rfl (A6 rfl (A6 rfl B9))) (A3 E8 (A3 A8 (A3 A8 B3)))
end Ds
end
section
namespace Ds
open Go Am
theorem C3h (q:List Nat) (f:Nat):(ints q).any (· == (f:Int)) = q.contains f:= by
 unfold ints
 rw [List.any_map,Bool.eq_iff_iff,List.any_eq_true]
 simp only [Function.comp_def,beq_iff_eq,List.contains_iff_mem]
 constructor
 ·rintro ⟨x,hx,e⟩
  have:x = f:= by omega
  subst this; exact hx
 ·intro h; exact ⟨f,h,rfl⟩
theorem D8q {r:DrRoom} (ok:RmOk r):∀(d:Nat) (q:List Nat),q.length + d = r.Persons.length→∀ k,d < k→X8 k (r,ints q) = some ((DF r.Figures.length d q).map ints):= by
 have hP:=ok.persons
 have hF:=ok.figures
 intro d
 induction d with
 | zero =>
  intro q hq k hk
  obtain ⟨k',rfl⟩:∃k',k = k' + 1:=⟨k - 1,by omega⟩
  show A1y (X8 k') r (ints q) = _
  unfold A1y
  rw [if_pos (by rw [L6]; simp; omega)]; rfl
 | succ d ih =>
  intro q hq k hk
  obtain ⟨k',rfl⟩:∃k',k = k' + 1:=⟨k - 1,by omega⟩
  show A1y (X8 k') r (ints q) = _
  unfold A1y
  rw [if_neg (by rw [L6]; simp; omega)]
  have hsz:6 ^ d≤1296:=Nat.le_trans (Nat.pow_le_pow_right (by decide) (show d≤4 by omega)) (by decide)
  have hlen:∀i,i≤6→((((List.range i).filter fun f=>!q.contains f).flatMap fun f=>DF r.Figures.length d (q++[f])).map ints).length≤7776:=fun i hi=>by
   rw [List.length_map]
   have h1:=C06 (l:=(List.range i).filter fun f=>!q.contains f) (f:=fun f=>DF r.Figures.length d (q++[f])) (b:=1296) fun f _=>Nat.le_trans (B44 hF d _) hsz
   have h2:=List.length_filter_le (fun f=>!q.contains f) (List.range i)
   rw [List.length_range] at h2
   have h3:=Nat.mul_le_mul_right 1296 (Nat.le_trans h2 hi)
   omega
  have:=K1 (b:=A3q r (ints q) (X8 k')) (fun i=>((i:Int),(((List.range i).filter fun f=>!q.contains f).flatMap fun f=>DF r.Figures.length d (q++[f])).map ints)) r.Figures.length (r:=(DF r.Figures.length (d + 1) q).map ints) (by omega) (fun i hi=>by
   unfold A3q
   simp only []
   rw [if_pos (by simpa using hi),C0s _ _ (by rw [L6]; omega),C3h]
   simp only [Option.bind_some]
   rw [List.range_succ,List.filter_append,List.flatMap_append,List.map_append]
   cases hc:q.contains i with
   | true =>
    have hc':i ∈ q:= by simpa using hc
    rw [if_neg (by decide),E2 (by omega)]
    simp [hc']
   | false =>
    have e:ints q++[(i:Int)] = ints (q++[i]):= by simp [ints]
    have h1:=B44 hF d (q++[i])
    have h2:=hlen i (by omega)
    rw [if_pos (by decide),Z7 (by omega) (by rw [L6]; simp; omega)]
    simp only [Option.bind_some,List.nil_append]
    rw [Z7 (by omega) (by rw [L6]; simp; omega),e]
    simp only [Option.bind_some]
    rw [ih (q++[i]) (by rw [List.length_append]; simp; omega) k' (by omega)]
    simp only [Option.bind_some]
    have hc':i ∉ q:= by simpa using hc
    have h3:((DF r.Figures.length d (q++[i])).map ints).length = (DF r.Figures.length d (q++[i])).length:=List.length_map _
    rw [Z7 (by omega) (by rw [h3]; omega),E2 (by omega)]
    simp [hc']) (by
   unfold A3q
   simp only []
   rw [if_neg (by simp)]; rfl)
  rw [show ((0:Int),([]:List (List Int))) = (((0:Nat):Int),(((List.range 0).filter fun f=>!q.contains f).flatMap fun f=>DF r.Figures.length d (q++[f])).map ints) from rfl,this]; rfl
theorem C72 {r:DrRoom} {q:List Nat} (h:q ∈ perms r.Figures.length r.Persons.length):QOk r q:= by
 have:=A9a.mp h
 exact ⟨by omega,this.2.2⟩
theorem D0b {r:DrRoom} (ok:RmOk r) (al:Bool):A3o r al = some (((perms r.Figures.length r.Persons.length).filter fun q=>!al || A5g r (prs r q)).map ints):= by
 have hP:=ok.persons
 have hF:=ok.figures
 unfold A3o B7o
 rw [show X8 64 (r,[]) = X8 64 (r,ints []) from rfl,D8q ok r.Persons.length [] (by simp) 64 (by omega)]
 simp only [Option.bind_some]
 have hsz:(perms r.Figures.length r.Persons.length).length≤7776:=B0n hF hP
 show (loop (W3 r al ((perms r.Figures.length r.Persons.length).map ints)) (0,[])).bind _ = _
 have hQ:∀q ∈ perms r.Figures.length r.Persons.length,QOk r q:=fun q hq=>C72 hq
 generalize perms r.Figures.length r.Persons.length = L at hsz hQ
 have:=K1 (b:=W3 r al (L.map ints)) (fun i=>((i:Int),((L.take i).filter fun q=>!al || A5g r (prs r q)).map ints)) L.length (r:=(L.filter fun q=>!al || A5g r (prs r q)).map ints) (by omega) (fun i hi=>by
  have hx:idx (L.map ints) (i:Int) = some (ints L[i]!):=A4o (by rw [List.getElem?_map,List.getElem?_eq_getElem hi,getElem!_pos L i hi]; rfl)
  have hb:(if (!al) = true then some true else (idx (L.map ints) (i:Int)).bind fun x6=>(S0 r x6).bind fun x7=>some x7) = some (!al || A5g r (prs r L[i]!)):= by
   cases al with
   | false=>rfl
   | true =>
    rw [if_neg (by decide),hx]
    simp only [Option.bind_some]
    rw [B5u ok (hQ _ (J4 hi))]; rfl
  unfold W3
  simp only []
  rw [if_pos (by simpa using hi),hb,List.take_succ_eq_append_getElem hi,List.filter_append,List.map_append]
  simp only [Option.bind_some]
  rw [getElem!_pos L i hi] at hx ⊢
  have hl:(((L.take i).filter fun q=>!al || A5g r (prs r q)).map ints).length≤7776:= by
   rw [List.length_map]
   have:=List.length_filter_le (fun q=>!al || A5g r (prs r q)) (L.take i)
   rw [List.length_take] at this
   omega
  cases hq:(!al || A5g r (prs r L[i])) with
  | false=>rw [E2 (by omega)]; simp [hq]
  | true =>
   rw [if_pos rfl,hx]
   simp only [Option.bind_some]
   rw [Z7 (by omega) (by simp only [List.length_singleton]; omega),E2 (by omega)]
   simp [hq]) (by
  unfold W3
  simp only []
  rw [if_neg (by simp),List.take_length])
 rw [show ((0:Int),([]:List (List Int))) = (((0:Nat):Int),((L.take 0).filter fun q=>!al || A5g r (prs r q)).map ints) from rfl,this]; rfl
theorem C2r {r:DrRoom} (ok:RmOk r):W5 r = some (match Z2 r r.Persons with
  | none=>([],0)
  | some b=>(((AL r r.Persons).filter fun q=>A09 r r.Persons q == A09 r r.Persons b).map ints,A09 r r.Persons b)):= by
 have hF:=ok.figures
 have hP:=ok.persons
 unfold W5
 rw [D0b ok true]
 simp only [Option.bind_some,Bool.not_true,Bool.false_or]
 show (loop (A50 r ((AL r r.Persons).map ints)) (0,[],0)).bind _ = _
 unfold Z2
 have hQ:∀q ∈ AL r r.Persons,QOk r q:=fun q hq=>C72 (List.mem_filter.mp hq).1
 have hsz:(AL r r.Persons).length≤7776:=B43 ok ⟨hP,ok.person⟩
 generalize AL r r.Persons = L at hQ hsz
 have hk:∀q ∈ L,A15 r (ints q) = some (A09 r r.Persons q):=fun q hq=>D0e ok (hQ q hq)
 generalize A09 r r.Persons = k at hk
 have:=K1 (b:=A50 r (L.map ints)) (fun i=>((i:Int),match fm k (L.take i) with
  | none=>([],0)
  | some b=>(((L.take i).filter fun q=>k q == k b).map ints,k b))) L.length (r:=match fm k L with
  | none=>([],0)
  | some b=>((L.filter fun q=>k q == k b).map ints,k b)) (by omega) (fun i hi=>by
  have hx:idx (L.map ints) (i:Int) = some (ints L[i]!):=A4o (by rw [List.getElem?_map,List.getElem?_eq_getElem hi,getElem!_pos L i hi]; rfl)
  have hsn:fm k (L.take (i + 1)) = match fm k (L.take i) with | none=>some L[i]! | some b=>if k L[i]! < k b then some L[i]! else some b:= by
   rw [List.take_succ_eq_append_getElem hi,C07,getElem!_pos L i hi]
   cases fm k (L.take i) <;> rfl
  have htk:L.take (i + 1) = L.take i++[L[i]!]:= by rw [List.take_succ_eq_append_getElem hi,getElem!_pos L i hi]
  have hm:=J4 hi
  have happ1:app 24 ([]:LL) [ints L[i]!] = some [ints L[i]!]:=Z7 (by omega) (by simp)
  rw [hsn,htk]
  generalize hxx:L[i]! = x at *
  unfold A50
  simp only []
  rw [if_pos (by simpa using hi),hx]
  simp only [Option.bind_some]
  rw [hk x hm]
  simp only [Option.bind_some,BEq.rfl,if_true]
  rw [E2 (n:=(i:Int) + 1) (by omega),show ((i:Int) + 1) = ((i + 1:Nat):Int) from rfl]
  cases hf:fm k (L.take i) with
  | none =>
   have h0:L.take i = []:=B5e.mp hf
   rw [h0,happ1]
   simp
  | some b =>
   have hb:=B22 hf
   have hle:=fun y (hy:y ∈ L.take i)=>D7x hf hy
   have hne:(((L.take i).filter fun q=>k q == k b).map ints).length ≠ 0:= by
    rw [List.length_map]
    intro c
    have:=List.length_eq_zero_iff.mp c
    have h2:b ∈ (L.take i).filter fun q=>k q == k b:=List.mem_filter.mpr ⟨hb,by simp⟩
    rw [this] at h2; cases h2
   have hl:(((L.take i).filter fun q=>k q == k b).map ints).length≤7776:= by
    rw [List.length_map]
    have:=List.length_filter_le (fun q=>k q == k b) (L.take i)
    rw [List.length_take] at this
    omega
   have h00:(((((L.take i).filter fun q=>k q == k b).map ints).length:Int) == 0) = false:= by simp only [beq_eq_false_iff_ne]; omega
   simp only [h00,Bool.false_or,decide_eq_true_eq]
   by_cases c:k x < k b
   ·simp only [c,if_true]
    rw [happ1,List.filter_append,List.filter_eq_nil_iff.mpr (fun y hy=>by have:=hle y hy; simp; omega)]
    simp
   ·simp only [c,if_false,beq_iff_eq]
    by_cases e:k x = k b
    ·rw [if_pos e,Z7 (by omega) (by simp only [List.length_singleton]; omega),List.filter_append,List.filter_cons,if_pos (by simpa using e)]
     simp
    ·rw [if_neg e,List.filter_append,List.filter_cons,if_neg (by simpa using e)]
     simp) (by
  rw [List.take_length]
  unfold A50
  simp only []
  rw [if_neg (by simp)])
 rw [show ((0:Int),([]:LL),(0:Int)) = (((0:Nat):Int),match fm k (L.take 0) with
  | none=>([],0)
  | some b=>(((L.take 0).filter fun q=>k q == k b).map ints,k b)) from rfl,this]
 cases fm k L <;> rfl
def B31 (r:DrRoom):List Int × Int × Int :=
 if (chk r).2.2 ≠ 0 then ([],0,(chk r).2.2) else
 match Z2 r r.Persons with
 | none=>([],0,9)
 | some q=>(ints q,A09 r r.Persons q,0)
theorem A8i (r:DrRoom):A1x r = some (B31 r):= by
 unfold A1x B31
 rw [A2u]
 simp only [Option.bind_some]
 by_cases h0:(chk r).2.2 = 0
 ·obtain ⟨ok,-⟩:=(T1 r).mp h0
  have hr:∀(a b:List Int × Int × Int),(if (chk r).2.2 ≠ 0 then a else b) = b:=fun a b=>if_neg (fun c=>c h0)
  rw [hr,if_neg (by simp [h0]),C2r ok]
  simp only [Option.bind_some]
  cases hb:Z2 r r.Persons with
  | none=>rfl
  | some b =>
   have hh:=D3p hb
   simp only
   cases hL:(AL r r.Persons).filter (fun q=>A09 r r.Persons q == A09 r r.Persons b) with
   | nil=>rw [hL] at hh; cases hh
   | cons x l =>
    rw [hL] at hh
    obtain rfl:x = b:=Option.some.inj hh
    rw [if_neg (by simp; omega)]; rfl
 ·rw [if_pos h0,if_pos (by simpa using h0)]
theorem D2v {n S:Nat} (h:∀i,i < n→bit S i = true):A9n n S 0 = List.range n:= by
 unfold A9n
 rw [List.filter_eq_self]
 intro i hi
 rw [h i (by simpa using hi)]; simp
theorem B91 {α:Type} [Inhabited α] (l:List α):(List.range l.length).map (fun i=>l[i]!) = l:= by
 apply List.ext_getElem
 ·simp
 ·intro i h1 h2
  rw [List.getElem_map,List.getElem_range,getElem!_pos l i h2]
theorem D2x {r:DrRoom} {S:Nat} (h:∀i,i < r.Persons.length→bit S i = true):A03 r S 0 = r.Persons:= by
 unfold A03
 rw [D2v h,B91]
theorem C6t:∀n:Nat,n < 6→∀ i:Nat,i < n→bit (2 ^ n - 1) i = true:= by decide
theorem B2p {r:DrRoom} (ok:RmOk r):I9 ⟨r⟩ = some ((2 ^ r.Persons.length - 1:Nat):Int):= by
 have hP:=ok.persons
 unfold I9
 show (B81 .i64 1 (r.Persons.length:Int)).bind _ = _
 rw [A9f _ (by omega)]
 simp only [Option.bind_some,Option.some.injEq]
 have h1:0 < 2 ^ r.Persons.length:=Nat.two_pow_pos _
 have h2:2 ^ r.Persons.length≤32:=Nat.le_trans (Nat.pow_le_pow_right (by decide) hP) (by decide)
 rw [E2 (by omega)]; omega
theorem B2q {r:DrRoom} (ok:RmOk r):2 ^ r.Persons.length - 1 < 64:= by
 have:2 ^ r.Persons.length≤32:=Nat.le_trans (Nat.pow_le_pow_right (by decide) ok.persons) (by decide)
 omega
theorem A7a {r:DrRoom} (ok:RmOk r):A03 r (2 ^ r.Persons.length - 1) 0 = r.Persons :=
 D2x fun i hi=>C6t _ (by have:=ok.persons; omega) i hi
theorem C8c {q:List Nat} {ps:List DrLook} (h:q.length = ps.length):(q.zip ps).map (·.1) = q:=List.map_fst_zip (by omega)
theorem C98 {r:DrRoom} {ps:List DrLook} {q:List Nat} (h:q ∈ AL r ps):q.length = ps.length:=(C44.mp h).1.1
theorem D3c (r:DrRoom) (hb:NB r):A1r r = some (B31 r):= by
 unfold A1r B31
 rw [A5w r hb]
 simp only [Option.bind_some]
 by_cases h0:(chk r).2.2 = 0
 ·obtain ⟨ok,-⟩:=(T1 r).mp h0
  obtain ⟨ch,e1,hch⟩:=C2p ok
  have hr:∀(a b:List Int × Int × Int),(if (chk r).2.2 ≠ 0 then a else b) = b:=fun a b=>if_neg (fun c=>c h0)
  rw [hr,if_neg (by simp [h0]),show loop (A5i r) (0,[]) = some ch from e1,B2p ok]
  simp only [Option.bind_some]
  rw [B49 ok hch (B2q ok),A7a ok]
  simp only [Option.bind_some]
  cases hb:Z2 r r.Persons with
  | none=>rfl
  | some q =>
   have hl:=C98 (B22 hb)
   show some (ints ((q.zip r.Persons).map (·.1)),_,_) = _
   rw [C8c hl]; rfl
 ·rw [if_pos h0,if_pos (by simpa using h0)]
end Ds
end
section
set_option maxRecDepth 100000
namespace Ds
open Go Am
theorem C6m:∀d,d < 7→∀ q ∈ perms 6 d,B71 (ints q) = some (ints ((List.range 6).filter fun f=>q.contains f)):= by decide +kernel
end Ds
end
section
set_option maxRecDepth 100000
set_option maxHeartbeats 0
namespace Ds
open Go Am Go.Proofs.Ytdkflofgolehkaa.Cd
def A02 (a0:DrRoom) (a1:Int):Option Int :=
 (U5 a0).bind fun x1 =>
 (if (x1.2.2 == 0) = true then
  (L2 a1 0 (w64 ((List.length a0.Persons:Int) - 1))).bind fun x3 =>
  some (!x3)
 else
  some false).bind fun x4 =>
 if x4 = true then
  some 4
 else
  some x1.2.2
theorem A7n {c:Sc} {H:A1} {a0:DrRoom} {a1:Int} {r:Int} (h:A02 a0 a1 = some r) :
  E5 tab c H (.fn (.func 68) [] []) [(.agg (A4 a0)),.i a1] [.i r]:= by
 unfold A02 at h
 refine cE rfl rfl<|sg 0 rfl<|A0 (F3 (cs:=A4 a0) rfl rfl rfl) rfl<|qm rfl<|es (ra2 rfl rfl)<|s0<|oB h fun x1 hx1 h=>A0 (C2 rfl rfl rfl) rfl<|B5 (rs:=[.i x1.1,.i x1.2.1,.i x1.2.2]) rfl rfl (A2 (D2 rfl) B6) ((A0i hx1).frz)<|qm rfl<|A0 (A7 rfl rfl) rfl<|A0 (A7 rfl rfl) rfl<|A0 (A7 rfl rfl) rfl<|qm rfl<|qm rfl<|qm rfl<|es (ra3 rfl rfl rfl)<|B7<|s0<|oB h fun x4 hx4 h=>qm rfl<|A0 (F6 rfl rfl) rfl<|qm rfl<|gp 8 24 (.b x4) 16 rfl rfl (fun hg2=>?_) (fun hg2=>?_) ?_
 ·refine oB (bt hx4 hg2) fun x3 hx3 hx4=>?_
  obtain rfl:=os hx4
  exact gT rfl hg2<|qm rfl<|gT rfl hg2<|A0 (D3 rfl) rfl<|gT rfl hg2<|A0 (C7 rfl rfl rfl) rfl<|gT rfl hg2<|A0 (D9 (f:=A5) rfl) rfl<|gT rfl hg2<|A0 (Z8 rfl rfl) rfl<|gT rfl hg2<|B5 (rs:=[.b x3]) rfl rfl (A2 rfl (A2 rfl (A2 rfl B6))) ((N6 hx3).frz)<|gT rfl hg2<|A0 (R6 rfl) rfl<|A0 (C9 rfl hg2 rfl) rfl<|ge 8 rfl rfl rfl
 ·obtain rfl:=os (bf hx4 hg2)
  exact nT rfl hg2 rfl<|nT rfl hg2 rfl<|nT rfl hg2 rfl<|nT rfl hg2 rfl<|nT rfl hg2 rfl<|O1 (G6 rfl (by rw [hg2]; rfl)) rfl<|nT rfl hg2 rfl<|A0 (C8 rfl hg2 rfl) rfl<|ge 8 rfl rfl rfl
 refine es (ra2 rfl rfl)<|wi h rfl (fun hc5 h=>?_) fun hc5 h=>?_
 ·refine r0<|qm rfl<|en (ra1 rfl)<|s0<|qm rfl<|qm rfl<|es (ra1 rfl)<|C4 ?_
  obtain rfl:=os h
  exact retq trivial (B1 rfl B8) (A6 rfl B9) (A3 A8 B3)
 ·refine C1<|s0<|qm rfl<|qm rfl<|es (ra1 rfl)<|C4 ?_
  obtain rfl:=os h
  exact retq trivial (B1 rfl B8) (A6 rfl B9) (A3 A8 B3)
def A00 (a1:Int) (x3:((List (List Int)) × Int)) (s5:(Int × (List Int))) (s8:(Bool × Int)):Option ((Bool × Int) ⊕ Bool) :=
 if (decide (s8.2 < (List.length x3.1:Int))) = true then
  (if s8.1 = true then
  some true
  else
  (idx x3.1 s8.2).bind fun x12 =>
  (idx x12 a1).bind fun x13 =>
  some (x13 == s5.1)).bind fun x14 =>
  some (.inl (x14,(w64 (s8.2 + 1))))
 else
  some (.inr s8.1)
def A2t (a0:DrRoom) (a1:Int) (x3:((List (List Int)) × Int)) (s5:(Int × (List Int))):Option ((Int × (List Int)) ⊕ (List Int)) :=
 if (decide (s5.1 < (List.length a0.Figures:Int))) = true then
  (loop (A00 a1 x3 s5) (false,0)).bind fun (o15:Bool) =>
  if o15 = true then
  (app 8 s5.2 [s5.1]).bind fun x17 =>
  some (.inl ((w64 (s5.1 + 1)),x17))
  else
  some (.inl ((w64 (s5.1 + 1)),s5.2))
 else
  some (.inr s5.2)
def A6g (a0:DrRoom) (a1:Int):Option ((List Int) × Int) :=
 (A02 a0 a1).bind fun x1 =>
 if (x1 != 0) = true then
  some (([]:List Int),x1)
 else
  (W5 a0).bind fun x3 =>
  if ((List.length x3.1:Int) == 0) = true then
  some (([]:List Int),9)
  else
  (loop (A2t a0 a1 x3) (0,([]:List Int))).bind fun (o18:(List Int)) =>
  some (o18,0)
theorem C1n {c:Sc} {H:A1} {a0:DrRoom} {a1:Int} {r:((List Int) × Int)} (h:A6g a0 a1 = some r) :
  S4 tab c H (.fn (.func 29) [] []) [(.agg (A4 a0)),.i a1] [(.seq 1 (List.map cI r.1)),.i r.2]:= by
 unfold A6g at h
 refine cF rfl rfl<|sg 0 rfl<|A0 (F3 (cs:=A4 a0) rfl rfl rfl) rfl<|qm rfl<|qm rfl<|es (ra2 rfl rfl)<|s0<|oB h fun x1 hx1 h=>A0 (C2 rfl rfl rfl) rfl<|qm rfl<|B5 (rs:=[.i x1]) rfl rfl (A2 (D2 rfl) (A2 rfl B6)) ((A7n hx1).frz)<|qm rfl<|es (ra3 rfl rfl rfl)<|B7<|s0<|qm rfl<|A0 (J8 rfl rfl) rfl<|es (ra4 rfl rfl rfl rfl)<|wi h rfl (fun hc2 h=>?_) fun hc2 h=>?_
 ·refine s0<|qm rfl<|qm rfl<|qm rfl<|es (ra2 rfl rfl)<|C4 ?_
  obtain rfl:=os h
  refine Exists.intro [(.seq 1 (List.map cI ([]:List Int))),.i x1] (And.intro ?_ rfl)
  exact retq trivial (B1 rfl (B1 rfl B8)) (A6 rfl (A6 rfl B9)) (A3 E8 (A3 A8 B3))
 ·refine C1<|s0<|oB h fun x3 hx3 h=>A0 (C2 rfl rfl rfl) rfl<|B5 (rs:=[(.seq 1 (List.map (cL 1 cI) x3.1)),.i x3.2]) rfl rfl (A2 (D2 rfl) B6) (A48 hx3)<|qm rfl<|A0 (A7 rfl rfl) rfl<|A0 (A7 rfl rfl) rfl<|qm rfl<|qm rfl<|es (ra3 rfl rfl rfl)<|B7<|s0<|qm rfl<|A0 (D9 (f:=(cL 1 cI)) rfl) rfl<|A0 (F6 rfl rfl) rfl<|es (ra4 rfl rfl rfl rfl)<|wi h rfl (fun hc4 h=>?_) fun hc4 h=>?_
  ·refine s0<|qm rfl<|qm rfl<|es (ra2 rfl rfl)<|C4 ?_
   obtain rfl:=os h
   refine Exists.intro [(.seq 1 (List.map cI ([]:List Int))),.i 9] (And.intro ?_ rfl)
   exact retq trivial (B1 rfl (B1 rfl B8)) (A6 rfl (A6 rfl B9)) (A3 E8 (A3 A8 B3))
  ·refine C1<|sg 1 rfl<|A0 A3m rfl<|es (ra4 rfl rfl rfl rfl)<|B7<|s0<|qm rfl<|es (ra5 rfl rfl rfl rfl rfl)<|C3<|oB h fun o18 ho18 h=>wl (fun s5=>[(1,.i a1),(2,(.ptr (H.length + 0) 0)),(7,(.seq 1 (List.map (cL 1 cI) x3.1))),(9,(.asl (H.length + 1) (List.length s5.2))),(10,.i s5.1)]) (fun (q6:Unit) s5=>[(.cells (A4 a0)),(.arr 1 false (List.map cI s5.2))]) 2 (fun r e s' H'=>PX 0 [(9,(.asl (H.length + 1) (List.length r)))] (H++[(.cells (A4 a0)),(.arr 1 false (List.map cI r))]) e s' H') () ho18 rfl rfl (fun _ _=>rfl) (fun _=>rfl) rfl (fun s5=>(bdc A8 (bdc (F1 rfl) (bdc E8 (bdc (A08 rfl) (bdc A8 bdn)))))) (fun q6 s5 ys5 hs5=>?_) ?_
   ·unfold A2t at hs5
    refine B7<|s0<|qm rfl<|A0 (D3 rfl) rfl<|A0 (C7 rfl rfl rfl) rfl<|A0 (D9 (f:=A5) rfl) rfl<|A0 (I4 rfl rfl) rfl<|es (ra6 rfl rfl rfl rfl rfl rfl)<|wi hs5 rfl (fun hc7 hs5=>?_) fun hc7 hs5=>?_
    ·refine C1<|B7<|C3<|s0<|qm rfl<|es (ra6 rfl rfl rfl rfl rfl rfl)<|B7<|s0<|qm rfl<|es (ra7 rfl rfl rfl rfl rfl rfl rfl)<|C3<|oB hs5 fun o15 ho15 hs5=>wl (fun s8=>[(1,.i a1),(2,(.ptr (H.length + 0) 0)),(7,(.seq 1 (List.map (cL 1 cI) x3.1))),(9,(.asl (H.length + 1) (List.length s5.2))),(10,.i s5.1),(11,.b s8.1),(12,.i s8.2)]) (fun (q9:Unit) s8=>[(.cells (A4 a0)),(.arr 1 false (List.map cI s5.2))]) 2 (fun r e s' H'=>PX 2 [(1,.i a1),(2,(.ptr (H.length + 0) 0)),(7,(.seq 1 (List.map (cL 1 cI) x3.1))),(9,(.asl (H.length + 1) (List.length s5.2))),(10,.i s5.1),(11,.b r)] (H++[(.cells (A4 a0)),(.arr 1 false (List.map cI s5.2))]) e s' H') () ho15 rfl rfl (fun _ _=>rfl) (fun _=>rfl) rfl (fun s8=>(bdc A8 (bdc (F1 rfl) (bdc E8 (bdc (A08 rfl) (bdc A8 (bdc A8 (bdc A8 bdn)))))))) (fun q9 s8 ys8 hs8=>?_) ?_
     ·unfold A00 at hs8
      refine B7<|s0<|qm rfl<|qm rfl<|A0 (D9 (f:=(cL 1 cI)) rfl) rfl<|A0 (I4 rfl rfl) rfl<|es (ra8 rfl rfl rfl rfl rfl rfl rfl rfl)<|wi hs8 rfl (fun hc10 hs8=>?_) fun hc10 hs8=>?_
      ·refine C1<|B7<|C3<|r0<|oB hs8 fun x14 hx14 hs8=>qm rfl<|qm rfl<|gp 10 51 (.b x14) 41 rfl rfl (fun hg11=>?_) (fun hg11=>?_) ?_
       ·obtain rfl:=os (bt hx14 hg11)
        exact nF rfl hg11 rfl<|nF rfl hg11 rfl<|nF rfl hg11 rfl<|nF rfl hg11 rfl<|nF rfl hg11 rfl<|nF rfl hg11 rfl<|nF rfl hg11 rfl<|nF rfl hg11 rfl<|nF rfl hg11 rfl<|A0 (C9 rfl hg11 rfl) rfl<|ge 10 rfl rfl rfl
       ·refine oB (bf hx14 hg11) fun x12 hx12 hx14=>oB hx14 fun x13 hx13 hx14=>?_
        obtain rfl:=os hx14
        exact gF rfl hg11<|qm rfl<|gF rfl hg11<|qm rfl<|gF rfl hg11<|A0 (E9 (f:=(cL 1 cI)) rfl rfl hx12) rfl<|gF rfl hg11<|A0 (F5 rfl rfl) rfl<|gF rfl hg11<|qm rfl<|gF rfl hg11<|A0 (E9 (f:=cI) rfl rfl hx13) rfl<|gF rfl hg11<|A0 (F5 rfl rfl) rfl<|gF rfl hg11<|qm rfl<|gF rfl hg11<|A0 (F6 rfl rfl) rfl<|A0 (C8 rfl hg11 rfl) rfl<|ge 10 rfl rfl rfl
       refine qm rfl<|en (ra7 rfl rfl rfl rfl rfl rfl rfl)<|r0<|qm rfl<|A0 (E7 rfl rfl) rfl<|qm rfl<|en (ra7 rfl rfl rfl rfl rfl rfl rfl) ?_
       cases hs8
       exact lnT () rfl (su7 rfl rfl rfl rfl rfl rfl rfl)
      ·refine F4 ?_
       obtain rfl:=os hs8
       exact lx rfl px (su6 rfl rfl rfl rfl rfl rfl)
     ·rintro e s' H' - ⟨rfl,rfl,rfl⟩
      refine s0<|qm rfl<|es (ra6 rfl rfl rfl rfl rfl rfl)<|wi hs5 rfl (fun hc16 hs5=>?_) fun hc16 hs5=>?_
      ·refine r0<|oB hs5 fun x17 hx17 hs5=>qm rfl<|qm rfl<|A0 (G7 (rows:=List.map cI [s5.1]) rfl rfl (D8 (fun _=>rfl) _)) rfl<|R4 (A1b (f:=cI) rfl rfl rfl rfl W2 (fun _=>rfl) hx17) rfl<|qm rfl<|en (ra5 rfl rfl rfl rfl rfl)<|r0<|qm rfl<|A0 (E7 rfl rfl) rfl<|qm rfl<|en (ra5 rfl rfl rfl rfl rfl) ?_
       cases hs5
       exact lnT () rfl (su5 rfl rfl rfl rfl rfl)
      ·refine C1<|r0<|qm rfl<|A0 (E7 rfl rfl) rfl<|qm rfl<|en (ra5 rfl rfl rfl rfl rfl) ?_
       cases hs5
       exact lnT () rfl (su5 rfl rfl rfl rfl rfl)
    ·refine F4 ?_
     obtain rfl:=os hs5
     exact lx rfl px (su1 rfl)
   ·rintro e s' H' - ⟨rfl,rfl,rfl⟩
    refine s0<|qm rfl<|qm rfl<|qm rfl<|es (ra2 rfl rfl)<|C4 ?_
    obtain rfl:=os h
    refine Exists.intro [(.fresh 1 (List.map cI o18)),.i 0] (And.intro ?_ rfl)
    exact retq trivial (B1 rfl (B1 rfl B8)) (A6 (A2o rfl (List.length_map _)) (A6 rfl B9)) (A3 V7 (A3 A8 B3))
def W4 (a0:DrRoom) (a1:(List Int)) (s1:(Int × (List DrLook))):Option ((Int × (List DrLook)) ⊕ (List DrLook)) :=
 if (decide (s1.1 < (List.length a0.Persons:Int))) = true then
  (A14 a1 s1.1).bind fun x4 =>
  if (!x4) = true then
  (idx a0.Persons s1.1).bind fun x6 =>
  (app 48 s1.2 [x6]).bind fun x7 =>
  some (.inl ((w64 (s1.1 + 1)),x7))
  else
  some (.inl ((w64 (s1.1 + 1)),s1.2))
 else
  some (.inr s1.2)
def A1l (a0:DrRoom) (a1:(List Int)):Option DrRoom :=
 (loop (W4 a0 a1) (0,([]:List DrLook))).bind fun (o8:(List DrLook)) =>
 some (DrRoom.mk a0.Costs a0.Ounces a0.Figures o8)
theorem B3j {c:Sc} {H:A1} {a0:DrRoom} {a1:(List Int)} {r:DrRoom} (h:A1l a0 a1 = some r) :
  E5 tab c H (.fn (.func 44) [] []) [(.agg (A4 a0)),(.seq 1 (List.map cI a1))] [(.agg [(.seq 1 (List.map cI r.Costs)),(.seq 1 (List.map cI r.Ounces)),(.seq 3 (List.map A5 r.Figures)),(.fresh 3 (List.map A5 r.Persons))])]:= by
 unfold A1l at h
 refine cE rfl rfl<|sg 0 rfl<|A0 (F3 (cs:=A4 a0) rfl rfl rfl) rfl<|A0 E4 rfl<|es (ra3 rfl rfl rfl)<|sg 2 rfl<|A0 A3m rfl<|es (ra4 rfl rfl rfl rfl)<|B7<|s0<|qm rfl<|es (ra5 rfl rfl rfl rfl rfl)<|C3<|oB h fun o8 ho8 h=>wl (fun s1=>[(1,(.seq 1 (List.map cI a1))),(2,(.ptr (H.length + 0) 0)),(4,(.ptr (H.length + 1) 0)),(5,(.asl (H.length + 2) (List.length s1.2))),(6,.i s1.1)]) (fun (q2:Unit) s1=>[(.cells (A4 a0)),(.cells (A4 (DrRoom.mk ([]:List Int) ([]:List Int) ([]:List DrLook) ([]:List DrLook)))),(.arr 3 false (List.map A5 s1.2))]) 3 (fun r e s' H'=>PX 0 [(2,(.ptr (H.length + 0) 0)),(4,(.ptr (H.length + 1) 0)),(5,(.asl (H.length + 2) (List.length r)))] (H++[(.cells (A4 a0)),(.cells (A4 (DrRoom.mk ([]:List Int) ([]:List Int) ([]:List DrLook) ([]:List DrLook)))),(.arr 3 false (List.map A5 r))]) e s' H') () ho8 rfl rfl (fun _ _=>rfl) (fun _=>rfl) rfl (fun s1=>(bdc E8 (bdc (F1 rfl) (bdc (F1 rfl) (bdc (A08 rfl) (bdc A8 bdn)))))) (fun q2 s1 ys1 hs1=>?_) ?_
 ·unfold W4 at hs1
  refine B7<|s0<|qm rfl<|A0 (D3 rfl) rfl<|A0 (C7 rfl rfl rfl) rfl<|A0 (D9 (f:=A5) rfl) rfl<|A0 (I4 rfl rfl) rfl<|es (ra6 rfl rfl rfl rfl rfl rfl)<|wi hs1 rfl (fun hc3 hs1=>?_) fun hc3 hs1=>?_
  ·refine C1<|B7<|C3<|s0<|oB hs1 fun x4 hx4 hs1=>qm rfl<|qm rfl<|B5 (rs:=[.b x4]) rfl rfl (A2 rfl (A2 rfl B6)) ((A35 hx4).frz)<|A0 (R6 rfl) rfl<|es (ra6 rfl rfl rfl rfl rfl rfl)<|wi hs1 rfl (fun hc5 hs1=>?_) fun hc5 hs1=>?_
   ·refine r0<|oB hs1 fun x6 hx6 hs1=>oB hs1 fun x7 hx7 hs1=>qm rfl<|A0 (D3 rfl) rfl<|A0 (C7 rfl rfl rfl) rfl<|qm rfl<|A0 (E9 (f:=A5) rfl rfl hx6) rfl<|A0 (M6 rfl rfl) rfl<|A0 (G7 (rows:=List.map A5 [x6]) rfl rfl (D8 (fun _=>rfl) _)) rfl<|R4 (A1b (f:=A5) rfl rfl rfl rfl W2 (fun _=>rfl) hx7) rfl<|qm rfl<|en (ra5 rfl rfl rfl rfl rfl)<|r0<|qm rfl<|A0 (E7 rfl rfl) rfl<|qm rfl<|en (ra5 rfl rfl rfl rfl rfl) ?_
    cases hs1
    exact lnT () rfl (su5 rfl rfl rfl rfl rfl)
   ·refine C1<|r0<|qm rfl<|A0 (E7 rfl rfl) rfl<|qm rfl<|en (ra5 rfl rfl rfl rfl rfl) ?_
    cases hs1
    exact lnT () rfl (su5 rfl rfl rfl rfl rfl)
  ·refine F4 ?_
   obtain rfl:=os hs1
   exact lx rfl px (su3 rfl rfl rfl)
 ·rintro e s' H' - ⟨rfl,rfl,rfl⟩
  refine s0<|qm rfl<|A0 (D3 rfl) rfl<|H6 (D0 (ds:=[(.seq 1 (List.map cI a0.Costs)),(.seq 1 (List.map cI a0.Ounces)),(.seq 3 (List.map A5 a0.Figures)),(.asl (H.length + 2) (List.length o8))]) rfl rfl rfl rfl (P3 (Nat.le_add_right _ _)) rfl) rfl<|es (ra2 rfl rfl)<|s0<|A0 (I1 (ds:=[(.seq 1 (List.map cI a0.Costs)),(.seq 1 (List.map cI a0.Ounces)),(.seq 3 (List.map A5 a0.Figures)),(.asl (H.length + 2) (List.length o8))]) rfl rfl rfl rfl) rfl<|H6 (D0 (ds:=[(.seq 1 (List.map cI a0.Costs)),(.seq 1 (List.map cI a0.Ounces)),(.seq 3 (List.map A5 a0.Figures)),(.asl (H.length + 2) (List.length o8))]) rfl rfl rfl rfl (P3 (Nat.le_add_right _ _)) rfl) rfl<|es (ra1 rfl)<|C4 ?_
  obtain rfl:=os h
  exact retq trivial (O9 (I1 (ds:=[(.seq 1 (List.map cI a0.Costs)),(.seq 1 (List.map cI a0.Ounces)),(.seq 3 (List.map A5 a0.Figures)),(.asl (H.length + 2) (List.length o8))]) rfl rfl rfl rfl) B8) (A6 (C1o (V5 rfl (V5 rfl (V5 rfl (V5 (C53 rfl (List.length_map _)) C52))))) B9) (A3 (X2 rfl) B3)
def A3p (a0:DrRoom) (a1:Int):Option (Int × Int) :=
 (A02 a0 a1).bind fun x1 =>
 if (x1 != 0) = true then
  some (0,x1)
 else
  (A1x a0).bind fun x3 =>
  if (x3.2.2 != 0) = true then
  some (0,x3.2.2)
  else
  (A1l a0 [a1]).bind fun x5 =>
  (A1x x5).bind fun x6 =>
  if (x6.2.2 != 0) = true then
   some (0,x6.2.2)
  else
   some ((w64 (x3.2.1 - x6.2.1)),0)
theorem B69 {c:Sc} {H:A1} {a0:DrRoom} {a1:Int} {r:(Int × Int)} (h:A3p a0 a1 = some r) :
  E5 tab c H (.fn (.func 31) [] []) [(.agg (A4 a0)),.i a1] [.i r.1,.i r.2]:= by
 unfold A3p at h
 refine cE rfl rfl<|sg 0 rfl<|A0 (F3 (cs:=A4 a0) rfl rfl rfl) rfl<|qm rfl<|qm rfl<|es (ra2 rfl rfl)<|s0<|oB h fun x1 hx1 h=>A0 (C2 rfl rfl rfl) rfl<|qm rfl<|B5 (rs:=[.i x1]) rfl rfl (A2 (D2 rfl) (A2 rfl B6)) ((A7n hx1).frz)<|qm rfl<|es (ra3 rfl rfl rfl)<|B7<|s0<|qm rfl<|A0 (J8 rfl rfl) rfl<|es (ra4 rfl rfl rfl rfl)<|wi h rfl (fun hc2 h=>?_) fun hc2 h=>?_
 ·refine s0<|qm rfl<|qm rfl<|qm rfl<|es (ra2 rfl rfl)<|C4 ?_
  obtain rfl:=os h
  exact retq trivial (B1 rfl (B1 rfl B8)) (A6 rfl (A6 rfl B9)) (A3 A8 (A3 A8 B3))
 ·refine C1<|s0<|oB h fun x3 hx3 h=>A0 (C2 rfl rfl rfl) rfl<|B5 (rs:=[(.seq 1 (List.map cI x3.1)),.i x3.2.1,.i x3.2.2]) rfl rfl (A2 (D2 rfl) B6) ((A5t hx3).frz)<|qm rfl<|A0 (A7 rfl rfl) rfl<|A0 (A7 rfl rfl) rfl<|A0 (A7 rfl rfl) rfl<|qm rfl<|qm rfl<|qm rfl<|es (ra4 rfl rfl rfl rfl)<|B7<|s0<|qm rfl<|A0 (J8 rfl rfl) rfl<|es (ra5 rfl rfl rfl rfl rfl)<|wi h rfl (fun hc4 h=>?_) fun hc4 h=>?_
  ·refine s0<|qm rfl<|qm rfl<|qm rfl<|es (ra2 rfl rfl)<|C4 ?_
   obtain rfl:=os h
   exact retq trivial (B1 rfl (B1 rfl B8)) (A6 rfl (A6 rfl B9)) (A3 A8 (A3 A8 B3))
  ·refine C1<|s0<|oB h fun x5 hx5 h=>oB h fun x6 hx6 h=>A0 (C2 rfl rfl rfl) rfl<|qm rfl<|A0 (G7 (rows:=List.map cI [a1]) rfl rfl (D8 (fun _=>rfl) _)) rfl<|B5 (rs:=[(.agg (A4 x5))]) rfl rfl (A2 (D2 rfl) (A2 rfl B6)) ((B3j hx5).frz)<|B5 (rs:=[(.seq 1 (List.map cI x6.1)),.i x6.2.1,.i x6.2.2]) rfl rfl (A2 (D2 rfl) B6) ((A5t hx6).frz)<|qm rfl<|A0 (A7 rfl rfl) rfl<|A0 (A7 rfl rfl) rfl<|A0 (A7 rfl rfl) rfl<|qm rfl<|qm rfl<|qm rfl<|es (ra3 rfl rfl rfl)<|B7<|s0<|qm rfl<|A0 (J8 rfl rfl) rfl<|es (ra4 rfl rfl rfl rfl)<|wi h rfl (fun hc7 h=>?_) fun hc7 h=>?_
   ·refine s0<|qm rfl<|qm rfl<|qm rfl<|es (ra2 rfl rfl)<|C4 ?_
    obtain rfl:=os h
    exact retq trivial (B1 rfl (B1 rfl B8)) (A6 rfl (A6 rfl B9)) (A3 A8 (A3 A8 B3))
   ·refine C1<|s0<|qm rfl<|qm rfl<|A0 (Z8 rfl rfl) rfl<|qm rfl<|qm rfl<|es (ra2 rfl rfl)<|C4 ?_
    obtain rfl:=os h
    exact retq trivial (B1 rfl (B1 rfl B8)) (A6 rfl (A6 rfl B9)) (A3 A8 (A3 A8 B3))
end Ds
end
section
namespace Ds
open Go Am
theorem B3f:∀(n:Nat) (l:List Nat),l.Nodup→(∀ x ∈ l,x < n)→l.length≤n
 | 0,l,_,h=>by
  cases l with
  | nil=>simp
  | cons x l=>exact absurd (h x (List.mem_cons_self ..)) (Nat.not_lt_zero x)
 | n + 1,l,hd,h=>by
  have h1:=B3f n (l.filter fun x=>x != n) (hd.filter _) fun x hx=>by
   have:=List.mem_filter.mp hx
   have h2:=h x this.1
   have h3:x ≠ n:= by simpa using this.2
   omega
  have h2:(l.filter fun x=>!(x != n)).length≤1:= by
   have hn:(l.filter fun x=>!(x != n)).Nodup:=hd.filter _
   cases hl:l.filter fun x=>!(x != n) with
   | nil=>simp
   | cons a t =>
    cases t with
    | nil=>simp
    | cons b t =>
     rw [hl] at hn
     have ha:a ∈ l.filter fun x=>!(x != n):= by rw [hl]; simp
     have hb:b ∈ l.filter fun x=>!(x != n):= by rw [hl]; simp
     have ea:a = n:= by simpa using (List.mem_filter.mp ha).2
     have eb:b = n:= by simpa using (List.mem_filter.mp hb).2
     subst ea; subst eb
     simp at hn
  have h3:l.length = (l.filter fun x=>x != n).length + (l.filter fun x=>!(x != n)).length:= by
   clear h1 h2 hd h
   induction l with
   | nil=>rfl
   | cons x l ih =>
    rw [List.filter_cons,List.filter_cons]
    cases x != n <;> simp [ih] <;> omega
  omega
theorem D4w {q:List Nat} (hd:q.Nodup) (h:∀x ∈ q,x < 6):B71 (ints q) = some (ints ((List.range 6).filter fun f=>q.contains f)) :=
 C6m q.length (by have:=B3f 6 q hd h; omega) q (A9a.mpr ⟨rfl,hd,h⟩)
theorem C1s {n m:Nat} {p:Nat→Bool} (hnm:n≤m) (hp:∀i,p i = true→i < n):(List.range m).filter p = (List.range n).filter p:= by
 induction m with
 | zero =>
  have:n = 0:= by omega
  subst this; rfl
 | succ m ih =>
  by_cases e:n = m + 1
  ·subst e; rfl
  ·rw [List.range_succ,List.filter_append,ih (by omega),List.filter_cons,if_neg (by
    intro c; have:=hp m c; omega)]
   simp
def ddf (acc:List Nat) (x:Nat):List Nat:=if acc.contains x then acc else acc++[x]
theorem B56:∀(l acc:List Nat),acc.Nodup→(l.foldl ddf acc).Nodup∧∀ x,x ∈ l.foldl ddf acc↔x ∈ acc∨x ∈ l
 | [],acc,h=>⟨h,by simp⟩
 | y :: l,acc,h=>by
  have hn:(ddf acc y).Nodup:= by
   unfold ddf
   split
   ·exact h
   ·next c =>
    rw [List.nodup_append]
    refine ⟨h,by simp,fun a ha b hb=>?_⟩
    have:b = y:= by simpa using hb
    subst this
    rintro rfl
    exact c (by simpa using ha)
  have ih:=B56 l (ddf acc y) hn
  refine ⟨ih.1,fun x=>?_⟩
  rw [List.foldl_cons,ih.2 x]
  unfold ddf
  split
  ·next c =>
   have hy:y ∈ acc:= by simpa using c
   rw [List.mem_cons]
   constructor
   ·rintro (h | h)
    ·exact .inl h
    ·exact .inr (.inr h)
   ·rintro (h | rfl | h)
    ·exact .inl h
    ·exact .inl hy
    ·exact .inr h
  ·rw [List.mem_append,List.mem_singleton,or_assoc,← List.mem_cons]
def CL (r:DrRoom) (ps:List DrLook) (b:List Nat):List (List Nat):=(AL r ps).filter fun q=>A09 r ps q == A09 r ps b
def D41 (r:DrRoom) (b:List Nat) (n:Nat):List Nat:=(List.range r.Figures.length).filter fun f=>(CL r r.Persons b).any fun q=>q[n]! == f
def C94 (r:DrRoom) (x:Int):List Int × Int :=
 if (chk r).2.2 ≠ 0 then ([],(chk r).2.2) else if out 0 ((r.Persons.length:Int) - 1) x then ([],4) else
 match Z2 r r.Persons with
 | none=>([],9)
 | some b=>(ints (D41 r b x.toNat),0)
theorem C0g (r:DrRoom) (x:Int):A02 r x = some (if (chk r).2.2 ≠ 0 then (chk r).2.2 else if out 0 ((r.Persons.length:Int) - 1) x then 4 else 0):= by
 unfold A02
 rw [A2u]
 simp only [Option.bind_some]
 by_cases h0:(chk r).2.2 = 0
 ·obtain ⟨ok,-⟩:=(T1 r).mp h0
  have hP:=ok.persons
  have hr:∀(a b:Int),(if (chk r).2.2 ≠ 0 then a else b) = b:=fun a b=>if_neg (fun c=>c h0)
  rw [hr,if_pos (by simpa using h0),E2 (by omega),A62,h0]
  simp only [Option.bind_some,Bool.not_not]
  cases out 0 ((r.Persons.length:Int) - 1) x <;> rfl
 ·have e:((chk r).2.2 == 0) = false:=beq_eq_false_iff_ne.mpr h0
  rw [if_pos h0,e]; rfl
theorem C6e (r:DrRoom) (x:Int):A6g r x = some (C94 r x):= by
 unfold A6g C94
 rw [C0g]
 simp only [Option.bind_some]
 by_cases h0:(chk r).2.2 = 0
 ·obtain ⟨ok,-⟩:=(T1 r).mp h0
  have hP:=ok.persons
  have hF:=ok.figures
  have hr:∀{α:Type} (a b:α),(if (chk r).2.2 ≠ 0 then a else b) = b:=fun a b=>if_neg (fun c=>c h0)
  rw [hr,hr]
  cases hx:out 0 ((r.Persons.length:Int) - 1) x with
  | true=>rfl
  | false =>
   have ix:=A49 hx
   simp only [Bool.false_eq_true,if_false]
   rw [if_neg (by decide),C2r ok]
   simp only [Option.bind_some]
   cases hb:Z2 r r.Persons with
   | none=>rfl
   | some b =>
    simp only
    have hC:∀q ∈ CL r r.Persons b,q.length = r.Persons.length∧∀ f ∈ q,f < r.Figures.length:=fun q hq=>by
     have:=(C44.mp (List.mem_filter.mp hq).1).1
     exact ⟨this.1,this.2.2⟩
    have hCl:(CL r r.Persons b).length≤7776:= by
     have h1:=List.length_filter_le (fun q=>A09 r r.Persons q == A09 r r.Persons b) (AL r r.Persons)
     have h2:=B43 ok (ps:=r.Persons) ⟨hP,ok.person⟩
     unfold CL; omega
    have hne:(CL r r.Persons b).length ≠ 0:= by
     intro c
     have h2:b ∈ CL r r.Persons b:=List.mem_filter.mpr ⟨B22 hb,by simp⟩
     rw [List.length_eq_zero_iff.mp c] at h2; cases h2
    unfold D41
    unfold CL at *
    have e0:(((((AL r r.Persons).filter fun q=>A09 r r.Persons q == A09 r r.Persons b).map ints).length:Int) == 0) = false:= by
     rw [List.length_map,beq_eq_false_iff_ne]; omega
    simp only [e0,Bool.false_eq_true,if_false]
    generalize ((AL r r.Persons).filter fun q=>A09 r r.Persons q == A09 r r.Persons b) = C at *
    have hin:∀f:Nat,∀ acc:List Int,loop (A00 x (C.map ints,A09 r r.Persons b) ((f:Int),acc)) (false,0) = some (C.any fun q=>q[x.toNat]! == f):=fun f acc=>by
     have:=K1 (b:=A00 x (C.map ints,A09 r r.Persons b) ((f:Int),acc)) (fun i=>((C.take i).any fun q=>q[x.toNat]! == f,(i:Int))) C.length (r:=C.any fun q=>q[x.toNat]! == f) (by omega) (fun i hi=>by
      have hx:idx (C.map ints) (i:Int) = some (ints C[i]!):=A4o (by rw [List.getElem?_map,List.getElem?_eq_getElem hi,getElem!_pos C i hi]; rfl)
      have hq:=hC _ (J4 hi)
      have hy:idx (ints C[i]!) x = some ((C[i]![x.toNat]!:Nat):Int):= by
       have e:x = (x.toNat:Int):=(Int.toNat_of_nonneg ix.1).symm
       conv=>lhs; rw [e]
       exact A76 (by omega)
      unfold A00
      simp only []
      rw [if_pos (by simpa using hi),hx]
      simp only [Option.bind_some]
      rw [hy]
      simp only [Option.bind_some]
      rw [E2 (by omega),List.take_succ_eq_append_getElem hi,List.any_append,← getElem!_pos C i hi]
      cases (C.take i).any (fun q=>q[x.toNat]! == f) with
      | true=>rfl
      | false =>
       simp only [Bool.false_eq_true,if_false,Option.bind_some,Bool.false_or,List.any_cons,List.any_nil,Bool.or_false]
       congr 3
       rw [Bool.eq_iff_iff,beq_iff_eq,beq_iff_eq]; omega) (by
      unfold A00
      simp only []
      rw [if_neg (by simp),List.take_length])
     exact this
    have:=K1 (b:=A2t r x (C.map ints,A09 r r.Persons b)) (fun i=>((i:Int),ints ((List.range i).filter fun f=>C.any fun q=>q[x.toNat]! == f))) r.Figures.length (r:=ints ((List.range r.Figures.length).filter fun f=>C.any fun q=>q[x.toNat]! == f)) (by omega) (fun i hi=>by
     unfold A2t
     simp only []
     rw [if_pos (by simpa using hi),hin i,List.range_succ,List.filter_append,E2 (by omega)]
     simp only [Option.bind_some]
     have hl:((List.range i).filter fun f=>C.any fun q=>q[x.toNat]! == f).length≤6:= by
      have:=List.length_filter_le (fun f=>C.any fun q=>q[x.toNat]! == f) (List.range i)
      rw [List.length_range] at this; omega
     cases hc:C.any (fun q=>q[x.toNat]! == i) with
     | false=>rw [List.filter_cons,hc]; simp [ints]
     | true =>
      rw [if_pos rfl,Z7 (by omega) (by rw [L6]; simp only [List.length_singleton]; omega),List.filter_cons,hc]
      simp [ints]) (by
     unfold A2t
     simp only []
     rw [if_neg (by simp)])
    rw [show ((0:Int),([]:List Int)) = (((0:Nat):Int),ints ((List.range 0).filter fun f=>C.any fun q=>q[x.toNat]! == f)) from rfl,this]; rfl
 ·have hr:∀{α:Type} (a b:α),(if (chk r).2.2 ≠ 0 then a else b) = a:=fun a b=>if_pos h0
  rw [hr,hr,if_pos (by simpa using h0)]
theorem D0x (r:DrRoom) (hb:NB r) (x:Int):∃ch,(((chk r).2.2 = 0→C45 r ch))∧B58 r x = some (if (chk r).2.2 ≠ 0 then (([],plan0),(chk r).2.2) else if out 0 ((r.Persons.length:Int) - 1) x then (([],plan0),4) else
  match Z2 r r.Persons with
  | none=>(([],plan0),9)
  | some b=>((ch,J0 r (b.zip r.Persons)),0)):= by
 unfold B58
 rw [A5w r hb]
 simp only [Option.bind_some]
 by_cases h0:(chk r).2.2 = 0
 ·obtain ⟨ok,-⟩:=(T1 r).mp h0
  have hP:=ok.persons
  obtain ⟨ch,e1,hch⟩:=C2p ok
  refine ⟨ch,fun _=>hch,?_⟩
  have hr:∀{α:Type} (a b:α),(if (chk r).2.2 ≠ 0 then a else b) = b:=fun a b=>if_neg (fun c=>c h0)
  rw [hr,if_neg (by simp [h0]),e1,E2 (by omega),beyond1]
  simp only [Option.bind_some]
  cases hx:out 0 ((r.Persons.length:Int) - 1) x with
  | true=>rfl
  | false =>
   simp only [Bool.false_eq_true,if_false]
   rw [B2p ok]
   simp only [Option.bind_some]
   rw [B49 ok hch (B2q ok),A7a ok]
   simp only [Option.bind_some]
   cases Z2 r r.Persons <;> rfl
 ·refine ⟨[],fun c=>absurd c h0,?_⟩
  rw [if_pos h0,if_pos (by simpa using h0)]
theorem C2x (l:List Nat) (x:Nat) (hl:l.length < 1000):F7 (ints l) (x:Int) = some (l.contains x):= by
 unfold F7 L9
 have hil:=L6 l
 obtain ⟨o,ho,hc⟩:=A8z (ints l) (· == (x:Int)) (b:=G1 (ints l) (x:Int)) (by omega) (fun j hj=>by
  unfold G1
  rw [if_pos (by simpa using hj),I0 hj]
  simp only [Option.bind_some]
  rw [show ((x:Int) == (ints l)[j]!) = ((ints l)[j]! == (x:Int)) from Bool.beq_comm]
  cases (ints l)[j]! == (x:Int) <;> rfl) (by
  unfold G1
  rw [if_neg (by simp)])
 rw [ho]
 rw [C3h] at hc
 rcases o with k | u
 ·simp only [Option.bind_some]
  rw [hc.2,decide_eq_true hc.1]
 ·simp only [Option.bind_some]
  rw [hc]; rfl
theorem D5j (r:DrRoom) (hb:NB r) (x:Int):A39 r x = some (C94 r x):= by
 obtain ⟨ch,hch,he⟩:=D0x r hb x
 unfold A39 C94
 rw [he]
 simp only [Option.bind_some]
 by_cases h0:(chk r).2.2 = 0
 ·obtain ⟨ok,-⟩:=(T1 r).mp h0
  have hP:=ok.persons
  have hF:=ok.figures
  have hr:∀{α:Type} (a b:α),(if (chk r).2.2 ≠ 0 then a else b) = b:=fun a b=>if_neg (fun c=>c h0)
  rw [hr,hr]
  cases hx:out 0 ((r.Persons.length:Int) - 1) x with
  | true=>rfl
  | false =>
   have ix:=A49 hx
   simp only [Bool.false_eq_true,if_false]
   cases hbq:Z2 r r.Persons with
   | none=>rfl
   | some b =>
    simp only
    rw [if_neg (by simp),B2p ok]
    simp only [Option.bind_some]
    rw [C77 ok (hch h0) (B2q ok),A7a ok]
    simp only [Option.bind_some]
    have hA:∀q ∈ AL r r.Persons,q.length = r.Persons.length∧∀ f ∈ q,f < r.Figures.length:=fun q hq=>by
     have:=(C44.mp hq).1
     exact ⟨this.1,this.2.2⟩
    have hAl:=B43 ok (ps:=r.Persons) ⟨hP,ok.person⟩
    unfold D41 CL
    have hcost:∀q,(J0 r (q.zip r.Persons)).cost_ = A09 r r.Persons q:=fun q=>rfl
    generalize hA0:AL r r.Persons = A at hA hAl ⊢
    generalize hk:A09 r r.Persons = k at hcost ⊢
    let acc:Nat→List Nat:=fun i=>(((A.take i).filter fun q=>k q == k b).map fun q=>q[x.toNat]!).foldl ddf []
    have hacc:∀i,(acc i).Nodup∧∀ f ∈ acc i,f < r.Figures.length:=fun i=>by
     have:=B56 (((A.take i).filter fun q=>k q == k b).map fun q=>q[x.toNat]!) [] (by simp)
     refine ⟨this.1,fun f hf=>?_⟩
     have:=(this.2 f).mp hf
     simp only [List.not_mem_nil,false_or] at this
     obtain ⟨q,hq,rfl⟩:=List.mem_map.mp this
     have hq:=hA q (List.mem_of_mem_take (List.mem_filter.mp hq).1)
     exact hq.2 _ (J4 (by omega))
    have hlp:loop (B3z x (J0 r (b.zip r.Persons)) (A.map fun q=>J0 r (q.zip r.Persons))) (0,[]) = some (ints (acc A.length)):= by
     have:=K1 (b:=B3z x (J0 r (b.zip r.Persons)) (A.map fun q=>J0 r (q.zip r.Persons))) (fun i=>((i:Int),ints (acc i))) A.length (r:=ints (acc A.length)) (by omega) (fun i hi=>by
      have hq:=hA _ (J4 hi)
      have hpl:idx (A.map fun q=>J0 r (q.zip r.Persons)) (i:Int) = some (J0 r (A[i]!.zip r.Persons)):=A4o (by rw [List.getElem?_map,List.getElem?_eq_getElem hi,getElem!_pos A i hi]; rfl)
      have hfg:idx (J0 r (A[i]!.zip r.Persons)).figures_ x = some ((A[i]![x.toNat]!:Nat):Int):= by
       show idx (ints ((A[i]!.zip r.Persons).map (·.1))) x = _
       rw [C8c hq.1]
       have e:x = (x.toNat:Int):=(Int.toNat_of_nonneg ix.1).symm
       conv=>lhs; rw [e]
       exact A76 (by omega)
      have hl:(acc i).length≤6:= by
       have:=B3f r.Figures.length (acc i) (hacc i).1 (hacc i).2
       omega
      have hst:acc (i + 1) = if k A[i]! == k b then ddf (acc i) A[i]![x.toNat]! else acc i:= by
       show (((A.take (i + 1)).filter fun q=>k q == k b).map fun q=>q[x.toNat]!).foldl ddf [] = _
       rw [List.take_succ_eq_append_getElem hi,List.filter_append,List.map_append,List.foldl_append,← getElem!_pos A i hi,List.filter_cons]
       cases k A[i]! == k b <;> rfl
      unfold B3z
      simp only []
      rw [if_pos (by simpa using hi),hpl]
      simp only [Option.bind_some]
      rw [hfg]
      simp only [Option.bind_some]
      rw [hcost,hcost,hst,E2 (by omega)]
      cases hke:k A[i]! == k b with
      | false=>rfl
      | true =>
       rw [if_pos rfl,if_pos rfl,C2x _ _ (by omega)]
       simp only [Option.bind_some]
       unfold ddf
       cases (acc i).contains A[i]![x.toNat]! with
       | true=>rfl
       | false =>
        rw [if_pos (by decide),Z7 (by omega) (by rw [L6]; simp only [List.length_singleton]; omega)]
        simp [ints]) (by
      unfold B3z
      simp only []
      rw [if_neg (by simp)])
     exact this
    rw [hlp]
    simp only [Option.bind_some]
    have ha:=hacc A.length
    rw [D4w ha.1 (fun f hf=>by have:=ha.2 f hf; omega)]
    simp only [Option.bind_some]
    have hmem:=(B56 (((A.take A.length).filter fun q=>k q == k b).map fun q=>q[x.toNat]!) [] (by simp)).2
    rw [C1s (n:=r.Figures.length) hF (fun i hi=>ha.2 i (by simpa using hi))]
    congr 3
    refine List.filter_congr fun f _=>?_
    rw [Bool.eq_iff_iff,List.contains_iff_mem,List.any_eq_true]
    show f ∈ (((A.take A.length).filter fun q=>k q == k b).map fun q=>q[x.toNat]!).foldl ddf []↔_
    rw [hmem f,List.take_length]
    simp only [List.not_mem_nil,false_or,List.mem_map,beq_iff_eq]
 ·have hr:∀{α:Type} (a b:α),(if (chk r).2.2 ≠ 0 then a else b) = a:=fun a b=>if_pos h0
  rw [hr,hr,if_pos (by simpa using h0)]
def wo (r:DrRoom) (X:Nat→Bool):List DrLook:=((List.range r.Persons.length).filter fun i=>!X i).map fun i=>r.Persons[i]!
def woR (r:DrRoom) (X:Nat→Bool):DrRoom:=⟨r.Costs,r.Ounces,r.Figures,wo r X⟩
theorem C48 {r:DrRoom} (hP:r.Persons.length≤5) (l:List Int) (hl:l.length < 9223372036854775808):A1l r l = some (woR r fun i=>l.any (· == (i:Int))):= by
 unfold A1l
 have:=K1 (b:=W4 r l) (fun (i:Nat)=>((i:Int),((List.range i).filter fun (j:Nat)=>!l.any (· == (j:Int))).map fun (j:Nat)=>r.Persons[j]!)) r.Persons.length (r:=wo r fun i=>l.any (· == (i:Int))) (by omega) (fun i hi=>by
  unfold W4
  simp only []
  rw [if_pos (by simpa using hi),C0s l _ hl,List.range_succ,List.filter_append,List.map_append,E2 (by omega)]
  simp only [Option.bind_some]
  have hlen:=List.length_filter_le (fun i:Nat=>!l.any (· == (i:Int))) (List.range i)
  rw [List.length_range] at hlen
  cases hc:l.any (· == (i:Int)) with
  | true=>rw [if_neg (by decide),List.filter_cons,hc]; simp
  | false =>
   rw [if_pos (by decide),I0 hi]
   simp only [Option.bind_some]
   rw [Z7 (by omega) (by rw [List.length_map]; simp only [List.length_singleton]; omega),List.filter_cons,hc]
   simp) (by
  unfold W4
  simp only []
  rw [if_neg (by simp)]; rfl)
 rw [show ((0:Int),([]:List DrLook)) = (((0:Nat):Int),((List.range 0).filter fun (j:Nat)=>!l.any (· == (j:Int))).map fun (j:Nat)=>r.Persons[j]!) from rfl,this]; rfl
theorem D26 (r:DrRoom) (X:Nat→Bool):(wo r X).Sublist r.Persons:= by
 unfold wo
 have:=(List.filter_sublist (p:=fun i=>!X i) (l:=List.range r.Persons.length)).map fun i=>r.Persons[i]!
 rwa [B91] at this
theorem D6x {r:DrRoom} (h:(chk r).2.2 = 0) {ps:List DrLook} (hs:ps.Sublist r.Persons):(chk ⟨r.Costs,r.Ounces,r.Figures,ps⟩).2.2 = 0:= by
 obtain ⟨ok,n1,n2⟩:=(T1 r).mp h
 have hl:=hs.length_le
 have hP:=ok.persons
 have hL:∀least x,LkOk r least x→LkOk ⟨r.Costs,r.Ounces,r.Figures,ps⟩ least x:=fun least x o=>⟨o.len,o.col,o.look,o.hair⟩
 refine (T1 _).mpr ⟨⟨ok.costs,ok.cost,ok.ounces,ok.ounce,ok.figures,by show ps.length≤5; omega,fun x hx=>hL _ _ (ok.figure x hx),fun x hx=>hL _ _ (ok.person x (hs.subset hx))⟩,n1,?_⟩
 exact ⟨fun s hs2=>n2.each s ((hs.map _).subset hs2),n2.two.sublist (hs.map _)⟩
theorem C8g:∀n:Nat,n < 6→∀ s:Nat,s < 32→B00 ((2 ^ n - 1:Nat):Int) (s:Int) = ((mask (fun i=>!bit s i) n:Nat):Int):= by decide +kernel
theorem D3i:∀p:Nat,p < 5→∀ i:Nat,i < 5→bit (2 ^ p) i = (i == p):= by decide
theorem C9a {p:Nat→Bool} {n:Nat} (h:n≤5):mask p n < 64 :=
 Nat.lt_of_lt_of_le (A86 p n) (Nat.le_trans (Nat.pow_le_pow_right (by decide) h) (by decide))
theorem C9r {r:DrRoom} (X:Nat→Bool):A03 r (mask (fun i=>!X i) r.Persons.length) 0 = wo r X:= by
 unfold A03 wo A9n
 congr 1
 refine List.filter_congr fun i hi=>?_
 have hi:i < r.Persons.length:= by simpa using hi
 rw [decide_eq_true (Nat.zero_le i),Bool.true_and]
 exact A78 (fun i=>!X i) hi
theorem C4x {r:DrRoom} {X Y:Nat→Bool} (h:∀i,i < r.Persons.length→X i = Y i):wo r X = wo r Y:= by
 unfold wo
 congr 1
 refine List.filter_congr fun i hi=>?_
 rw [h i (by simpa using hi)]
def C1r (r:DrRoom) (x:Int):Int × Int :=
 if (chk r).2.2 ≠ 0 then (0,(chk r).2.2) else if out 0 ((r.Persons.length:Int) - 1) x then (0,4) else
 match Z2 r r.Persons with
 | none=>(0,9)
 | some b=>match Z2 r (wo r (· == x.toNat)) with
  | none=>(0,9)
  | some d=>(A09 r r.Persons b - A09 r (wo r (· == x.toNat)) d,0)
theorem B5b {r:DrRoom} (ok:RmOk r) {ps:List DrLook} (h:ps.length≤5) (q:List Nat):0≤A09 r ps q∧A09 r ps q≤2000:= by
 have:=C12 ok (q.zip ps)
 have hl:(q.zip ps).length≤5:= by rw [List.length_zip]; omega
 unfold A09; omega
theorem D25 (r:DrRoom) (X:Nat→Bool) (hP:r.Persons.length≤5):(wo r X).length≤5:=Nat.le_trans (D26 r X).length_le hP
theorem C1v (r:DrRoom) (x:Int):A3p r x = some (C1r r x):= by
 unfold A3p C1r
 rw [C0g]
 simp only [Option.bind_some]
 by_cases h0:(chk r).2.2 = 0
 ·obtain ⟨ok,-⟩:=(T1 r).mp h0
  have hP:=ok.persons
  have hr:∀{α:Type} (a b:α),(if (chk r).2.2 ≠ 0 then a else b) = b:=fun a b=>if_neg (fun c=>c h0)
  rw [hr,hr]
  cases hx:out 0 ((r.Persons.length:Int) - 1) x with
  | true=>rfl
  | false =>
   have ix:=A49 hx
   simp only [Bool.false_eq_true,if_false]
   rw [if_neg (by decide),A8i]
   simp only [Option.bind_some]
   unfold B31
   rw [hr]
   cases hb:Z2 r r.Persons with
   | none=>rfl
   | some b =>
    simp only
    rw [if_neg (by simp),C48 hP [x] (by simp)]
    simp only [Option.bind_some]
    have hw:woR r (fun i=>[x].any (· == (i:Int))) = woR r (· == x.toNat):= by
     have hw2:wo r (fun i=>[x].any (· == (i:Int))) = wo r (· == x.toNat):=C4x fun i _=>by
      simp only [List.any_cons,List.any_nil,Bool.or_false]
      rw [Bool.eq_iff_iff,beq_iff_eq,beq_iff_eq]; omega
     unfold woR
     rw [hw2]
    rw [hw,A8i]
    simp only [Option.bind_some]
    unfold B31
    have hv:=D6x h0 (D26 r (· == x.toNat))
    have hr2:∀{α:Type} (a b:α),(if (chk (woR r (· == x.toNat))).2.2 ≠ 0 then a else b) = b:=fun a b=>if_neg (fun c=>c hv)
    rw [hr2,show Z2 (woR r (· == x.toNat)) (woR r (· == x.toNat)).Persons = Z2 r (wo r (· == x.toNat)) from rfl]
    cases hd:Z2 r (wo r (· == x.toNat)) with
    | none=>rfl
    | some d =>
     have h1:=B5b ok hP b
     have h2:=B5b ok (D25 r (· == x.toNat) hP) d
     simp only
     rw [if_neg (by simp),show A09 (woR r (· == x.toNat)) (woR r (· == x.toNat)).Persons d = A09 r (wo r (· == x.toNat)) d from rfl,E2 (by omega)]
 ·have hr:∀{α:Type} (a b:α),(if (chk r).2.2 ≠ 0 then a else b) = a:=fun a b=>if_pos h0
  rw [hr,hr,if_pos (by simpa using h0)]
theorem D0c (r:DrRoom) (hb:NB r) (x:Int):X0 r x = some (C1r r x):= by
 unfold X0 C1r
 rw [A5w r hb]
 simp only [Option.bind_some]
 by_cases h0:(chk r).2.2 = 0
 ·obtain ⟨ok,-⟩:=(T1 r).mp h0
  have hP:=ok.persons
  obtain ⟨ch,e1,hch⟩:=C2p ok
  have hr:∀{α:Type} (a b:α),(if (chk r).2.2 ≠ 0 then a else b) = b:=fun a b=>if_neg (fun c=>c h0)
  rw [hr,if_neg (by simp [h0]),show loop (A4j r) (0,[]) = some ch from e1,E2 (by omega),beyond1]
  simp only [Option.bind_some]
  cases hx:out 0 ((r.Persons.length:Int) - 1) x with
  | true=>rfl
  | false =>
   have ix:=A49 hx
   simp only [Bool.false_eq_true,if_false]
   rw [B2p ok]
   simp only [Option.bind_some]
   rw [B49 ok hch (B2q ok),A7a ok]
   simp only [Option.bind_some]
   cases hbq:Z2 r r.Persons with
   | none=>rfl
   | some b =>
    have hsh:B81 .i64 1 x = some ((2 ^ x.toNat:Nat):Int):= by
     have e:x = (x.toNat:Int):=(Int.toNat_of_nonneg ix.1).symm
     conv=>lhs; rw [e]
     exact A9f _ (by omega)
    have h32:2 ^ x.toNat < 32:=Nat.lt_of_le_of_lt (Nat.pow_le_pow_right (by decide) (show x.toNat≤4 by omega)) (by decide)
    simp only [Bool.not_true,Bool.false_eq_true,if_false]
    rw [hsh]
    simp only [Option.bind_some]
    rw [C8g _ (by omega) _ h32,B49 ok hch (C9a hP),C9r,C4x (X:=fun i=>bit (2 ^ x.toNat) i) (Y:=(· == x.toNat)) (fun i hi=>D3i _ (by omega) i (by omega))]
    simp only [Option.bind_some]
    cases hd:Z2 r (wo r (· == x.toNat)) with
    | none=>rfl
    | some d =>
     have h1:=B5b ok hP b
     have h2:=B5b ok (D25 r (· == x.toNat) hP) d
     simp only [Bool.not_true,Bool.false_eq_true,if_false]
     show some (w64 (A09 r r.Persons b - A09 r (wo r (· == x.toNat)) d),_) = _
     rw [E2 (by omega)]
 ·rw [if_pos h0,if_pos (by simpa using h0)]
end Ds
end
section
set_option maxRecDepth 100000
set_option maxHeartbeats 0
namespace Ds
open Go Am Go.Proofs.Ytdkflofgolehkaa.Cd
def A0v (a0:DrRoom) (a1:Int):Option Bool :=
 (A1r a0).bind fun x1 =>
 (A1x a0).bind fun x2 =>
 (K7 x1.1 x2.1).bind fun x3 =>
 if (((!x3) || (x1.2.1 != x2.2.1)) || (x1.2.2 != x2.2.2)) = true then
  some false
 else
  (A39 a0 a1).bind fun x7 =>
  (A6g a0 a1).bind fun x8 =>
  (K7 x7.1 x8.1).bind fun x9 =>
  if ((!x9) || (x7.2 != x8.2)) = true then
  some false
  else
  (X0 a0 a1).bind fun x12 =>
  (A3p a0 a1).bind fun x13 =>
  (if ((x12.1 == x13.1) && (x12.2 == x13.2)) = true then
   (A0g).bind fun x16 =>
   some x16
  else
   some false).bind fun x17 =>
  some x17
theorem A9k {c:Sc} {H:A1} (hscv:Q9 c H = true) {a0:DrRoom} {a1:Int} {r:Bool} (h:A0v a0 a1 = some r) :
  E5 tab c H (.fn (.func 5) [] []) [(.agg (A4 a0)),.i a1] [.b r]:= by
 unfold A0v at h
 refine cE rfl rfl<|sg 0 rfl<|A0 (F3 (cs:=A4 a0) rfl rfl rfl) rfl<|qm rfl<|es (ra2 rfl rfl)<|s0<|oB h fun x1 hx1 h=>A0 (C2 rfl rfl rfl) rfl<|B5 (rs:=[(.seq 1 (List.map cI x1.1)),.i x1.2.1,.i x1.2.2]) rfl rfl (A2 (D2 rfl) B6) ((A5p (A29 hscv) hx1).frz)<|qm rfl<|A0 (A7 rfl rfl) rfl<|A0 (A7 rfl rfl) rfl<|A0 (A7 rfl rfl) rfl<|qm rfl<|qm rfl<|qm rfl<|es (ra5 rfl rfl rfl rfl rfl)<|s0<|oB h fun x2 hx2 h=>A0 (C2 rfl rfl rfl) rfl<|B5 (rs:=[(.seq 1 (List.map cI x2.1)),.i x2.2.1,.i x2.2.2]) rfl rfl (A2 (D2 rfl) B6) ((A5t hx2).frz)<|qm rfl<|A0 (A7 rfl rfl) rfl<|A0 (A7 rfl rfl) rfl<|A0 (A7 rfl rfl) rfl<|qm rfl<|qm rfl<|qm rfl<|es (ra8 rfl rfl rfl rfl rfl rfl rfl rfl)<|B7<|s0<|oB h fun x3 hx3 h=>qm rfl<|qm rfl<|B5 (rs:=[.b x3]) rfl rfl (A2 rfl (A2 rfl B6)) ((K4 hx3).frz)<|A0 (R6 rfl) rfl<|qm rfl<|gp 4 31 (.b ((!x3) || (x1.2.1 != x2.2.1))) 27 rfl rfl (fun hg4=>?_) (fun hg4=>?_) ?_
 ·exact nF rfl hg4 rfl<|nF rfl hg4 rfl<|nF rfl hg4 rfl<|A0 (C9 rfl hg4 rfl) rfl<|ge 4 (by rw [hg4]; rfl) rfl rfl
 ·exact gF rfl hg4<|qm rfl<|gF rfl hg4<|qm rfl<|gF rfl hg4<|A0 (J8 rfl rfl) rfl<|A0 (C8 rfl hg4 rfl) rfl<|ge 4 (by rw [hg4]; rfl) rfl rfl
 refine qm rfl<|gp 4 36 (.b (((!x3) || (x1.2.1 != x2.2.1)) || (x1.2.2 != x2.2.2))) 32 rfl rfl (fun hg5=>?_) (fun hg5=>?_) ?_
 ·exact nF rfl hg5 rfl<|nF rfl hg5 rfl<|nF rfl hg5 rfl<|A0 (C9 rfl hg5 rfl) rfl<|ge 4 (by rw [hg5]; rfl) rfl rfl
 ·exact gF rfl hg5<|qm rfl<|gF rfl hg5<|qm rfl<|gF rfl hg5<|A0 (J8 rfl rfl) rfl<|A0 (C8 rfl hg5 rfl) rfl<|ge 4 (by rw [hg5]; rfl) rfl rfl
 refine es (ra3 rfl rfl rfl)<|wi h rfl (fun hc6 h=>?_) fun hc6 h=>?_
 ·refine s0<|qm rfl<|es (ra1 rfl)<|C4 ?_
  obtain rfl:=os h
  exact retq trivial (B1 rfl B8) (A6 rfl B9) (A3 A8 B3)
 ·refine C1<|s0<|oB h fun x7 hx7 h=>A0 (C2 rfl rfl rfl) rfl<|qm rfl<|B5 (rs:=[(.seq 1 (List.map cI x7.1)),.i x7.2]) rfl rfl (A2 (D2 rfl) (A2 rfl B6)) (B13 (A29 hscv) hx7)<|qm rfl<|A0 (A7 rfl rfl) rfl<|A0 (A7 rfl rfl) rfl<|qm rfl<|qm rfl<|es (ra4 rfl rfl rfl rfl)<|s0<|oB h fun x8 hx8 h=>A0 (C2 rfl rfl rfl) rfl<|qm rfl<|B5 (rs:=[(.seq 1 (List.map cI x8.1)),.i x8.2]) rfl rfl (A2 (D2 rfl) (A2 rfl B6)) (C1n hx8)<|qm rfl<|A0 (A7 rfl rfl) rfl<|A0 (A7 rfl rfl) rfl<|qm rfl<|qm rfl<|es (ra6 rfl rfl rfl rfl rfl rfl)<|B7<|s0<|oB h fun x9 hx9 h=>qm rfl<|qm rfl<|B5 (rs:=[.b x9]) rfl rfl (A2 rfl (A2 rfl B6)) ((K4 hx9).frz)<|A0 (R6 rfl) rfl<|qm rfl<|gp 4 57 (.b ((!x9) || (x7.2 != x8.2))) 53 rfl rfl (fun hg10=>?_) (fun hg10=>?_) ?_
  ·exact nF rfl hg10 rfl<|nF rfl hg10 rfl<|nF rfl hg10 rfl<|A0 (C9 rfl hg10 rfl) rfl<|ge 4 (by rw [hg10]; rfl) rfl rfl
  ·exact gF rfl hg10<|qm rfl<|gF rfl hg10<|qm rfl<|gF rfl hg10<|A0 (J8 rfl rfl) rfl<|A0 (C8 rfl hg10 rfl) rfl<|ge 4 (by rw [hg10]; rfl) rfl rfl
  refine es (ra3 rfl rfl rfl)<|wi h rfl (fun hc11 h=>?_) fun hc11 h=>?_
  ·refine s0<|qm rfl<|es (ra1 rfl)<|C4 ?_
   obtain rfl:=os h
   exact retq trivial (B1 rfl B8) (A6 rfl B9) (A3 A8 B3)
  ·refine C1<|s0<|oB h fun x12 hx12 h=>A0 (C2 rfl rfl rfl) rfl<|qm rfl<|B5 (rs:=[.i x12.1,.i x12.2]) rfl rfl (A2 (D2 rfl) (A2 rfl B6)) ((A2m (A29 hscv) hx12).frz)<|qm rfl<|A0 (A7 rfl rfl) rfl<|A0 (A7 rfl rfl) rfl<|qm rfl<|qm rfl<|es (ra4 rfl rfl rfl rfl)<|s0<|oB h fun x13 hx13 h=>A0 (C2 rfl rfl rfl) rfl<|qm rfl<|B5 (rs:=[.i x13.1,.i x13.2]) rfl rfl (A2 (D2 rfl) (A2 rfl B6)) ((B69 hx13).frz)<|qm rfl<|A0 (A7 rfl rfl) rfl<|A0 (A7 rfl rfl) rfl<|qm rfl<|qm rfl<|es (ra4 rfl rfl rfl rfl)<|s0<|oB h fun x17 hx17 h=>qm rfl<|qm rfl<|A0 (F6 rfl rfl) rfl<|qm rfl<|gp 4 77 (.b ((x12.1 == x13.1) && (x12.2 == x13.2))) 73 rfl rfl (fun hg14=>?_) (fun hg14=>?_) ?_
   ·exact gT rfl hg14<|qm rfl<|gT rfl hg14<|qm rfl<|gT rfl hg14<|A0 (F6 rfl rfl) rfl<|A0 (C9 rfl hg14 rfl) rfl<|ge 4 (by rw [hg14]; rfl) rfl rfl
   ·exact nT rfl hg14 rfl<|nT rfl hg14 rfl<|nT rfl hg14 rfl<|A0 (C8 rfl hg14 rfl) rfl<|ge 4 (by rw [hg14]; rfl) rfl rfl
   refine qm rfl<|gp 2 80 (.b x17) 78 rfl rfl (fun hg15=>?_) (fun hg15=>?_) ?_
   ·refine oB (bt hx17 hg15) fun x16 hx16 hx17=>?_
    obtain rfl:=os hx17
    exact gT rfl hg15<|B5 (rs:=[.b x16]) rfl rfl B6 ((A2n (A29 hscv) hx16).frz)<|A0 (C9 rfl hg15 rfl) rfl<|ge 2 rfl rfl rfl
   ·obtain rfl:=os (bf hx17 hg15)
    exact O1 (G6 rfl (by rw [hg15]; rfl)) rfl<|A0 (C8 rfl hg15 rfl) rfl<|ge 2 rfl rfl rfl
   refine qm rfl<|es (ra1 rfl)<|C4 ?_
   obtain rfl:=os h
   exact retq trivial (B1 rfl B8) (A6 rfl B9) (A3 A8 B3)
end Ds
end
section
namespace Ds
open Go Am
theorem C8i (r:DrRoom):(B31 r).1.length < 9223372036854775808:= by
 unfold B31
 split
 ·simp
 ·next h0 =>
  obtain ⟨ok,-⟩:=(T1 r).mp (Decidable.not_not.mp h0)
  have hP:=ok.persons
  cases hb:Z2 r r.Persons with
  | none=>simp
  | some q =>
   have:=C98 (B22 hb)
   simp only [L6]; omega
theorem D24 (r:DrRoom) (x:Int):(C94 r x).1.length < 9223372036854775808:= by
 unfold C94
 split
 ·simp
 ·next h0 =>
  obtain ⟨ok,-⟩:=(T1 r).mp (Decidable.not_not.mp h0)
  have hF:=ok.figures
  split
  ·simp
  ·cases hb:Z2 r r.Persons with
   | none=>simp
   | some q =>
    have:=List.length_filter_le (fun f=>(CL r r.Persons q).any fun z=>z[x.toNat]! == f) (List.range r.Figures.length)
    rw [List.length_range] at this
    simp only [L6,D41]; omega
theorem B4z {r:DrRoom} {x:Int} (hb:NB r) (_:True):A0v r x = some true:= by
 unfold A0v
 rw [D3c r hb,A8i]
 simp only [Option.bind_some]
 rw [A82 _ (C8i r)]
 simp only [Option.bind_some,bne_self_eq_false,Bool.not_true,Bool.or_self,Bool.false_eq_true,if_false]
 rw [D5j r hb,C6e]
 simp only [Option.bind_some]
 rw [A82 _ (D24 r x)]
 simp only [Option.bind_some,bne_self_eq_false,Bool.not_true,Bool.or_self,Bool.false_eq_true,if_false]
 rw [D0c r hb,C1v]
 simp only [Option.bind_some,BEq.rfl,Bool.and_self,if_true]
 rw [awake]; rfl
end Ds
end
