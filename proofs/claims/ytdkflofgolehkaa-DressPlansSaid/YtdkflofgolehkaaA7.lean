/- Texts that the claim stands on, one behind another. -/
import Derived.Test.YtdkflofgolehkaaA6
set_option linter.unusedVariables false
set_option linter.unusedSimpArgs false
set_option linter.unnecessarySimpa false
section
set_option maxRecDepth 100000
namespace Am
open Go
theorem B90 {σ ρ:Type} {b:σ→Option (σ ⊕ ρ)} (I:σ→Prop) (J:ρ→Prop) (hs:∀x y,I x→b x = some (.inl y)→I y) (he:∀x r,I x→b x = some (.inr r)→J r) {x0:σ} {r:ρ} (h0:I x0) (h:loop b x0 = some r):J r:= by
 have key:∀n x0,I x0→A55 b n x0 = some r→J r:= by
  intro n
  induction n with
  | zero=>intro x0 _ h; cases h
  | succ n ih =>
   intro x0 hI h
   rw [J5] at h
   split at h
   ·next x' hb=>exact ih x' (hs _ _ hI hb) h
   ·next r' hb=>simp only [Option.some.injEq] at h; subst h; exact he _ _ hI hb
   ·cases h
 exact key _ _ h0 h
end Am
namespace Ds
open Go Am Go.Proofs.Ytdkflofgolehkaa.Cd
def B5t (a:Int) (s:Int × List Int):Option ((Int × List Int) ⊕ List Int) :=
 (if (decide (s.1 > a)) = true then (idx s.2 s.1).bind fun x=>(idx s.2 (w64 (s.1 - 1))).bind fun y=>(A6q x y).bind fun z=>some z else some false).bind fun g =>
 if g = true then
  (idx s.2 (w64 (s.1 - 1))).bind fun y=>(idx s.2 s.1).bind fun x =>
  (idx (B0s s.2 s.1 y) (w64 (s.1 - 1))).bind fun _ =>
  some (.inl (w64 (s.1 - 1),B0s (B0s s.2 s.1 y) (w64 (s.1 - 1)) x))
 else some (.inr s.2)
def B5s (a b:Int) (s:Int × List Int):Option ((Int × List Int) ⊕ List Int) :=
 if (decide (s.1 < b)) = true then
  (loop (B5t a) (s.1,s.2)).bind fun l=>some (.inl (w64 (s.1 + 1),l))
 else some (.inr s.2)
def C4q (a b:Int) (l:List Int):Option (List Int):=loop (B5s a b) (w64 (a + 1),l)
def ar1 (l:List Int):AO:=.arr 1 false (l.map cI)
theorem D2y {c:Sc} {A B:A1} {a b:Int} {l r:List Int} (h:C4q a b l = some r) :
  G3 tab c (A++(ar1 l :: B)) (.fn (.func 105) [] []) [.asl (A.length + 0) l.length,.i a,.i b] [] (A++(ar1 r :: B)):= by
 unfold C4q at h
 have htk:∀x:AO,(x :: B).take (B.length + 1) = x :: B:=fun x=>List.take_of_length_le (Nat.le_refl _)
 refine A7u (aq:=[.asl (A.length + 0) l.length,.i a,.i b]) rfl rfl rfl ?_
 refine s0<|qm rfl<|A0 (E7 rfl rfl) rfl<|qm rfl<|es (ra4 rfl rfl rfl rfl)<|C3<|wl (fun s=>[(0,.asl (A.length + 0) s.2.length),(1,.i a),(2,.i b),(6,.i s.1)]) (fun (_:Unit) s=>ar1 s.2 :: B) (B.length + 1) (fun r e s' H'=>PX 0 [] (A++(ar1 r :: B)) e s' H') () h rfl rfl (fun _ _=>rfl) (fun _=>rfl) rfl (fun s=>bdc (A08 (Nat.ble_eq_true_of_le (by omega))) (bdc A8 (bdc A8 (bdc A8 bdn)))) (fun _ s o hs=>?_) ?_
 ·unfold B5s at hs
  refine B7<|s0<|qm rfl<|qm rfl<|A0 (I4 rfl rfl) rfl<|es (ra5 rfl rfl rfl rfl rfl)<|wi hs rfl (fun hc hs=>?_) fun hc hs=>?_
  ·refine oB hs fun l1 hl1 hs=>?_
   refine C1<|B7<|C3<|s0<|qm rfl<|qm rfl<|es (ra5 rfl rfl rfl rfl rfl)<|C3<|wl (fun t=>[(0,.asl (A.length + 0) t.2.length),(1,.i a),(2,.i b),(6,.i s.1),(7,.i t.1)]) (fun (_:Unit) t=>ar1 t.2 :: B) (B.length + 1) (fun r e s' H'=>PX 2 [(0,.asl (A.length + 0) r.length),(1,.i a),(2,.i b),(6,.i s.1)] (A++(ar1 r :: B)) e s' H') () hl1 rfl rfl (fun _ _=>rfl) (fun _=>rfl) rfl (fun t=>bdc (A08 (Nat.ble_eq_true_of_le (by omega))) (bdc A8 (bdc A8 (bdc A8 (bdc A8 bdn))))) (fun _ t o' ht=>?_) ?_
   ·unfold B5t at ht
    refine oB ht fun g hg ht=>?_
    refine B7<|s0<|qm rfl<|qm rfl<|A0 (A9o rfl rfl) rfl<|qm rfl<|gp 11 30 (.b g) 19 rfl rfl (fun hb=>?_) (fun hb=>?_) ?_
    ·refine oB (bt hg hb) fun x hx hg=>oB hg fun y hy hg=>oB hg fun z hz hg=>?_
     obtain rfl:=os hg
     exact gT rfl hb<|qm rfl<|gT rfl hb<|qm rfl<|gT rfl hb<|A0 (B0g (f:=cI) rfl rfl rfl rfl hx) rfl<|gT rfl hb<|A0 (B1y (x:=.i x) rfl rfl (List.length_map _) (B0o hx) rfl) rfl<|gT rfl hb<|qm rfl<|gT rfl hb<|qm rfl<|gT rfl hb<|A0 (Z8 rfl rfl) rfl<|gT rfl hb<|A0 (B0g (f:=cI) rfl rfl rfl rfl hy) rfl<|gT rfl hb<|A0 (B1y (x:=.i y) rfl rfl (List.length_map _) (B0o hy) rfl) rfl<|gT rfl hb<|B5 (rs:=[.b z]) rfl rfl (A2 rfl (A2 rfl B6)) ((B42 hz).frz)<|A0 (C9 rfl hb rfl) rfl<|ge 11 rfl rfl rfl
    ·obtain rfl:=os (bf hg hb)
     exact nT rfl hb rfl<|nT rfl hb rfl<|nT rfl hb rfl<|nT rfl hb rfl<|nT rfl hb rfl<|nT rfl hb rfl<|nT rfl hb rfl<|nT rfl hb rfl<|nT rfl hb rfl<|O1 (G6 rfl (by rw [hb]; rfl)) rfl<|A0 (C8 rfl hb rfl) rfl<|ge 11 rfl rfl rfl
    ·refine es (ra6 rfl rfl rfl rfl rfl rfl)<|wi ht rfl (fun hc2 ht=>?_) fun hc2 ht=>?_
     ·refine oB ht fun y hy ht=>oB ht fun x hx ht=>oB ht fun w hw ht=>?_
      refine C1<|B7<|C3<|r0<|qm rfl<|qm rfl<|qm rfl<|qm rfl<|A0 (Z8 rfl rfl) rfl<|A0 (B0g (f:=cI) rfl rfl rfl rfl hy) rfl<|A0 (B1y (x:=.i y) rfl rfl (List.length_map _) (B0o hy) rfl) rfl<|qm rfl<|qm rfl<|A0 (B0g (f:=cI) rfl rfl rfl rfl hx) rfl<|A0 (B1y (x:=.i x) rfl rfl (List.length_map _) (B0o hx) rfl) rfl<|A0 (B0g (f:=cI) rfl rfl rfl rfl hx) rfl<|H6 (C3x (ds:=cI y) rfl rfl rfl rfl rfl (List.length_map _) (B0o hx) rfl rfl) rfl ?_
      rw [C3q]
      refine qm rfl<|qm rfl<|A0 (Z8 rfl rfl) rfl<|A0 (B0g (f:=cI) (e:=B0s t.2 t.1 y) rfl rfl rfl (A5e _ _ _) hw) rfl<|H6 (C3x (ds:=cI x) rfl rfl rfl rfl rfl (by rw [List.length_map,A5e]) (B0o hw) rfl rfl) rfl ?_
      rw [C3q]
      refine en (ra5 rfl rfl rfl rfl rfl)<|r0<|qm rfl<|A0 (Z8 rfl rfl) rfl<|qm rfl<|en (ra5 rfl rfl rfl rfl rfl) ?_
      cases ht
      exact lnT () (htk _) (su5 (by simp only [A5e]; rfl) rfl rfl rfl rfl)
     ·refine F4 ?_
      obtain rfl:=os ht
      exact lx rfl px (su4 rfl rfl rfl rfl)
   ·rintro e s' H' - ⟨rfl,rfl,rfl⟩
    refine r0<|qm rfl<|A0 (E7 rfl rfl) rfl<|qm rfl<|en (ra4 rfl rfl rfl rfl) ?_
    cases hs
    exact lnT () (htk _) (su4 rfl rfl rfl rfl)
  ·refine F4 ?_
   obtain rfl:=os hs
   exact lx rfl px (Sub.nil _)
 ·rintro e s' H' - ⟨rfl,rfl,rfl⟩
  show B8h _ _ _ _ .normal _ _
  exact C6g trivial B8 B9 B3 (List.take_of_length_le (by simp))
def D4p (a b:Int) (l:List Int):Option (List Int):=if (decide (w64 (b - a)≤12)) = true then C4q a b l else none
theorem D4q {c:Sc} {A B:A1} {a b k:Int} {l r:List Int} (h:D4p a b l = some r) :
  G3 tab c (A++(ar1 l :: B)) (.fn (.func 96) [] []) [.asl (A.length + 0) l.length,.i a,.i b,.i k] [] (A++(ar1 r :: B)):= by
 unfold D4p at h
 split at h
 ·next hc =>
  refine A7u (aq:=[.asl (A.length + 0) l.length,.i a,.i b,.i k]) rfl rfl rfl ?_
  refine s0<|qm rfl<|es (ra5 rfl rfl rfl rfl rfl)<|s0<|qm rfl<|es (ra6 rfl rfl rfl rfl rfl rfl)<|C3<|D22 (B.length + 1) rfl _ (fun S hS=>O7 (live:=[0,1,2,3,8,9]) rfl (by decide) (Sub.trans (su6 rfl rfl rfl rfl rfl rfl) hS))<|C3<|s0<|qm rfl<|qm rfl<|A0 (Z8 rfl rfl) rfl<|qm rfl<|es (ra7 rfl rfl rfl rfl rfl rfl rfl)<|B7<|s0<|qm rfl<|A0 (B87 rfl rfl) rfl<|es (ra8 rfl rfl rfl rfl rfl rfl rfl rfl)<|Q7 rfl hc<|s0<|qm rfl<|qm rfl<|qm rfl<|R4 (S3 rfl rfl (D2y h) rfl) rfl<|es .n<|C4 ?_
  refine .out rfl ?_
  show B8h _ _ _ _ .ret _ _
  exact C6g trivial B8 B9 B3 (List.take_of_length_le (by simp))
 ·cases h
def B71 (l:List Int):Option (List Int) :=
 (A5n (IntKind.u64.wrap (List.length l:Int))).bind fun _=>D4p 0 (List.length l:Int) l
theorem D4x {c:Sc} {A B:A1} {l r:List Int} (h:B71 l = some r) :
  G3 tab c (A++(ar1 l :: B)) (.fn (.func 67) [] []) [.asl (A.length + 0) l.length] [] (A++(ar1 r :: B)):= by
 unfold B71 at h
 refine oB h fun k hk h=>?_
 refine A7u (aq:=[.asl (A.length + 0) l.length]) rfl rfl rfl ?_
 refine s0<|qm rfl<|A0 (B3g (f:=cI) rfl rfl rfl) rfl<|qm rfl<|es (ra2 rfl rfl)<|r0<|qm rfl<|qm rfl<|qm rfl<|A0 (B0f rfl) rfl<|B5 (rs:=[.i k]) rfl rfl (A2 rfl B6) ((B3i hk).frz)<|R4 (S3 rfl rfl (D4q h) rfl) rfl<|en .n ?_
 show B8h _ _ _ _ .normal _ _
 exact C6g trivial B8 B9 B3 (List.take_of_length_le (by simp))
theorem C9v {a b:Int} {l r:List Int} (h:C4q a b l = some r):r.length = l.length:= by
 unfold C4q at h
 refine B90 (fun s=>s.2.length = l.length) (fun r=>r.length = l.length) (fun x y hx hy=>?_) (fun x r hx hr=>?_) rfl h
 ·unfold B5s at hy
  split at hy
  ·refine oB hy fun l1 hl1 hy=>?_
   cases hy
   refine B90 (fun s=>s.2.length = l.length) (fun r=>r.length = l.length) (fun x y hx hy=>?_) (fun x r hx hr=>?_) hx hl1
   ·unfold B5t at hy
    refine oB hy fun g _ hy=>?_
    split at hy
    ·refine oB hy fun _ _ hy=>oB hy fun _ _ hy=>oB hy fun _ _ hy=>?_
     cases hy
     simpa only [A5e] using hx
    ·cases hy
   ·unfold B5t at hr
    refine oB hr fun g _ hr=>?_
    split at hr
    ·refine oB hr fun _ _ hr=>oB hr fun _ _ hr=>oB hr fun _ _ hr=>?_
     cases hr
    ·cases hr; exact hx
  ·cases hy
 ·unfold B5s at hr
  split at hr
  ·refine oB hr fun _ _ hr=>?_
   cases hr
  ·cases hr; exact hx
theorem C9w {l r:List Int} (h:B71 l = some r):r.length = l.length:= by
 unfold B71 D4p at h
 refine oB h fun _ _ h=>?_
 split at h
 ·exact C9v h
 ·cases h
end Ds
end
section
set_option maxRecDepth 100000
namespace Ds
open Go Am Go.Proofs.Ytdkflofgolehkaa.Cd
def B58 (t:DrRoom) (person:Int):Option ((Chg × dress_plan) × Int) :=
 (L4 t).bind fun x1 =>
 if (x1.2.2 != 0) = true then some (([],plan0),x1.2.2)
 else (loop (M1 t) (0,[])).bind fun ch =>
  (I7 0 (w64 ((List.length t.Persons:Int) - 1)) [person]).bind fun k =>
  if k = true then some (([],plan0),4)
  else (I9 ⟨t⟩).bind fun w=>(P1 t ch w).bind fun z =>
   if (!z.2) = true then some (([],plan0),9) else some ((ch,z.1),0)
def C5j (N:Nat) (t:DrRoom) (ch:Chg) (p:dress_plan):List AO:=[.cells (A4 t),.cells (A9 p),.cells (A4 t),.map (A9j ch),.cells (A33 t (N + 3)),.cells (A9 p)]
def EnQ (H:A1) (t:DrRoom) (r:(Chg × dress_plan) × Int) (e:Ex) (s:B2) (H1:A1):Prop :=
 (match e with | .exit _=>False | _=>True)∧∃ rs H2,results s H1 [.tmp 4,.cell 5 (some 6),.tmp 6] = some rs∧P5 H.length H1 rs = some (rs,H2) ∧
  ((r.2 != 0) = true∧rs = [.lit (.pointer none),.agg (A9 plan0),.i r.2]∧trunc H.length rs H2 = H∨r.2 = 0∧rs = [.ptr (H.length + 4) 0,.agg (A9 r.1.2),.i 0]∧trunc H.length rs H2 = H++C5j H.length t r.1.1 r.1.2)
theorem C03 {H:A1} {l:List AO} {s:B2} {t:DrRoom} {e:Int} {x:Chg × dress_plan} (he:(e != 0) = true) (h4:sget s 4 = some (.lit (.pointer none))) (h5:sget s 5 = some (.ptr (H.length + 1) 0)) (h6:sget s 6 = some (.i e)) (hl:l[1]? = some (.cells (A9 plan0))):EnQ H t (x,e) .ret s (H++l) :=
 ⟨trivial,_,_,B1 h4 (O9 (I1 (ds:=A9 plan0) h5 hl rfl rfl) (B1 h6 B8)),A6 rfl (A6 (A1c rfl) (A6 rfl B9)),.inl ⟨he,rfl,by rw [C0l (by rfl),List.append_nil]⟩⟩
theorem D0y {c:Sc} {H:A1} (hscv:Q9 c H = true) {t:DrRoom} {person:Int} {r:(Chg × dress_plan) × Int} (h:B58 t person = some r) :
  (r.2 != 0) = true∧G3 tab c H (.fn (.func 64) [] []) [.agg (A4 t),.i person] [.lit (.pointer none),.agg (A9 plan0),.i r.2] H ∨
  r.2 = 0∧G3 tab c H (.fn (.func 64) [] []) [.agg (A4 t),.i person] [.ptr (H.length + 4) 0,.agg (A9 r.1.2),.i 0] (H++C5j H.length t r.1.1 r.1.2):= by
 have key:WP tab c64 (I3 0 [.agg (A4 t),.i person]) (H++[]) ⟨H.length,c.cur :: c.outer⟩ (EnQ H t r):= by
  unfold B58 at h
  refine oB h fun x1 hx1 h=>?_
  refine sg 0 rfl<|A0 (F3 (cs:=A4 t) rfl rfl rfl) rfl<|qm rfl<|A0 E4 rfl<|qm rfl<|es (ra3 rfl rfl rfl) ?_
  by_cases hc1:(x1.2.2 != 0) = true
  ·rw [if_pos hc1] at h
   obtain rfl:=os h
   refine s0<|A0 (C2 rfl rfl rfl) rfl<|R4 (W0 rfl rfl (A2 (D2 rfl) B6) (B6s hx1 hc1) rfl) rfl<|qm rfl<|A0 (A7 rfl rfl) rfl<|A0 (A7 rfl rfl) rfl<|qm rfl<|qm rfl<|es (ra5 rfl rfl rfl rfl rfl)<|B7<|C3<|s0<|qm rfl<|A0 (J8 rfl rfl) rfl<|qm rfl<|es (ra6 rfl rfl rfl rfl rfl rfl)<|Q7 rfl hc1<|s0<|A0 (K9 (cs:=A9 plan0) rfl rfl) rfl<|qm rfl<|qm rfl<|H6 (D0 (ds:=A9 plan0) rfl rfl rfl rfl (C5 rfl) rfl) rfl<|qm rfl<|es (ra3 rfl rfl rfl)<|C4<|C03 hc1 rfl rfl rfl rfl
  ·rw [if_neg hc1] at h
   have hc1:(x1.2.2 != 0) = false:=Bool.eq_false_iff.2 hc1
   refine oB h fun ch hch h=>oB h fun k hk h=>?_
   have hlook:G3 tab ⟨H.length,c.cur :: c.outer⟩ (H++[.cells (A4 t),.cells (A9 plan0)]) (.fn (.func 52) [] []) [(.agg (A4 t))] [.ptr (H.length + 4) 0,.i 0] (H++[.cells (A4 t),.cells (A9 plan0),.cells (A4 t),.map (A9j ch),.cells (A33 t (H.length + 3))]):= by
    have:=B6t (c:=⟨H.length,c.cur :: c.outer⟩) (H:=H++[.cells (A4 t),.cells (A9 plan0)]) hx1 hc1 hch
    unfold C7q at this
    rw [List.length_append,List.append_assoc] at this
    exact this
   refine s0<|A0 (C2 rfl rfl rfl) rfl<|R4 (W0 rfl rfl (A2 (D2 rfl) B6) hlook rfl) rfl<|qm rfl<|A0 (A7 rfl rfl) rfl<|A0 (A7 rfl rfl) rfl<|qm rfl<|qm rfl<|es (ra5 rfl rfl rfl rfl rfl)<|B7<|C3<|s0<|qm rfl<|A0 (N9 (v:=(.b false)) rfl rfl rfl) rfl<|qm rfl<|es (ra6 rfl rfl rfl rfl rfl rfl)<|Y2 rfl rfl<|s0<|A0 (D3 rfl) rfl<|A0 (C7 rfl rfl rfl) rfl<|A0 (D9 (f:=A5) rfl) rfl<|A0 (Z8 rfl rfl) rfl<|qm rfl<|A0 (G7 (rows:=List.map cI [person]) rfl rfl (D8 (fun _=>rfl) _)) rfl<|B5 (rs:=[.b k]) rfl rfl (A2 rfl (A2 rfl (A2 rfl B6))) ((M2 hk).frz)<|qm rfl<|es (ra3 rfl rfl rfl)<|wi h rfl (fun hc2 h=>?_) fun hc2 h=>?_
   ·obtain rfl:=os h
    exact s0<|A0 (K9 (cs:=A9 plan0) rfl rfl) rfl<|qm rfl<|H6 (D0 (ds:=A9 plan0) rfl rfl rfl rfl (C5 rfl) rfl) rfl<|qm rfl<|es (ra3 rfl rfl rfl)<|C4<|C03 rfl rfl rfl rfl rfl
   refine oB h fun w hw h=>oB h fun z hz h=>?_
   refine C1<|sg 5 rfl<|qm rfl<|qm rfl<|B5 (rs:=[.i w]) rfl rfl (A2 rfl B6) ((N0 (a0:=⟨t⟩) (D6 rfl) hw).frz)<|B5 (rs:=[(.agg (A9 z.1)),.b z.2]) rfl rfl (A2 rfl (A2 rfl B6)) (B5a (t:=t) (ch:=ch) ⟨_,D6 rfl,A1f rfl⟩ (A29 hscv) hz)<|qm rfl<|A0 (A7 rfl rfl) rfl<|A0 (A7 rfl rfl) rfl<|A0 E4 rfl<|H6 (D0 (ds:=(A9 z.1)) rfl rfl rfl rfl (C5 rfl) rfl) rfl<|qm rfl<|es (ra4 rfl rfl rfl rfl)<|B7<|s0<|qm rfl<|A0 (R6 rfl) rfl<|es (ra4 rfl rfl rfl rfl)<|wi h rfl (fun hc3 h=>?_) fun hc3 h=>?_
   ·obtain rfl:=os h
    exact s0<|A0 (K9 (cs:=A9 plan0) rfl rfl) rfl<|qm rfl<|H6 (D0 (ds:=A9 plan0) rfl rfl rfl rfl (C5 rfl) rfl) rfl<|qm rfl<|es (ra3 rfl rfl rfl)<|C4<|C03 rfl rfl rfl rfl rfl
   ·obtain rfl:=os h
    refine C1<|s0<|qm rfl<|A0 (C2 rfl rfl rfl) rfl<|qm rfl<|H6 (D0 (ds:=(A9 z.1)) rfl rfl rfl rfl (C5 rfl) rfl) rfl<|qm rfl<|es (ra3 rfl rfl rfl)<|C4 ?_
    exact ⟨trivial,_,_,B1 rfl (O9 (I1 (ds:=A9 z.1) rfl rfl rfl rfl) (B1 rfl B8)),A6 rfl (A6 (A1c rfl) (A6 rfl B9)),.inr ⟨rfl,rfl,B77 C63⟩⟩
 rw [List.append_nil] at key
 obtain ⟨e,S',s',H2,h1,h2,h3,rs,H3,h4,h5,h6⟩:=key _ (Sub.refl _)
 have hrun:∀H',trunc H.length rs H3 = H'→G3 tab c H (.fn (.func 64) [] []) [.agg (A4 t),.i person] rs H':=fun H' hH =>
  G3.fn (af:=a64) (bd:=c64) (aq:=[.agg (A4 t),.i person]) (rs0:=rs) (rs1:=rs) (H1:=H3) (e:=e) (st':=⟨S',H2,⟨H.length,c.cur :: c.outer⟩⟩) rfl rfl rfl rfl rfl rfl h1 (by cases e <;> first | rfl | exact h3.elim) (O8 h2 h4) h5 rfl hH.symm
 rcases h6 with ⟨h6,rfl,h7⟩ | ⟨h6,rfl,h7⟩
 ·exact .inl ⟨h6,hrun _ h7⟩
 ·exact .inr ⟨h6,hrun _ h7⟩
theorem retq0 {H:A1} {s:B2} {rv:List ARes} {rs:List AV} {e:Ex} (h:RetQ H rv rs e s (H++[])):RetQ H rv rs e s H:= by rwa [List.append_nil] at h
theorem D1k {c:Sc} {A B:A1} {b:Nat} {l:List Int} {x r:Int} (hb:A.length = b) (h:L9 l x = some r):E5 tab c (A++(ar1 l :: B)) (.fn (.func 95) [] []) [.asl b l.length,.i x] [.i r]:= by
 subst hb
 unfold L9 at h
 have htk:∀x:AO,(x :: B).take (B.length + 1) = x :: B:=fun x=>List.take_of_length_le (Nat.le_refl _)
 refine B53 (aq:=[.asl A.length l.length,.i x]) rfl rfl rfl ?_
 refine s0<|qm rfl<|es (ra2 rfl rfl)<|B7<|s0<|qm rfl<|A0 (B3g (f:=cI) (j:=0) rfl rfl rfl) rfl<|qm rfl<|es (ra4 rfl rfl rfl rfl)<|C3<|oB h fun o6 ho6 h=>wl (fun s1=>[(0,(.asl (A.length + 0) l.length)),(1,.i x),(7,(.i (List.length l:Int))),(8,.i s1)]) (fun (q2:Unit) s1=>ar1 l :: B) (B.length + 1) (fun r e s' H'=>(match r with | (.inl v)=>e = .ret∧RetQ (A++(ar1 l :: B)) [.tmp 4] [.i v] e s' H' | (.inr v)=>PX 0 [] (A++(ar1 l :: B)) e s' H':Prop)) () ho6 rfl rfl (fun _ _=>rfl) (fun _=>rfl) rfl (fun s1=>(bdc (A08 (Nat.ble_eq_true_of_le (by omega))) (bdc A8 (bdc A8 (bdc A8 bdn))))) (fun q2 s1 ys1 hs1=>?_) ?_
 ·unfold G1 at hs1
  refine s0<|A0 (I4 rfl rfl) rfl<|es (ra5 rfl rfl rfl rfl rfl)<|B7<|wi hs1 rfl (fun hc3 hs1=>?_) fun hc3 hs1=>?_
  ·refine C1<|B7<|C3<|s0<|qm rfl<|qm rfl<|es (ra5 rfl rfl rfl rfl rfl)<|s0<|oB hs1 fun x4 hx4 hs1=>qm rfl<|qm rfl<|qm rfl<|A0 (B0g (f:=cI) rfl rfl rfl rfl hx4) rfl<|A0 (B1y (x:=.i x4) rfl rfl (List.length_map _) (B0o hx4) rfl) rfl<|A0 (F6 rfl rfl) rfl<|es (ra6 rfl rfl rfl rfl rfl rfl)<|wi hs1 rfl (fun hc5 hs1=>?_) fun hc5 hs1=>?_
   ·refine s0<|qm rfl<|qm rfl<|es (ra1 rfl)<|C4 ?_
    obtain rfl:=os hs1
    exact lx rfl (And.intro rfl (retq0 (retq trivial (B1 rfl B8) (A6 rfl B9) (A3 A8 B3)))) (Sub.refl _)
   ·refine C1<|r0<|A0 (E7 rfl rfl) rfl<|qm rfl<|en (ra4 rfl rfl rfl rfl) ?_
    cases hs1
    exact lnT () (htk _) (su4 rfl rfl rfl rfl)
  ·refine F4 ?_
   obtain rfl:=os hs1
   exact lx rfl px (.nil _)
 ·rcases o6 with vo6_0 | vo6_1
  ·rintro e s' H' - ⟨rfl,hret⟩
   cases h
   exact hret
  ·rintro e s' H' - ⟨rfl,rfl,rfl⟩
   refine s0<|qm rfl<|es (ra1 rfl)<|C4 ?_
   obtain rfl:=os h
   exact retq0 (retq trivial (B1 rfl B8) (A6 rfl B9) (A3 A8 B3))
theorem C2w {c:Sc} {A B:A1} {b:Nat} {l:List Int} {x:Int} {r:Bool} (hb:A.length = b) (h:F7 l x = some r):E5 tab c (A++(ar1 l :: B)) (.fn (.func 66) [] []) [.asl b l.length,.i x] [.b r]:= by
 unfold F7 at h
 refine oB h fun x1 hx1 h=>?_
 refine B53 (aq:=[.asl b l.length,.i x]) rfl rfl rfl ?_
 refine s0<|qm rfl<|es (ra2 rfl rfl)<|s0<|qm rfl<|qm rfl<|R4 (A4u (rs:=[.i x1]) rfl rfl ((D1k hb hx1).frz)) rfl<|A0 (A7f rfl rfl) rfl<|qm rfl<|es (ra1 rfl)<|C4 ?_
 obtain rfl:=os h
 exact retq0 (retq trivial (B1 rfl B8) (A6 rfl B9) (A3 A8 B3))
def B3z (person:Int) (best:dress_plan) (l:List dress_plan) (s:Int × List Int):Option ((Int × List Int) ⊕ List Int) :=
 if (decide (s.1 < (List.length l:Int))) = true then
  (idx l s.1).bind fun p=>(idx p.figures_ person).bind fun f =>
  (if (p.cost_ == best.cost_) = true then (F7 s.2 f).bind fun k=>some (!k) else some false).bind fun g =>
  if g = true then (app 8 s.2 [f]).bind fun q=>some (.inl (w64 (s.1 + 1),q))
  else some (.inl (w64 (s.1 + 1),s.2))
 else some (.inr s.2)
def A39 (t:DrRoom) (person:Int):Option (List Int × Int) :=
 (B58 t person).bind fun r =>
 if (r.2 != 0) = true then some ([],r.2)
 else (I9 ⟨t⟩).bind fun w=>(Q8 t r.1.1 w).bind fun l =>
  (loop (B3z person r.1.2 l) (0,[])).bind fun o=>(B71 o).bind fun q=>some (q,0)
def B3y (N:Nat) (t:DrRoom) (ch:Chg) (p:dress_plan) (s:List Int):List AO:=[.cells (A4 t),ar1 s,.cells (A9 p),.cells (A4 t),.cells (A9 p),.cells (A4 t),.map (A9j ch),.cells (A33 t (N + 6)),.cells (A9 p)]
theorem B13 {c:Sc} {H:A1} (hscv:Q9 c H = true) {a0:DrRoom} {a1:Int} {r:List Int × Int} (h:A39 a0 a1 = some r) :
  S4 tab c H (.fn (.func 28) [] []) [(.agg (A4 a0)),.i a1] [(.seq 1 (List.map cI r.1)),.i r.2]:= by
 unfold A39 at h
 refine oB h fun x hx h=>?_
 refine cF rfl rfl<|sg 0 rfl<|A0 (F3 (cs:=A4 a0) rfl rfl rfl) rfl<|A0 A3m rfl<|qm rfl<|es (ra3 rfl rfl rfl)<|sg 2 rfl<|A0 (C2 rfl rfl rfl) rfl<|qm rfl ?_
 rcases D0y (c:=⟨H.length,c.cur :: c.outer⟩) (H:=H++[.cells (A4 a0),ar1 [],.dead]) (A29 hscv) hx with ⟨hc,hcall⟩ | ⟨hc,hcall⟩
 ·rw [if_pos hc] at h
  obtain rfl:=os h
  refine R4 (W0 rfl rfl (A2 (D2 rfl) (A2 rfl B6)) hcall rfl) rfl<|qm rfl<|A0 (A7 rfl rfl) rfl<|A0 (A7 rfl rfl) rfl<|A0 (A7 rfl rfl) rfl<|A0 E4 rfl<|qm rfl<|H6 (D0 (ds:=A9 plan0) rfl rfl rfl rfl (C5 rfl) rfl) rfl<|qm rfl<|es (ra5 rfl rfl rfl rfl rfl)<|B7<|s0<|qm rfl<|A0 (J8 rfl rfl) rfl<|es (ra6 rfl rfl rfl rfl rfl rfl)<|Q7 rfl hc<|sg 3 rfl<|qm rfl<|A0 A3m rfl<|qm rfl<|es (ra2 rfl rfl)<|C4 ?_
  exact ⟨[.fresh 1 (List.map cI []),.i x.2],retq trivial (B1 rfl (B1 rfl B8)) (A6 (A2o rfl (List.length_map _)) (A6 rfl B9)) (A3 V7 (A3 A8 B3)),rfl⟩
 ·obtain ⟨⟨ch,best⟩,e⟩:=x
  dsimp only at hc
  subst hc
  rw [if_neg (by simp)] at h
  refine oB h fun w hw h=>oB h fun l hl h=>oB h fun o ho h=>oB h fun q hq h=>?_
  obtain rfl:=os h
  have hcall:G3 tab ⟨H.length,c.cur :: c.outer⟩ (H++[.cells (A4 a0),ar1 [],.dead]) (.fn (.func 64) [] []) [.agg (A4 a0),.i a1] [.ptr (H.length + 7) 0,.agg (A9 best),.i 0] (H++[.cells (A4 a0),ar1 [],.dead,.cells (A4 a0),.cells (A9 best),.cells (A4 a0),.map (A9j ch),.cells (A33 a0 (H.length + 6)),.cells (A9 best)]):= by
   unfold C5j at hcall
   rw [List.length_append,List.append_assoc] at hcall
   exact hcall
  have hH:∀s:List Int,H++B3y H.length a0 ch best s = (H++[.cells (A4 a0)])++(ar1 s :: (B3y H.length a0 ch best s).drop 2):=fun s=>by simp [B3y]
  have hA:(H++[AO.cells (A4 a0)]).length = H.length + 1:= by simp
  refine R4 (W0 rfl rfl (A2 (D2 rfl) (A2 rfl B6)) hcall rfl) rfl<|qm rfl<|A0 (A7 rfl rfl) rfl<|A0 (A7 rfl rfl) rfl<|A0 (A7 rfl rfl) rfl<|A0 E4 rfl<|qm rfl<|H6 (D0 (ds:=A9 best) rfl rfl rfl rfl (C5 rfl) rfl) rfl<|qm rfl<|es (ra5 rfl rfl rfl rfl rfl)<|B7<|s0<|qm rfl<|A0 (N9 (v:=(.b false)) rfl rfl rfl) rfl<|es (ra6 rfl rfl rfl rfl rfl rfl)<|Y2 rfl rfl<|C1<|B7<|s0<|qm rfl<|qm rfl<|B5 (rs:=[.i w]) rfl rfl (A2 rfl B6) ((N0 (a0:=⟨a0⟩) (D6 rfl) hw).frz)<|B5 (rs:=[.seq 6 (l.map A9)]) rfl rfl (A2 rfl (A2 rfl B6)) (C10 (t:=a0) (ch:=ch) ⟨_,D6 rfl,A1f rfl⟩ (A29 hscv) hl)<|A0 (D9 (f:=A9) rfl) rfl<|qm rfl<|es (ra6 rfl rfl rfl rfl rfl rfl)<|C3<|wl (fun s=>[(1,.i a1),(4,.asl (H.length + 1) s.2.length),(7,.ptr (H.length + 2) 0),(24,.seq 6 (l.map A9)),(25,.i (List.length l:Int)),(26,.i s.1)]) (fun (_:Unit) s=>B3y H.length a0 ch best s.2) 9 (fun r e s' H'=>PX 0 [(4,.asl (H.length + 1) r.length)] (H++B3y H.length a0 ch best r) e s' H') () ho rfl rfl (fun _ _=>rfl) (fun _=>rfl) rfl (fun s=>bdc A8 (bdc (A08 rfl) (bdc (F1 rfl) (bdc E8 (bdc A8 (bdc A8 bdn)))))) (fun _ s o hs=>?_) ?_
  ·unfold B3z at hs
   refine s0<|A0 (I4 rfl rfl) rfl<|es (ra7 rfl rfl rfl rfl rfl rfl rfl)<|B7<|wi hs rfl (fun hc hs=>?_) fun hc hs=>?_
   ·refine oB hs fun p hp hs=>oB hs fun f hf hs=>oB hs fun g hg hs=>?_
    refine C1<|B7<|C3<|sg 9 rfl<|A0 (E9 (f:=A9) rfl rfl hp) rfl<|A0 (M6 rfl rfl) rfl<|A0 E4 rfl<|H6 (D0 (ds:=A9 p) rfl rfl rfl rfl (C5 rfl) rfl) rfl<|es (ra7 rfl rfl rfl rfl rfl rfl rfl)<|s0<|A0 (D3 rfl) rfl<|A0 (C7 rfl rfl rfl) rfl<|qm rfl<|A0 (E9 (f:=cI) rfl rfl hf) rfl<|A0 (F5 rfl rfl) rfl<|qm rfl<|es (ra8 rfl rfl rfl rfl rfl rfl rfl rfl)<|s0<|A0 (D3 rfl) rfl<|A0 (C7 (x:=.i p.cost_) rfl rfl rfl) rfl<|A0 (D3 rfl) rfl<|A0 (C7 (x:=.i best.cost_) rfl rfl rfl) rfl<|A0 (F6 rfl rfl) rfl<|qm rfl<|gp 5 45 (.b g) 40 rfl rfl (fun hb=>?_) (fun hb=>?_) ?_
    ·refine oB (bt hg hb) fun k hk hg=>?_
     obtain rfl:=os hg
     have hcon:S4 tab ⟨H.length + 9,(⟨H.length,c.cur :: c.outer⟩:Sc).cur :: (⟨H.length,c.cur :: c.outer⟩:Sc).outer⟩ (H++(B3y H.length a0 ch best s.2++[.cells (A9 p)])) (.fn (.func 66) [] []) [.asl (H.length + 1) s.2.length,.i f] [.b k]:= by
      have:=(C2w (c:=⟨H.length + 9,(⟨H.length,c.cur :: c.outer⟩:Sc).cur :: (⟨H.length,c.cur :: c.outer⟩:Sc).outer⟩) (B:=(B3y H.length a0 ch best s.2).drop 2++[.cells (A9 p)]) hA hk).frz
      rw [show (H++[AO.cells (A4 a0)])++(ar1 s.2 :: ((B3y H.length a0 ch best s.2).drop 2++[.cells (A9 p)])) = H++(B3y H.length a0 ch best s.2++[.cells (A9 p)]) by simp [B3y]] at this
      exact this
     exact gT rfl hb<|qm rfl<|gT rfl hb<|qm rfl<|gT rfl hb<|R4 (A4u (rs:=[.b k]) rfl rfl hcon) rfl<|gT rfl hb<|A0 (R6 rfl) rfl<|A0 (C9 rfl hb rfl) rfl<|ge 5 rfl rfl rfl
    ·obtain rfl:=os (bf hg hb)
     exact nT rfl hb rfl<|nT rfl hb rfl<|O1 (G6 rfl (by rw [hb]; rfl)) rfl<|nT rfl hb rfl<|A0 (C8 rfl hb rfl) rfl<|ge 5 rfl rfl rfl
    refine es (ra8 rfl rfl rfl rfl rfl rfl rfl rfl)<|wi hs rfl (fun hc2 hs=>?_) fun hc2 hs=>?_
    ·refine oB hs fun q hq hs=>?_
     refine r0<|qm rfl<|qm rfl<|A0 (G7 (rows:=List.map cI [f]) rfl rfl (D8 (fun _=>rfl) _)) rfl<|R4 (A1b (f:=cI) rfl rfl rfl rfl W2 (fun _=>rfl) hq) rfl<|qm rfl<|en (ra6 rfl rfl rfl rfl rfl rfl)<|r0<|A0 (E7 rfl rfl) rfl<|qm rfl<|en (ra6 rfl rfl rfl rfl rfl rfl) ?_
     cases hs
     exact lnT () rfl (su6 rfl rfl rfl rfl rfl rfl)
    ·refine C1<|r0<|A0 (E7 rfl rfl) rfl<|qm rfl<|en (ra6 rfl rfl rfl rfl rfl rfl) ?_
     cases hs
     exact lnT () rfl (su6 rfl rfl rfl rfl rfl rfl)
   ·refine F4 ?_
    obtain rfl:=os hs
    exact lx rfl px (su1 rfl)
  ·rintro e s' H' - ⟨rfl,rfl,rfl⟩
   have hsort:G3 tab ⟨H.length,c.cur :: c.outer⟩ (H++B3y H.length a0 ch best o) (.fn (.func 67) [] []) [.asl (H.length + 1) o.length] [] (H++B3y H.length a0 ch best q):= by
    have:=D4x (c:=⟨H.length,c.cur :: c.outer⟩) (A:=H++[AO.cells (A4 a0)]) (B:=(B3y H.length a0 ch best o).drop 2) hq
    rw [hA] at this
    rw [hH o,hH q]
    exact this
   refine s0<|qm rfl<|R4 (S3 rfl rfl hsort rfl) rfl<|es (ra1 rfl)<|s0<|qm rfl<|qm rfl<|qm rfl<|es (ra2 rfl rfl)<|C4 ?_
   exact ⟨[.fresh 1 (List.map cI q),.i 0],retq trivial (B1 rfl (B1 rfl B8)) (A6 (A2o rfl (by rw [List.length_map]; exact C9w hq)) (A6 rfl B9)) (A3 V7 (A3 A8 B3)),rfl⟩
end Ds
end
section
set_option maxRecDepth 100000
set_option maxHeartbeats 0
namespace Ds
open Go Am Go.Proofs.Ytdkflofgolehkaa.Cd
def A0g :Option Bool :=
 (A4p 2).bind fun x1 =>
 (A4p 1).bind fun x2 =>
 (Z9 x1 0 0).bind fun x3 =>
 (A1s x1 [2,0,1]).bind fun x4 =>
 (A1t x1 [1,0,2]).bind fun x5 =>
 (A1r x1).bind fun x6 =>
 (A1r x2).bind fun x7 =>
 (A39 x1 2).bind fun x8 =>
 (X0 x1 1).bind fun x9 =>
 (A8v x2).bind fun x10 =>
 (A8u x2).bind fun x11 =>
 (if ((((((((((x3.2.2 == 0) && (x4.2 == 0)) && (x5.2 == 0)) && (x6.2.2 == 0)) && (x7.2.2 == 9)) && (x8.2 == 0)) && (x9.2 == 0)) && (x10.2 == 0)) && (x11.2.2 == 0)) && (x3.1 == 14)) = true then
  (K7 x3.2.1 [0,2]).bind fun x22 =>
  some x22
 else
  some false).bind fun x23 =>
 (if x23 = true then
  (K7 x4.1 [4,(-1)]).bind fun x25 =>
  some x25
 else
  some false).bind fun x26 =>
 (if (x26 && (x5.1 == 14)) = true then
  (K7 x6.1 [1,0,2]).bind fun x29 =>
  some x29
 else
  some false).bind fun x30 =>
 (if (x30 && (x6.2.1 == 14)) = true then
  (K7 x8.1 [2]).bind fun x33 =>
  some x33
 else
  some false).bind fun x34 =>
 (if (x34 && (x9.1 == 10)) = true then
  (K7 x10.1 [0]).bind fun x37 =>
  some x37
 else
  some false).bind fun x38 =>
 (if x38 = true then
  (K7 x11.1 [0,1]).bind fun x40 =>
  some x40
 else
  some false).bind fun x41 =>
 some (x41 && (x11.2.1 == 14))
theorem A2n {c:Sc} {H:A1} (hscv:Q9 c H = true)  {r:Bool} (h:A0g  = some r) :
  E5 tab c H (.fn (.func 21) [] []) [] [.b r]:= by
 unfold A0g at h
 refine cE rfl rfl<|s0<|qm rfl<|es .n<|sg 0 rfl<|oB h fun x1 hx1 h=>oB h fun x2 hx2 h=>B5 (rs:=[(.agg (A4 x1))]) rfl rfl (A2 rfl B6) ((A5s hx1).frz)<|B5 (rs:=[(.agg (A4 x2))]) rfl rfl (A2 rfl B6) ((A5s hx2).frz)<|A0 E4 rfl<|A0 E4 rfl<|H6 (D0 (ds:=(A4 x1)) rfl rfl rfl rfl (C5 rfl) rfl) rfl<|H6 (D0 (ds:=(A4 x2)) rfl rfl rfl rfl (C5 rfl) rfl) rfl<|es (ra2 rfl rfl)<|s0<|oB h fun x3 hx3 h=>A0 (C2 rfl rfl rfl) rfl<|B5 (rs:=[.i x3.1,(.seq 1 (List.map cI x3.2.1)),.i x3.2.2]) rfl rfl (A2 (D2 rfl) (A2 rfl (A2 rfl B6))) ((A3e hx3).frz)<|qm rfl<|A0 (A7 rfl rfl) rfl<|A0 (A7 rfl rfl) rfl<|A0 (A7 rfl rfl) rfl<|qm rfl<|qm rfl<|qm rfl<|es (ra5 rfl rfl rfl rfl rfl)<|s0<|oB h fun x4 hx4 h=>A0 (C2 rfl rfl rfl) rfl<|A0 (G7 (rows:=List.map cI [2,0,1]) rfl rfl (D8 (fun _=>rfl) _)) rfl<|B5 (rs:=[(.seq 1 (List.map cI x4.1)),.i x4.2]) rfl rfl (A2 (D2 rfl) (A2 rfl B6)) ((A5q hx4).frz)<|qm rfl<|A0 (A7 rfl rfl) rfl<|A0 (A7 rfl rfl) rfl<|qm rfl<|qm rfl<|es (ra7 rfl rfl rfl rfl rfl rfl rfl)<|s0<|oB h fun x5 hx5 h=>A0 (C2 rfl rfl rfl) rfl<|A0 (G7 (rows:=List.map cI [1,0,2]) rfl rfl (D8 (fun _=>rfl) _)) rfl<|B5 (rs:=[.i x5.1,.i x5.2]) rfl rfl (A2 (D2 rfl) (A2 rfl B6)) ((A5r hx5).frz)<|qm rfl<|A0 (A7 rfl rfl) rfl<|A0 (A7 rfl rfl) rfl<|qm rfl<|qm rfl<|es (ra9 rfl rfl rfl rfl rfl rfl rfl rfl rfl)<|s0<|oB h fun x6 hx6 h=>A0 (C2 rfl rfl rfl) rfl<|B5 (rs:=[(.seq 1 (List.map cI x6.1)),.i x6.2.1,.i x6.2.2]) rfl rfl (A2 (D2 rfl) B6) ((A5p (A29 hscv) hx6).frz)<|qm rfl<|A0 (A7 rfl rfl) rfl<|A0 (A7 rfl rfl) rfl<|A0 (A7 rfl rfl) rfl<|qm rfl<|qm rfl<|qm rfl<|es (ra12 rfl rfl rfl rfl rfl rfl rfl rfl rfl rfl rfl rfl)<|s0 ?_
 refine oB h fun x7 hx7 h=>A0 (C2 rfl rfl rfl) rfl<|B5 (rs:=[(.seq 1 (List.map cI x7.1)),.i x7.2.1,.i x7.2.2]) rfl rfl (A2 (D2 rfl) B6) ((A5p (A29 hscv) hx7).frz)<|qm rfl<|A0 (A7 rfl rfl) rfl<|A0 (A7 rfl rfl) rfl<|A0 (A7 rfl rfl) rfl<|qm rfl<|qm rfl<|qm rfl<|es (ra13 rfl rfl rfl rfl rfl rfl rfl rfl rfl rfl rfl rfl rfl)<|s0<|oB h fun x8 hx8 h=>A0 (C2 rfl rfl rfl) rfl<|B5 (rs:=[(.seq 1 (List.map cI x8.1)),.i x8.2]) rfl rfl (A2 (D2 rfl) (A2 rfl B6)) (B13 (A29 hscv) hx8)<|qm rfl<|A0 (A7 rfl rfl) rfl<|A0 (A7 rfl rfl) rfl<|qm rfl<|qm rfl<|es (.k rfl (.k rfl (.k rfl (.k rfl (.k rfl (.k rfl (.k rfl (.k rfl (.k rfl (.k rfl (.k rfl (.k rfl (.k rfl (.k rfl (.k rfl .n)))))))))))))))<|s0<|oB h fun x9 hx9 h=>A0 (C2 rfl rfl rfl) rfl<|B5 (rs:=[.i x9.1,.i x9.2]) rfl rfl (A2 (D2 rfl) (A2 rfl B6)) ((A2m (A29 hscv) hx9).frz)<|qm rfl<|A0 (A7 rfl rfl) rfl<|A0 (A7 rfl rfl) rfl<|qm rfl<|qm rfl<|es (.k rfl (.k rfl (.k rfl (.k rfl (.k rfl (.k rfl (.k rfl (.k rfl (.k rfl (.k rfl (.k rfl (.k rfl (.k rfl (.k rfl (.k rfl (.k rfl .n))))))))))))))))<|s0<|oB h fun x10 hx10 h=>A0 (C2 rfl rfl rfl) rfl<|B5 (rs:=[(.seq 1 (List.map cI x10.1)),.i x10.2]) rfl rfl (A2 (D2 rfl) B6) ((B12 (A29 hscv) hx10).frz)<|qm rfl<|A0 (A7 rfl rfl) rfl<|A0 (A7 rfl rfl) rfl<|qm rfl<|qm rfl<|es (.k rfl (.k rfl (.k rfl (.k rfl (.k rfl (.k rfl (.k rfl (.k rfl (.k rfl (.k rfl (.k rfl (.k rfl (.k rfl (.k rfl (.k rfl (.k rfl (.k rfl (.k rfl .n))))))))))))))))))<|s0<|oB h fun x11 hx11 h=>A0 (C2 rfl rfl rfl) rfl<|B5 (rs:=[(.seq 1 (List.map cI x11.1)),.i x11.2.1,.i x11.2.2]) rfl rfl (A2 (D2 rfl) B6) ((B11 (A29 hscv) hx11).frz)<|qm rfl<|A0 (A7 rfl rfl) rfl<|A0 (A7 rfl rfl) rfl<|A0 (A7 rfl rfl) rfl<|qm rfl<|qm rfl<|qm rfl<|es (.k rfl (.k rfl (.k rfl (.k rfl (.k rfl (.k rfl (.k rfl (.k rfl (.k rfl (.k rfl (.k rfl (.k rfl (.k rfl (.k rfl (.k rfl (.k rfl (.k rfl (.k rfl (.k rfl (.k rfl .n))))))))))))))))))))<|s0<|oB h fun x23 hx23 h=>oB h fun x26 hx26 h=>oB h fun x30 hx30 h=>oB h fun x34 hx34 h=>oB h fun x38 hx38 h=>oB h fun x41 hx41 h=>qm rfl ?_
 refine A0 (F6 rfl rfl) rfl<|qm rfl<|gp 3 83 (.b ((x3.2.2 == 0) && (x4.2 == 0))) 80 rfl rfl (fun hg12=>?_) (fun hg12=>?_) ?_
 ·exact gT rfl hg12<|qm rfl<|gT rfl hg12<|A0 (F6 rfl rfl) rfl<|A0 (C9 rfl hg12 rfl) rfl<|ge 3 (by rw [hg12]; rfl) rfl rfl
 ·exact nT rfl hg12 rfl<|nT rfl hg12 rfl<|A0 (C8 rfl hg12 rfl) rfl<|ge 3 (by rw [hg12]; rfl) rfl rfl
 refine qm rfl<|gp 3 87 (.b (((x3.2.2 == 0) && (x4.2 == 0)) && (x5.2 == 0))) 84 rfl rfl (fun hg13=>?_) (fun hg13=>?_) ?_
 ·exact gT rfl hg13<|qm rfl<|gT rfl hg13<|A0 (F6 rfl rfl) rfl<|A0 (C9 rfl hg13 rfl) rfl<|ge 3 (by rw [hg13]; rfl) rfl rfl
 ·exact nT rfl hg13 rfl<|nT rfl hg13 rfl<|A0 (C8 rfl hg13 rfl) rfl<|ge 3 (by rw [hg13]; rfl) rfl rfl
 refine qm rfl<|gp 3 91 (.b ((((x3.2.2 == 0) && (x4.2 == 0)) && (x5.2 == 0)) && (x6.2.2 == 0))) 88 rfl rfl (fun hg14=>?_) (fun hg14=>?_) ?_
 ·exact gT rfl hg14<|qm rfl<|gT rfl hg14<|A0 (F6 rfl rfl) rfl<|A0 (C9 rfl hg14 rfl) rfl<|ge 3 (by rw [hg14]; rfl) rfl rfl
 ·exact nT rfl hg14 rfl<|nT rfl hg14 rfl<|A0 (C8 rfl hg14 rfl) rfl<|ge 3 (by rw [hg14]; rfl) rfl rfl
 refine qm rfl<|gp 3 95 (.b (((((x3.2.2 == 0) && (x4.2 == 0)) && (x5.2 == 0)) && (x6.2.2 == 0)) && (x7.2.2 == 9))) 92 rfl rfl (fun hg15=>?_) (fun hg15=>?_) ?_
 ·exact gT rfl hg15<|qm rfl<|gT rfl hg15<|A0 (F6 rfl rfl) rfl<|A0 (C9 rfl hg15 rfl) rfl<|ge 3 (by rw [hg15]; rfl) rfl rfl
 ·exact nT rfl hg15 rfl<|nT rfl hg15 rfl<|A0 (C8 rfl hg15 rfl) rfl<|ge 3 (by rw [hg15]; rfl) rfl rfl
 refine qm rfl<|gp 3 99 (.b ((((((x3.2.2 == 0) && (x4.2 == 0)) && (x5.2 == 0)) && (x6.2.2 == 0)) && (x7.2.2 == 9)) && (x8.2 == 0))) 96 rfl rfl (fun hg16=>?_) (fun hg16=>?_) ?_
 ·exact gT rfl hg16<|qm rfl<|gT rfl hg16<|A0 (F6 rfl rfl) rfl<|A0 (C9 rfl hg16 rfl) rfl<|ge 3 (by rw [hg16]; rfl) rfl rfl
 ·exact nT rfl hg16 rfl<|nT rfl hg16 rfl<|A0 (C8 rfl hg16 rfl) rfl<|ge 3 (by rw [hg16]; rfl) rfl rfl
 refine qm rfl<|gp 3 103 (.b (((((((x3.2.2 == 0) && (x4.2 == 0)) && (x5.2 == 0)) && (x6.2.2 == 0)) && (x7.2.2 == 9)) && (x8.2 == 0)) && (x9.2 == 0))) 100 rfl rfl (fun hg17=>?_) (fun hg17=>?_) ?_
 ·exact gT rfl hg17<|qm rfl<|gT rfl hg17<|A0 (F6 rfl rfl) rfl<|A0 (C9 rfl hg17 rfl) rfl<|ge 3 (by rw [hg17]; rfl) rfl rfl
 ·exact nT rfl hg17 rfl<|nT rfl hg17 rfl<|A0 (C8 rfl hg17 rfl) rfl<|ge 3 (by rw [hg17]; rfl) rfl rfl
 refine qm rfl<|gp 3 107 (.b ((((((((x3.2.2 == 0) && (x4.2 == 0)) && (x5.2 == 0)) && (x6.2.2 == 0)) && (x7.2.2 == 9)) && (x8.2 == 0)) && (x9.2 == 0)) && (x10.2 == 0))) 104 rfl rfl (fun hg18=>?_) (fun hg18=>?_) ?_
 ·exact gT rfl hg18<|qm rfl<|gT rfl hg18<|A0 (F6 rfl rfl) rfl<|A0 (C9 rfl hg18 rfl) rfl<|ge 3 (by rw [hg18]; rfl) rfl rfl
 ·exact nT rfl hg18 rfl<|nT rfl hg18 rfl<|A0 (C8 rfl hg18 rfl) rfl<|ge 3 (by rw [hg18]; rfl) rfl rfl
 refine qm rfl<|gp 3 111 (.b (((((((((x3.2.2 == 0) && (x4.2 == 0)) && (x5.2 == 0)) && (x6.2.2 == 0)) && (x7.2.2 == 9)) && (x8.2 == 0)) && (x9.2 == 0)) && (x10.2 == 0)) && (x11.2.2 == 0))) 108 rfl rfl (fun hg19=>?_) (fun hg19=>?_) ?_
 ·exact gT rfl hg19<|qm rfl<|gT rfl hg19<|A0 (F6 rfl rfl) rfl<|A0 (C9 rfl hg19 rfl) rfl<|ge 3 (by rw [hg19]; rfl) rfl rfl
 ·exact nT rfl hg19 rfl<|nT rfl hg19 rfl<|A0 (C8 rfl hg19 rfl) rfl<|ge 3 (by rw [hg19]; rfl) rfl rfl
 refine qm rfl<|gp 3 115 (.b ((((((((((x3.2.2 == 0) && (x4.2 == 0)) && (x5.2 == 0)) && (x6.2.2 == 0)) && (x7.2.2 == 9)) && (x8.2 == 0)) && (x9.2 == 0)) && (x10.2 == 0)) && (x11.2.2 == 0)) && (x3.1 == 14))) 112 rfl rfl (fun hg20=>?_) (fun hg20=>?_) ?_
 ·exact gT rfl hg20<|qm rfl<|gT rfl hg20<|A0 (F6 rfl rfl) rfl<|A0 (C9 rfl hg20 rfl) rfl<|ge 3 (by rw [hg20]; rfl) rfl rfl
 ·exact nT rfl hg20 rfl<|nT rfl hg20 rfl<|A0 (C8 rfl hg20 rfl) rfl<|ge 3 (by rw [hg20]; rfl) rfl rfl
 refine qm rfl<|gp 4 120 (.b x23) 116 rfl rfl (fun hg21=>?_) (fun hg21=>?_) ?_
 ·refine oB (bt hx23 hg21) fun x22 hx22 hx23=>?_
  obtain rfl:=os hx23
  exact gT rfl hg21<|qm rfl<|gT rfl hg21<|A0 (G7 (rows:=List.map cI [0,2]) rfl rfl (D8 (fun _=>rfl) _)) rfl<|gT rfl hg21<|B5 (rs:=[.b x22]) rfl rfl (A2 rfl (A2 rfl B6)) ((K4 hx22).frz)<|A0 (C9 rfl hg21 rfl) rfl<|ge 4 rfl rfl rfl
 ·obtain rfl:=os (bf hx23 hg21)
  exact nT rfl hg21 rfl<|nT rfl hg21 rfl<|O1 (G6 rfl (by rw [hg21]; rfl)) rfl<|A0 (C8 rfl hg21 rfl) rfl<|ge 4 rfl rfl rfl
 refine qm rfl<|gp 4 125 (.b x26) 121 rfl rfl (fun hg24=>?_) (fun hg24=>?_) ?_
 ·refine oB (bt hx26 hg24) fun x25 hx25 hx26=>?_
  obtain rfl:=os hx26
  exact gT rfl hg24<|qm rfl<|gT rfl hg24<|A0 (G7 (rows:=List.map cI [4,(-1)]) rfl rfl (D8 (fun _=>rfl) _)) rfl<|gT rfl hg24<|B5 (rs:=[.b x25]) rfl rfl (A2 rfl (A2 rfl B6)) ((K4 hx25).frz)<|A0 (C9 rfl hg24 rfl) rfl<|ge 4 rfl rfl rfl
 ·obtain rfl:=os (bf hx26 hg24)
  exact nT rfl hg24 rfl<|nT rfl hg24 rfl<|O1 (G6 rfl (by rw [hg24]; rfl)) rfl<|A0 (C8 rfl hg24 rfl) rfl<|ge 4 rfl rfl rfl
 refine qm rfl<|gp 3 129 (.b (x26 && (x5.1 == 14))) 126 rfl rfl (fun hg27=>?_) (fun hg27=>?_) ?_
 ·exact gT rfl hg27<|qm rfl<|gT rfl hg27<|A0 (F6 rfl rfl) rfl<|A0 (C9 rfl hg27 rfl) rfl<|ge 3 (by rw [hg27]; rfl) rfl rfl
 ·exact nT rfl hg27 rfl<|nT rfl hg27 rfl<|A0 (C8 rfl hg27 rfl) rfl<|ge 3 (by rw [hg27]; rfl) rfl rfl
 refine qm rfl<|gp 4 134 (.b x30) 130 rfl rfl (fun hg28=>?_) (fun hg28=>?_) ?_
 ·refine oB (bt hx30 hg28) fun x29 hx29 hx30=>?_
  obtain rfl:=os hx30
  exact gT rfl hg28<|qm rfl<|gT rfl hg28<|A0 (G7 (rows:=List.map cI [1,0,2]) rfl rfl (D8 (fun _=>rfl) _)) rfl<|gT rfl hg28<|B5 (rs:=[.b x29]) rfl rfl (A2 rfl (A2 rfl B6)) ((K4 hx29).frz)<|A0 (C9 rfl hg28 rfl) rfl<|ge 4 rfl rfl rfl
 ·obtain rfl:=os (bf hx30 hg28)
  exact nT rfl hg28 rfl<|nT rfl hg28 rfl<|O1 (G6 rfl (by rw [hg28]; rfl)) rfl<|A0 (C8 rfl hg28 rfl) rfl<|ge 4 rfl rfl rfl
 refine qm rfl<|gp 3 138 (.b (x30 && (x6.2.1 == 14))) 135 rfl rfl (fun hg31=>?_) (fun hg31=>?_) ?_
 ·exact gT rfl hg31<|qm rfl<|gT rfl hg31<|A0 (F6 rfl rfl) rfl<|A0 (C9 rfl hg31 rfl) rfl<|ge 3 (by rw [hg31]; rfl) rfl rfl
 ·exact nT rfl hg31 rfl<|nT rfl hg31 rfl<|A0 (C8 rfl hg31 rfl) rfl<|ge 3 (by rw [hg31]; rfl) rfl rfl
 refine qm rfl<|gp 4 143 (.b x34) 139 rfl rfl (fun hg32=>?_) (fun hg32=>?_) ?_
 ·refine oB (bt hx34 hg32) fun x33 hx33 hx34=>?_
  obtain rfl:=os hx34
  exact gT rfl hg32<|qm rfl<|gT rfl hg32<|A0 (G7 (rows:=List.map cI [2]) rfl rfl (D8 (fun _=>rfl) _)) rfl<|gT rfl hg32<|B5 (rs:=[.b x33]) rfl rfl (A2 rfl (A2 rfl B6)) ((K4 hx33).frz)<|A0 (C9 rfl hg32 rfl) rfl<|ge 4 rfl rfl rfl
 ·obtain rfl:=os (bf hx34 hg32)
  exact nT rfl hg32 rfl<|nT rfl hg32 rfl<|O1 (G6 rfl (by rw [hg32]; rfl)) rfl<|A0 (C8 rfl hg32 rfl) rfl<|ge 4 rfl rfl rfl
 refine qm rfl<|gp 3 147 (.b (x34 && (x9.1 == 10))) 144 rfl rfl (fun hg35=>?_) (fun hg35=>?_) ?_
 ·exact gT rfl hg35<|qm rfl<|gT rfl hg35<|A0 (F6 rfl rfl) rfl<|A0 (C9 rfl hg35 rfl) rfl<|ge 3 (by rw [hg35]; rfl) rfl rfl
 ·exact nT rfl hg35 rfl<|nT rfl hg35 rfl<|A0 (C8 rfl hg35 rfl) rfl<|ge 3 (by rw [hg35]; rfl) rfl rfl
 refine qm rfl<|gp 4 152 (.b x38) 148 rfl rfl (fun hg36=>?_) (fun hg36=>?_) ?_
 ·refine oB (bt hx38 hg36) fun x37 hx37 hx38=>?_
  obtain rfl:=os hx38
  exact gT rfl hg36<|qm rfl<|gT rfl hg36<|A0 (G7 (rows:=List.map cI [0]) rfl rfl (D8 (fun _=>rfl) _)) rfl<|gT rfl hg36<|B5 (rs:=[.b x37]) rfl rfl (A2 rfl (A2 rfl B6)) ((K4 hx37).frz)<|A0 (C9 rfl hg36 rfl) rfl<|ge 4 rfl rfl rfl
 ·obtain rfl:=os (bf hx38 hg36)
  exact nT rfl hg36 rfl<|nT rfl hg36 rfl<|O1 (G6 rfl (by rw [hg36]; rfl)) rfl<|A0 (C8 rfl hg36 rfl) rfl<|ge 4 rfl rfl rfl
 refine qm rfl<|gp 4 157 (.b x41) 153 rfl rfl (fun hg39=>?_) (fun hg39=>?_) ?_
 ·refine oB (bt hx41 hg39) fun x40 hx40 hx41=>?_
  obtain rfl:=os hx41
  exact gT rfl hg39<|qm rfl<|gT rfl hg39<|A0 (G7 (rows:=List.map cI [0,1]) rfl rfl (D8 (fun _=>rfl) _)) rfl<|gT rfl hg39<|B5 (rs:=[.b x40]) rfl rfl (A2 rfl (A2 rfl B6)) ((K4 hx40).frz)<|A0 (C9 rfl hg39 rfl) rfl<|ge 4 rfl rfl rfl
 ·obtain rfl:=os (bf hx41 hg39)
  exact nT rfl hg39 rfl<|nT rfl hg39 rfl<|O1 (G6 rfl (by rw [hg39]; rfl)) rfl<|A0 (C8 rfl hg39 rfl) rfl<|ge 4 rfl rfl rfl
 refine qm rfl<|gp 3 161 (.b (x41 && (x11.2.1 == 14))) 158 rfl rfl (fun hg42=>?_) (fun hg42=>?_) ?_
 ·exact gT rfl hg42<|qm rfl<|gT rfl hg42<|A0 (F6 rfl rfl) rfl<|A0 (C9 rfl hg42 rfl) rfl<|ge 3 (by rw [hg42]; rfl) rfl rfl
 ·exact nT rfl hg42 rfl<|nT rfl hg42 rfl<|A0 (C8 rfl hg42 rfl) rfl<|ge 3 (by rw [hg42]; rfl) rfl rfl
 refine qm rfl<|es (ra1 rfl)<|C4 ?_
 obtain rfl:=os h
 exact retq trivial (B1 rfl B8) (A6 rfl B9) (A3 A8 B3)
end Ds
end
section
set_option maxRecDepth 100000
namespace Ds
theorem awake:A0g = some true:= by decide +kernel
end Ds
end
section
set_option maxRecDepth 100000
set_option maxHeartbeats 0
namespace Ds
open Go Am Go.Proofs.Ytdkflofgolehkaa.Cd
def Z0 (a0:DrRoom) (a1:(List Int)) (s1:(Int × (List Int))) (s5:(Int × Int)):Option ((Int × Int) ⊕ Int) :=
 if (decide (s5.2 < (List.length a1:Int))) = true then
  (idx a1 s5.2).bind fun x8 =>
  (idx a0.Figures x8).bind fun x9 =>
  (idx a0.Persons s5.2).bind fun x10 =>
  (A0m x9 x10).bind fun x11 =>
  (A14 x11 0).bind fun x12 =>
  if (!x12) = true then
  some (.inl (s5.1,(w64 (s5.2 + 1))))
  else
  (idx x9.Looks 0).bind fun x14 =>
  if (x14 == s1.1) = true then
   (idx x10.Looks 0).bind fun x16 =>
   if (x16 == s1.1) = true then
   some (.inl ((w64 ((w64 (s5.1 + x9.Hair)) - x10.Hair)),(w64 (s5.2 + 1))))
   else
   some (.inl ((w64 (s5.1 + x9.Hair)),(w64 (s5.2 + 1))))
  else
   (idx x10.Looks 0).bind fun x18 =>
   if (x18 == s1.1) = true then
   some (.inl ((w64 (s5.1 - x10.Hair)),(w64 (s5.2 + 1))))
   else
   some (.inl (s5.1,(w64 (s5.2 + 1))))
 else
  some (.inr s5.1)
def A1k (a0:DrRoom) (a1:(List Int)) (s1:(Int × (List Int))):Option ((Int × (List Int)) ⊕ (List Int)) :=
 if (decide (s1.1 < (List.length a0.Ounces:Int))) = true then
  (idx a0.Ounces s1.1).bind fun x4 =>
  (loop (Z0 a0 a1 s1) (x4,0)).bind fun (o20:Int) =>
  (app 8 s1.2 [o20]).bind fun x21 =>
  some (.inl ((w64 (s1.1 + 1)),x21))
 else
  some (.inr s1.2)
def A25 (a0:DrRoom) (a1:(List Int)):Option (List Int) :=
 (loop (A1k a0 a1) (0,([]:List Int))).bind fun (o22:(List Int)) =>
 some o22
theorem A9v {c:Sc} {H:A1} {a0:DrRoom} {a1:(List Int)} {r:(List Int)} (h:A25 a0 a1 = some r) :
  E5 tab c H (.fn (.func 59) [] []) [(.agg (A4 a0)),(.seq 1 (List.map cI a1))] [(.fresh 1 (List.map cI r))]:= by
 unfold A25 at h
 refine cE rfl rfl<|sg 0 rfl<|A0 (F3 (cs:=A4 a0) rfl rfl rfl) rfl<|qm rfl<|es (ra2 rfl rfl)<|sg 1 rfl<|A0 A3m rfl<|es (ra3 rfl rfl rfl)<|B7<|s0<|qm rfl<|es (ra4 rfl rfl rfl rfl)<|C3<|oB h fun o22 ho22 h=>wl (fun s1=>[(1,(.seq 1 (List.map cI a1))),(2,(.ptr (H.length + 0) 0)),(5,(.asl (H.length + 1) (List.length s1.2))),(6,.i s1.1)]) (fun (q2:Unit) s1=>[(.cells (A4 a0)),(.arr 1 false (List.map cI s1.2))]) 2 (fun r e s' H'=>PX 0 [(5,(.asl (H.length + 1) (List.length r)))] (H++[(.cells (A4 a0)),(.arr 1 false (List.map cI r))]) e s' H') () ho22 rfl rfl (fun _ _=>rfl) (fun _=>rfl) rfl (fun s1=>(bdc E8 (bdc (F1 rfl) (bdc (A08 rfl) (bdc A8 bdn))))) (fun q2 s1 ys1 hs1=>?_) ?_
 ·unfold A1k at hs1
  refine B7<|s0<|qm rfl<|A0 (D3 rfl) rfl<|A0 (C7 rfl rfl rfl) rfl<|A0 (D9 (f:=cI) rfl) rfl<|A0 (I4 rfl rfl) rfl<|es (ra5 rfl rfl rfl rfl rfl)<|wi hs1 rfl (fun hc3 hs1=>?_) fun hc3 hs1=>?_
  ·refine C1<|B7<|C3<|s0<|oB hs1 fun x4 hx4 hs1=>A0 (D3 rfl) rfl<|A0 (C7 rfl rfl rfl) rfl<|qm rfl<|A0 (E9 (f:=cI) rfl rfl hx4) rfl<|A0 (F5 rfl rfl) rfl<|qm rfl<|es (ra5 rfl rfl rfl rfl rfl)<|B7<|s0<|qm rfl<|es (ra6 rfl rfl rfl rfl rfl rfl)<|C3<|oB hs1 fun o20 ho20 hs1=>wl (fun s5=>[(1,(.seq 1 (List.map cI a1))),(2,(.ptr (H.length + 0) 0)),(5,(.asl (H.length + 1) (List.length s1.2))),(6,.i s1.1),(7,.i s5.1),(8,.i s5.2)]) (fun (q6:Unit) s5=>[(.cells (A4 a0)),(.arr 1 false (List.map cI s1.2))]) 2 (fun r e s' H'=>PX 2 [(1,(.seq 1 (List.map cI a1))),(2,(.ptr (H.length + 0) 0)),(5,(.asl (H.length + 1) (List.length s1.2))),(6,.i s1.1),(7,.i r)] (H++[(.cells (A4 a0)),(.arr 1 false (List.map cI s1.2))]) e s' H') () ho20 rfl rfl (fun _ _=>rfl) (fun _=>rfl) rfl (fun s5=>(bdc E8 (bdc (F1 rfl) (bdc (A08 rfl) (bdc A8 (bdc A8 (bdc A8 bdn))))))) (fun q6 s5 ys5 hs5=>?_) ?_
   ·unfold Z0 at hs5
    refine B7<|s0<|qm rfl<|qm rfl<|A0 (D9 (f:=cI) rfl) rfl<|A0 (I4 rfl rfl) rfl<|es (ra7 rfl rfl rfl rfl rfl rfl rfl)<|wi hs5 rfl (fun hc7 hs5=>?_) fun hc7 hs5=>?_
    ·refine C1<|B7<|C3<|sg 2 rfl<|oB hs5 fun x8 hx8 hs5=>oB hs5 fun x9 hx9 hs5=>oB hs5 fun x10 hx10 hs5=>A0 (D3 rfl) rfl<|R8 [2,3] (Z4 [2,3] rfl M0 rfl rfl) (seen0 rfl) (C7 rfl rfl rfl) rfl<|qm rfl<|qm rfl<|R8 [2,3] (Z4 [2,3] rfl M0 rfl rfl) (seen0 rfl) (E9 (f:=cI) rfl rfl hx8) rfl<|R8 [2,3] (Z4 [2,3] rfl M0 rfl rfl) (seen0 rfl) (F5 rfl rfl) rfl<|R8 [2,3] (Z4 [2,3] rfl M0 rfl rfl) (seen0 rfl) (E9 (f:=A5) rfl rfl hx9) rfl<|R8 [2,3] (Z4 [2,3] rfl M0 rfl rfl) (seen0 rfl) (M6 rfl rfl) rfl<|A0 E4 rfl<|A0 E4 rfl<|A88 [0] [(.cells (A4 a0)),(.arr 1 false (List.map cI s1.2)),(.cells (A5 x9)),(.cells (A5 (DrLook.mk (ByteArray.mk #[]) ([]:List Int) 0)))] (Z4 [] rfl (A9h rfl A6w M0) rfl rfl) (seen0 rfl) (D0 (ds:=(A5 x9)) rfl rfl rfl rfl (C5 rfl) rfl) rfl rfl rfl<|A0 (D3 rfl) rfl<|R8 [2,3] (Z4 [2,3] rfl M0 rfl rfl) (B2l (b:=H.length + 0) rfl (A4f (A0r _ rfl) A8l)) (C7 rfl rfl rfl) rfl<|qm rfl<|R8 [2,3] (Z4 [2,3] rfl M0 rfl rfl) (A9e rfl) (E9 (f:=A5) rfl rfl hx10) rfl<|R8 [2,3] (Z4 [2,3] rfl M0 rfl rfl) (A9e rfl) (M6 rfl rfl) rfl<|H6 (D0 (ds:=(A5 x10)) rfl rfl rfl rfl (C5 rfl) rfl) rfl<|es (ra8 rfl rfl rfl rfl rfl rfl rfl rfl)<|B7<|s0<|oB hs5 fun x11 hx11 hs5=>oB hs5 fun x12 hx12 hs5=>A0 (C2 rfl rfl rfl) rfl<|A0 (C2 rfl rfl rfl) rfl<|B5 (rs:=[(.seq 1 (List.map cI x11))]) rfl rfl (A2 (D2 rfl) (A2 (D2 rfl) B6)) ((A4s hx11).frz)<|B5 (rs:=[.b x12]) rfl rfl (A2 rfl (A2 rfl B6)) ((A35 hx12).frz)<|A0 (R6 rfl) rfl<|es (ra9 rfl rfl rfl rfl rfl rfl rfl rfl rfl)<|wi hs5 rfl (fun hc13 hs5=>?_) fun hc13 hs5=>?_
     ·refine F4<|r0<|qm rfl<|A0 (E7 rfl rfl) rfl<|qm rfl<|en (ra6 rfl rfl rfl rfl rfl rfl) ?_
      cases hs5
      exact lnT () rfl (su6 rfl rfl rfl rfl rfl rfl)
     ·refine C1<|B7<|s0<|oB hs5 fun x14 hx14 hs5=>A0 (D3 rfl) rfl<|A0 (C7 rfl rfl rfl) rfl<|A0 (E9 (f:=cI) rfl rfl hx14) rfl<|A0 (F5 rfl rfl) rfl<|qm rfl<|A0 (F6 rfl rfl) rfl<|es (ra9 rfl rfl rfl rfl rfl rfl rfl rfl rfl)<|wi hs5 rfl (fun hc15 hs5=>?_) fun hc15 hs5=>?_
      ·refine r0<|qm rfl<|A0 (D3 rfl) rfl<|A0 (C7 rfl rfl rfl) rfl<|A0 (E7 rfl rfl) rfl<|qm rfl<|en (ra7 rfl rfl rfl rfl rfl rfl rfl)<|s0<|oB hs5 fun x16 hx16 hs5=>A0 (D3 rfl) rfl<|A0 (C7 rfl rfl rfl) rfl<|A0 (E9 (f:=cI) rfl rfl hx16) rfl<|A0 (F5 rfl rfl) rfl<|qm rfl<|A0 (F6 rfl rfl) rfl<|es (ra8 rfl rfl rfl rfl rfl rfl rfl rfl)<|wi hs5 rfl (fun hc17 hs5=>?_) fun hc17 hs5=>?_
       ·refine r0<|qm rfl<|A0 (D3 rfl) rfl<|A0 (C7 rfl rfl rfl) rfl<|A0 (Z8 rfl rfl) rfl<|qm rfl<|en (ra6 rfl rfl rfl rfl rfl rfl)<|r0<|qm rfl<|A0 (E7 rfl rfl) rfl<|qm rfl<|en (ra6 rfl rfl rfl rfl rfl rfl) ?_
        cases hs5
        exact lnT () rfl (su6 rfl rfl rfl rfl rfl rfl)
       ·refine C1<|r0<|qm rfl<|A0 (E7 rfl rfl) rfl<|qm rfl<|en (ra6 rfl rfl rfl rfl rfl rfl) ?_
        cases hs5
        exact lnT () rfl (su6 rfl rfl rfl rfl rfl rfl)
      ·refine C1<|s0<|oB hs5 fun x18 hx18 hs5=>A0 (D3 rfl) rfl<|A0 (C7 rfl rfl rfl) rfl<|A0 (E9 (f:=cI) rfl rfl hx18) rfl<|A0 (F5 rfl rfl) rfl<|qm rfl<|A0 (F6 rfl rfl) rfl<|es (ra8 rfl rfl rfl rfl rfl rfl rfl rfl)<|wi hs5 rfl (fun hc19 hs5=>?_) fun hc19 hs5=>?_
       ·refine r0<|qm rfl<|A0 (D3 rfl) rfl<|A0 (C7 rfl rfl rfl) rfl<|A0 (Z8 rfl rfl) rfl<|qm rfl<|en (ra6 rfl rfl rfl rfl rfl rfl)<|r0<|qm rfl<|A0 (E7 rfl rfl) rfl<|qm rfl<|en (ra6 rfl rfl rfl rfl rfl rfl) ?_
        cases hs5
        exact lnT () rfl (su6 rfl rfl rfl rfl rfl rfl)
       ·refine C1<|r0<|qm rfl<|A0 (E7 rfl rfl) rfl<|qm rfl<|en (ra6 rfl rfl rfl rfl rfl rfl) ?_
        cases hs5
        exact lnT () rfl (su6 rfl rfl rfl rfl rfl rfl)
    ·refine F4 ?_
     obtain rfl:=os hs5
     exact lx rfl px (su5 rfl rfl rfl rfl rfl)
   ·rintro e s' H' - ⟨rfl,rfl,rfl⟩
    refine r0<|oB hs1 fun x21 hx21 hs1=>qm rfl<|qm rfl<|A0 (G7 (rows:=List.map cI [o20]) rfl rfl (D8 (fun _=>rfl) _)) rfl<|R4 (A1b (f:=cI) rfl rfl rfl rfl W2 (fun _=>rfl) hx21) rfl<|qm rfl<|en (ra4 rfl rfl rfl rfl)<|r0<|qm rfl<|A0 (E7 rfl rfl) rfl<|qm rfl<|en (ra4 rfl rfl rfl rfl) ?_
    cases hs1
    exact lnT () rfl (su4 rfl rfl rfl rfl)
  ·refine F4 ?_
   obtain rfl:=os hs1
   exact lx rfl px (su1 rfl)
 ·rintro e s' H' - ⟨rfl,rfl,rfl⟩
  refine s0<|qm rfl<|qm rfl<|es (ra1 rfl)<|C4 ?_
  obtain rfl:=os h
  exact retq trivial (B1 rfl B8) (A6 (A2o rfl (List.length_map _)) B9) (A3 V7 B3)
def A0o (a0:(List Int)) (s1:(Int × Int × (List Int))):Option ((Int × Int × (List Int)) ⊕ (Int × (List Int))) :=
 if (decide (s1.2.1 < (List.length a0:Int))) = true then
  (idx a0 s1.2.1).bind fun x4 =>
  (app 8 s1.2.2 [(A8a 0 (w64 (0 - x4)))]).bind fun x5 =>
  some (.inl ((w64 (s1.1 + (A8a 0 (w64 (0 - x4))))),(w64 (s1.2.1 + 1)),x5))
 else
  some (.inr (s1.1,s1.2.2))
def A3n (a0:(List Int)):Option ((List Int) × Int) :=
 (loop (A0o a0) (0,0,([]:List Int))).bind fun (o6:(Int × (List Int))) =>
 some (o6.2,o6.1)
theorem B67 {c:Sc} {H:A1} {a0:(List Int)} {r:((List Int) × Int)} (h:A3n a0 = some r) :
  E5 tab c H (.fn (.func 79) [] []) [(.seq 1 (List.map cI a0))] [(.fresh 1 (List.map cI r.1)),.i r.2]:= by
 unfold A3n at h
 refine cE rfl rfl<|s0<|qm rfl<|qm rfl<|es (ra1 rfl)<|sg 0 rfl<|A0 A3m rfl<|es (ra2 rfl rfl)<|s0<|qm rfl<|es (ra3 rfl rfl rfl)<|B7<|s0<|qm rfl<|es (ra4 rfl rfl rfl rfl)<|C3<|oB h fun o6 ho6 h=>wl (fun s1=>[(0,(.seq 1 (List.map cI a0))),(4,(.asl (H.length + 0) (List.length s1.2.2))),(5,.i s1.1),(6,.i s1.2.1)]) (fun (q2:Unit) s1=>[(.arr 1 false (List.map cI s1.2.2))]) 1 (fun r e s' H'=>PX 0 [(4,(.asl (H.length + 0) (List.length r.2))),(5,.i r.1)] (H++[(.arr 1 false (List.map cI r.2))]) e s' H') () ho6 rfl rfl (fun _ _=>rfl) (fun _=>rfl) rfl (fun s1=>(bdc E8 (bdc (A08 rfl) (bdc A8 (bdc A8 bdn))))) (fun q2 s1 ys1 hs1=>?_) ?_
 ·unfold A0o at hs1
  refine B7<|s0<|qm rfl<|qm rfl<|A0 (D9 (f:=cI) rfl) rfl<|A0 (I4 rfl rfl) rfl<|es (ra5 rfl rfl rfl rfl rfl)<|wi hs1 rfl (fun hc3 hs1=>?_) fun hc3 hs1=>?_
  ·refine C1<|B7<|C3<|s0<|oB hs1 fun x4 hx4 hs1=>qm rfl<|qm rfl<|A0 (E9 (f:=cI) rfl rfl hx4) rfl<|A0 (F5 rfl rfl) rfl<|A0 (Z8 rfl rfl) rfl<|A0 (D59 rfl rfl) rfl<|qm rfl<|es (ra5 rfl rfl rfl rfl rfl)<|s0<|oB hs1 fun x5 hx5 hs1=>qm rfl<|qm rfl<|A0 (G7 (rows:=List.map cI [(A8a 0 (w64 (0 - x4)))]) rfl rfl (D8 (fun _=>rfl) _)) rfl<|R4 (A1b (f:=cI) rfl rfl rfl rfl W2 (fun _=>rfl) hx5) rfl<|qm rfl<|es (ra5 rfl rfl rfl rfl rfl)<|r0<|qm rfl<|qm rfl<|A0 (E7 rfl rfl) rfl<|qm rfl<|en (ra4 rfl rfl rfl rfl)<|r0<|qm rfl<|A0 (E7 rfl rfl) rfl<|qm rfl<|en (ra4 rfl rfl rfl rfl) ?_
   cases hs1
   exact lnT () rfl (su4 rfl rfl rfl rfl)
  ·refine F4 ?_
   obtain rfl:=os hs1
   exact lx rfl px (su2 rfl rfl)
 ·rintro e s' H' - ⟨rfl,rfl,rfl⟩
  refine s0<|qm rfl<|qm rfl<|qm rfl<|qm rfl<|es (ra2 rfl rfl)<|C4 ?_
  obtain rfl:=os h
  exact retq trivial (B1 rfl (B1 rfl B8)) (A6 (A2o rfl (List.length_map _)) (A6 rfl B9)) (A3 V7 (A3 A8 B3))
def S0 (a0:DrRoom) (a1:(List Int)):Option Bool :=
 (A25 a0 a1).bind fun x1 =>
 (A3n x1).bind fun x2 =>
 some (x2.2 == 0)
theorem A59 {c:Sc} {H:A1} {a0:DrRoom} {a1:(List Int)} {r:Bool} (h:S0 a0 a1 = some r) :
  E5 tab c H (.fn (.func 39) [] []) [(.agg (A4 a0)),(.seq 1 (List.map cI a1))] [.b r]:= by
 unfold S0 at h
 refine cE rfl rfl<|sg 0 rfl<|A0 (F3 (cs:=A4 a0) rfl rfl rfl) rfl<|qm rfl<|es (ra2 rfl rfl)<|s0<|oB h fun x1 hx1 h=>oB h fun x2 hx2 h=>A0 (C2 rfl rfl rfl) rfl<|qm rfl<|B5 (rs:=[(.seq 1 (List.map cI x1))]) rfl rfl (A2 (D2 rfl) (A2 rfl B6)) ((A9v hx1).frz)<|B5 (rs:=[(.seq 1 (List.map cI x2.1)),.i x2.2]) rfl rfl (A2 rfl B6) ((B67 hx2).frz)<|qm rfl<|A0 (A7 rfl rfl) rfl<|A0 (A7 rfl rfl) rfl<|qm rfl<|qm rfl<|es (ra1 rfl)<|s0<|qm rfl<|A0 (F6 rfl rfl) rfl<|qm rfl<|es (ra1 rfl)<|C4 ?_
 obtain rfl:=os h
 exact retq trivial (B1 rfl B8) (A6 rfl B9) (A3 A8 B3)
def A2s (a0:DrRoom) (a1:(List Int)) (s1:(Int × Int)):Option ((Int × Int) ⊕ Int) :=
 if (decide (s1.2 < (List.length a1:Int))) = true then
  (idx a1 s1.2).bind fun x4 =>
  (idx a0.Figures x4).bind fun x5 =>
  (idx a0.Persons s1.2).bind fun x6 =>
  (A4e a0 x5 x6).bind fun x7 =>
  some (.inl ((w64 (s1.1 + x7)),(w64 (s1.2 + 1))))
 else
  some (.inr s1.1)
def A15 (a0:DrRoom) (a1:(List Int)):Option Int :=
 (loop (A2s a0 a1) (0,0)).bind fun (o8:Int) =>
 some o8
theorem B17 {c:Sc} {H:A1} {a0:DrRoom} {a1:(List Int)} {r:Int} (h:A15 a0 a1 = some r) :
  E5 tab c H (.fn (.func 41) [] []) [(.agg (A4 a0)),(.seq 1 (List.map cI a1))] [.i r]:= by
 unfold A15 at h
 refine cE rfl rfl<|sg 0 rfl<|A0 (F3 (cs:=A4 a0) rfl rfl rfl) rfl<|qm rfl<|es (ra2 rfl rfl)<|s0<|qm rfl<|es (ra3 rfl rfl rfl)<|B7<|s0<|qm rfl<|es (ra4 rfl rfl rfl rfl)<|C3<|oB h fun o8 ho8 h=>wl (fun s1=>[(1,(.seq 1 (List.map cI a1))),(2,(.ptr (H.length + 0) 0)),(5,.i s1.1),(6,.i s1.2)]) (fun (q2:Unit) s1=>[(.cells (A4 a0))]) 1 (fun r e s' H'=>PX 0 [(5,.i r)] (H++[(.cells (A4 a0))]) e s' H') () ho8 rfl rfl (fun _ _=>rfl) (fun _=>rfl) rfl (fun s1=>(bdc E8 (bdc (F1 rfl) (bdc A8 (bdc A8 bdn))))) (fun q2 s1 ys1 hs1=>?_) ?_
 ·unfold A2s at hs1
  refine B7<|s0<|qm rfl<|qm rfl<|A0 (D9 (f:=cI) rfl) rfl<|A0 (I4 rfl rfl) rfl<|es (ra5 rfl rfl rfl rfl rfl)<|wi hs1 rfl (fun hc3 hs1=>?_) fun hc3 hs1=>?_
  ·refine C1<|B7<|C3<|r0<|oB hs1 fun x4 hx4 hs1=>oB hs1 fun x5 hx5 hs1=>oB hs1 fun x6 hx6 hs1=>oB hs1 fun x7 hx7 hs1=>A0 (C2 rfl rfl rfl) rfl<|A0 (D3 rfl) rfl<|A0 (C7 rfl rfl rfl) rfl<|qm rfl<|qm rfl<|A0 (E9 (f:=cI) rfl rfl hx4) rfl<|A0 (F5 rfl rfl) rfl<|A0 (E9 (f:=A5) rfl rfl hx5) rfl<|A0 (M6 rfl rfl) rfl<|A0 (D3 rfl) rfl<|A0 (C7 rfl rfl rfl) rfl<|qm rfl<|A0 (E9 (f:=A5) rfl rfl hx6) rfl<|A0 (M6 rfl rfl) rfl<|B5 (rs:=[.i x7]) rfl rfl (A2 (D2 rfl) (A2 (D2 rfl) (A2 (D2 rfl) B6))) ((B16 hx7).frz)<|qm rfl<|A0 (E7 rfl rfl) rfl<|qm rfl<|en (ra4 rfl rfl rfl rfl)<|r0<|qm rfl<|A0 (E7 rfl rfl) rfl<|qm rfl<|en (ra4 rfl rfl rfl rfl) ?_
   cases hs1
   exact lnT () rfl (su4 rfl rfl rfl rfl)
  ·refine F4 ?_
   obtain rfl:=os hs1
   exact lx rfl px (su1 rfl)
 ·rintro e s' H' - ⟨rfl,rfl,rfl⟩
  refine s0<|qm rfl<|qm rfl<|es (ra1 rfl)<|C4 ?_
  obtain rfl:=os h
  exact retq trivial (B1 rfl B8) (A6 rfl B9) (A3 A8 B3)
end Ds
end
section
namespace Ds
open Go Am
abbrev Prs:=List (Nat × DrLook)
def cst (r:DrRoom) (x:Nat × DrLook):Int:=one r r.Figures[x.1]! x.2
def hr (r:DrRoom) (c:Nat) (x:Nat × DrLook):Int:=A7h r.Figures[x.1]! x.2 (c:Int)
def A7p (r:DrRoom) (z:Prs):Int:=sm (z.map (cst r))
def E3 (r:DrRoom) (z:Prs) (c:Nat):Int:=r.Ounces.getD c 0 + sm (z.map (hr r c))
def J0 (r:DrRoom) (z:Prs):dress_plan:=⟨ints (z.map (·.1)),A7p r z,⟨E3 r z 0,E3 r z 1,E3 r z 2,E3 r z 3⟩⟩
def B4y (r:DrRoom) (z:Prs):Prop:=z.length≤5∧∀ x ∈ z,x.1 < r.Figures.length∧LkOk r (-1) x.2
theorem D0w {r:DrRoom} (ok:RmOk r) (x:Nat × DrLook):0≤cst r x∧cst r x≤400:=D18 ok _ _
theorem C12 {r:DrRoom} (ok:RmOk r) (z:Prs):0≤A7p r z∧A7p r z≤400 * z.length:= by
 have:=C4p (a:=0) (b:=400) (l:=z.map (cst r)) fun x hx=>by
  obtain ⟨k,_,rfl⟩:=List.mem_map.mp hx
  exact D0w ok k
 rw [List.length_map] at this
 unfold A7p; omega
theorem D5a {r:DrRoom} (ok:RmOk r) (c:Nat) {x:Nat × DrLook} (h:x.1 < r.Figures.length∧LkOk r (-1) x.2):-50≤hr r c x∧hr r c x≤50:= by
 have h1:=(ok.figure _ (J4 h.1)).hair
 have h2:=h.2.hair
 unfold hr A7h
 split
 ·split <;> split <;> omega
 ·omega
theorem D2d {r:DrRoom} (ok:RmOk r) (c:Nat):0≤r.Ounces.getD c 0∧r.Ounces.getD c 0≤50:= by
 rw [List.getD_eq_getElem?_getD]
 by_cases h:c < r.Ounces.length
 ·rw [List.getElem?_eq_getElem h]; exact ok.ounce _ (List.getElem_mem h)
 ·rw [List.getElem?_eq_none (by omega)]; decide
theorem B1u {r:DrRoom} (ok:RmOk r) {z:Prs} (hz:B4y r z) (c:Nat):-250≤E3 r z c∧E3 r z c≤300:= by
 have:=C4p (a:=-50) (b:=50) (l:=z.map (hr r c)) fun x hx=>by
  obtain ⟨k,hk,rfl⟩:=List.mem_map.mp hx
  exact D5a ok c (hz.2 k hk)
 have h2:=D2d ok c
 have h3:=hz.1
 rw [List.length_map] at this
 unfold E3; omega
theorem B4y.take {r:DrRoom} {z:Prs} (h:B4y r z) (n:Nat):B4y r (z.take n) :=
 ⟨by have:=h.1; rw [List.length_take]; omega,fun x hx=>h.2 x (List.mem_of_mem_take hx)⟩
theorem C91 (r:DrRoom) (z:Prs) (x:Nat × DrLook):A7p r (z++[x]) = A7p r z + cst r x:= by
 unfold A7p; rw [List.map_append,A4g]; simp [sm]
theorem C5v (r:DrRoom) (z:Prs) (x:Nat × DrLook) (c:Nat):E3 r (z++[x]) c = E3 r z c + hr r c x:= by
 unfold E3; rw [List.map_append,A4g]; simp [sm]; omega
theorem C8a {r:DrRoom} (ok:RmOk r) {z:Prs} (hz:B4y r z) {f:Nat} {p:DrLook} (hx:f < r.Figures.length∧LkOk r (-1) p):T7 (J0 r z) (f:Int) (chg r r.Figures[f]! p) = some (J0 r (z++[(f,p)])):= by
 have hl:=hz.1
 have hs:=C12 ok z
 have hc:=D18 ok r.Figures[f]! p
 have hb:∀c:Nat,w64 (E3 r z c + A7h r.Figures[f]! p (c:Int)) = E3 r (z++[(f,p)]) c:=fun c=>by
  have h1:=B1u ok hz c
  have h2:=D5a ok c (x:=(f,p)) hx
  rw [C5v]
  have h2':-50≤A7h r.Figures[f]! p (c:Int)∧A7h r.Figures[f]! p (c:Int)≤50:=h2
  exact E2 (by omega)
 unfold T7
 rw [Z7 (by omega) (by show (ints _).length + 1≤_; rw [L6,List.length_map]; omega)]
 simp only [Option.bind_some]
 have h0:=hb 0
 have h1:=hb 1
 have h2:=hb 2
 have h3:=hb 3
 have hloop:loop (S7 (chg r r.Figures[f]! p)) (0,(J0 r z).left_) = some (J0 r (z++[(f,p)])).left_:= by
  have:=K1 (b:=S7 (chg r r.Figures[f]! p)) (fun i=>((i:Int),(match i with
   | 0=>⟨E3 r z 0,E3 r z 1,E3 r z 2,E3 r z 3⟩
   | 1=>⟨E3 r (z++[(f,p)]) 0,E3 r z 1,E3 r z 2,E3 r z 3⟩
   | 2=>⟨E3 r (z++[(f,p)]) 0,E3 r (z++[(f,p)]) 1,E3 r z 2,E3 r z 3⟩
   | 3=>⟨E3 r (z++[(f,p)]) 0,E3 r (z++[(f,p)]) 1,E3 r (z++[(f,p)]) 2,E3 r z 3⟩
   | _=>(J0 r (z++[(f,p)])).left_:Ar4 Int))) 4 (r:=(J0 r (z++[(f,p)])).left_) (by omega) (fun i hi=>by
   unfold S7
   generalize r.Figures[f]! = F at h0 h1 h2 h3 ⊢
   rcases (by omega:i = 0∨i = 1∨i = 2∨i = 3) with rfl | rfl | rfl | rfl <;> simp [idx,Ar4.l,Ar4.set,chg,J0]
   ·exact ⟨E2 (by omega),h0⟩
   ·exact ⟨E2 (by omega),h1⟩
   ·exact ⟨E2 (by omega),h2⟩
   ·exact ⟨E2 (by omega),h3⟩) rfl
  exact this
 rw [hloop]
 simp only [Option.bind_some,Option.some.injEq]
 have e1:w64 (A7p r z + one r r.Figures[f]! p) = A7p r (z++[(f,p)]):= by
  rw [C91]; exact E2 (by omega)
 show (⟨ints (z.map (·.1))++[(f:Int)],w64 (A7p r z + one r r.Figures[f]! p),(J0 r (z++[(f,p)])).left_⟩:dress_plan) = J0 r (z++[(f,p)])
 rw [e1]
 unfold J0 ints
 simp
def below (x:Int):Int:=if x < 0 then -x else 0
def A7i (r:DrRoom) (z:Prs):List Int:=(List.range r.Ounces.length).map fun c=>below (E3 r z c)
def A5g (r:DrRoom) (z:Prs):Bool:=(List.range r.Ounces.length).all fun c=>decide (0≤E3 r z c)
theorem D1c {r:DrRoom} (ok:RmOk r) {x:Nat × DrLook} (h:x.1 < r.Figures.length∧LkOk r (-1) x.2) {c:Nat} (hc:r.Ounces.length≤c):hr r c x = 0:= by
 have h1:=(ok.figure _ (J4 h.1)).col
 have h2:=h.2.col
 unfold hr A7h
 have e1:r.Figures[x.1]!.Looks[0]! ≠ (c:Int):= by omega
 have e2:x.2.Looks[0]! ≠ (c:Int):= by omega
 rw [if_neg e1,if_neg e2]
 simp
theorem C3k {r:DrRoom} (ok:RmOk r) {z:Prs} (hz:B4y r z) {c:Nat} (hc:r.Ounces.length≤c):E3 r z c = 0:= by
 unfold E3
 rw [List.getD_eq_getElem?_getD,List.getElem?_eq_none hc,D4v fun x hx=>D1c ok (hz.2 x hx) hc]; rfl
theorem B9a {x:Int} (h:-1000≤x∧x≤1000):A8a 0 (w64 (0 - x)) = below x:= by
 rw [E2 (by omega)]
 unfold A8a below
 split <;> split <;> omega
theorem B50 {x:Int} (h:-1000≤x∧x≤1000):0≤below x∧below x≤1000:= by
 unfold below; split <;> omega
theorem D1p {r:DrRoom} (ok:RmOk r) {z:Prs} (hz:B4y r z):M4 (J0 r z) = some (⟨below (E3 r z 0),below (E3 r z 1),below (E3 r z 2),below (E3 r z 3)⟩,sm (A7i r z)):= by
 have hb:∀c,-1000≤E3 r z c∧E3 r z c≤1000:=fun c=>by have:=B1u ok hz c; omega
 have m:=fun c=>B9a (hb c)
 have q:=fun c=>B50 (hb c)
 have q0:=q 0
 have q1:=q 1
 have q2:=q 2
 have q3:=q 3
 have hs:sm (A7i r z) = below (E3 r z 0) + below (E3 r z 1) + below (E3 r z 2) + below (E3 r z 3):= by
  have ho:=ok.ounces
  have hf:∀c,r.Ounces.length≤c→below (E3 r z c) = 0:=fun c hc=>by rw [C3k ok hz hc]; rfl
  unfold A7i
  rcases (by omega:r.Ounces.length = 1∨r.Ounces.length = 2∨r.Ounces.length = 3∨r.Ounces.length = 4) with e | e | e | e <;> rw [e] at hf ⊢
  ·rw [hf 1 (by omega),hf 2 (by omega),hf 3 (by omega)]; simp [List.range,List.range.loop,sm]
  ·rw [hf 2 (by omega),hf 3 (by omega)]; simp [List.range,List.range.loop,sm]
  ·rw [hf 3 (by omega)]; simp [List.range,List.range.loop,sm]; omega
  ·simp [List.range,List.range.loop,sm]; omega
 unfold M4
 have m0:=m 0
 rw [Int.zero_sub] at m0
 have m1:=m 1
 rw [Int.zero_sub] at m1
 have m2:=m 2
 rw [Int.zero_sub] at m2
 have m3:=m 3
 rw [Int.zero_sub] at m3
 have:=K1 (b:=R0 (J0 r z)) (fun i=>(match i with
   | 0=>(0,0,⟨0,0,0,0⟩)
   | 1=>(below (E3 r z 0),1,⟨below (E3 r z 0),0,0,0⟩)
   | 2=>(below (E3 r z 0) + below (E3 r z 1),2,⟨below (E3 r z 0),below (E3 r z 1),0,0⟩)
   | 3=>(below (E3 r z 0) + below (E3 r z 1) + below (E3 r z 2),3,⟨below (E3 r z 0),below (E3 r z 1),below (E3 r z 2),0⟩)
   | _=>(sm (A7i r z),4,⟨below (E3 r z 0),below (E3 r z 1),below (E3 r z 2),below (E3 r z 3)⟩):Int × Int × Ar4 Int)) 4 (r:=(sm (A7i r z),⟨below (E3 r z 0),below (E3 r z 1),below (E3 r z 2),below (E3 r z 3)⟩)) (by omega) (fun i hi=>by
  unfold R0
  rcases (by omega:i = 0∨i = 1∨i = 2∨i = 3) with rfl | rfl | rfl | rfl
  ·simp only [J0,idx,Ar4.l,Ar4.set]
   simp [m0]
   first | exact ⟨E2 (by omega),E2 (by omega)⟩ | exact E2 (by omega)
  ·simp only [J0,idx,Ar4.l,Ar4.set]
   simp [m1]
   first | exact ⟨E2 (by omega),E2 (by omega)⟩ | exact E2 (by omega)
  ·simp only [J0,idx,Ar4.l,Ar4.set]
   simp [m2]
   first | exact ⟨E2 (by omega),E2 (by omega)⟩ | exact E2 (by omega)
  ·simp only [J0,idx,Ar4.l,Ar4.set]
   simp [m3,hs]
   first | exact ⟨E2 (by omega),E2 (by omega)⟩ | exact E2 (by omega)) rfl
 rw [show ((0:Int),(0:Int),(Ar4.mk (0:Int) 0 0 0)) = (match (0:Nat) with
   | 0=>(0,0,⟨0,0,0,0⟩)
   | 1=>(below (E3 r z 0),1,⟨below (E3 r z 0),0,0,0⟩)
   | 2=>(below (E3 r z 0) + below (E3 r z 1),2,⟨below (E3 r z 0),below (E3 r z 1),0,0⟩)
   | 3=>(below (E3 r z 0) + below (E3 r z 1) + below (E3 r z 2),3,⟨below (E3 r z 0),below (E3 r z 1),below (E3 r z 2),0⟩)
   | _=>(sm (A7i r z),4,⟨below (E3 r z 0),below (E3 r z 1),below (E3 r z 2),below (E3 r z 3)⟩):Int × Int × Ar4 Int) from rfl,this]; rfl
theorem B51 {x:Int}:(below x == 0) = decide (0≤x):= by
 unfold below
 rw [Bool.eq_iff_iff,beq_iff_eq,decide_eq_true_eq]
 split <;> omega
theorem B5y {r:DrRoom} (ok:RmOk r) {z:Prs} (hz:B4y r z):L5 (J0 r z) = some (A5g r z):= by
 unfold L5
 rw [D1p ok hz]
 simp only [Option.bind_some,B51,Bool.and_true,Option.some.injEq]
 have ho:=ok.ounces
 have hf:∀c,r.Ounces.length≤c→decide (0≤E3 r z c) = true:=fun c hc=>by rw [C3k ok hz hc]; rfl
 unfold A5g
 rcases (by omega:r.Ounces.length = 1∨r.Ounces.length = 2∨r.Ounces.length = 3∨r.Ounces.length = 4) with e | e | e | e <;> rw [e] at hf ⊢
 ·rw [hf 1 (by omega),hf 2 (by omega),hf 3 (by omega)]; simp [List.range,List.range.loop]
 ·rw [hf 2 (by omega),hf 3 (by omega)]; simp [List.range,List.range.loop]
 ·rw [hf 3 (by omega)]; simp [List.range,List.range.loop]
 ·simp [List.range,List.range.loop]
theorem C87 {r:DrRoom} {z:Prs}:(sm (A7i r z) == 0) = A5g r z:= by
 unfold A7i A5g
 induction (List.range r.Ounces.length) with
 | nil=>rfl
 | cons c l ih =>
  have h0:∀l:List Nat,0≤sm (l.map fun c=>below (E3 r z c)):=fun l=>by
   have:∀x ∈ l.map fun c=>below (E3 r z c),0≤x:=fun x hx=>by
    obtain ⟨k,_,rfl⟩:=List.mem_map.mp hx
    unfold below; split <;> omega
   revert this
   generalize l.map (fun c=>below (E3 r z c)) = m
   intro this
   induction m with
   | nil=>exact Int.le_refl _
   | cons x l ih =>
    have h1:=this x (List.mem_cons_self ..)
    have h2:=ih fun y hy=>this y (List.mem_cons_of_mem _ hy)
    simp only [sm]; omega
  have h1:=h0 l
  have h2:0≤below (E3 r z c):= by unfold below; split <;> omega
  rw [List.all_cons,← ih,← B51,Bool.eq_iff_iff,Bool.and_eq_true,beq_iff_eq,beq_iff_eq,beq_iff_eq]
  simp only [List.map_cons,sm]
  omega
theorem C15 {q:List Nat} {ps:List DrLook} {i:Nat} (h:i < q.length) (h2:q.length≤ps.length):(q.zip ps)[i]! = (q[i]!,ps[i]!):= by
 rw [getElem!_pos _ i (by rw [List.length_zip]; omega),List.getElem_zip,getElem!_pos q i h,getElem!_pos ps i (by omega)]
theorem B2r {q:List Nat} {ps:List DrLook} (h:q.length≤ps.length):(q.zip ps).length = q.length:= by
 rw [List.length_zip]; omega
theorem A76 {q:List Nat} {i:Nat} (h:i < q.length):idx (ints q) (i:Int) = some ((q[i]!:Nat):Int) :=
 A4o (by unfold ints; rw [List.getElem?_map,List.getElem?_eq_getElem h,getElem!_pos q i h]; rfl)
structure QOk (r:DrRoom) (q:List Nat):Prop where
 len:q.length≤r.Persons.length
 fig:∀x ∈ q,x < r.Figures.length
def prs (r:DrRoom) (q:List Nat):Prs:=q.zip r.Persons
theorem QOk.pr {r:DrRoom} (ok:RmOk r) {q:List Nat} (h:QOk r q):B4y r (prs r q):= by
 refine ⟨by unfold prs; rw [B2r h.len]; have:=ok.persons; have:=h.len; omega,fun x hx=>?_⟩
 have:=List.of_mem_zip (a:=x.1) (b:=x.2) hx
 exact ⟨h.fig _ this.1,ok.person _ this.2⟩
theorem D0e {r:DrRoom} (ok:RmOk r) {q:List Nat} (h:QOk r q):A15 r (ints q) = some (A7p r (prs r q)):= by
 have hP:=ok.persons
 have hl:=h.len
 have hz:=h.pr ok
 have hzl:(prs r q).length = q.length:=B2r h.len
 unfold A15
 have:=A85 (b:=A2s r (ints q)) (prs r q) (fun (t:Int) x=>t + cst r x) 0 (fun i t=>(t,(i:Int))) (r:=A7p r (prs r q)) (by omega) (fun i hi=>by
  rw [A4m (cst r)]
  have hs:=C12 ok ((prs r q).take i)
  rw [List.length_take] at hs
  have hx:=D0w ok (prs r q)[i]!
  have hi2:i < q.length:= by omega
  have e:(prs r q)[i]! = (q[i]!,r.Persons[i]!):=C15 hi2 h.len
  unfold A2s
  simp only []
  rw [if_pos (by rw [L6]; simpa using hi2),A76 hi2]
  simp only [Option.bind_some]
  have hf:=h.fig _ (J4 hi2)
  rw [I0 hf,I0 (by omega)]
  simp only [Option.bind_some]
  rw [D0a ok (ok.figure _ (J4 hf)).len (ok.person _ (J4 (by omega))).len]
  simp only [Option.bind_some]
  rw [show one r r.Figures[q[i]!]! r.Persons[i]! = cst r (prs r q)[i]! by rw [e]; rfl]
  unfold A7p at hs
  rw [E2 (by omega),E2 (by omega)]
  rfl) (by
  unfold A2s
  simp only []
  rw [if_neg (by rw [L6,hzl]; simp),A4m (cst r)]
  unfold A7p; simp)
 rw [show ((0:Int),(0:Int)) = ((0:Int),((0:Nat):Int)) from rfl,this]; rfl
theorem D1d (n:Nat) (f p:DrLook) (hn:1≤n):(ints (N5 n f p)).any (· == 0) = ck f p 0:= by
 rw [Bool.eq_iff_iff,List.any_eq_true]
 constructor
 ·rintro ⟨x,hx,e⟩
  unfold ints N5 at hx
  obtain ⟨k,hk,rfl⟩:=List.mem_map.mp hx
  have:k = 0:= by simpa using e
  subst this
  exact (List.mem_filter.mp hk).2
 ·intro h
  refine ⟨0,?_,rfl⟩
  unfold ints N5
  exact List.mem_map.mpr ⟨0,List.mem_filter.mpr ⟨by simp; omega,h⟩,rfl⟩
theorem hair1 {r:DrRoom} (ok:RmOk r) {q:List Nat} (h:QOk r q) (c:Nat) (hc:c < r.Ounces.length) (l0:List Int):loop (Z0 r (ints q) ((c:Int),l0)) (r.Ounces[c]!,0) = some (E3 r (prs r q) c):= by
 have hP:=ok.persons
 have hC:=ok.costs
 have hl:=h.len
 have hz:=h.pr ok
 have hzl:(prs r q).length = q.length:=B2r h.len
 have hd:r.Ounces.getD c 0 = r.Ounces[c]!:= by rw [List.getD_eq_getElem?_getD,List.getElem?_eq_getElem hc,getElem!_pos _ c hc]; rfl
 have:=A85 (b:=Z0 r (ints q) ((c:Int),l0)) (prs r q) (fun (t:Int) x=>t + hr r c x) r.Ounces[c]! (fun i t=>(t,(i:Int))) (r:=E3 r (prs r q) c) (by omega) (fun i hi=>by
  rw [A4m (hr r c)]
  have hs:=B1u ok (hz.take i) c
  unfold E3 at hs
  rw [hd] at hs
  have hi2:i < q.length:= by omega
  have e:(prs r q)[i]! = (q[i]!,r.Persons[i]!):=C15 hi2 h.len
  have hf:=h.fig _ (J4 hi2)
  have lf:=ok.figure _ (J4 hf)
  have lp:=ok.person _ (J4 (l:=r.Persons) (i:=i) (by omega))
  generalize r.Ounces[c]! + sm (List.map (hr r c) ((prs r q).take i)) = t at hs ⊢
  unfold Z0
  simp only []
  rw [if_pos (by rw [L6]; simpa using hi2),A76 hi2]
  simp only [Option.bind_some]
  rw [I0 hf,I0 (by omega)]
  simp only [Option.bind_some]
  rw [B5v ok lf.len lp.len]
  simp only [Option.bind_some]
  rw [C0s _ _ (by rw [L6]; have:=P0 r.Costs.length r.Figures[q[i]!]! r.Persons[i]!; omega),D1d _ _ _ hC.1,e]
  simp only [Option.bind_some]
  have h1:=lf.hair
  have h2:=lp.hair
  unfold hr A7h
  generalize r.Figures[q[i]!]! = F at lf h1 ⊢
  generalize r.Persons[i]! = P at lp h2 ⊢
  rw [show idx F.Looks 0 = some F.Looks[0]! from I0 (i:=0) (by rw [lf.len]; omega),show idx P.Looks 0 = some P.Looks[0]! from I0 (i:=0) (by rw [lp.len]; omega)]
  simp only [Option.bind_some,beq_iff_eq]
  have hw:w64 ((i:Int) + 1) = ((i + 1:Nat):Int):=E2 (by omega)
  cases ck F P 0 with
  | false=>simp only [Bool.not_false,if_true,Bool.false_eq_true,if_false,hw,Int.add_zero]
  | true =>
   simp only [Bool.not_true,Bool.false_eq_true,if_false,if_true,hw]
   by_cases c1:F.Looks[0]! = (c:Int) <;> by_cases c2:P.Looks[0]! = (c:Int) <;> simp only [c1,c2,if_true,if_false]
   ·rw [E2 (n:=t + F.Hair) (by omega),E2 (by omega)]; congr 3; omega
   ·rw [E2 (n:=t + F.Hair) (by omega)]; congr 3; omega
   ·rw [E2 (by omega)]; congr 3; omega
   ·congr 3; omega) (by
  unfold Z0
  simp only []
  rw [if_neg (by rw [L6,hzl]; simp),A4m (hr r c)]
  unfold E3; rw [hd])
 exact this
def A30 (r:DrRoom) (z:Prs):List Int:=(List.range r.Ounces.length).map (E3 r z)
theorem C6y {r:DrRoom} (ok:RmOk r) {q:List Nat} (h:QOk r q):A25 r (ints q) = some (A30 r (prs r q)):= by
 have hO:=ok.ounces
 unfold A25
 have:=A85 (b:=A1k r (ints q)) (List.range r.Ounces.length) (fun (t:List Int) c=>t++[E3 r (prs r q) c]) [] (fun i t=>((i:Int),t)) (r:=A30 r (prs r q)) (by simp; omega) (fun i hi=>by
  have hi2:i < r.Ounces.length:= by simpa using hi
  rw [A5k (E3 r (prs r q)),C9n hi2]
  unfold A1k
  simp only []
  rw [if_pos (by simpa using hi2),I0 hi2]
  simp only [Option.bind_some]
  rw [hair1 ok h i hi2]
  simp only [Option.bind_some]
  rw [Z7 (by omega) (by simp; omega),E2 (by omega)]
  rfl) (by
  unfold A1k
  simp only []
  rw [if_neg (by simp),A5k (E3 r (prs r q))]
  simp [A30])
 rw [show ((0:Int),([]:List Int)) = (((0:Nat):Int),([]:List Int)) from rfl,this]; rfl
theorem C1u {r:DrRoom} (ok:RmOk r) {z:Prs} (hz:B4y r z):A3n (A30 r z) = some (A7i r z,sm (A7i r z)):= by
 have hO:=ok.ounces
 have hb:∀c,-1000≤E3 r z c∧E3 r z c≤1000:=fun c=>by have:=B1u ok hz c; omega
 unfold A3n
 have:=K1 (b:=A0o (A30 r z)) (fun i=>(sm ((List.range i).map fun c=>below (E3 r z c)),(i:Int),(List.range i).map fun c=>below (E3 r z c))) r.Ounces.length (r:=(sm (A7i r z),A7i r z)) (by omega) (fun i hi=>by
  have hs:0≤sm ((List.range i).map fun c=>below (E3 r z c))∧sm ((List.range i).map fun c=>below (E3 r z c))≤1000 * i:= by
   have:=C4p (a:=0) (b:=1000) (l:=(List.range i).map fun c=>below (E3 r z c)) fun x hx=>by
    obtain ⟨k,_,rfl⟩:=List.mem_map.mp hx
    exact B50 (hb k)
   simp at this; omega
  unfold A0o
  simp only []
  rw [if_pos (by simpa [A30] using hi),show idx (A30 r z) (i:Int) = some (E3 r z i) from A4o (by unfold A30; rw [List.getElem?_map,List.getElem?_range hi]; rfl)]
  simp only [Option.bind_some]
  rw [B9a (hb i),Z7 (by omega) (by simp; omega)]
  have hq:=B50 (hb i)
  simp only [Option.bind_some]
  rw [E2 (by omega),E2 (by omega),List.range_succ,List.map_append,A4g]
  simp [sm]) (by
  unfold A0o
  simp only []
  rw [if_neg (by simp [A30])]; rfl)
 rw [show ((0:Int),(0:Int),([]:List Int)) = (sm ((List.range 0).map fun c=>below (E3 r z c)),((0:Nat):Int),(List.range 0).map fun c=>below (E3 r z c)) from rfl,this]; rfl
theorem B5u {r:DrRoom} (ok:RmOk r) {q:List Nat} (h:QOk r q):S0 r (ints q) = some (A5g r (prs r q)):= by
 unfold S0
 rw [C6y ok h]
 simp only [Option.bind_some]
 rw [C1u ok (h.pr ok)]
 simp only [Option.bind_some,C87]
end Ds
end
section
set_option maxRecDepth 100000
set_option maxHeartbeats 0
namespace Ds
open Go Am Go.Proofs.Ytdkflofgolehkaa.Cd
def Q2 (a0:DrRoom) (a1:(List Int)) (s5:(Int × Int)):Option ((Int × Int) ⊕ Int) :=
 if ((decide (s5.2 < (List.length a1:Int))) && (s5.1 == 0)) = true then
  (idx a1 s5.2).bind fun x9 =>
  (L2 x9 0 (w64 ((List.length a0.Figures:Int) - 1))).bind fun x10 =>
  if (!x10) = true then
  some (.inl (4,(w64 (s5.2 + 1))))
  else
  some (.inl (s5.1,(w64 (s5.2 + 1))))
 else
  some (.inr s5.1)
def Q3 (a1:(List Int)) (s13:(Int × Int)):Option ((Int × Int) ⊕ Int) :=
 if ((decide (s13.2 < (List.length a1:Int))) && (s13.1 == 0)) = true then
  (slc a1 0 s13.2).bind fun x17 =>
  (idx a1 s13.2).bind fun x18 =>
  (A14 x17 x18).bind fun x19 =>
  if x19 = true then
  some (.inl (5,(w64 (s13.2 + 1))))
  else
  some (.inl (s13.1,(w64 (s13.2 + 1))))
 else
  some (.inr s13.1)
def A28 (a0:DrRoom) (a1:(List Int)):Option Int :=
 (U5 a0).bind fun x1 =>
 (if ((x1.2.2 == 0) && ((List.length a1:Int) != (List.length a0.Persons:Int))) = true then
  some 3
  else
  some x1.2.2).bind fun (p3:Int) =>
 (loop (Q2 a0 a1) (p3,0)).bind fun (o12:Int) =>
 (loop (Q3 a1) (o12,0)).bind fun (o21:Int) =>
 some o21
theorem A9w {c:Sc} {H:A1} {a0:DrRoom} {a1:(List Int)} {r:Int} (h:A28 a0 a1 = some r) :
  E5 tab c H (.fn (.func 40) [] []) [(.agg (A4 a0)),(.seq 1 (List.map cI a1))] [.i r]:= by
 unfold A28 at h
 refine cE rfl rfl<|sg 0 rfl<|A0 (F3 (cs:=A4 a0) rfl rfl rfl) rfl<|qm rfl<|es (ra2 rfl rfl)<|s0<|oB h fun x1 hx1 h=>A0 (C2 rfl rfl rfl) rfl<|B5 (rs:=[.i x1.1,.i x1.2.1,.i x1.2.2]) rfl rfl (A2 (D2 rfl) B6) ((A0i hx1).frz)<|qm rfl<|A0 (A7 rfl rfl) rfl<|A0 (A7 rfl rfl) rfl<|A0 (A7 rfl rfl) rfl<|qm rfl<|qm rfl<|qm rfl<|es (ra3 rfl rfl rfl)<|B7<|s0<|qm rfl<|A0 (F6 rfl rfl) rfl<|qm rfl<|gp 7 25 (.b ((x1.2.2 == 0) && ((List.length a1:Int) != (List.length a0.Persons:Int)))) 18 rfl rfl (fun hg2=>?_) (fun hg2=>?_) ?_
 ·exact gT rfl hg2<|qm rfl<|gT rfl hg2<|A0 (D9 (f:=cI) rfl) rfl<|gT rfl hg2<|A0 (D3 rfl) rfl<|gT rfl hg2<|A0 (C7 rfl rfl rfl) rfl<|gT rfl hg2<|A0 (D9 (f:=A5) rfl) rfl<|gT rfl hg2<|A0 (J8 rfl rfl) rfl<|A0 (C9 rfl hg2 rfl) rfl<|ge 7 (by rw [hg2]; rfl) rfl rfl
 ·exact nT rfl hg2 rfl<|nT rfl hg2 rfl<|nT rfl hg2 rfl<|nT rfl hg2 rfl<|nT rfl hg2 rfl<|nT rfl hg2 rfl<|A0 (C8 rfl hg2 rfl) rfl<|ge 7 (by rw [hg2]; rfl) rfl rfl
 refine es (ra4 rfl rfl rfl rfl)<|oB h fun p3 hp3 h=>B3x (Q1:=fun e s' H'=>e = .normal∧s' = [(1,(.seq 1 (List.map cI a1))),(2,(.ptr (H.length + 0) 0)),(7,.i p3)]∧H' = (H++[(.cells (A4 a0))])) ?_ ?_
 ·refine wi hp3 rfl (fun hc4 hp3=>?_) fun hc4 hp3=>?_
  ·refine r0<|qm rfl<|en (ra3 rfl rfl rfl) ?_
   obtain rfl:=os hp3
   exact me (And.intro rfl (And.intro rfl rfl)) (su3 rfl rfl rfl)
  ·refine C1 ?_
   obtain rfl:=os hp3
   exact me (And.intro rfl (And.intro rfl rfl)) (su3 rfl rfl rfl)
 ·rintro e s' H' ⟨rfl,rfl,rfl⟩
  refine B7<|s0<|qm rfl<|es (ra4 rfl rfl rfl rfl)<|C3<|oB h fun o12 ho12 h=>wl (fun s5=>[(1,(.seq 1 (List.map cI a1))),(2,(.ptr (H.length + 0) 0)),(7,.i s5.1),(8,.i s5.2)]) (fun (q6:Unit) s5=>[(.cells (A4 a0))]) 1 (fun r e s' H'=>PX 0 [(1,(.seq 1 (List.map cI a1))),(7,.i r)] (H++[(.cells (A4 a0))]) e s' H') () ho12 rfl rfl (fun _ _=>rfl) (fun _=>rfl) rfl (fun s5=>(bdc E8 (bdc (F1 rfl) (bdc A8 (bdc A8 bdn))))) (fun q6 s5 ys5 hs5=>?_) ?_
  ·unfold Q2 at hs5
   refine B7<|s0<|qm rfl<|qm rfl<|A0 (D9 (f:=cI) rfl) rfl<|A0 (I4 rfl rfl) rfl<|qm rfl<|gp 3 33 (.b ((decide (s5.2 < (List.length a1:Int))) && (s5.1 == 0))) 30 rfl rfl (fun hg7=>?_) (fun hg7=>?_) ?_
   ·exact gT rfl hg7<|qm rfl<|gT rfl hg7<|A0 (F6 rfl rfl) rfl<|A0 (C9 rfl hg7 rfl) rfl<|ge 3 (by rw [hg7]; rfl) rfl rfl
   ·exact nT rfl hg7 rfl<|nT rfl hg7 rfl<|A0 (C8 rfl hg7 rfl) rfl<|ge 3 (by rw [hg7]; rfl) rfl rfl
   refine es (ra5 rfl rfl rfl rfl rfl)<|wi hs5 rfl (fun hc8 hs5=>?_) fun hc8 hs5=>?_
   ·refine C1<|B7<|C3<|s0<|oB hs5 fun x9 hx9 hs5=>oB hs5 fun x10 hx10 hs5=>qm rfl<|qm rfl<|A0 (E9 (f:=cI) rfl rfl hx9) rfl<|A0 (F5 rfl rfl) rfl<|A0 (D3 rfl) rfl<|A0 (C7 rfl rfl rfl) rfl<|A0 (D9 (f:=A5) rfl) rfl<|A0 (Z8 rfl rfl) rfl<|B5 (rs:=[.b x10]) rfl rfl (A2 rfl (A2 rfl (A2 rfl B6))) ((N6 hx10).frz)<|A0 (R6 rfl) rfl<|es (ra5 rfl rfl rfl rfl rfl)<|wi hs5 rfl (fun hc11 hs5=>?_) fun hc11 hs5=>?_
    ·refine r0<|qm rfl<|en (ra4 rfl rfl rfl rfl)<|r0<|qm rfl<|A0 (E7 rfl rfl) rfl<|qm rfl<|en (ra4 rfl rfl rfl rfl) ?_
     cases hs5
     exact lnT () rfl (su4 rfl rfl rfl rfl)
    ·refine C1<|r0<|qm rfl<|A0 (E7 rfl rfl) rfl<|qm rfl<|en (ra4 rfl rfl rfl rfl) ?_
     cases hs5
     exact lnT () rfl (su4 rfl rfl rfl rfl)
   ·refine F4 ?_
    obtain rfl:=os hs5
    exact lx rfl px (su2 rfl rfl)
  ·rintro e s' H' - ⟨rfl,rfl,rfl⟩
   refine B7<|s0<|qm rfl<|es (ra3 rfl rfl rfl)<|C3<|oB h fun o21 ho21 h=>wl (fun s13=>[(1,(.seq 1 (List.map cI a1))),(7,.i s13.1),(9,.i s13.2)]) (fun (q14:Unit) s13=>[(.cells (A4 a0))]) 1 (fun r e s' H'=>PX 2 [(7,.i r)] (H++[(.cells (A4 a0))]) e s' H') () ho21 rfl rfl (fun _ _=>rfl) (fun _=>rfl) rfl (fun s13=>(bdc E8 (bdc A8 (bdc A8 bdn)))) (fun q14 s13 ys13 hs13=>?_) ?_
   ·unfold Q3 at hs13
    refine B7<|s0<|qm rfl<|qm rfl<|A0 (D9 (f:=cI) rfl) rfl<|A0 (I4 rfl rfl) rfl<|qm rfl<|gp 3 53 (.b ((decide (s13.2 < (List.length a1:Int))) && (s13.1 == 0))) 50 rfl rfl (fun hg15=>?_) (fun hg15=>?_) ?_
    ·exact gT rfl hg15<|qm rfl<|gT rfl hg15<|A0 (F6 rfl rfl) rfl<|A0 (C9 rfl hg15 rfl) rfl<|ge 3 (by rw [hg15]; rfl) rfl rfl
    ·exact nT rfl hg15 rfl<|nT rfl hg15 rfl<|A0 (C8 rfl hg15 rfl) rfl<|ge 3 (by rw [hg15]; rfl) rfl rfl
    refine es (ra4 rfl rfl rfl rfl)<|wi hs13 rfl (fun hc16 hs13=>?_) fun hc16 hs13=>?_
    ·refine C1<|B7<|C3<|s0<|oB hs13 fun x17 hx17 hs13=>oB hs13 fun x18 hx18 hs13=>oB hs13 fun x19 hx19 hs13=>qm rfl<|qm rfl<|A0 (B10 (f:=cI) rfl rfl rfl hx17) rfl<|qm rfl<|qm rfl<|A0 (E9 (f:=cI) rfl rfl hx18) rfl<|A0 (F5 rfl rfl) rfl<|B5 (rs:=[.b x19]) rfl rfl (A2 rfl (A2 rfl B6)) ((A35 hx19).frz)<|es (ra4 rfl rfl rfl rfl)<|wi hs13 rfl (fun hc20 hs13=>?_) fun hc20 hs13=>?_
     ·refine r0<|qm rfl<|en (ra3 rfl rfl rfl)<|r0<|qm rfl<|A0 (E7 rfl rfl) rfl<|qm rfl<|en (ra3 rfl rfl rfl) ?_
      cases hs13
      exact lnT () rfl (su3 rfl rfl rfl)
     ·refine C1<|r0<|qm rfl<|A0 (E7 rfl rfl) rfl<|qm rfl<|en (ra3 rfl rfl rfl) ?_
      cases hs13
      exact lnT () rfl (su3 rfl rfl rfl)
    ·refine F4 ?_
     obtain rfl:=os hs13
     exact lx rfl px (su1 rfl)
   ·rintro e s' H' - ⟨rfl,rfl,rfl⟩
    refine s0<|qm rfl<|qm rfl<|es (ra1 rfl)<|C4 ?_
    obtain rfl:=os h
    exact retq trivial (B1 rfl B8) (A6 rfl B9) (A3 A8 B3)
def A26 (a0:DrRoom) (a1:(List Int)):Option ((List Int) × Int) :=
 (A28 a0 a1).bind fun x1 =>
 if (x1 != 0) = true then
  some (([]:List Int),x1)
 else
  (A25 a0 a1).bind fun x3 =>
  some (x3,0)
theorem B8u {c:Sc} {H:A1} {a0:DrRoom} {a1:(List Int)} {r:((List Int) × Int)} (h:A26 a0 a1 = some r) :
  E5 tab c H (.fn (.func 23) [] []) [(.agg (A4 a0)),(.seq 1 (List.map cI a1))] [(.seq 1 (List.map cI r.1)),.i r.2]:= by
 unfold A26 at h
 refine cE rfl rfl<|sg 0 rfl<|A0 (F3 (cs:=A4 a0) rfl rfl rfl) rfl<|qm rfl<|qm rfl<|es (ra2 rfl rfl)<|s0<|oB h fun x1 hx1 h=>A0 (C2 rfl rfl rfl) rfl<|qm rfl<|B5 (rs:=[.i x1]) rfl rfl (A2 (D2 rfl) (A2 rfl B6)) ((A9w hx1).frz)<|qm rfl<|es (ra3 rfl rfl rfl)<|B7<|s0<|qm rfl<|A0 (J8 rfl rfl) rfl<|es (ra4 rfl rfl rfl rfl)<|wi h rfl (fun hc2 h=>?_) fun hc2 h=>?_
 ·refine s0<|qm rfl<|qm rfl<|qm rfl<|es (ra2 rfl rfl)<|C4 ?_
  obtain rfl:=os h
  exact retq trivial (B1 rfl (B1 rfl B8)) (A6 rfl (A6 rfl B9)) (A3 E8 (A3 A8 B3))
 ·refine C1<|s0<|oB h fun x3 hx3 h=>A0 (C2 rfl rfl rfl) rfl<|qm rfl<|B5 (rs:=[(.seq 1 (List.map cI x3))]) rfl rfl (A2 (D2 rfl) (A2 rfl B6)) ((A9v hx3).frz)<|qm rfl<|qm rfl<|es (ra2 rfl rfl)<|C4 ?_
  obtain rfl:=os h
  exact retq trivial (B1 rfl (B1 rfl B8)) (A6 rfl (A6 rfl B9)) (A3 E8 (A3 A8 B3))
def A27 (a0:DrRoom) (a1:(List Int)):Option (Int × Int) :=
 (A28 a0 a1).bind fun x1 =>
 (if (x1 == 0) = true then
  (S0 a0 a1).bind fun x3 =>
  some (!x3)
 else
  some false).bind fun x4 =>
 (if x4 = true then
  some 9
  else
  some x1).bind fun (p5:Int) =>
 if (p5 != 0) = true then
  some (0,p5)
 else
  (A15 a0 a1).bind fun x8 =>
  some (x8,0)
theorem B8v {c:Sc} {H:A1} {a0:DrRoom} {a1:(List Int)} {r:(Int × Int)} (h:A27 a0 a1 = some r) :
  E5 tab c H (.fn (.func 25) [] []) [(.agg (A4 a0)),(.seq 1 (List.map cI a1))] [.i r.1,.i r.2]:= by
 unfold A27 at h
 refine cE rfl rfl<|sg 0 rfl<|A0 (F3 (cs:=A4 a0) rfl rfl rfl) rfl<|qm rfl<|qm rfl<|es (ra2 rfl rfl)<|s0<|oB h fun x1 hx1 h=>A0 (C2 rfl rfl rfl) rfl<|qm rfl<|B5 (rs:=[.i x1]) rfl rfl (A2 (D2 rfl) (A2 rfl B6)) ((A9w hx1).frz)<|qm rfl<|es (ra3 rfl rfl rfl)<|B7<|s0<|oB h fun x4 hx4 h=>qm rfl<|A0 (F6 rfl rfl) rfl<|qm rfl<|gp 5 17 (.b x4) 12 rfl rfl (fun hg2=>?_) (fun hg2=>?_) ?_
 ·refine oB (bt hx4 hg2) fun x3 hx3 hx4=>?_
  obtain rfl:=os hx4
  exact gT rfl hg2<|A0 (C2 rfl rfl rfl) rfl<|gT rfl hg2<|qm rfl<|gT rfl hg2<|B5 (rs:=[.b x3]) rfl rfl (A2 (D2 rfl) (A2 rfl B6)) ((A59 hx3).frz)<|gT rfl hg2<|A0 (R6 rfl) rfl<|A0 (C9 rfl hg2 rfl) rfl<|ge 5 rfl rfl rfl
 ·obtain rfl:=os (bf hx4 hg2)
  exact nT rfl hg2 rfl<|nT rfl hg2 rfl<|O1 (G6 rfl (by rw [hg2]; rfl)) rfl<|nT rfl hg2 rfl<|A0 (C8 rfl hg2 rfl) rfl<|ge 5 rfl rfl rfl
 refine es (ra4 rfl rfl rfl rfl)<|oB h fun p5 hp5 h=>B3x (Q1:=fun e s' H'=>e = .normal∧s' = [(1,(.seq 1 (List.map cI a1))),(2,(.ptr (H.length + 0) 0)),(6,.i p5)]∧H' = (H++[(.cells (A4 a0))])) ?_ ?_
 ·refine wi hp5 rfl (fun hc6 hp5=>?_) fun hc6 hp5=>?_
  ·refine r0<|qm rfl<|en (ra3 rfl rfl rfl) ?_
   obtain rfl:=os hp5
   exact me (And.intro rfl (And.intro rfl rfl)) (su3 rfl rfl rfl)
  ·refine C1 ?_
   obtain rfl:=os hp5
   exact me (And.intro rfl (And.intro rfl rfl)) (su3 rfl rfl rfl)
 ·rintro e s' H' ⟨rfl,rfl,rfl⟩
  refine B7<|s0<|qm rfl<|A0 (J8 rfl rfl) rfl<|es (ra4 rfl rfl rfl rfl)<|wi h rfl (fun hc7 h=>?_) fun hc7 h=>?_
  ·refine s0<|qm rfl<|qm rfl<|qm rfl<|es (ra2 rfl rfl)<|C4 ?_
   obtain rfl:=os h
   exact retq trivial (B1 rfl (B1 rfl B8)) (A6 rfl (A6 rfl B9)) (A3 A8 (A3 A8 B3))
  ·refine C1<|s0<|oB h fun x8 hx8 h=>A0 (C2 rfl rfl rfl) rfl<|qm rfl<|B5 (rs:=[.i x8]) rfl rfl (A2 (D2 rfl) (A2 rfl B6)) ((B17 hx8).frz)<|qm rfl<|qm rfl<|es (ra2 rfl rfl)<|C4 ?_
   obtain rfl:=os h
   exact retq trivial (B1 rfl (B1 rfl B8)) (A6 rfl (A6 rfl B9)) (A3 A8 (A3 A8 B3))
end Ds
end
section
namespace Ds
open Go Am
theorem C8h {α:Type} [Inhabited α] (l:List α) (p:α→Bool):((List.range l.length).any fun i=>p l[i]!) = l.any p:= by
 rw [Bool.eq_iff_iff,List.any_eq_true,List.any_eq_true]
 constructor
 ·rintro ⟨i,hi,h⟩
  exact ⟨_,J4 (by simpa using hi),h⟩
 ·rintro ⟨x,hx,h⟩
  obtain ⟨i,hi,rfl⟩:=B5n hx
  exact ⟨i,by simpa using hi,h⟩
theorem C8t {ρ:Type} {n:Nat} {p:Nat→Bool} {f:Nat→Option ρ} (hf:∀i,i < n→(f i).isSome = p i):(first f n).isSome = (List.range n).any p:= by
 cases h:first f n with
 | none =>
  have h0:=F9.mp h
  symm
  rw [Option.isSome_none,List.any_eq_false]
  intro i hi
  have hi:i < n:= by simpa using hi
  have:=hf i hi
  rw [h0 i hi] at this
  rw [← this]; simp
 | some r =>
  obtain ⟨i,hi,h1,-⟩:=M9 h
  symm
  rw [Option.isSome_some,List.any_eq_true]
  refine ⟨i,by simpa using hi,?_⟩
  rw [← hf i hi,h1]; rfl
theorem C3m {b:Int × Int→Option ((Int × Int) ⊕ Int)} (n:Nat) (bad:Nat→Bool) (code:Int) (hn:n < 9223372036854775808)
  (hs:∀i:Nat,i < n→b (0,(i:Int)) = some (.inl (if bad i then code else 0,((i + 1:Nat):Int)))) (he:b (0,(n:Int)) = some (.inr 0)) (hc:∀i:Nat,b (code,(i:Int)) = some (.inr code)) :
  loop b (0,0) = some (if (List.range n).any bad then code else 0):= by
 cases hf:first (fun i=>if bad i then some () else none) n with
 | none =>
  have h0:=F9.mp hf
  have hb:∀i,i < n→bad i = false:=fun i hi=>by
   have:=h0 i hi
   cases hq:bad i with
   | false=>rfl
   | true=>rw [hq] at this; cases this
  have e:(List.range n).any bad = false:= by
   rw [List.any_eq_false]
   intro i hi
   rw [hb i (by simpa using hi)]; decide
  rw [e]
  exact K1 (b:=b) (fun i=>(0,(i:Int))) n (by omega) (fun i hi=>by rw [hs i hi,hb i hi]; rfl) he
 | some u =>
  obtain ⟨k,hk,h1,h2⟩:=M9 hf
  have hbk:bad k = true:= by
   cases hq:bad k with
   | true=>rfl
   | false=>rw [hq] at h1; cases h1
  have e:(List.range n).any bad = true:=List.any_eq_true.mpr ⟨k,by simpa using hk,hbk⟩
  rw [e]
  have:=K1 (b:=b) (fun i=>if i≤k then (0,(i:Int)) else (code,(i:Int))) (k + 1) (r:=code) (by omega) (fun i hi=>by
   have hik:i≤k:= by omega
   simp only [hik,if_true]
   rw [hs i (by omega)]
   by_cases c:i = k
   ·subst c
    rw [hbk,if_neg (by omega:¬ i + 1≤i)]; rfl
   ·have:=h2 i (by omega)
    cases hq:bad i with
    | true=>rw [hq] at this; cases this
    | false=>rw [if_pos (by omega:i + 1≤k)]; rfl) (by
   simp only [show ¬ k + 1≤k by omega,if_false]; exact hc (k + 1))
  exact this
def A7y (l:List Int) (i:Nat):Bool:=(l.take i).any (· == l[i]!)
def C2y (l:List Int):Bool:=(List.range l.length).any (A7y l)
def R5 (r:DrRoom) (l:List Int):Int :=
 if (chk r).2.2 ≠ 0 then (chk r).2.2 else if l.length ≠ r.Persons.length then 3 else if l.any (out 0 ((r.Figures.length:Int) - 1)) then 4 else if C2y l then 5 else 0
def nats (l:List Int):List Nat:=l.map Int.toNat
theorem C6z (r:DrRoom) (l:List Int) (hl:l.length < 9223372036854775808):A28 r l = some (R5 r l):= by
 unfold A28
 rw [A2u]
 simp only [Option.bind_some]
 have stop1:∀e:Int,e ≠ 0→loop (Q2 r l) (e,0) = some e:=fun e he=>by
  have:=K1 (b:=Q2 r l) (fun _=>(e,0)) 0 (r:=e) (by omega) (fun i hi=>absurd hi (Nat.not_lt_zero i)) (by
   unfold Q2
   simp only []
   rw [if_neg (by simp [he])])
  exact this
 have stop2:∀e:Int,e ≠ 0→loop (Q3 l) (e,0) = some e:=fun e he=>by
  have:=K1 (b:=Q3 l) (fun _=>(e,0)) 0 (r:=e) (by omega) (fun i hi=>absurd hi (Nat.not_lt_zero i)) (by
   unfold Q3
   simp only []
   rw [if_neg (by simp [he])])
  exact this
 unfold R5
 by_cases h0:(chk r).2.2 = 0
 ·have hr:∀(a b:Int),(if (chk r).2.2 ≠ 0 then a else b) = b:=fun a b=>if_neg (fun c=>c h0)
  obtain ⟨ok,-⟩:=(T1 r).mp h0
  have hF:=ok.figures
  rw [hr,h0]
  by_cases h1:l.length = r.Persons.length
  ·have e1:((l.length:Int) != (r.Persons.length:Int)) = false:= by rw [h1]; exact bne_self_eq_false _
   have hr2:∀(a b:Int),(if l.length ≠ r.Persons.length then a else b) = b:=fun a b=>if_neg (fun c=>c h1)
   rw [hr2,e1]
   simp only [Bool.and_false,Bool.false_eq_true,if_false,Option.bind_some]
   rw [C3m (b:=Q2 r l) l.length (fun i=>out 0 ((r.Figures.length:Int) - 1) l[i]!) 4 hl (fun i hi=>by
    unfold Q2
    simp only []
    rw [if_pos (by simpa using hi),I0 hi,E2 (n:=(r.Figures.length:Int) - 1) (by omega)]
    simp only [Option.bind_some]
    rw [A62,E2 (by omega)]
    cases out 0 ((r.Figures.length:Int) - 1) l[i]! <;> rfl) (by
    unfold Q2
    simp) (fun i=>by
    unfold Q2
    simp),C8h]
   simp only [Option.bind_some]
   cases l.any (out 0 ((r.Figures.length:Int) - 1)) with
   | true=>rw [if_pos rfl,stop2 4 (by decide)]; rfl
   | false =>
    rw [if_neg (by decide),C3m (b:=Q3 l) l.length (A7y l) 5 hl (fun i hi=>by
     unfold Q3 A7y
     simp only []
     rw [if_pos (by simpa using hi),I0 hi,C1z (by omega)]
     simp only [Option.bind_some]
     rw [C0s _ _ (by rw [List.length_take]; omega),E2 (by omega)]
     simp only [Option.bind_some]
     cases (l.take i).any (· == l[i]!) <;> rfl) (by
     unfold Q3
     simp) (fun i=>by
     unfold Q3
     simp)]
    unfold C2y
    rfl
  ·have e1:((l.length:Int) != (r.Persons.length:Int)) = true:= by rw [bne_iff_ne]; omega
   rw [e1]
   simp only [BEq.rfl,Bool.and_self,if_true,Option.bind_some]
   rw [stop1 3 (by decide)]
   simp only [Option.bind_some]
   rw [stop2 3 (by decide),if_pos h1]; rfl
 ·have e1:((chk r).2.2 == 0) = false:=beq_eq_false_iff_ne.mpr h0
  rw [e1,if_pos h0]
  simp only [Bool.false_and,Bool.false_eq_true,if_false,Option.bind_some]
  rw [stop1 _ h0]
  simp only [Option.bind_some]
  rw [stop2 _ h0]; rfl
theorem A8g {r:DrRoom} {l:List Int} (h:R5 r l = 0):RmOk r∧l = ints (nats l)∧QOk r (nats l)∧(nats l).length = r.Persons.length:= by
 unfold R5 at h
 split at h
 ·next c=>exact absurd h c
 ·next c0 =>
  split at h
  ·cases h
  ·next c1 =>
   split at h
   ·cases h
   ·next c2 =>
    obtain ⟨ok,-⟩:=(T1 r).mp (Decidable.not_not.mp c0)
    have c1:=Decidable.not_not.mp c1
    have c2:=B47.mp (Bool.eq_false_iff.2 c2)
    refine ⟨ok,?_,⟨by unfold nats; rw [List.length_map]; omega,fun x hx=>?_⟩,by unfold nats; rw [List.length_map]; exact c1⟩
    ·unfold ints nats
     rw [List.map_map]
     conv=>lhs; rw [← List.map_id l]
     refine List.map_congr_left fun x hx=>?_
     have:=c2 x hx
     simp; omega
    ·unfold nats at hx
     obtain ⟨y,hy,rfl⟩:=List.mem_map.mp hx
     have:=c2 y hy
     omega
theorem B4o (r:DrRoom) (l:List Int) (hl:l.length < 9223372036854775808):A26 r l = some (if R5 r l ≠ 0 then ([],R5 r l) else (A30 r (prs r (nats l)),0)):= by
 unfold A26
 rw [C6z r l hl]
 simp only [Option.bind_some]
 by_cases h:R5 r l = 0
 ·obtain ⟨ok,e,q,-⟩:=A8g h
  have hr:∀(a b:List Int × Int),(if R5 r l ≠ 0 then a else b) = b:=fun a b=>if_neg (fun c=>c h)
  rw [hr,if_neg (by simp [h])]
  conv=>lhs; rw [e]
  rw [C6y ok q]; rfl
 ·rw [if_pos h,if_pos (by simpa using h)]
theorem B4p (r:DrRoom) (l:List Int) (hl:l.length < 9223372036854775808):A27 r l = some (if R5 r l ≠ 0 then (0,R5 r l) else if A5g r (prs r (nats l)) then (A7p r (prs r (nats l)),0) else (0,9)):= by
 unfold A27
 rw [C6z r l hl]
 simp only [Option.bind_some]
 by_cases h:R5 r l = 0
 ·obtain ⟨ok,e,q,-⟩:=A8g h
  have hr:∀(a b:Int × Int),(if R5 r l ≠ 0 then a else b) = b:=fun a b=>if_neg (fun c=>c h)
  rw [hr,h]
  have e1:S0 r l = some (A5g r (prs r (nats l))):= by
   conv=>lhs; rw [e]
   exact B5u ok q
  have e2:A15 r l = some (A7p r (prs r (nats l))):= by
   conv=>lhs; rw [e]
   exact D0e ok q
  rw [e1,e2]
  cases A5g r (prs r (nats l)) <;> rfl
 ·have e1:(R5 r l == 0) = false:=beq_eq_false_iff_ne.mpr h
  rw [if_pos h,e1]
  simp only [Bool.false_eq_true,if_false,Option.bind_some]
  rw [if_pos (by simpa using h)]
theorem C2g {r:DrRoom} (ok:RmOk r):begin0 r = J0 r []:= by
 have ho:=ok.ounces
 unfold begin0 J0 cpy4
 simp [ints,A7p,E3,sm,List.getD_eq_getElem?_getD]
theorem D2q {r:DrRoom} {q:List Nat} (h:QOk r q) {i:Nat} (hi:i < q.length):(prs r q).take (i + 1) = (prs r q).take i++[(q[i]!,r.Persons[i]!)]:= by
 have hz:i < (prs r q).length:= by unfold prs; rw [B2r h.len]; exact hi
 have e:(prs r q)[i]! = (q[i]!,r.Persons[i]!):=C15 hi h.len
 rw [List.take_succ_eq_append_getElem hz,← getElem!_pos (prs r q) i hz,e]
theorem C1q {r:DrRoom} (ok:RmOk r) {ch:Chg} (hch:C45 r ch) {q:List Nat} (h:QOk r q) (he:q.length = r.Persons.length) :
  loop (A1v r ch (ints q)) (0,J0 r []) = some (if C2y (ints q) then .inl () else .inr (J0 r (prs r q))):= by
 have hP:=ok.persons
 have hz:=h.pr ok
 have hil:=L6 q
 have:=A57 (b:=A1v r ch (ints q)) (fun i=>((i:Int),J0 r ((prs r q).take i))) q.length (fun i=>if A7y (ints q) i then some (.inl ()) else none) (.inr (J0 r (prs r q))) (by omega) (fun i hi _=>by
  unfold A1v A7y
  simp only []
  have hf:=h.fig _ (J4 hi)
  have eg:(ints q)[i]! = ((q[i]!:Nat):Int):= by
   rw [getElem!_pos _ i (by omega),getElem!_pos q i hi]
   unfold ints; rw [List.getElem_map]
  rw [if_pos (by rw [hil]; simpa using hi),A76 hi,C1z (by omega)]
  simp only [Option.bind_some]
  have hcon:F7 ((ints q).take i) ((q[i]!:Nat):Int) = some (((ints q).take i).any (· == (ints q)[i]!)):= by
   rw [eg]
   have hm:((ints q).take i).length < 9223372036854775808:= by rw [List.length_take]; omega
   generalize (ints q).take i = m at hm ⊢
   unfold F7 L9
   obtain ⟨o,ho,hc⟩:=A8z m (· == ((q[i]!:Nat):Int)) (b:=G1 m ((q[i]!:Nat):Int)) hm (fun j hj=>by
    unfold G1
    rw [if_pos (by simpa using hj),I0 hj]
    simp only [Option.bind_some]
    rw [show (((q[i]!:Nat):Int) == m[j]!) = (m[j]! == ((q[i]!:Nat):Int)) from Bool.beq_comm]
    cases m[j]! == ((q[i]!:Nat):Int) <;> rfl) (by
    unfold G1
    rw [if_neg (by simp)])
   rw [ho]
   rcases o with k | u
   ·simp only [Option.bind_some]
    rw [hc.2,decide_eq_true hc.1]
   ·simp only [Option.bind_some]
    rw [hc]; rfl
  rw [hcon]
  simp only [Option.bind_some]
  cases ((ints q).take i).any (· == (ints q)[i]!) with
  | true=>rfl
  | false =>
   simp only [Bool.false_eq_true,if_false]
   have hg:=hch q[i]! i hf (by omega)
   unfold A3w
   rw [hg,Option.getD_some,C8a ok (hz.take i) ⟨hf,ok.person _ (J4 (by omega))⟩]
   simp only [Option.bind_some]
   rw [E2 (by omega),← D2q h hi]
   rfl) (fun _=>by
  unfold A1v
  simp only []
  rw [if_neg (by rw [hil]; simp),List.take_of_length_le (by unfold prs; rw [B2r h.len]; exact Nat.le_refl _)])
 rw [show ((0:Int),J0 r []) = (((0:Nat):Int),J0 r ((prs r q).take 0)) from rfl,this]
 have ha:=C8t (n:=q.length) (p:=A7y (ints q)) (f:=fun i=>if A7y (ints q) i then some (Sum.inl ():Unit ⊕ dress_plan) else none) (fun i _=>by cases A7y (ints q) i <;> rfl)
 have hd:C2y (ints q) = (List.range q.length).any (A7y (ints q)):= by unfold C2y; rw [hil]
 rw [hd,← ha]
 cases hf:first (fun i=>if A7y (ints q) i then some (Sum.inl ():Unit ⊕ dress_plan) else none) q.length with
 | none=>rfl
 | some x =>
  obtain ⟨k,_,h1,_⟩:=M9 hf
  cases hq:A7y (ints q) k with
  | false=>rw [hq] at h1; cases h1
  | true=>rw [hq] at h1; cases h1; rfl
theorem B4l (r:DrRoom) (hb:NB r) (l:List Int) (hl:l.length < 9223372036854775808):A6e r l = some (if R5 r l ≠ 0 then (plan0,R5 r l) else (J0 r (prs r (nats l)),0)):= by
 unfold A6e
 rw [A5w r hb]
 simp only [Option.bind_some]
 by_cases h0:(chk r).2.2 = 0
 ·obtain ⟨ok,-⟩:=(T1 r).mp h0
  have hF:=ok.figures
  obtain ⟨ch,e1,hch⟩:=C2p ok
  rw [if_neg (by simp [h0]),e1]
  simp only [Option.bind_some]
  by_cases h1:l.length = r.Persons.length
  ·rw [if_neg (by simp [h1]),E2 (by omega),A8q _ _ _ (by omega)]
   simp only [Option.bind_some]
   cases h2:l.any (out 0 ((r.Figures.length:Int) - 1)) with
   | true =>
    have:R5 r l = 4:= by unfold R5; rw [if_neg (fun c=>c h0),if_neg (fun c=>c h1),h2]; rfl
    rw [this]; rfl
   | false =>
    have hq:R5 r l = if C2y l then 5 else 0:= by unfold R5; rw [if_neg (fun c=>c h0),if_neg (fun c=>c h1),h2]; rfl
    have c2:=B47.mp h2
    have el:l = ints (nats l):= by
     unfold ints nats
     rw [List.map_map]
     conv=>lhs; rw [← List.map_id l]
     refine List.map_congr_left fun x hx=>?_
     have:=c2 x hx
     simp; omega
    have q:QOk r (nats l):=⟨by unfold nats; rw [List.length_map]; omega,fun x hx=>by
     unfold nats at hx
     obtain ⟨y,hy,rfl⟩:=List.mem_map.mp hx
     have:=c2 y hy
     omega⟩
    have hlp:loop (A1v r ch l) (0,begin0 r) = some (if C2y l then .inl () else .inr (J0 r (prs r (nats l)))):= by
     have:=C1q ok hch q (by unfold nats; rw [List.length_map]; exact h1)
     rw [← el,← C2g ok] at this
     exact this
    rw [hq,hlp]
    cases C2y l <;> rfl
  ·have:R5 r l = 3:= by unfold R5; rw [if_neg (fun c=>c h0),if_pos h1]
   rw [this,if_pos (by rw [bne_iff_ne]; omega)]; rfl
 ·have:R5 r l = (chk r).2.2:= by unfold R5; rw [if_pos h0]
  rw [this,if_pos h0,if_pos (by simpa using h0)]
theorem C88 {r:DrRoom} (ok:RmOk r) (z:Prs):slc (Ar4.l (J0 r z).left_) 0 (r.Ounces.length:Int) = some (A30 r z):= by
 have ho:=ok.ounces
 unfold A30
 rcases (by omega:r.Ounces.length = 1∨r.Ounces.length = 2∨r.Ounces.length = 3∨r.Ounces.length = 4) with e | e | e | e <;> rw [e] <;> rfl
theorem D3e (r:DrRoom) (hb:NB r) (l:List Int) (hl:l.length < 9223372036854775808):A1s r l = A26 r l:= by
 rw [B4o r l hl]
 unfold A1s
 rw [B4l r hb l hl]
 simp only [Option.bind_some]
 by_cases h:R5 r l = 0
 ·obtain ⟨ok,e,q,-⟩:=A8g h
  have ho:=ok.ounces
  have hr:∀{α:Type} (a b:α),(if R5 r l ≠ 0 then a else b) = b:=fun a b=>if_neg (fun c=>c h)
  rw [hr,hr,if_neg (by simp),C88 ok]
  simp only [Option.bind_some]
  rw [Z7 (by omega) (by simp [A30]; omega)]; rfl
 ·have hr:∀{α:Type} (a b:α),(if R5 r l ≠ 0 then a else b) = a:=fun a b=>if_pos h
  rw [hr,hr,if_pos (by simpa using h)]
theorem D3f (r:DrRoom) (hb:NB r) (l:List Int) (hl:l.length < 9223372036854775808):A1t r l = A27 r l:= by
 rw [B4p r l hl]
 unfold A1t
 rw [B4l r hb l hl]
 simp only [Option.bind_some]
 by_cases h:R5 r l = 0
 ·obtain ⟨ok,e,q,-⟩:=A8g h
  have hr:∀{α:Type} (a b:α),(if R5 r l ≠ 0 then a else b) = b:=fun a b=>if_neg (fun c=>c h)
  rw [hr,hr,if_neg (by simp),B5y ok (q.pr ok)]
  simp only [Option.bind_some]
  cases A5g r (prs r (nats l)) <;> rfl
 ·have hr:∀{α:Type} (a b:α),(if R5 r l ≠ 0 then a else b) = a:=fun a b=>if_pos h
  rw [hr,hr,if_pos (by simpa using h)]
end Ds
end
section
set_option maxRecDepth 100000
set_option maxHeartbeats 0
namespace Ds
open Go Am Go.Proofs.Ytdkflofgolehkaa.Cd
def A0x (a0:DrRoom) (a1:(List Int)):Option Bool :=
 (A1s a0 a1).bind fun x1 =>
 (A26 a0 a1).bind fun x2 =>
 (K7 x1.1 x2.1).bind fun x3 =>
 if ((!x3) || (x1.2 != x2.2)) = true then
  some false
 else
  (A1t a0 a1).bind fun x6 =>
  (A27 a0 a1).bind fun x7 =>
  (if ((x6.1 == x7.1) && (x6.2 == x7.2)) = true then
  (A0g).bind fun x10 =>
  some x10
  else
  some false).bind fun x11 =>
  some x11
theorem A9m {c:Sc} {H:A1} (hscv:Q9 c H = true) {a0:DrRoom} {a1:(List Int)} {r:Bool} (h:A0x a0 a1 = some r) :
  E5 tab c H (.fn (.func 4) [] []) [(.agg (A4 a0)),(.seq 1 (List.map cI a1))] [.b r]:= by
 unfold A0x at h
 refine cE rfl rfl<|sg 0 rfl<|A0 (F3 (cs:=A4 a0) rfl rfl rfl) rfl<|qm rfl<|es (ra2 rfl rfl)<|s0<|oB h fun x1 hx1 h=>A0 (C2 rfl rfl rfl) rfl<|qm rfl<|B5 (rs:=[(.seq 1 (List.map cI x1.1)),.i x1.2]) rfl rfl (A2 (D2 rfl) (A2 rfl B6)) ((A5q hx1).frz)<|qm rfl<|A0 (A7 rfl rfl) rfl<|A0 (A7 rfl rfl) rfl<|qm rfl<|qm rfl<|es (ra4 rfl rfl rfl rfl)<|s0<|oB h fun x2 hx2 h=>A0 (C2 rfl rfl rfl) rfl<|qm rfl<|B5 (rs:=[(.seq 1 (List.map cI x2.1)),.i x2.2]) rfl rfl (A2 (D2 rfl) (A2 rfl B6)) ((B8u hx2).frz)<|qm rfl<|A0 (A7 rfl rfl) rfl<|A0 (A7 rfl rfl) rfl<|qm rfl<|qm rfl<|es (ra6 rfl rfl rfl rfl rfl rfl)<|B7<|s0<|oB h fun x3 hx3 h=>qm rfl<|qm rfl<|B5 (rs:=[.b x3]) rfl rfl (A2 rfl (A2 rfl B6)) ((K4 hx3).frz)<|A0 (R6 rfl) rfl<|qm rfl<|gp 4 31 (.b ((!x3) || (x1.2 != x2.2))) 27 rfl rfl (fun hg4=>?_) (fun hg4=>?_) ?_
 ·exact nF rfl hg4 rfl<|nF rfl hg4 rfl<|nF rfl hg4 rfl<|A0 (C9 rfl hg4 rfl) rfl<|ge 4 (by rw [hg4]; rfl) rfl rfl
 ·exact gF rfl hg4<|qm rfl<|gF rfl hg4<|qm rfl<|gF rfl hg4<|A0 (J8 rfl rfl) rfl<|A0 (C8 rfl hg4 rfl) rfl<|ge 4 (by rw [hg4]; rfl) rfl rfl
 refine es (ra3 rfl rfl rfl)<|wi h rfl (fun hc5 h=>?_) fun hc5 h=>?_
 ·refine s0<|qm rfl<|es (ra1 rfl)<|C4 ?_
  obtain rfl:=os h
  exact retq trivial (B1 rfl B8) (A6 rfl B9) (A3 A8 B3)
 ·refine C1<|s0<|oB h fun x6 hx6 h=>A0 (C2 rfl rfl rfl) rfl<|qm rfl<|B5 (rs:=[.i x6.1,.i x6.2]) rfl rfl (A2 (D2 rfl) (A2 rfl B6)) ((A5r hx6).frz)<|qm rfl<|A0 (A7 rfl rfl) rfl<|A0 (A7 rfl rfl) rfl<|qm rfl<|qm rfl<|es (ra4 rfl rfl rfl rfl)<|s0<|oB h fun x7 hx7 h=>A0 (C2 rfl rfl rfl) rfl<|qm rfl<|B5 (rs:=[.i x7.1,.i x7.2]) rfl rfl (A2 (D2 rfl) (A2 rfl B6)) ((B8v hx7).frz)<|qm rfl<|A0 (A7 rfl rfl) rfl<|A0 (A7 rfl rfl) rfl<|qm rfl<|qm rfl<|es (ra4 rfl rfl rfl rfl)<|s0<|oB h fun x11 hx11 h=>qm rfl<|qm rfl<|A0 (F6 rfl rfl) rfl<|qm rfl<|gp 4 51 (.b ((x6.1 == x7.1) && (x6.2 == x7.2))) 47 rfl rfl (fun hg8=>?_) (fun hg8=>?_) ?_
  ·exact gT rfl hg8<|qm rfl<|gT rfl hg8<|qm rfl<|gT rfl hg8<|A0 (F6 rfl rfl) rfl<|A0 (C9 rfl hg8 rfl) rfl<|ge 4 (by rw [hg8]; rfl) rfl rfl
  ·exact nT rfl hg8 rfl<|nT rfl hg8 rfl<|nT rfl hg8 rfl<|A0 (C8 rfl hg8 rfl) rfl<|ge 4 (by rw [hg8]; rfl) rfl rfl
  refine qm rfl<|gp 2 54 (.b x11) 52 rfl rfl (fun hg9=>?_) (fun hg9=>?_) ?_
  ·refine oB (bt hx11 hg9) fun x10 hx10 hx11=>?_
   obtain rfl:=os hx11
   exact gT rfl hg9<|B5 (rs:=[.b x10]) rfl rfl B6 ((A2n (A29 hscv) hx10).frz)<|A0 (C9 rfl hg9 rfl) rfl<|ge 2 rfl rfl rfl
  ·obtain rfl:=os (bf hx11 hg9)
   exact O1 (G6 rfl (by rw [hg9]; rfl)) rfl<|A0 (C8 rfl hg9 rfl) rfl<|ge 2 rfl rfl rfl
  refine qm rfl<|es (ra1 rfl)<|C4 ?_
  obtain rfl:=os h
  exact retq trivial (B1 rfl B8) (A6 rfl B9) (A3 A8 B3)
end Ds
end
section
namespace Ds
open Go Am
theorem B41 {r:DrRoom} {l:List Int} (hb:NB r) (hl:l.length < 9223372036854775808):A0x r l = some true:= by
 have hl2:=hl
 unfold A0x
 rw [D3e r hb l hl2,D3f r hb l hl2,B4o r l hl2,B4p r l hl2]
 simp only [Option.bind_some]
 have hi:K7 (if R5 r l ≠ 0 then (([]:List Int),R5 r l) else (A30 r (prs r (nats l)),0)).1 (if R5 r l ≠ 0 then (([]:List Int),R5 r l) else (A30 r (prs r (nats l)),0)).1 = some true:= by
  refine A82 _ ?_
  split
  ·simp
  ·next c =>
   obtain ⟨ok,-⟩:=A8g (Decidable.not_not.mp c)
   have:=ok.ounces
   simp [A30]; omega
 rw [hi]
 simp only [Option.bind_some,bne_self_eq_false,Bool.not_true,Bool.or_self,Bool.false_eq_true,if_false,BEq.rfl,Bool.and_self,if_true]
 rw [awake]; rfl
end Ds
end
