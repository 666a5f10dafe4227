/- Texts that the claim stands on, one behind another. -/
import Derived.Test.YtdkflofgolehkaaA6
set_option linter.unusedVariables false
set_option linter.unusedSimpArgs false
set_option linter.unnecessarySimpa false
section
set_option maxRecDepth 100000
namespace Am
open Go
theorem C1m {σ ρ:Type} {b:σ→Option (σ ⊕ ρ)} (I:σ→Prop) (J:ρ→Prop) (hs:∀x y,I x→b x = some (.inl y)→I y) (he:∀x r,I x→b x = some (.inr r)→J r) {x0:σ} {r:ρ} (h0:I x0) (h:loop b x0 = some r):J r:= by
 have key:∀n x0,I x0→A3h b n x0 = some r→J r:= by
  intro n
  induction n with
  | zero=>intro x0 _ h; cases h
  | succ n ih =>
   intro x0 hI h
   rw [H6] at h
   split at h
   ·next x' hb=>exact ih x' (hs _ _ hI hb) h
   ·next r' hb=>simp only [Option.some.injEq] at h; subst h; exact he _ _ hI hb
   ·cases h
 exact key _ _ h0 h
end Am
namespace Ds
open Go Am Go.Proofs.Ytdkflofgolehkaa.Cd
def B63 (a:Int) (s:Int × List Int):Option ((Int × List Int) ⊕ List Int) :=
 (if (decide (s.1 > a)) = true then (idx s.2 s.1).bind fun x=>(idx s.2 (w64 (s.1 - 1))).bind fun y=>(A7z x y).bind fun z=>some z else some false).bind fun g =>
 if g = true then
  (idx s.2 (w64 (s.1 - 1))).bind fun y=>(idx s.2 s.1).bind fun x =>
  (idx (B18 s.2 s.1 y) (w64 (s.1 - 1))).bind fun _ =>
  some (.inl (w64 (s.1 - 1),B18 (B18 s.2 s.1 y) (w64 (s.1 - 1)) x))
 else some (.inr s.2)
def B62 (a b:Int) (s:Int × List Int):Option ((Int × List Int) ⊕ List Int) :=
 if (decide (s.1 < b)) = true then
  (loop (B63 a) (s.1,s.2)).bind fun l=>some (.inl (w64 (s.1 + 1),l))
 else some (.inr s.2)
def C6i (a b:Int) (l:List Int):Option (List Int):=loop (B62 a b) (w64 (a + 1),l)
def ar1 (l:List Int):AO:=.arr 1 false (l.map cI)
theorem D44 {c:Sc} {A B:A1} {a b:Int} {l r:List Int} (h:C6i a b l = some r) :
  G6 tab c (A++(ar1 l :: B)) (.fn (.func 105) [] []) [.asl (A.length + 0) l.length,.i a,.i b] [] (A++(ar1 r :: B)):= by
 unfold C6i at h
 have htk:∀x:AO,(x :: B).take (B.length + 1) = x :: B:=fun x=>List.take_of_length_le (Nat.le_refl _)
 refine A89 (aq:=[.asl (A.length + 0) l.length,.i a,.i b]) rfl rfl rfl ?_
 refine s0<|qm rfl<|A0 (E8 rfl rfl) rfl<|qm rfl<|es (ra4 rfl rfl rfl rfl)<|C3<|wl (fun s=>[(0,.asl (A.length + 0) s.2.length),(1,.i a),(2,.i b),(6,.i s.1)]) (fun (_:Unit) s=>ar1 s.2 :: B) (B.length + 1) (fun r e s' H'=>PX 0 [] (A++(ar1 r :: B)) e s' H') () h rfl rfl (fun _ _=>rfl) (fun _=>rfl) rfl (fun s=>bdc (W9 (Nat.ble_eq_true_of_le (by omega))) (bdc A8 (bdc A8 (bdc A8 bdn)))) (fun _ s o hs=>?_) ?_
 ·unfold B62 at hs
  refine B6<|s0<|qm rfl<|qm rfl<|A0 (G2 rfl rfl) rfl<|es (ra5 rfl rfl rfl rfl rfl)<|wi hs rfl (fun hc hs=>?_) fun hc hs=>?_
  ·refine oB hs fun l1 hl1 hs=>?_
   refine C1<|B6<|C3<|s0<|qm rfl<|qm rfl<|es (ra5 rfl rfl rfl rfl rfl)<|C3<|wl (fun t=>[(0,.asl (A.length + 0) t.2.length),(1,.i a),(2,.i b),(6,.i s.1),(7,.i t.1)]) (fun (_:Unit) t=>ar1 t.2 :: B) (B.length + 1) (fun r e s' H'=>PX 2 [(0,.asl (A.length + 0) r.length),(1,.i a),(2,.i b),(6,.i s.1)] (A++(ar1 r :: B)) e s' H') () hl1 rfl rfl (fun _ _=>rfl) (fun _=>rfl) rfl (fun t=>bdc (W9 (Nat.ble_eq_true_of_le (by omega))) (bdc A8 (bdc A8 (bdc A8 (bdc A8 bdn))))) (fun _ t o' ht=>?_) ?_
   ·unfold B63 at ht
    refine oB ht fun g hg ht=>?_
    refine B6<|s0<|qm rfl<|qm rfl<|A0 (A6z rfl rfl) rfl<|qm rfl<|gp 11 30 (.b g) 19 rfl rfl (fun hb=>?_) (fun hb=>?_) ?_
    ·refine oB (bt hg hb) fun x hx hg=>oB hg fun y hy hg=>oB hg fun z hz hg=>?_
     obtain rfl:=os hg
     exact gT rfl hb<|qm rfl<|gT rfl hb<|qm rfl<|gT rfl hb<|A0 (A9r (f:=cI) rfl rfl rfl rfl hx) rfl<|gT rfl hb<|A0 (B0s (x:=.i x) rfl rfl (List.length_map _) (A96 hx) rfl) rfl<|gT rfl hb<|qm rfl<|gT rfl hb<|qm rfl<|gT rfl hb<|A0 (Z8 rfl rfl) rfl<|gT rfl hb<|A0 (A9r (f:=cI) rfl rfl rfl rfl hy) rfl<|gT rfl hb<|A0 (B0s (x:=.i y) rfl rfl (List.length_map _) (A96 hy) rfl) rfl<|gT rfl hb<|B4 (rs:=[.b z]) rfl rfl (A2 rfl (A2 rfl B5)) ((B6d hz).frz)<|A0 (C8 rfl hb rfl) rfl<|ge 11 rfl rfl rfl
    ·obtain rfl:=os (bf hg hb)
     exact nT rfl hb rfl<|nT rfl hb rfl<|nT rfl hb rfl<|nT rfl hb rfl<|nT rfl hb rfl<|nT rfl hb rfl<|nT rfl hb rfl<|nT rfl hb rfl<|nT rfl hb rfl<|N6 (G5 rfl (by rw [hb]; rfl)) rfl<|A0 (C7 rfl hb rfl) rfl<|ge 11 rfl rfl rfl
    ·refine es (ra6 rfl rfl rfl rfl rfl rfl)<|wi ht rfl (fun hc2 ht=>?_) fun hc2 ht=>?_
     ·refine oB ht fun y hy ht=>oB ht fun x hx ht=>oB ht fun w hw ht=>?_
      refine C1<|B6<|C3<|r0<|qm rfl<|qm rfl<|qm rfl<|qm rfl<|A0 (Z8 rfl rfl) rfl<|A0 (A9r (f:=cI) rfl rfl rfl rfl hy) rfl<|A0 (B0s (x:=.i y) rfl rfl (List.length_map _) (A96 hy) rfl) rfl<|qm rfl<|qm rfl<|A0 (A9r (f:=cI) rfl rfl rfl rfl hx) rfl<|A0 (B0s (x:=.i x) rfl rfl (List.length_map _) (A96 hx) rfl) rfl<|A0 (A9r (f:=cI) rfl rfl rfl rfl hx) rfl<|I2 (C5n (ds:=cI y) rfl rfl rfl rfl rfl (List.length_map _) (A96 hx) rfl rfl) rfl ?_
      rw [C5g]
      refine qm rfl<|qm rfl<|A0 (Z8 rfl rfl) rfl<|A0 (A9r (f:=cI) (e:=B18 t.2 t.1 y) rfl rfl rfl (A6c _ _ _) hw) rfl<|I2 (C5n (ds:=cI x) rfl rfl rfl rfl rfl (by rw [List.length_map,A6c]) (A96 hw) rfl rfl) rfl ?_
      rw [C5g]
      refine en (ra5 rfl rfl rfl rfl rfl)<|r0<|qm rfl<|A0 (Z8 rfl rfl) rfl<|qm rfl<|en (ra5 rfl rfl rfl rfl rfl) ?_
      cases ht
      exact lnT () (htk _) (su5 (by simp only [A6c]; rfl) rfl rfl rfl rfl)
     ·refine F2 ?_
      obtain rfl:=os ht
      exact lx rfl px (su4 rfl rfl rfl rfl)
   ·rintro e s' H' - ⟨rfl,rfl,rfl⟩
    refine r0<|qm rfl<|A0 (E8 rfl rfl) rfl<|qm rfl<|en (ra4 rfl rfl rfl rfl) ?_
    cases hs
    exact lnT () (htk _) (su4 rfl rfl rfl rfl)
  ·refine F2 ?_
   obtain rfl:=os hs
   exact lx rfl px (Sub.nil _)
 ·rintro e s' H' - ⟨rfl,rfl,rfl⟩
  show B9y _ _ _ _ .normal _ _
  exact C8b trivial B7 B9 B2 (List.take_of_length_le (by simp))
def D6z (a b:Int) (l:List Int):Option (List Int):=if (decide (w64 (b - a)≤12)) = true then C6i a b l else none
theorem D60 {c:Sc} {A B:A1} {a b k:Int} {l r:List Int} (h:D6z a b l = some r) :
  G6 tab c (A++(ar1 l :: B)) (.fn (.func 96) [] []) [.asl (A.length + 0) l.length,.i a,.i b,.i k] [] (A++(ar1 r :: B)):= by
 unfold D6z at h
 split at h
 ·next hc =>
  refine A89 (aq:=[.asl (A.length + 0) l.length,.i a,.i b,.i k]) rfl rfl rfl ?_
  refine s0<|qm rfl<|es (ra5 rfl rfl rfl rfl rfl)<|s0<|qm rfl<|es (ra6 rfl rfl rfl rfl rfl rfl)<|C3<|D48 (B.length + 1) rfl _ (fun S hS=>O9 (live:=[0,1,2,3,8,9]) rfl (by decide) (Sub.trans (su6 rfl rfl rfl rfl rfl rfl) hS))<|C3<|s0<|qm rfl<|qm rfl<|A0 (Z8 rfl rfl) rfl<|qm rfl<|es (ra7 rfl rfl rfl rfl rfl rfl rfl)<|B6<|s0<|qm rfl<|A0 (C0q rfl rfl) rfl<|es (ra8 rfl rfl rfl rfl rfl rfl rfl rfl)<|S5 rfl hc<|s0<|qm rfl<|qm rfl<|qm rfl<|Q2 (T4 rfl rfl (D44 h) rfl) rfl<|es .n<|C4 ?_
  refine .out rfl ?_
  show B9y _ _ _ _ .ret _ _
  exact C8b trivial B7 B9 B2 (List.take_of_length_le (by simp))
 ·cases h
def B9i (l:List Int):Option (List Int) :=
 (A6m (IntKind.u64.wrap (List.length l:Int))).bind fun _=>D6z 0 (List.length l:Int) l
theorem D67 {c:Sc} {A B:A1} {l r:List Int} (h:B9i l = some r) :
  G6 tab c (A++(ar1 l :: B)) (.fn (.func 67) [] []) [.asl (A.length + 0) l.length] [] (A++(ar1 r :: B)):= by
 unfold B9i at h
 refine oB h fun k hk h=>?_
 refine A89 (aq:=[.asl (A.length + 0) l.length]) rfl rfl rfl ?_
 refine s0<|qm rfl<|A0 (A9t (f:=cI) rfl rfl rfl) rfl<|qm rfl<|es (ra2 rfl rfl)<|r0<|qm rfl<|qm rfl<|qm rfl<|A0 (A9q rfl) rfl<|B4 (rs:=[.i k]) rfl rfl (A2 rfl B5) ((B4t hk).frz)<|Q2 (T4 rfl rfl (D60 h) rfl) rfl<|en .n ?_
 show B9y _ _ _ _ .normal _ _
 exact C8b trivial B7 B9 B2 (List.take_of_length_le (by simp))
theorem D1v {a b:Int} {l r:List Int} (h:C6i a b l = some r):r.length = l.length:= by
 unfold C6i at h
 refine C1m (fun s=>s.2.length = l.length) (fun r=>r.length = l.length) (fun x y hx hy=>?_) (fun x r hx hr=>?_) rfl h
 ·unfold B62 at hy
  split at hy
  ·refine oB hy fun l1 hl1 hy=>?_
   cases hy
   refine C1m (fun s=>s.2.length = l.length) (fun r=>r.length = l.length) (fun x y hx hy=>?_) (fun x r hx hr=>?_) hx hl1
   ·unfold B63 at hy
    refine oB hy fun g _ hy=>?_
    split at hy
    ·refine oB hy fun _ _ hy=>oB hy fun _ _ hy=>oB hy fun _ _ hy=>?_
     cases hy
     simpa only [A6c] using hx
    ·cases hy
   ·unfold B63 at hr
    refine oB hr fun g _ hr=>?_
    split at hr
    ·refine oB hr fun _ _ hr=>oB hr fun _ _ hr=>oB hr fun _ _ hr=>?_
     cases hr
    ·cases hr; exact hx
  ·cases hy
 ·unfold B62 at hr
  split at hr
  ·refine oB hr fun _ _ hr=>?_
   cases hr
  ·cases hr; exact hx
theorem D1w {l r:List Int} (h:B9i l = some r):r.length = l.length:= by
 unfold B9i D6z at h
 refine oB h fun _ _ h=>?_
 split at h
 ·exact D1v h
 ·cases h
end Ds
end
section
set_option maxRecDepth 100000
namespace Ds
open Go Am Go.Proofs.Ytdkflofgolehkaa.Cd
def B7o (t:DrRoom) (person:Int):Option ((Chg × dress_plan) × Int) :=
 (L8 t).bind fun x1 =>
 if (x1.2.2 != 0) = true then some (([],plan0),x1.2.2)
 else (loop (K9 t) (0,[])).bind fun ch =>
  (J5 0 (w64 ((List.length t.Persons:Int) - 1)) [person]).bind fun k =>
  if k = true then some (([],plan0),4)
  else (I8 ⟨t⟩).bind fun w=>(P4 t ch w).bind fun z =>
   if (!z.2) = true then some (([],plan0),9) else some ((ch,z.1),0)
def C69 (N:Nat) (t:DrRoom) (ch:Chg) (p:dress_plan):List AO:=[.cells (A4 t),.cells (A9 p),.cells (A4 t),.map (B03 ch),.cells (A4s t (N + 3)),.cells (A9 p)]
def EnQ (H:A1) (t:DrRoom) (r:(Chg × dress_plan) × Int) (e:Ex) (s:B3) (H1:A1):Prop :=
 (match e with | .exit _=>False | _=>True)∧∃ rs H2,results s H1 [.tmp 4,.cell 5 (some 6),.tmp 6] = some rs∧Q0 H.length H1 rs = some (rs,H2) ∧
  ((r.2 != 0) = true∧rs = [.lit (.pointer none),.agg (A9 plan0),.i r.2]∧trunc H.length rs H2 = H∨r.2 = 0∧rs = [.ptr (H.length + 4) 0,.agg (A9 r.1.2),.i 0]∧trunc H.length rs H2 = H++C69 H.length t r.1.1 r.1.2)
theorem C2u {H:A1} {l:List AO} {s:B3} {t:DrRoom} {e:Int} {x:Chg × dress_plan} (he:(e != 0) = true) (h4:sget s 4 = some (.lit (.pointer none))) (h5:sget s 5 = some (.ptr (H.length + 1) 0)) (h6:sget s 6 = some (.i e)) (hl:l[1]? = some (.cells (A9 plan0))):EnQ H t (x,e) .ret s (H++l) :=
 ⟨trivial,_,_,B1 h4 (P1 (I6 (ds:=A9 plan0) h5 hl rfl rfl) (B1 h6 B7)),A5 rfl (A5 (A1q rfl) (A5 rfl B9)),.inl ⟨he,rfl,by rw [C2a (by rfl),List.append_nil]⟩⟩
theorem D2z {c:Sc} {H:A1} (hscv:S0 c H = true) {t:DrRoom} {person:Int} {r:(Chg × dress_plan) × Int} (h:B7o t person = some r) :
  (r.2 != 0) = true∧G6 tab c H (.fn (.func 64) [] []) [.agg (A4 t),.i person] [.lit (.pointer none),.agg (A9 plan0),.i r.2] H ∨
  r.2 = 0∧G6 tab c H (.fn (.func 64) [] []) [.agg (A4 t),.i person] [.ptr (H.length + 4) 0,.agg (A9 r.1.2),.i 0] (H++C69 H.length t r.1.1 r.1.2):= by
 have key:WP tab c64 (I9 0 [.agg (A4 t),.i person]) (H++[]) ⟨H.length,c.cur :: c.outer⟩ (EnQ H t r):= by
  unfold B7o at h
  refine oB h fun x1 hx1 h=>?_
  refine sg 0 rfl<|A0 (F5 (cs:=A4 t) rfl rfl rfl) rfl<|qm rfl<|A0 E7 rfl<|qm rfl<|es (ra3 rfl rfl rfl) ?_
  by_cases hc1:(x1.2.2 != 0) = true
  ·rw [if_pos hc1] at h
   obtain rfl:=os h
   refine s0<|A0 (C2 rfl rfl rfl) rfl<|Q2 (X3 rfl rfl (A2 (C9 rfl) B5) (B79 hx1 hc1) rfl) rfl<|qm rfl<|A0 (A6 rfl rfl) rfl<|A0 (A6 rfl rfl) rfl<|qm rfl<|qm rfl<|es (ra5 rfl rfl rfl rfl rfl)<|B6<|C3<|s0<|qm rfl<|A0 (J7 rfl rfl) rfl<|qm rfl<|es (ra6 rfl rfl rfl rfl rfl rfl)<|S5 rfl hc1<|s0<|A0 (L4 (cs:=A9 plan0) rfl rfl) rfl<|qm rfl<|qm rfl<|I2 (D2 (ds:=A9 plan0) rfl rfl rfl rfl (C6 rfl) rfl) rfl<|qm rfl<|es (ra3 rfl rfl rfl)<|C4<|C2u hc1 rfl rfl rfl rfl
  ·rw [if_neg hc1] at h
   have hc1:(x1.2.2 != 0) = false:=Bool.eq_false_iff.2 hc1
   refine oB h fun ch hch h=>oB h fun k hk h=>?_
   have hlook:G6 tab ⟨H.length,c.cur :: c.outer⟩ (H++[.cells (A4 t),.cells (A9 plan0)]) (.fn (.func 52) [] []) [(.agg (A4 t))] [.ptr (H.length + 4) 0,.i 0] (H++[.cells (A4 t),.cells (A9 plan0),.cells (A4 t),.map (B03 ch),.cells (A4s t (H.length + 3))]):= by
    have:=B8a (c:=⟨H.length,c.cur :: c.outer⟩) (H:=H++[.cells (A4 t),.cells (A9 plan0)]) hx1 hc1 hch
    unfold C9m at this
    rw [List.length_append,List.append_assoc] at this
    exact this
   refine s0<|A0 (C2 rfl rfl rfl) rfl<|Q2 (X3 rfl rfl (A2 (C9 rfl) B5) hlook rfl) rfl<|qm rfl<|A0 (A6 rfl rfl) rfl<|A0 (A6 rfl rfl) rfl<|qm rfl<|qm rfl<|es (ra5 rfl rfl rfl rfl rfl)<|B6<|C3<|s0<|qm rfl<|A0 (O1 (v:=(.b false)) rfl rfl rfl) rfl<|qm rfl<|es (ra6 rfl rfl rfl rfl rfl rfl)<|Z7 rfl rfl<|s0<|A0 (D1 rfl) rfl<|A0 (C5 rfl rfl rfl) rfl<|A0 (D4 (f:=A7) rfl) rfl<|A0 (Z8 rfl rfl) rfl<|qm rfl<|A0 (G1 (rows:=List.map cI [person]) rfl rfl (D8 (fun _=>rfl) _)) rfl<|B4 (rs:=[.b k]) rfl rfl (A2 rfl (A2 rfl (A2 rfl B5))) ((M3 hk).frz)<|qm rfl<|es (ra3 rfl rfl rfl)<|wi h rfl (fun hc2 h=>?_) fun hc2 h=>?_
   ·obtain rfl:=os h
    exact s0<|A0 (L4 (cs:=A9 plan0) rfl rfl) rfl<|qm rfl<|I2 (D2 (ds:=A9 plan0) rfl rfl rfl rfl (C6 rfl) rfl) rfl<|qm rfl<|es (ra3 rfl rfl rfl)<|C4<|C2u rfl rfl rfl rfl rfl
   refine oB h fun w hw h=>oB h fun z hz h=>?_
   refine C1<|sg 5 rfl<|qm rfl<|qm rfl<|B4 (rs:=[.i w]) rfl rfl (A2 rfl B5) ((N0 (a0:=⟨t⟩) (D7 rfl) hw).frz)<|B4 (rs:=[(.agg (A9 z.1)),.b z.2]) rfl rfl (A2 rfl (A2 rfl B5)) (B6j (t:=t) (ch:=ch) ⟨_,D7 rfl,A1u rfl⟩ (A2p hscv) hz)<|qm rfl<|A0 (A6 rfl rfl) rfl<|A0 (A6 rfl rfl) rfl<|A0 E7 rfl<|I2 (D2 (ds:=(A9 z.1)) rfl rfl rfl rfl (C6 rfl) rfl) rfl<|qm rfl<|es (ra4 rfl rfl rfl rfl)<|B6<|s0<|qm rfl<|A0 (S4 rfl) rfl<|es (ra4 rfl rfl rfl rfl)<|wi h rfl (fun hc3 h=>?_) fun hc3 h=>?_
   ·obtain rfl:=os h
    exact s0<|A0 (L4 (cs:=A9 plan0) rfl rfl) rfl<|qm rfl<|I2 (D2 (ds:=A9 plan0) rfl rfl rfl rfl (C6 rfl) rfl) rfl<|qm rfl<|es (ra3 rfl rfl rfl)<|C4<|C2u rfl rfl rfl rfl rfl
   ·obtain rfl:=os h
    refine C1<|s0<|qm rfl<|A0 (C2 rfl rfl rfl) rfl<|qm rfl<|I2 (D2 (ds:=(A9 z.1)) rfl rfl rfl rfl (C6 rfl) rfl) rfl<|qm rfl<|es (ra3 rfl rfl rfl)<|C4 ?_
    exact ⟨trivial,_,_,B1 rfl (P1 (I6 (ds:=A9 z.1) rfl rfl rfl rfl) (B1 rfl B7)),A5 rfl (A5 (A1q rfl) (A5 rfl B9)),.inr ⟨rfl,rfl,B9o C8y⟩⟩
 rw [List.append_nil] at key
 obtain ⟨e,S',s',H2,h1,h2,h3,rs,H3,h4,h5,h6⟩:=key _ (Sub.refl _)
 have hrun:∀H',trunc H.length rs H3 = H'→G6 tab c H (.fn (.func 64) [] []) [.agg (A4 t),.i person] rs H':=fun H' hH =>
  G6.fn (af:=a64) (bd:=c64) (aq:=[.agg (A4 t),.i person]) (rs0:=rs) (rs1:=rs) (H1:=H3) (e:=e) (st':=⟨S',H2,⟨H.length,c.cur :: c.outer⟩⟩) rfl rfl rfl rfl rfl rfl h1 (by cases e <;> first | rfl | exact h3.elim) (P0 h2 h4) h5 rfl hH.symm
 rcases h6 with ⟨h6,rfl,h7⟩ | ⟨h6,rfl,h7⟩
 ·exact .inl ⟨h6,hrun _ h7⟩
 ·exact .inr ⟨h6,hrun _ h7⟩
theorem retq0 {H:A1} {s:B3} {rv:List ARes} {rs:List AV} {e:Ex} (h:RetQ H rv rs e s (H++[])):RetQ H rv rs e s H:= by rwa [List.append_nil] at h
theorem D3k {c:Sc} {A B:A1} {b:Nat} {l:List Int} {x r:Int} (hb:A.length = b) (h:M2 l x = some r):E9 tab c (A++(ar1 l :: B)) (.fn (.func 95) [] []) [.asl b l.length,.i x] [.i r]:= by
 subst hb
 unfold M2 at h
 have htk:∀x:AO,(x :: B).take (B.length + 1) = x :: B:=fun x=>List.take_of_length_le (Nat.le_refl _)
 refine B7h (aq:=[.asl A.length l.length,.i x]) rfl rfl rfl ?_
 refine s0<|qm rfl<|es (ra2 rfl rfl)<|B6<|s0<|qm rfl<|A0 (A9t (f:=cI) (j:=0) rfl rfl rfl) rfl<|qm rfl<|es (ra4 rfl rfl rfl rfl)<|C3<|oB h fun o6 ho6 h=>wl (fun s1=>[(0,(.asl (A.length + 0) l.length)),(1,.i x),(7,(.i (List.length l:Int))),(8,.i s1)]) (fun (q2:Unit) s1=>ar1 l :: B) (B.length + 1) (fun r e s' H'=>(match r with | (.inl v)=>e = .ret∧RetQ (A++(ar1 l :: B)) [.tmp 4] [.i v] e s' H' | (.inr v)=>PX 0 [] (A++(ar1 l :: B)) e s' H':Prop)) () ho6 rfl rfl (fun _ _=>rfl) (fun _=>rfl) rfl (fun s1=>(bdc (W9 (Nat.ble_eq_true_of_le (by omega))) (bdc A8 (bdc A8 (bdc A8 bdn))))) (fun q2 s1 ys1 hs1=>?_) ?_
 ·unfold G4 at hs1
  refine s0<|A0 (G2 rfl rfl) rfl<|es (ra5 rfl rfl rfl rfl rfl)<|B6<|wi hs1 rfl (fun hc3 hs1=>?_) fun hc3 hs1=>?_
  ·refine C1<|B6<|C3<|s0<|qm rfl<|qm rfl<|es (ra5 rfl rfl rfl rfl rfl)<|s0<|oB hs1 fun x4 hx4 hs1=>qm rfl<|qm rfl<|qm rfl<|A0 (A9r (f:=cI) rfl rfl rfl rfl hx4) rfl<|A0 (B0s (x:=.i x4) rfl rfl (List.length_map _) (A96 hx4) rfl) rfl<|A0 (F6 rfl rfl) rfl<|es (ra6 rfl rfl rfl rfl rfl rfl)<|wi hs1 rfl (fun hc5 hs1=>?_) fun hc5 hs1=>?_
   ·refine s0<|qm rfl<|qm rfl<|es (ra1 rfl)<|C4 ?_
    obtain rfl:=os hs1
    exact lx rfl (And.intro rfl (retq0 (retq trivial (B1 rfl B7) (A5 rfl B9) (A3 A8 B2)))) (Sub.refl _)
   ·refine C1<|r0<|A0 (E8 rfl rfl) rfl<|qm rfl<|en (ra4 rfl rfl rfl rfl) ?_
    cases hs1
    exact lnT () (htk _) (su4 rfl rfl rfl rfl)
  ·refine F2 ?_
   obtain rfl:=os hs1
   exact lx rfl px (.nil _)
 ·rcases o6 with vo6_0 | vo6_1
  ·rintro e s' H' - ⟨rfl,hret⟩
   cases h
   exact hret
  ·rintro e s' H' - ⟨rfl,rfl,rfl⟩
   refine s0<|qm rfl<|es (ra1 rfl)<|C4 ?_
   obtain rfl:=os h
   exact retq0 (retq trivial (B1 rfl B7) (A5 rfl B9) (A3 A8 B2))
theorem C4m {c:Sc} {A B:A1} {b:Nat} {l:List Int} {x:Int} {r:Bool} (hb:A.length = b) (h:F8 l x = some r):E9 tab c (A++(ar1 l :: B)) (.fn (.func 66) [] []) [.asl b l.length,.i x] [.b r]:= by
 unfold F8 at h
 refine oB h fun x1 hx1 h=>?_
 refine B7h (aq:=[.asl b l.length,.i x]) rfl rfl rfl ?_
 refine s0<|qm rfl<|es (ra2 rfl rfl)<|s0<|qm rfl<|qm rfl<|Q2 (A5p (rs:=[.i x1]) rfl rfl ((D3k hb hx1).frz)) rfl<|A0 (A8u rfl rfl) rfl<|qm rfl<|es (ra1 rfl)<|C4 ?_
 obtain rfl:=os h
 exact retq0 (retq trivial (B1 rfl B7) (A5 rfl B9) (A3 A8 B2))
def B5a (person:Int) (best:dress_plan) (l:List dress_plan) (s:Int × List Int):Option ((Int × List Int) ⊕ List Int) :=
 if (decide (s.1 < (List.length l:Int))) = true then
  (idx l s.1).bind fun p=>(idx p.figures_ person).bind fun f =>
  (if (p.cost_ == best.cost_) = true then (F8 s.2 f).bind fun k=>some (!k) else some false).bind fun g =>
  if g = true then (app 8 s.2 [f]).bind fun q=>some (.inl (w64 (s.1 + 1),q))
  else some (.inl (w64 (s.1 + 1),s.2))
 else some (.inr s.2)
def A4z (t:DrRoom) (person:Int):Option (List Int × Int) :=
 (B7o t person).bind fun r =>
 if (r.2 != 0) = true then some ([],r.2)
 else (I8 ⟨t⟩).bind fun w=>(P5 t r.1.1 w).bind fun l =>
  (loop (B5a person r.1.2 l) (0,[])).bind fun o=>(B9i o).bind fun q=>some (q,0)
def B49 (N:Nat) (t:DrRoom) (ch:Chg) (p:dress_plan) (s:List Int):List AO:=[.cells (A4 t),ar1 s,.cells (A9 p),.cells (A4 t),.cells (A9 p),.cells (A4 t),.map (B03 ch),.cells (A4s t (N + 6)),.cells (A9 p)]
theorem B3i {c:Sc} {H:A1} (hscv:S0 c H = true) {a0:DrRoom} {a1:Int} {r:List Int × Int} (h:A4z a0 a1 = some r) :
  R3 tab c H (.fn (.func 28) [] []) [(.agg (A4 a0)),.i a1] [(.seq 1 (List.map cI r.1)),.i r.2]:= by
 unfold A4z at h
 refine oB h fun x hx h=>?_
 refine cF rfl rfl<|sg 0 rfl<|A0 (F5 (cs:=A4 a0) rfl rfl rfl) rfl<|A0 A2k rfl<|qm rfl<|es (ra3 rfl rfl rfl)<|sg 2 rfl<|A0 (C2 rfl rfl rfl) rfl<|qm rfl ?_
 rcases D2z (c:=⟨H.length,c.cur :: c.outer⟩) (H:=H++[.cells (A4 a0),ar1 [],.dead]) (A2p hscv) hx with ⟨hc,hcall⟩ | ⟨hc,hcall⟩
 ·rw [if_pos hc] at h
  obtain rfl:=os h
  refine Q2 (X3 rfl rfl (A2 (C9 rfl) (A2 rfl B5)) hcall rfl) rfl<|qm rfl<|A0 (A6 rfl rfl) rfl<|A0 (A6 rfl rfl) rfl<|A0 (A6 rfl rfl) rfl<|A0 E7 rfl<|qm rfl<|I2 (D2 (ds:=A9 plan0) rfl rfl rfl rfl (C6 rfl) rfl) rfl<|qm rfl<|es (ra5 rfl rfl rfl rfl rfl)<|B6<|s0<|qm rfl<|A0 (J7 rfl rfl) rfl<|es (ra6 rfl rfl rfl rfl rfl rfl)<|S5 rfl hc<|sg 3 rfl<|qm rfl<|A0 A2k rfl<|qm rfl<|es (ra2 rfl rfl)<|C4 ?_
  exact ⟨[.fresh 1 (List.map cI []),.i x.2],retq trivial (B1 rfl (B1 rfl B7)) (A5 (A1r rfl (List.length_map _)) (A5 rfl B9)) (A3 T6 (A3 A8 B2)),rfl⟩
 ·obtain ⟨⟨ch,best⟩,e⟩:=x
  dsimp only at hc
  subst hc
  rw [if_neg (by simp)] at h
  refine oB h fun w hw h=>oB h fun l hl h=>oB h fun o ho h=>oB h fun q hq h=>?_
  obtain rfl:=os h
  have hcall:G6 tab ⟨H.length,c.cur :: c.outer⟩ (H++[.cells (A4 a0),ar1 [],.dead]) (.fn (.func 64) [] []) [.agg (A4 a0),.i a1] [.ptr (H.length + 7) 0,.agg (A9 best),.i 0] (H++[.cells (A4 a0),ar1 [],.dead,.cells (A4 a0),.cells (A9 best),.cells (A4 a0),.map (B03 ch),.cells (A4s a0 (H.length + 6)),.cells (A9 best)]):= by
   unfold C69 at hcall
   rw [List.length_append,List.append_assoc] at hcall
   exact hcall
  have hH:∀s:List Int,H++B49 H.length a0 ch best s = (H++[.cells (A4 a0)])++(ar1 s :: (B49 H.length a0 ch best s).drop 2):=fun s=>by simp [B49]
  have hA:(H++[AO.cells (A4 a0)]).length = H.length + 1:= by simp
  refine Q2 (X3 rfl rfl (A2 (C9 rfl) (A2 rfl B5)) hcall rfl) rfl<|qm rfl<|A0 (A6 rfl rfl) rfl<|A0 (A6 rfl rfl) rfl<|A0 (A6 rfl rfl) rfl<|A0 E7 rfl<|qm rfl<|I2 (D2 (ds:=A9 best) rfl rfl rfl rfl (C6 rfl) rfl) rfl<|qm rfl<|es (ra5 rfl rfl rfl rfl rfl)<|B6<|s0<|qm rfl<|A0 (O1 (v:=(.b false)) rfl rfl rfl) rfl<|es (ra6 rfl rfl rfl rfl rfl rfl)<|Z7 rfl rfl<|C1<|B6<|s0<|qm rfl<|qm rfl<|B4 (rs:=[.i w]) rfl rfl (A2 rfl B5) ((N0 (a0:=⟨a0⟩) (D7 rfl) hw).frz)<|B4 (rs:=[.seq 6 (l.map A9)]) rfl rfl (A2 rfl (A2 rfl B5)) (C3s (t:=a0) (ch:=ch) ⟨_,D7 rfl,A1u rfl⟩ (A2p hscv) hl)<|A0 (D4 (f:=A9) rfl) rfl<|qm rfl<|es (ra6 rfl rfl rfl rfl rfl rfl)<|C3<|wl (fun s=>[(1,.i a1),(4,.asl (H.length + 1) s.2.length),(7,.ptr (H.length + 2) 0),(24,.seq 6 (l.map A9)),(25,.i (List.length l:Int)),(26,.i s.1)]) (fun (_:Unit) s=>B49 H.length a0 ch best s.2) 9 (fun r e s' H'=>PX 0 [(4,.asl (H.length + 1) r.length)] (H++B49 H.length a0 ch best r) e s' H') () ho rfl rfl (fun _ _=>rfl) (fun _=>rfl) rfl (fun s=>bdc A8 (bdc (W9 rfl) (bdc (F0 rfl) (bdc E3 (bdc A8 (bdc A8 bdn)))))) (fun _ s o hs=>?_) ?_
  ·unfold B5a at hs
   refine s0<|A0 (G2 rfl rfl) rfl<|es (ra7 rfl rfl rfl rfl rfl rfl rfl)<|B6<|wi hs rfl (fun hc hs=>?_) fun hc hs=>?_
   ·refine oB hs fun p hp hs=>oB hs fun f hf hs=>oB hs fun g hg hs=>?_
    refine C1<|B6<|C3<|sg 9 rfl<|A0 (E1 (f:=A9) rfl rfl hp) rfl<|A0 (M6 rfl rfl) rfl<|A0 E7 rfl<|I2 (D2 (ds:=A9 p) rfl rfl rfl rfl (C6 rfl) rfl) rfl<|es (ra7 rfl rfl rfl rfl rfl rfl rfl)<|s0<|A0 (D1 rfl) rfl<|A0 (C5 rfl rfl rfl) rfl<|qm rfl<|A0 (E1 (f:=cI) rfl rfl hf) rfl<|A0 (E5 rfl rfl) rfl<|qm rfl<|es (ra8 rfl rfl rfl rfl rfl rfl rfl rfl)<|s0<|A0 (D1 rfl) rfl<|A0 (C5 (x:=.i p.cost_) rfl rfl rfl) rfl<|A0 (D1 rfl) rfl<|A0 (C5 (x:=.i best.cost_) rfl rfl rfl) rfl<|A0 (F6 rfl rfl) rfl<|qm rfl<|gp 5 45 (.b g) 40 rfl rfl (fun hb=>?_) (fun hb=>?_) ?_
    ·refine oB (bt hg hb) fun k hk hg=>?_
     obtain rfl:=os hg
     have hcon:R3 tab ⟨H.length + 9,(⟨H.length,c.cur :: c.outer⟩:Sc).cur :: (⟨H.length,c.cur :: c.outer⟩:Sc).outer⟩ (H++(B49 H.length a0 ch best s.2++[.cells (A9 p)])) (.fn (.func 66) [] []) [.asl (H.length + 1) s.2.length,.i f] [.b k]:= by
      have:=(C4m (c:=⟨H.length + 9,(⟨H.length,c.cur :: c.outer⟩:Sc).cur :: (⟨H.length,c.cur :: c.outer⟩:Sc).outer⟩) (B:=(B49 H.length a0 ch best s.2).drop 2++[.cells (A9 p)]) hA hk).frz
      rw [show (H++[AO.cells (A4 a0)])++(ar1 s.2 :: ((B49 H.length a0 ch best s.2).drop 2++[.cells (A9 p)])) = H++(B49 H.length a0 ch best s.2++[.cells (A9 p)]) by simp [B49]] at this
      exact this
     exact gT rfl hb<|qm rfl<|gT rfl hb<|qm rfl<|gT rfl hb<|Q2 (A5p (rs:=[.b k]) rfl rfl hcon) rfl<|gT rfl hb<|A0 (S4 rfl) rfl<|A0 (C8 rfl hb rfl) rfl<|ge 5 rfl rfl rfl
    ·obtain rfl:=os (bf hg hb)
     exact nT rfl hb rfl<|nT rfl hb rfl<|N6 (G5 rfl (by rw [hb]; rfl)) rfl<|nT rfl hb rfl<|A0 (C7 rfl hb rfl) rfl<|ge 5 rfl rfl rfl
    refine es (ra8 rfl rfl rfl rfl rfl rfl rfl rfl)<|wi hs rfl (fun hc2 hs=>?_) fun hc2 hs=>?_
    ·refine oB hs fun q hq hs=>?_
     refine r0<|qm rfl<|qm rfl<|A0 (G1 (rows:=List.map cI [f]) rfl rfl (D8 (fun _=>rfl) _)) rfl<|Q2 (U5 (f:=cI) rfl rfl rfl rfl Q6 (fun _=>rfl) hq) rfl<|qm rfl<|en (ra6 rfl rfl rfl rfl rfl rfl)<|r0<|A0 (E8 rfl rfl) rfl<|qm rfl<|en (ra6 rfl rfl rfl rfl rfl rfl) ?_
     cases hs
     exact lnT () rfl (su6 rfl rfl rfl rfl rfl rfl)
    ·refine C1<|r0<|A0 (E8 rfl rfl) rfl<|qm rfl<|en (ra6 rfl rfl rfl rfl rfl rfl) ?_
     cases hs
     exact lnT () rfl (su6 rfl rfl rfl rfl rfl rfl)
   ·refine F2 ?_
    obtain rfl:=os hs
    exact lx rfl px (su1 rfl)
  ·rintro e s' H' - ⟨rfl,rfl,rfl⟩
   have hsort:G6 tab ⟨H.length,c.cur :: c.outer⟩ (H++B49 H.length a0 ch best o) (.fn (.func 67) [] []) [.asl (H.length + 1) o.length] [] (H++B49 H.length a0 ch best q):= by
    have:=D67 (c:=⟨H.length,c.cur :: c.outer⟩) (A:=H++[AO.cells (A4 a0)]) (B:=(B49 H.length a0 ch best o).drop 2) hq
    rw [hA] at this
    rw [hH o,hH q]
    exact this
   refine s0<|qm rfl<|Q2 (T4 rfl rfl hsort rfl) rfl<|es (ra1 rfl)<|s0<|qm rfl<|qm rfl<|qm rfl<|es (ra2 rfl rfl)<|C4 ?_
   exact ⟨[.fresh 1 (List.map cI q),.i 0],retq trivial (B1 rfl (B1 rfl B7)) (A5 (A1r rfl (by rw [List.length_map]; exact D1w hq)) (A5 rfl B9)) (A3 T6 (A3 A8 B2)),rfl⟩
end Ds
end
section
set_option maxRecDepth 100000
set_option maxHeartbeats 0
namespace Ds
open Go Am Go.Proofs.Ytdkflofgolehkaa.Cd
def Y4 :Option Bool :=
 (A5g 2).bind fun x1 =>
 (A5g 1).bind fun x2 =>
 (A0p x1 0 0).bind fun x3 =>
 (A17 x1 [2,0,1]).bind fun x4 =>
 (A18 x1 [1,0,2]).bind fun x5 =>
 (A16 x1).bind fun x6 =>
 (A16 x2).bind fun x7 =>
 (A4z x1 2).bind fun x8 =>
 (Y3 x1 1).bind fun x9 =>
 (A3l x2).bind fun x10 =>
 (A3k x2).bind fun x11 =>
 (if ((((((((((x3.2.2 == 0) && (x4.2 == 0)) && (x5.2 == 0)) && (x6.2.2 == 0)) && (x7.2.2 == 9)) && (x8.2 == 0)) && (x9.2 == 0)) && (x10.2 == 0)) && (x11.2.2 == 0)) && (x3.1 == 14)) = true then
  (J8 x3.2.1 [0,2]).bind fun x22 =>
  some x22
 else
  some false).bind fun x23 =>
 (if x23 = true then
  (J8 x4.1 [4,(-1)]).bind fun x25 =>
  some x25
 else
  some false).bind fun x26 =>
 (if (x26 && (x5.1 == 14)) = true then
  (J8 x6.1 [1,0,2]).bind fun x29 =>
  some x29
 else
  some false).bind fun x30 =>
 (if (x30 && (x6.2.1 == 14)) = true then
  (J8 x8.1 [2]).bind fun x33 =>
  some x33
 else
  some false).bind fun x34 =>
 (if (x34 && (x9.1 == 10)) = true then
  (J8 x10.1 [0]).bind fun x37 =>
  some x37
 else
  some false).bind fun x38 =>
 (if x38 = true then
  (J8 x11.1 [0,1]).bind fun x40 =>
  some x40
 else
  some false).bind fun x41 =>
 some (x41 && (x11.2.1 == 14))
theorem A0x {c:Sc} {H:A1} (hscv:S0 c H = true)  {r:Bool} (h:Y4  = some r) :
  E9 tab c H (.fn (.func 21) [] []) [] [.b r]:= by
 unfold Y4 at h
 refine cE rfl rfl<|s0<|qm rfl<|es .n<|sg 0 rfl<|oB h fun x1 hx1 h=>oB h fun x2 hx2 h=>B4 (rs:=[(.agg (A4 x1))]) rfl rfl (A2 rfl B5) ((A6r hx1).frz)<|B4 (rs:=[(.agg (A4 x2))]) rfl rfl (A2 rfl B5) ((A6r hx2).frz)<|A0 E7 rfl<|A0 E7 rfl<|I2 (D2 (ds:=(A4 x1)) rfl rfl rfl rfl (C6 rfl) rfl) rfl<|I2 (D2 (ds:=(A4 x2)) rfl rfl rfl rfl (C6 rfl) rfl) rfl<|es (ra2 rfl rfl)<|s0<|oB h fun x3 hx3 h=>A0 (C2 rfl rfl rfl) rfl<|B4 (rs:=[.i x3.1,(.seq 1 (List.map cI x3.2.1)),.i x3.2.2]) rfl rfl (A2 (C9 rfl) (A2 rfl (A2 rfl B5))) ((A30 hx3).frz)<|qm rfl<|A0 (A6 rfl rfl) rfl<|A0 (A6 rfl rfl) rfl<|A0 (A6 rfl rfl) rfl<|qm rfl<|qm rfl<|qm rfl<|es (ra5 rfl rfl rfl rfl rfl)<|s0<|oB h fun x4 hx4 h=>A0 (C2 rfl rfl rfl) rfl<|A0 (G1 (rows:=List.map cI [2,0,1]) rfl rfl (D8 (fun _=>rfl) _)) rfl<|B4 (rs:=[(.seq 1 (List.map cI x4.1)),.i x4.2]) rfl rfl (A2 (C9 rfl) (A2 rfl B5)) ((A6p hx4).frz)<|qm rfl<|A0 (A6 rfl rfl) rfl<|A0 (A6 rfl rfl) rfl<|qm rfl<|qm rfl<|es (ra7 rfl rfl rfl rfl rfl rfl rfl)<|s0<|oB h fun x5 hx5 h=>A0 (C2 rfl rfl rfl) rfl<|A0 (G1 (rows:=List.map cI [1,0,2]) rfl rfl (D8 (fun _=>rfl) _)) rfl<|B4 (rs:=[.i x5.1,.i x5.2]) rfl rfl (A2 (C9 rfl) (A2 rfl B5)) ((A6q hx5).frz)<|qm rfl<|A0 (A6 rfl rfl) rfl<|A0 (A6 rfl rfl) rfl<|qm rfl<|qm rfl<|es (ra9 rfl rfl rfl rfl rfl rfl rfl rfl rfl)<|s0<|oB h fun x6 hx6 h=>A0 (C2 rfl rfl rfl) rfl<|B4 (rs:=[(.seq 1 (List.map cI x6.1)),.i x6.2.1,.i x6.2.2]) rfl rfl (A2 (C9 rfl) B5) ((A6o (A2p hscv) hx6).frz)<|qm rfl<|A0 (A6 rfl rfl) rfl<|A0 (A6 rfl rfl) rfl<|A0 (A6 rfl rfl) rfl<|qm rfl<|qm rfl<|qm rfl<|es (ra12 rfl rfl rfl rfl rfl rfl rfl rfl rfl rfl rfl rfl)<|s0 ?_
 refine oB h fun x7 hx7 h=>A0 (C2 rfl rfl rfl) rfl<|B4 (rs:=[(.seq 1 (List.map cI x7.1)),.i x7.2.1,.i x7.2.2]) rfl rfl (A2 (C9 rfl) B5) ((A6o (A2p hscv) hx7).frz)<|qm rfl<|A0 (A6 rfl rfl) rfl<|A0 (A6 rfl rfl) rfl<|A0 (A6 rfl rfl) rfl<|qm rfl<|qm rfl<|qm rfl<|es (ra13 rfl rfl rfl rfl rfl rfl rfl rfl rfl rfl rfl rfl rfl)<|s0<|oB h fun x8 hx8 h=>A0 (C2 rfl rfl rfl) rfl<|B4 (rs:=[(.seq 1 (List.map cI x8.1)),.i x8.2]) rfl rfl (A2 (C9 rfl) (A2 rfl B5)) (B3i (A2p hscv) hx8)<|qm rfl<|A0 (A6 rfl rfl) rfl<|A0 (A6 rfl rfl) rfl<|qm rfl<|qm rfl<|es (.k rfl (.k rfl (.k rfl (.k rfl (.k rfl (.k rfl (.k rfl (.k rfl (.k rfl (.k rfl (.k rfl (.k rfl (.k rfl (.k rfl (.k rfl .n)))))))))))))))<|s0<|oB h fun x9 hx9 h=>A0 (C2 rfl rfl rfl) rfl<|B4 (rs:=[.i x9.1,.i x9.2]) rfl rfl (A2 (C9 rfl) (A2 rfl B5)) ((A24 (A2p hscv) hx9).frz)<|qm rfl<|A0 (A6 rfl rfl) rfl<|A0 (A6 rfl rfl) rfl<|qm rfl<|qm rfl<|es (.k rfl (.k rfl (.k rfl (.k rfl (.k rfl (.k rfl (.k rfl (.k rfl (.k rfl (.k rfl (.k rfl (.k rfl (.k rfl (.k rfl (.k rfl (.k rfl .n))))))))))))))))<|s0<|oB h fun x10 hx10 h=>A0 (C2 rfl rfl rfl) rfl<|B4 (rs:=[(.seq 1 (List.map cI x10.1)),.i x10.2]) rfl rfl (A2 (C9 rfl) B5) ((A8i (A2p hscv) hx10).frz)<|qm rfl<|A0 (A6 rfl rfl) rfl<|A0 (A6 rfl rfl) rfl<|qm rfl<|qm rfl<|es (.k rfl (.k rfl (.k rfl (.k rfl (.k rfl (.k rfl (.k rfl (.k rfl (.k rfl (.k rfl (.k rfl (.k rfl (.k rfl (.k rfl (.k rfl (.k rfl (.k rfl (.k rfl .n))))))))))))))))))<|s0<|oB h fun x11 hx11 h=>A0 (C2 rfl rfl rfl) rfl<|B4 (rs:=[(.seq 1 (List.map cI x11.1)),.i x11.2.1,.i x11.2.2]) rfl rfl (A2 (C9 rfl) B5) ((A8h (A2p hscv) hx11).frz)<|qm rfl<|A0 (A6 rfl rfl) rfl<|A0 (A6 rfl rfl) rfl<|A0 (A6 rfl rfl) rfl<|qm rfl<|qm rfl<|qm rfl<|es (.k rfl (.k rfl (.k rfl (.k rfl (.k rfl (.k rfl (.k rfl (.k rfl (.k rfl (.k rfl (.k rfl (.k rfl (.k rfl (.k rfl (.k rfl (.k rfl (.k rfl (.k rfl (.k rfl (.k rfl .n))))))))))))))))))))<|s0<|oB h fun x23 hx23 h=>oB h fun x26 hx26 h=>oB h fun x30 hx30 h=>oB h fun x34 hx34 h=>oB h fun x38 hx38 h=>oB h fun x41 hx41 h=>qm rfl ?_
 refine A0 (F6 rfl rfl) rfl<|qm rfl<|gp 3 83 (.b ((x3.2.2 == 0) && (x4.2 == 0))) 80 rfl rfl (fun hg12=>?_) (fun hg12=>?_) ?_
 ·exact gT rfl hg12<|qm rfl<|gT rfl hg12<|A0 (F6 rfl rfl) rfl<|A0 (C8 rfl hg12 rfl) rfl<|ge 3 (by rw [hg12]; rfl) rfl rfl
 ·exact nT rfl hg12 rfl<|nT rfl hg12 rfl<|A0 (C7 rfl hg12 rfl) rfl<|ge 3 (by rw [hg12]; rfl) rfl rfl
 refine qm rfl<|gp 3 87 (.b (((x3.2.2 == 0) && (x4.2 == 0)) && (x5.2 == 0))) 84 rfl rfl (fun hg13=>?_) (fun hg13=>?_) ?_
 ·exact gT rfl hg13<|qm rfl<|gT rfl hg13<|A0 (F6 rfl rfl) rfl<|A0 (C8 rfl hg13 rfl) rfl<|ge 3 (by rw [hg13]; rfl) rfl rfl
 ·exact nT rfl hg13 rfl<|nT rfl hg13 rfl<|A0 (C7 rfl hg13 rfl) rfl<|ge 3 (by rw [hg13]; rfl) rfl rfl
 refine qm rfl<|gp 3 91 (.b ((((x3.2.2 == 0) && (x4.2 == 0)) && (x5.2 == 0)) && (x6.2.2 == 0))) 88 rfl rfl (fun hg14=>?_) (fun hg14=>?_) ?_
 ·exact gT rfl hg14<|qm rfl<|gT rfl hg14<|A0 (F6 rfl rfl) rfl<|A0 (C8 rfl hg14 rfl) rfl<|ge 3 (by rw [hg14]; rfl) rfl rfl
 ·exact nT rfl hg14 rfl<|nT rfl hg14 rfl<|A0 (C7 rfl hg14 rfl) rfl<|ge 3 (by rw [hg14]; rfl) rfl rfl
 refine qm rfl<|gp 3 95 (.b (((((x3.2.2 == 0) && (x4.2 == 0)) && (x5.2 == 0)) && (x6.2.2 == 0)) && (x7.2.2 == 9))) 92 rfl rfl (fun hg15=>?_) (fun hg15=>?_) ?_
 ·exact gT rfl hg15<|qm rfl<|gT rfl hg15<|A0 (F6 rfl rfl) rfl<|A0 (C8 rfl hg15 rfl) rfl<|ge 3 (by rw [hg15]; rfl) rfl rfl
 ·exact nT rfl hg15 rfl<|nT rfl hg15 rfl<|A0 (C7 rfl hg15 rfl) rfl<|ge 3 (by rw [hg15]; rfl) rfl rfl
 refine qm rfl<|gp 3 99 (.b ((((((x3.2.2 == 0) && (x4.2 == 0)) && (x5.2 == 0)) && (x6.2.2 == 0)) && (x7.2.2 == 9)) && (x8.2 == 0))) 96 rfl rfl (fun hg16=>?_) (fun hg16=>?_) ?_
 ·exact gT rfl hg16<|qm rfl<|gT rfl hg16<|A0 (F6 rfl rfl) rfl<|A0 (C8 rfl hg16 rfl) rfl<|ge 3 (by rw [hg16]; rfl) rfl rfl
 ·exact nT rfl hg16 rfl<|nT rfl hg16 rfl<|A0 (C7 rfl hg16 rfl) rfl<|ge 3 (by rw [hg16]; rfl) rfl rfl
 refine qm rfl<|gp 3 103 (.b (((((((x3.2.2 == 0) && (x4.2 == 0)) && (x5.2 == 0)) && (x6.2.2 == 0)) && (x7.2.2 == 9)) && (x8.2 == 0)) && (x9.2 == 0))) 100 rfl rfl (fun hg17=>?_) (fun hg17=>?_) ?_
 ·exact gT rfl hg17<|qm rfl<|gT rfl hg17<|A0 (F6 rfl rfl) rfl<|A0 (C8 rfl hg17 rfl) rfl<|ge 3 (by rw [hg17]; rfl) rfl rfl
 ·exact nT rfl hg17 rfl<|nT rfl hg17 rfl<|A0 (C7 rfl hg17 rfl) rfl<|ge 3 (by rw [hg17]; rfl) rfl rfl
 refine qm rfl<|gp 3 107 (.b ((((((((x3.2.2 == 0) && (x4.2 == 0)) && (x5.2 == 0)) && (x6.2.2 == 0)) && (x7.2.2 == 9)) && (x8.2 == 0)) && (x9.2 == 0)) && (x10.2 == 0))) 104 rfl rfl (fun hg18=>?_) (fun hg18=>?_) ?_
 ·exact gT rfl hg18<|qm rfl<|gT rfl hg18<|A0 (F6 rfl rfl) rfl<|A0 (C8 rfl hg18 rfl) rfl<|ge 3 (by rw [hg18]; rfl) rfl rfl
 ·exact nT rfl hg18 rfl<|nT rfl hg18 rfl<|A0 (C7 rfl hg18 rfl) rfl<|ge 3 (by rw [hg18]; rfl) rfl rfl
 refine qm rfl<|gp 3 111 (.b (((((((((x3.2.2 == 0) && (x4.2 == 0)) && (x5.2 == 0)) && (x6.2.2 == 0)) && (x7.2.2 == 9)) && (x8.2 == 0)) && (x9.2 == 0)) && (x10.2 == 0)) && (x11.2.2 == 0))) 108 rfl rfl (fun hg19=>?_) (fun hg19=>?_) ?_
 ·exact gT rfl hg19<|qm rfl<|gT rfl hg19<|A0 (F6 rfl rfl) rfl<|A0 (C8 rfl hg19 rfl) rfl<|ge 3 (by rw [hg19]; rfl) rfl rfl
 ·exact nT rfl hg19 rfl<|nT rfl hg19 rfl<|A0 (C7 rfl hg19 rfl) rfl<|ge 3 (by rw [hg19]; rfl) rfl rfl
 refine qm rfl<|gp 3 115 (.b ((((((((((x3.2.2 == 0) && (x4.2 == 0)) && (x5.2 == 0)) && (x6.2.2 == 0)) && (x7.2.2 == 9)) && (x8.2 == 0)) && (x9.2 == 0)) && (x10.2 == 0)) && (x11.2.2 == 0)) && (x3.1 == 14))) 112 rfl rfl (fun hg20=>?_) (fun hg20=>?_) ?_
 ·exact gT rfl hg20<|qm rfl<|gT rfl hg20<|A0 (F6 rfl rfl) rfl<|A0 (C8 rfl hg20 rfl) rfl<|ge 3 (by rw [hg20]; rfl) rfl rfl
 ·exact nT rfl hg20 rfl<|nT rfl hg20 rfl<|A0 (C7 rfl hg20 rfl) rfl<|ge 3 (by rw [hg20]; rfl) rfl rfl
 refine qm rfl<|gp 4 120 (.b x23) 116 rfl rfl (fun hg21=>?_) (fun hg21=>?_) ?_
 ·refine oB (bt hx23 hg21) fun x22 hx22 hx23=>?_
  obtain rfl:=os hx23
  exact gT rfl hg21<|qm rfl<|gT rfl hg21<|A0 (G1 (rows:=List.map cI [0,2]) rfl rfl (D8 (fun _=>rfl) _)) rfl<|gT rfl hg21<|B4 (rs:=[.b x22]) rfl rfl (A2 rfl (A2 rfl B5)) ((J3 hx22).frz)<|A0 (C8 rfl hg21 rfl) rfl<|ge 4 rfl rfl rfl
 ·obtain rfl:=os (bf hx23 hg21)
  exact nT rfl hg21 rfl<|nT rfl hg21 rfl<|N6 (G5 rfl (by rw [hg21]; rfl)) rfl<|A0 (C7 rfl hg21 rfl) rfl<|ge 4 rfl rfl rfl
 refine qm rfl<|gp 4 125 (.b x26) 121 rfl rfl (fun hg24=>?_) (fun hg24=>?_) ?_
 ·refine oB (bt hx26 hg24) fun x25 hx25 hx26=>?_
  obtain rfl:=os hx26
  exact gT rfl hg24<|qm rfl<|gT rfl hg24<|A0 (G1 (rows:=List.map cI [4,(-1)]) rfl rfl (D8 (fun _=>rfl) _)) rfl<|gT rfl hg24<|B4 (rs:=[.b x25]) rfl rfl (A2 rfl (A2 rfl B5)) ((J3 hx25).frz)<|A0 (C8 rfl hg24 rfl) rfl<|ge 4 rfl rfl rfl
 ·obtain rfl:=os (bf hx26 hg24)
  exact nT rfl hg24 rfl<|nT rfl hg24 rfl<|N6 (G5 rfl (by rw [hg24]; rfl)) rfl<|A0 (C7 rfl hg24 rfl) rfl<|ge 4 rfl rfl rfl
 refine qm rfl<|gp 3 129 (.b (x26 && (x5.1 == 14))) 126 rfl rfl (fun hg27=>?_) (fun hg27=>?_) ?_
 ·exact gT rfl hg27<|qm rfl<|gT rfl hg27<|A0 (F6 rfl rfl) rfl<|A0 (C8 rfl hg27 rfl) rfl<|ge 3 (by rw [hg27]; rfl) rfl rfl
 ·exact nT rfl hg27 rfl<|nT rfl hg27 rfl<|A0 (C7 rfl hg27 rfl) rfl<|ge 3 (by rw [hg27]; rfl) rfl rfl
 refine qm rfl<|gp 4 134 (.b x30) 130 rfl rfl (fun hg28=>?_) (fun hg28=>?_) ?_
 ·refine oB (bt hx30 hg28) fun x29 hx29 hx30=>?_
  obtain rfl:=os hx30
  exact gT rfl hg28<|qm rfl<|gT rfl hg28<|A0 (G1 (rows:=List.map cI [1,0,2]) rfl rfl (D8 (fun _=>rfl) _)) rfl<|gT rfl hg28<|B4 (rs:=[.b x29]) rfl rfl (A2 rfl (A2 rfl B5)) ((J3 hx29).frz)<|A0 (C8 rfl hg28 rfl) rfl<|ge 4 rfl rfl rfl
 ·obtain rfl:=os (bf hx30 hg28)
  exact nT rfl hg28 rfl<|nT rfl hg28 rfl<|N6 (G5 rfl (by rw [hg28]; rfl)) rfl<|A0 (C7 rfl hg28 rfl) rfl<|ge 4 rfl rfl rfl
 refine qm rfl<|gp 3 138 (.b (x30 && (x6.2.1 == 14))) 135 rfl rfl (fun hg31=>?_) (fun hg31=>?_) ?_
 ·exact gT rfl hg31<|qm rfl<|gT rfl hg31<|A0 (F6 rfl rfl) rfl<|A0 (C8 rfl hg31 rfl) rfl<|ge 3 (by rw [hg31]; rfl) rfl rfl
 ·exact nT rfl hg31 rfl<|nT rfl hg31 rfl<|A0 (C7 rfl hg31 rfl) rfl<|ge 3 (by rw [hg31]; rfl) rfl rfl
 refine qm rfl<|gp 4 143 (.b x34) 139 rfl rfl (fun hg32=>?_) (fun hg32=>?_) ?_
 ·refine oB (bt hx34 hg32) fun x33 hx33 hx34=>?_
  obtain rfl:=os hx34
  exact gT rfl hg32<|qm rfl<|gT rfl hg32<|A0 (G1 (rows:=List.map cI [2]) rfl rfl (D8 (fun _=>rfl) _)) rfl<|gT rfl hg32<|B4 (rs:=[.b x33]) rfl rfl (A2 rfl (A2 rfl B5)) ((J3 hx33).frz)<|A0 (C8 rfl hg32 rfl) rfl<|ge 4 rfl rfl rfl
 ·obtain rfl:=os (bf hx34 hg32)
  exact nT rfl hg32 rfl<|nT rfl hg32 rfl<|N6 (G5 rfl (by rw [hg32]; rfl)) rfl<|A0 (C7 rfl hg32 rfl) rfl<|ge 4 rfl rfl rfl
 refine qm rfl<|gp 3 147 (.b (x34 && (x9.1 == 10))) 144 rfl rfl (fun hg35=>?_) (fun hg35=>?_) ?_
 ·exact gT rfl hg35<|qm rfl<|gT rfl hg35<|A0 (F6 rfl rfl) rfl<|A0 (C8 rfl hg35 rfl) rfl<|ge 3 (by rw [hg35]; rfl) rfl rfl
 ·exact nT rfl hg35 rfl<|nT rfl hg35 rfl<|A0 (C7 rfl hg35 rfl) rfl<|ge 3 (by rw [hg35]; rfl) rfl rfl
 refine qm rfl<|gp 4 152 (.b x38) 148 rfl rfl (fun hg36=>?_) (fun hg36=>?_) ?_
 ·refine oB (bt hx38 hg36) fun x37 hx37 hx38=>?_
  obtain rfl:=os hx38
  exact gT rfl hg36<|qm rfl<|gT rfl hg36<|A0 (G1 (rows:=List.map cI [0]) rfl rfl (D8 (fun _=>rfl) _)) rfl<|gT rfl hg36<|B4 (rs:=[.b x37]) rfl rfl (A2 rfl (A2 rfl B5)) ((J3 hx37).frz)<|A0 (C8 rfl hg36 rfl) rfl<|ge 4 rfl rfl rfl
 ·obtain rfl:=os (bf hx38 hg36)
  exact nT rfl hg36 rfl<|nT rfl hg36 rfl<|N6 (G5 rfl (by rw [hg36]; rfl)) rfl<|A0 (C7 rfl hg36 rfl) rfl<|ge 4 rfl rfl rfl
 refine qm rfl<|gp 4 157 (.b x41) 153 rfl rfl (fun hg39=>?_) (fun hg39=>?_) ?_
 ·refine oB (bt hx41 hg39) fun x40 hx40 hx41=>?_
  obtain rfl:=os hx41
  exact gT rfl hg39<|qm rfl<|gT rfl hg39<|A0 (G1 (rows:=List.map cI [0,1]) rfl rfl (D8 (fun _=>rfl) _)) rfl<|gT rfl hg39<|B4 (rs:=[.b x40]) rfl rfl (A2 rfl (A2 rfl B5)) ((J3 hx40).frz)<|A0 (C8 rfl hg39 rfl) rfl<|ge 4 rfl rfl rfl
 ·obtain rfl:=os (bf hx41 hg39)
  exact nT rfl hg39 rfl<|nT rfl hg39 rfl<|N6 (G5 rfl (by rw [hg39]; rfl)) rfl<|A0 (C7 rfl hg39 rfl) rfl<|ge 4 rfl rfl rfl
 refine qm rfl<|gp 3 161 (.b (x41 && (x11.2.1 == 14))) 158 rfl rfl (fun hg42=>?_) (fun hg42=>?_) ?_
 ·exact gT rfl hg42<|qm rfl<|gT rfl hg42<|A0 (F6 rfl rfl) rfl<|A0 (C8 rfl hg42 rfl) rfl<|ge 3 (by rw [hg42]; rfl) rfl rfl
 ·exact nT rfl hg42 rfl<|nT rfl hg42 rfl<|A0 (C7 rfl hg42 rfl) rfl<|ge 3 (by rw [hg42]; rfl) rfl rfl
 refine qm rfl<|es (ra1 rfl)<|C4 ?_
 obtain rfl:=os h
 exact retq trivial (B1 rfl B7) (A5 rfl B9) (A3 A8 B2)
end Ds
end
section
set_option maxRecDepth 100000
namespace Ds
theorem awake:Y4 = some true:= by decide +kernel
end Ds
end
section
set_option maxRecDepth 100000
set_option maxHeartbeats 0
namespace Ds
open Go Am Go.Proofs.Ytdkflofgolehkaa.Cd
def A0i (a0:DrRoom) (a1:(List Int)) (s1:(Int × (List Int))) (s5:(Int × Int)):Option ((Int × Int) ⊕ Int) :=
 if (decide (s5.2 < (List.length a1:Int))) = true then
  (idx a1 s5.2).bind fun x8 =>
  (idx a0.Figures x8).bind fun x9 =>
  (idx a0.Persons s5.2).bind fun x10 =>
  (A01 x9 x10).bind fun x11 =>
  (A2l x11 0).bind fun x12 =>
  if (!x12) = true then
  some (.inl (s5.1,(w64 (s5.2 + 1))))
  else
  (idx x9.Looks 0).bind fun x14 =>
  if (x14 == s1.1) = true then
   (idx x10.Looks 0).bind fun x16 =>
   if (x16 == s1.1) = true then
   some (.inl ((w64 ((w64 (s5.1 + x9.Hair)) - x10.Hair)),(w64 (s5.2 + 1))))
   else
   some (.inl ((w64 (s5.1 + x9.Hair)),(w64 (s5.2 + 1))))
  else
   (idx x10.Looks 0).bind fun x18 =>
   if (x18 == s1.1) = true then
   some (.inl ((w64 (s5.1 - x10.Hair)),(w64 (s5.2 + 1))))
   else
   some (.inl (s5.1,(w64 (s5.2 + 1))))
 else
  some (.inr s5.1)
def A1z (a0:DrRoom) (a1:(List Int)) (s1:(Int × (List Int))):Option ((Int × (List Int)) ⊕ (List Int)) :=
 if (decide (s1.1 < (List.length a0.Ounces:Int))) = true then
  (idx a0.Ounces s1.1).bind fun x4 =>
  (loop (A0i a0 a1 s1) (x4,0)).bind fun (o20:Int) =>
  (app 8 s1.2 [o20]).bind fun x21 =>
  some (.inl ((w64 (s1.1 + 1)),x21))
 else
  some (.inr s1.2)
def Z3 (a0:DrRoom) (a1:(List Int)):Option (List Int) :=
 (loop (A1z a0 a1) (0,([]:List Int))).bind fun (o22:(List Int)) =>
 some o22
theorem A31 {c:Sc} {H:A1} {a0:DrRoom} {a1:(List Int)} {r:(List Int)} (h:Z3 a0 a1 = some r) :
  E9 tab c H (.fn (.func 59) [] []) [(.agg (A4 a0)),(.seq 1 (List.map cI a1))] [(.fresh 1 (List.map cI r))]:= by
 unfold Z3 at h
 refine cE rfl rfl<|sg 0 rfl<|A0 (F5 (cs:=A4 a0) rfl rfl rfl) rfl<|qm rfl<|es (ra2 rfl rfl)<|sg 1 rfl<|A0 A2k rfl<|es (ra3 rfl rfl rfl)<|B6<|s0<|qm rfl<|es (ra4 rfl rfl rfl rfl)<|C3<|oB h fun o22 ho22 h=>wl (fun s1=>[(1,(.seq 1 (List.map cI a1))),(2,(.ptr (H.length + 0) 0)),(5,(.asl (H.length + 1) (List.length s1.2))),(6,.i s1.1)]) (fun (q2:Unit) s1=>[(.cells (A4 a0)),(.arr 1 false (List.map cI s1.2))]) 2 (fun r e s' H'=>PX 0 [(5,(.asl (H.length + 1) (List.length r)))] (H++[(.cells (A4 a0)),(.arr 1 false (List.map cI r))]) e s' H') () ho22 rfl rfl (fun _ _=>rfl) (fun _=>rfl) rfl (fun s1=>(bdc E3 (bdc (F0 rfl) (bdc (W9 rfl) (bdc A8 bdn))))) (fun q2 s1 ys1 hs1=>?_) ?_
 ·unfold A1z at hs1
  refine B6<|s0<|qm rfl<|A0 (D1 rfl) rfl<|A0 (C5 rfl rfl rfl) rfl<|A0 (D4 (f:=cI) rfl) rfl<|A0 (G2 rfl rfl) rfl<|es (ra5 rfl rfl rfl rfl rfl)<|wi hs1 rfl (fun hc3 hs1=>?_) fun hc3 hs1=>?_
  ·refine C1<|B6<|C3<|s0<|oB hs1 fun x4 hx4 hs1=>A0 (D1 rfl) rfl<|A0 (C5 rfl rfl rfl) rfl<|qm rfl<|A0 (E1 (f:=cI) rfl rfl hx4) rfl<|A0 (E5 rfl rfl) rfl<|qm rfl<|es (ra5 rfl rfl rfl rfl rfl)<|B6<|s0<|qm rfl<|es (ra6 rfl rfl rfl rfl rfl rfl)<|C3<|oB hs1 fun o20 ho20 hs1=>wl (fun s5=>[(1,(.seq 1 (List.map cI a1))),(2,(.ptr (H.length + 0) 0)),(5,(.asl (H.length + 1) (List.length s1.2))),(6,.i s1.1),(7,.i s5.1),(8,.i s5.2)]) (fun (q6:Unit) s5=>[(.cells (A4 a0)),(.arr 1 false (List.map cI s1.2))]) 2 (fun r e s' H'=>PX 2 [(1,(.seq 1 (List.map cI a1))),(2,(.ptr (H.length + 0) 0)),(5,(.asl (H.length + 1) (List.length s1.2))),(6,.i s1.1),(7,.i r)] (H++[(.cells (A4 a0)),(.arr 1 false (List.map cI s1.2))]) e s' H') () ho20 rfl rfl (fun _ _=>rfl) (fun _=>rfl) rfl (fun s5=>(bdc E3 (bdc (F0 rfl) (bdc (W9 rfl) (bdc A8 (bdc A8 (bdc A8 bdn))))))) (fun q6 s5 ys5 hs5=>?_) ?_
   ·unfold A0i at hs5
    refine B6<|s0<|qm rfl<|qm rfl<|A0 (D4 (f:=cI) rfl) rfl<|A0 (G2 rfl rfl) rfl<|es (ra7 rfl rfl rfl rfl rfl rfl rfl)<|wi hs5 rfl (fun hc7 hs5=>?_) fun hc7 hs5=>?_
    ·refine C1<|B6<|C3<|sg 2 rfl<|oB hs5 fun x8 hx8 hs5=>oB hs5 fun x9 hx9 hs5=>oB hs5 fun x10 hx10 hs5=>A0 (D1 rfl) rfl<|Q9 [2,3] (X1 [2,3] rfl K2 rfl rfl) (seen0 rfl) (C5 rfl rfl rfl) rfl<|qm rfl<|qm rfl<|Q9 [2,3] (X1 [2,3] rfl K2 rfl rfl) (seen0 rfl) (E1 (f:=cI) rfl rfl hx8) rfl<|Q9 [2,3] (X1 [2,3] rfl K2 rfl rfl) (seen0 rfl) (E5 rfl rfl) rfl<|Q9 [2,3] (X1 [2,3] rfl K2 rfl rfl) (seen0 rfl) (E1 (f:=A7) rfl rfl hx9) rfl<|Q9 [2,3] (X1 [2,3] rfl K2 rfl rfl) (seen0 rfl) (M6 rfl rfl) rfl<|A0 E7 rfl<|A0 E7 rfl<|A8j [0] [(.cells (A4 a0)),(.arr 1 false (List.map cI s1.2)),(.cells (A7 x9)),(.cells (A7 (DrLook.mk (ByteArray.mk #[]) ([]:List Int) 0)))] (X1 [] rfl (A7r rfl A5e K2) rfl rfl) (seen0 rfl) (D2 (ds:=(A7 x9)) rfl rfl rfl rfl (C6 rfl) rfl) rfl rfl rfl<|A0 (D1 rfl) rfl<|Q9 [2,3] (X1 [2,3] rfl K2 rfl rfl) (B00 (b:=H.length + 0) rfl (A3v (A06 _ rfl) A7o)) (C5 rfl rfl rfl) rfl<|qm rfl<|Q9 [2,3] (X1 [2,3] rfl K2 rfl rfl) (B0z rfl) (E1 (f:=A7) rfl rfl hx10) rfl<|Q9 [2,3] (X1 [2,3] rfl K2 rfl rfl) (B0z rfl) (M6 rfl rfl) rfl<|I2 (D2 (ds:=(A7 x10)) rfl rfl rfl rfl (C6 rfl) rfl) rfl<|es (ra8 rfl rfl rfl rfl rfl rfl rfl rfl)<|B6<|s0<|oB hs5 fun x11 hx11 hs5=>oB hs5 fun x12 hx12 hs5=>A0 (C2 rfl rfl rfl) rfl<|A0 (C2 rfl rfl rfl) rfl<|B4 (rs:=[(.seq 1 (List.map cI x11))]) rfl rfl (A2 (C9 rfl) (A2 (C9 rfl) B5)) ((A5l hx11).frz)<|B4 (rs:=[.b x12]) rfl rfl (A2 rfl (A2 rfl B5)) ((A4u hx12).frz)<|A0 (S4 rfl) rfl<|es (ra9 rfl rfl rfl rfl rfl rfl rfl rfl rfl)<|wi hs5 rfl (fun hc13 hs5=>?_) fun hc13 hs5=>?_
     ·refine F2<|r0<|qm rfl<|A0 (E8 rfl rfl) rfl<|qm rfl<|en (ra6 rfl rfl rfl rfl rfl rfl) ?_
      cases hs5
      exact lnT () rfl (su6 rfl rfl rfl rfl rfl rfl)
     ·refine C1<|B6<|s0<|oB hs5 fun x14 hx14 hs5=>A0 (D1 rfl) rfl<|A0 (C5 rfl rfl rfl) rfl<|A0 (E1 (f:=cI) rfl rfl hx14) rfl<|A0 (E5 rfl rfl) rfl<|qm rfl<|A0 (F6 rfl rfl) rfl<|es (ra9 rfl rfl rfl rfl rfl rfl rfl rfl rfl)<|wi hs5 rfl (fun hc15 hs5=>?_) fun hc15 hs5=>?_
      ·refine r0<|qm rfl<|A0 (D1 rfl) rfl<|A0 (C5 rfl rfl rfl) rfl<|A0 (E8 rfl rfl) rfl<|qm rfl<|en (ra7 rfl rfl rfl rfl rfl rfl rfl)<|s0<|oB hs5 fun x16 hx16 hs5=>A0 (D1 rfl) rfl<|A0 (C5 rfl rfl rfl) rfl<|A0 (E1 (f:=cI) rfl rfl hx16) rfl<|A0 (E5 rfl rfl) rfl<|qm rfl<|A0 (F6 rfl rfl) rfl<|es (ra8 rfl rfl rfl rfl rfl rfl rfl rfl)<|wi hs5 rfl (fun hc17 hs5=>?_) fun hc17 hs5=>?_
       ·refine r0<|qm rfl<|A0 (D1 rfl) rfl<|A0 (C5 rfl rfl rfl) rfl<|A0 (Z8 rfl rfl) rfl<|qm rfl<|en (ra6 rfl rfl rfl rfl rfl rfl)<|r0<|qm rfl<|A0 (E8 rfl rfl) rfl<|qm rfl<|en (ra6 rfl rfl rfl rfl rfl rfl) ?_
        cases hs5
        exact lnT () rfl (su6 rfl rfl rfl rfl rfl rfl)
       ·refine C1<|r0<|qm rfl<|A0 (E8 rfl rfl) rfl<|qm rfl<|en (ra6 rfl rfl rfl rfl rfl rfl) ?_
        cases hs5
        exact lnT () rfl (su6 rfl rfl rfl rfl rfl rfl)
      ·refine C1<|s0<|oB hs5 fun x18 hx18 hs5=>A0 (D1 rfl) rfl<|A0 (C5 rfl rfl rfl) rfl<|A0 (E1 (f:=cI) rfl rfl hx18) rfl<|A0 (E5 rfl rfl) rfl<|qm rfl<|A0 (F6 rfl rfl) rfl<|es (ra8 rfl rfl rfl rfl rfl rfl rfl rfl)<|wi hs5 rfl (fun hc19 hs5=>?_) fun hc19 hs5=>?_
       ·refine r0<|qm rfl<|A0 (D1 rfl) rfl<|A0 (C5 rfl rfl rfl) rfl<|A0 (Z8 rfl rfl) rfl<|qm rfl<|en (ra6 rfl rfl rfl rfl rfl rfl)<|r0<|qm rfl<|A0 (E8 rfl rfl) rfl<|qm rfl<|en (ra6 rfl rfl rfl rfl rfl rfl) ?_
        cases hs5
        exact lnT () rfl (su6 rfl rfl rfl rfl rfl rfl)
       ·refine C1<|r0<|qm rfl<|A0 (E8 rfl rfl) rfl<|qm rfl<|en (ra6 rfl rfl rfl rfl rfl rfl) ?_
        cases hs5
        exact lnT () rfl (su6 rfl rfl rfl rfl rfl rfl)
    ·refine F2 ?_
     obtain rfl:=os hs5
     exact lx rfl px (su5 rfl rfl rfl rfl rfl)
   ·rintro e s' H' - ⟨rfl,rfl,rfl⟩
    refine r0<|oB hs1 fun x21 hx21 hs1=>qm rfl<|qm rfl<|A0 (G1 (rows:=List.map cI [o20]) rfl rfl (D8 (fun _=>rfl) _)) rfl<|Q2 (U5 (f:=cI) rfl rfl rfl rfl Q6 (fun _=>rfl) hx21) rfl<|qm rfl<|en (ra4 rfl rfl rfl rfl)<|r0<|qm rfl<|A0 (E8 rfl rfl) rfl<|qm rfl<|en (ra4 rfl rfl rfl rfl) ?_
    cases hs1
    exact lnT () rfl (su4 rfl rfl rfl rfl)
  ·refine F2 ?_
   obtain rfl:=os hs1
   exact lx rfl px (su1 rfl)
 ·rintro e s' H' - ⟨rfl,rfl,rfl⟩
  refine s0<|qm rfl<|qm rfl<|es (ra1 rfl)<|C4 ?_
  obtain rfl:=os h
  exact retq trivial (B1 rfl B7) (A5 (A1r rfl (List.length_map _)) B9) (A3 T6 B2)
def A03 (a0:(List Int)) (s1:(Int × Int × (List Int))):Option ((Int × Int × (List Int)) ⊕ (Int × (List Int))) :=
 if (decide (s1.2.1 < (List.length a0:Int))) = true then
  (idx a0 s1.2.1).bind fun x4 =>
  (app 8 s1.2.2 [(A9p 0 (w64 (0 - x4)))]).bind fun x5 =>
  some (.inl ((w64 (s1.1 + (A9p 0 (w64 (0 - x4))))),(w64 (s1.2.1 + 1)),x5))
 else
  some (.inr (s1.1,s1.2.2))
def Y5 (a0:(List Int)):Option ((List Int) × Int) :=
 (loop (A03 a0) (0,0,([]:List Int))).bind fun (o6:(Int × (List Int))) =>
 some (o6.2,o6.1)
theorem A5m {c:Sc} {H:A1} {a0:(List Int)} {r:((List Int) × Int)} (h:Y5 a0 = some r) :
  E9 tab c H (.fn (.func 79) [] []) [(.seq 1 (List.map cI a0))] [(.fresh 1 (List.map cI r.1)),.i r.2]:= by
 unfold Y5 at h
 refine cE rfl rfl<|s0<|qm rfl<|qm rfl<|es (ra1 rfl)<|sg 0 rfl<|A0 A2k rfl<|es (ra2 rfl rfl)<|s0<|qm rfl<|es (ra3 rfl rfl rfl)<|B6<|s0<|qm rfl<|es (ra4 rfl rfl rfl rfl)<|C3<|oB h fun o6 ho6 h=>wl (fun s1=>[(0,(.seq 1 (List.map cI a0))),(4,(.asl (H.length + 0) (List.length s1.2.2))),(5,.i s1.1),(6,.i s1.2.1)]) (fun (q2:Unit) s1=>[(.arr 1 false (List.map cI s1.2.2))]) 1 (fun r e s' H'=>PX 0 [(4,(.asl (H.length + 0) (List.length r.2))),(5,.i r.1)] (H++[(.arr 1 false (List.map cI r.2))]) e s' H') () ho6 rfl rfl (fun _ _=>rfl) (fun _=>rfl) rfl (fun s1=>(bdc E3 (bdc (W9 rfl) (bdc A8 (bdc A8 bdn))))) (fun q2 s1 ys1 hs1=>?_) ?_
 ·unfold A03 at hs1
  refine B6<|s0<|qm rfl<|qm rfl<|A0 (D4 (f:=cI) rfl) rfl<|A0 (G2 rfl rfl) rfl<|es (ra5 rfl rfl rfl rfl rfl)<|wi hs1 rfl (fun hc3 hs1=>?_) fun hc3 hs1=>?_
  ·refine C1<|B6<|C3<|s0<|oB hs1 fun x4 hx4 hs1=>qm rfl<|qm rfl<|A0 (E1 (f:=cI) rfl rfl hx4) rfl<|A0 (E5 rfl rfl) rfl<|A0 (Z8 rfl rfl) rfl<|A0 (D6j rfl rfl) rfl<|qm rfl<|es (ra5 rfl rfl rfl rfl rfl)<|s0<|oB hs1 fun x5 hx5 hs1=>qm rfl<|qm rfl<|A0 (G1 (rows:=List.map cI [(A9p 0 (w64 (0 - x4)))]) rfl rfl (D8 (fun _=>rfl) _)) rfl<|Q2 (U5 (f:=cI) rfl rfl rfl rfl Q6 (fun _=>rfl) hx5) rfl<|qm rfl<|es (ra5 rfl rfl rfl rfl rfl)<|r0<|qm rfl<|qm rfl<|A0 (E8 rfl rfl) rfl<|qm rfl<|en (ra4 rfl rfl rfl rfl)<|r0<|qm rfl<|A0 (E8 rfl rfl) rfl<|qm rfl<|en (ra4 rfl rfl rfl rfl) ?_
   cases hs1
   exact lnT () rfl (su4 rfl rfl rfl rfl)
  ·refine F2 ?_
   obtain rfl:=os hs1
   exact lx rfl px (su2 rfl rfl)
 ·rintro e s' H' - ⟨rfl,rfl,rfl⟩
  refine s0<|qm rfl<|qm rfl<|qm rfl<|qm rfl<|es (ra2 rfl rfl)<|C4 ?_
  obtain rfl:=os h
  exact retq trivial (B1 rfl (B1 rfl B7)) (A5 (A1r rfl (List.length_map _)) (A5 rfl B9)) (A3 T6 (A3 A8 B2))
def T3 (a0:DrRoom) (a1:(List Int)):Option Bool :=
 (Z3 a0 a1).bind fun x1 =>
 (Y5 x1).bind fun x2 =>
 some (x2.2 == 0)
theorem A7a {c:Sc} {H:A1} {a0:DrRoom} {a1:(List Int)} {r:Bool} (h:T3 a0 a1 = some r) :
  E9 tab c H (.fn (.func 39) [] []) [(.agg (A4 a0)),(.seq 1 (List.map cI a1))] [.b r]:= by
 unfold T3 at h
 refine cE rfl rfl<|sg 0 rfl<|A0 (F5 (cs:=A4 a0) rfl rfl rfl) rfl<|qm rfl<|es (ra2 rfl rfl)<|s0<|oB h fun x1 hx1 h=>oB h fun x2 hx2 h=>A0 (C2 rfl rfl rfl) rfl<|qm rfl<|B4 (rs:=[(.seq 1 (List.map cI x1))]) rfl rfl (A2 (C9 rfl) (A2 rfl B5)) ((A31 hx1).frz)<|B4 (rs:=[(.seq 1 (List.map cI x2.1)),.i x2.2]) rfl rfl (A2 rfl B5) ((A5m hx2).frz)<|qm rfl<|A0 (A6 rfl rfl) rfl<|A0 (A6 rfl rfl) rfl<|qm rfl<|qm rfl<|es (ra1 rfl)<|s0<|qm rfl<|A0 (F6 rfl rfl) rfl<|qm rfl<|es (ra1 rfl)<|C4 ?_
 obtain rfl:=os h
 exact retq trivial (B1 rfl B7) (A5 rfl B9) (A3 A8 B2)
def A3a (a0:DrRoom) (a1:(List Int)) (s1:(Int × Int)):Option ((Int × Int) ⊕ Int) :=
 if (decide (s1.2 < (List.length a1:Int))) = true then
  (idx a1 s1.2).bind fun x4 =>
  (idx a0.Figures x4).bind fun x5 =>
  (idx a0.Persons s1.2).bind fun x6 =>
  (A45 a0 x5 x6).bind fun x7 =>
  some (.inl ((w64 (s1.1 + x7)),(w64 (s1.2 + 1))))
 else
  some (.inr s1.1)
def X6 (a0:DrRoom) (a1:(List Int)):Option Int :=
 (loop (A3a a0 a1) (0,0)).bind fun (o8:Int) =>
 some o8
theorem A4v {c:Sc} {H:A1} {a0:DrRoom} {a1:(List Int)} {r:Int} (h:X6 a0 a1 = some r) :
  E9 tab c H (.fn (.func 41) [] []) [(.agg (A4 a0)),(.seq 1 (List.map cI a1))] [.i r]:= by
 unfold X6 at h
 refine cE rfl rfl<|sg 0 rfl<|A0 (F5 (cs:=A4 a0) rfl rfl rfl) rfl<|qm rfl<|es (ra2 rfl rfl)<|s0<|qm rfl<|es (ra3 rfl rfl rfl)<|B6<|s0<|qm rfl<|es (ra4 rfl rfl rfl rfl)<|C3<|oB h fun o8 ho8 h=>wl (fun s1=>[(1,(.seq 1 (List.map cI a1))),(2,(.ptr (H.length + 0) 0)),(5,.i s1.1),(6,.i s1.2)]) (fun (q2:Unit) s1=>[(.cells (A4 a0))]) 1 (fun r e s' H'=>PX 0 [(5,.i r)] (H++[(.cells (A4 a0))]) e s' H') () ho8 rfl rfl (fun _ _=>rfl) (fun _=>rfl) rfl (fun s1=>(bdc E3 (bdc (F0 rfl) (bdc A8 (bdc A8 bdn))))) (fun q2 s1 ys1 hs1=>?_) ?_
 ·unfold A3a at hs1
  refine B6<|s0<|qm rfl<|qm rfl<|A0 (D4 (f:=cI) rfl) rfl<|A0 (G2 rfl rfl) rfl<|es (ra5 rfl rfl rfl rfl rfl)<|wi hs1 rfl (fun hc3 hs1=>?_) fun hc3 hs1=>?_
  ·refine C1<|B6<|C3<|r0<|oB hs1 fun x4 hx4 hs1=>oB hs1 fun x5 hx5 hs1=>oB hs1 fun x6 hx6 hs1=>oB hs1 fun x7 hx7 hs1=>A0 (C2 rfl rfl rfl) rfl<|A0 (D1 rfl) rfl<|A0 (C5 rfl rfl rfl) rfl<|qm rfl<|qm rfl<|A0 (E1 (f:=cI) rfl rfl hx4) rfl<|A0 (E5 rfl rfl) rfl<|A0 (E1 (f:=A7) rfl rfl hx5) rfl<|A0 (M6 rfl rfl) rfl<|A0 (D1 rfl) rfl<|A0 (C5 rfl rfl rfl) rfl<|qm rfl<|A0 (E1 (f:=A7) rfl rfl hx6) rfl<|A0 (M6 rfl rfl) rfl<|B4 (rs:=[.i x7]) rfl rfl (A2 (C9 rfl) (A2 (C9 rfl) (A2 (C9 rfl) B5))) ((B3l hx7).frz)<|qm rfl<|A0 (E8 rfl rfl) rfl<|qm rfl<|en (ra4 rfl rfl rfl rfl)<|r0<|qm rfl<|A0 (E8 rfl rfl) rfl<|qm rfl<|en (ra4 rfl rfl rfl rfl) ?_
   cases hs1
   exact lnT () rfl (su4 rfl rfl rfl rfl)
  ·refine F2 ?_
   obtain rfl:=os hs1
   exact lx rfl px (su1 rfl)
 ·rintro e s' H' - ⟨rfl,rfl,rfl⟩
  refine s0<|qm rfl<|qm rfl<|es (ra1 rfl)<|C4 ?_
  obtain rfl:=os h
  exact retq trivial (B1 rfl B7) (A5 rfl B9) (A3 A8 B2)
end Ds
end
section
namespace Ds
open Go Am
abbrev Prs:=List (Nat × DrLook)
def cst (r:DrRoom) (x:Nat × DrLook):Int:=one r r.Figures[x.1]! x.2
def hr (r:DrRoom) (c:Nat) (x:Nat × DrLook):Int:=A8x r.Figures[x.1]! x.2 (c:Int)
def A3e (r:DrRoom) (z:Prs):Int:=sm (z.map (cst r))
def E4 (r:DrRoom) (z:Prs) (c:Nat):Int:=r.Ounces.getD c 0 + sm (z.map (hr r c))
def J1 (r:DrRoom) (z:Prs):dress_plan:=⟨ints (z.map (·.1)),A3e r z,⟨E4 r z 0,E4 r z 1,E4 r z 2,E4 r z 3⟩⟩
def B1j (r:DrRoom) (z:Prs):Prop:=z.length≤5∧∀ x ∈ z,x.1 < r.Figures.length∧LkOk r (-1) x.2
theorem D2x {r:DrRoom} (ok:RmOk r) (x:Nat × DrLook):0≤cst r x∧cst r x≤400:=D4b ok _ _
theorem A8s {r:DrRoom} (ok:RmOk r) (z:Prs):0≤A3e r z∧A3e r z≤400 * z.length:= by
 have:=C19 (a:=0) (b:=400) (l:=z.map (cst r)) fun x hx=>by
  obtain ⟨k,_,rfl⟩:=List.mem_map.mp hx
  exact D2x ok k
 rw [List.length_map] at this
 unfold A3e; omega
theorem D7m {r:DrRoom} (ok:RmOk r) (c:Nat) {x:Nat × DrLook} (h:x.1 < r.Figures.length∧LkOk r (-1) x.2):-50≤hr r c x∧hr r c x≤50:= by
 have h1:=(ok.figure _ (J0 h.1)).hair
 have h2:=h.2.hair
 unfold hr A8x
 split
 ·split <;> split <;> omega
 ·omega
theorem C5s {r:DrRoom} (ok:RmOk r) (c:Nat):0≤r.Ounces.getD c 0∧r.Ounces.getD c 0≤50:= by
 rw [List.getD_eq_getElem?_getD]
 by_cases h:c < r.Ounces.length
 ·rw [List.getElem?_eq_getElem h]; exact ok.ounce _ (List.getElem_mem h)
 ·rw [List.getElem?_eq_none (by omega)]; decide
theorem A9l {r:DrRoom} (ok:RmOk r) {z:Prs} (hz:B1j r z) (c:Nat):-250≤E4 r z c∧E4 r z c≤300:= by
 have:=C19 (a:=-50) (b:=50) (l:=z.map (hr r c)) fun x hx=>by
  obtain ⟨k,hk,rfl⟩:=List.mem_map.mp hx
  exact D7m ok c (hz.2 k hk)
 have h2:=C5s ok c
 have h3:=hz.1
 rw [List.length_map] at this
 unfold E4; omega
theorem B1j.take {r:DrRoom} {z:Prs} (h:B1j r z) (n:Nat):B1j r (z.take n) :=
 ⟨by have:=h.1; rw [List.length_take]; omega,fun x hx=>h.2 x (List.mem_of_mem_take hx)⟩
theorem D11 (r:DrRoom) (z:Prs) (x:Nat × DrLook):A3e r (z++[x]) = A3e r z + cst r x:= by
 unfold A3e; rw [List.map_append,A46]; simp [sm]
theorem C7n (r:DrRoom) (z:Prs) (x:Nat × DrLook) (c:Nat):E4 r (z++[x]) c = E4 r z c + hr r c x:= by
 unfold E4; rw [List.map_append,A46]; simp [sm]; omega
theorem C98 {r:DrRoom} (ok:RmOk r) {z:Prs} (hz:B1j r z) {f:Nat} {p:DrLook} (hx:f < r.Figures.length∧LkOk r (-1) p):U8 (J1 r z) (f:Int) (chg r r.Figures[f]! p) = some (J1 r (z++[(f,p)])):= by
 have hl:=hz.1
 have hs:=A8s ok z
 have hc:=D4b ok r.Figures[f]! p
 have hb:∀c:Nat,w64 (E4 r z c + A8x r.Figures[f]! p (c:Int)) = E4 r (z++[(f,p)]) c:=fun c=>by
  have h1:=A9l ok hz c
  have h2:=D7m ok c (x:=(f,p)) hx
  rw [C7n]
  have h2':-50≤A8x r.Figures[f]! p (c:Int)∧A8x r.Figures[f]! p (c:Int)≤50:=h2
  exact E0 (by omega)
 unfold U8
 rw [T0 (by omega) (by show (ints _).length + 1≤_; rw [F4,List.length_map]; omega)]
 simp only [Option.bind_some]
 have h0:=hb 0
 have h1:=hb 1
 have h2:=hb 2
 have h3:=hb 3
 have hloop:loop (T8 (chg r r.Figures[f]! p)) (0,(J1 r z).left_) = some (J1 r (z++[(f,p)])).left_:= by
  have:=H7 (b:=T8 (chg r r.Figures[f]! p)) (fun i=>((i:Int),(match i with
   | 0=>⟨E4 r z 0,E4 r z 1,E4 r z 2,E4 r z 3⟩
   | 1=>⟨E4 r (z++[(f,p)]) 0,E4 r z 1,E4 r z 2,E4 r z 3⟩
   | 2=>⟨E4 r (z++[(f,p)]) 0,E4 r (z++[(f,p)]) 1,E4 r z 2,E4 r z 3⟩
   | 3=>⟨E4 r (z++[(f,p)]) 0,E4 r (z++[(f,p)]) 1,E4 r (z++[(f,p)]) 2,E4 r z 3⟩
   | _=>(J1 r (z++[(f,p)])).left_:Ar4 Int))) 4 (r:=(J1 r (z++[(f,p)])).left_) (by omega) (fun i hi=>by
   unfold T8
   generalize r.Figures[f]! = F at h0 h1 h2 h3 ⊢
   rcases (by omega:i = 0∨i = 1∨i = 2∨i = 3) with rfl | rfl | rfl | rfl <;> simp [idx,Ar4.l,Ar4.set,chg,J1]
   ·exact ⟨E0 (by omega),h0⟩
   ·exact ⟨E0 (by omega),h1⟩
   ·exact ⟨E0 (by omega),h2⟩
   ·exact ⟨E0 (by omega),h3⟩) rfl
  exact this
 rw [hloop]
 simp only [Option.bind_some,Option.some.injEq]
 have e1:w64 (A3e r z + one r r.Figures[f]! p) = A3e r (z++[(f,p)]):= by
  rw [D11]; exact E0 (by omega)
 show (⟨ints (z.map (·.1))++[(f:Int)],w64 (A3e r z + one r r.Figures[f]! p),(J1 r (z++[(f,p)])).left_⟩:dress_plan) = J1 r (z++[(f,p)])
 rw [e1]
 unfold J1 ints
 simp
def below (x:Int):Int:=if x < 0 then -x else 0
def T9 (r:DrRoom) (z:Prs):List Int:=(List.range r.Ounces.length).map fun c=>below (E4 r z c)
def A48 (r:DrRoom) (z:Prs):Bool:=(List.range r.Ounces.length).all fun c=>decide (0≤E4 r z c)
theorem D3c {r:DrRoom} (ok:RmOk r) {x:Nat × DrLook} (h:x.1 < r.Figures.length∧LkOk r (-1) x.2) {c:Nat} (hc:r.Ounces.length≤c):hr r c x = 0:= by
 have h1:=(ok.figure _ (J0 h.1)).col
 have h2:=h.2.col
 unfold hr A8x
 have e1:r.Figures[x.1]!.Looks[0]! ≠ (c:Int):= by omega
 have e2:x.2.Looks[0]! ≠ (c:Int):= by omega
 rw [if_neg e1,if_neg e2]
 simp
theorem C5a {r:DrRoom} (ok:RmOk r) {z:Prs} (hz:B1j r z) {c:Nat} (hc:r.Ounces.length≤c):E4 r z c = 0:= by
 unfold E4
 rw [List.getD_eq_getElem?_getD,List.getElem?_eq_none hc,D65 fun x hx=>D3c ok (hz.2 x hx) hc]; rfl
theorem C0t {x:Int} (h:-1000≤x∧x≤1000):A9p 0 (w64 (0 - x)) = below x:= by
 rw [E0 (by omega)]
 unfold A9p below
 split <;> split <;> omega
theorem B2l {x:Int} (h:-1000≤x∧x≤1000):0≤below x∧below x≤1000:= by
 unfold below; split <;> omega
theorem A9k {r:DrRoom} (ok:RmOk r) {z:Prs} (hz:B1j r z):H8 (J1 r z) = some (⟨below (E4 r z 0),below (E4 r z 1),below (E4 r z 2),below (E4 r z 3)⟩,sm (T9 r z)):= by
 have hb:∀c,-1000≤E4 r z c∧E4 r z c≤1000:=fun c=>by have:=A9l ok hz c; omega
 have m:=fun c=>C0t (hb c)
 have q:=fun c=>B2l (hb c)
 have q0:=q 0
 have q1:=q 1
 have q2:=q 2
 have q3:=q 3
 have hs:sm (T9 r z) = below (E4 r z 0) + below (E4 r z 1) + below (E4 r z 2) + below (E4 r z 3):= by
  have ho:=ok.ounces
  have hf:∀c,r.Ounces.length≤c→below (E4 r z c) = 0:=fun c hc=>by rw [C5a ok hz hc]; rfl
  unfold T9
  rcases (by omega:r.Ounces.length = 1∨r.Ounces.length = 2∨r.Ounces.length = 3∨r.Ounces.length = 4) with e | e | e | e <;> rw [e] at hf ⊢
  ·rw [hf 1 (by omega),hf 2 (by omega),hf 3 (by omega)]; simp [List.range,List.range.loop,sm]
  ·rw [hf 2 (by omega),hf 3 (by omega)]; simp [List.range,List.range.loop,sm]
  ·rw [hf 3 (by omega)]; simp [List.range,List.range.loop,sm]; omega
  ·simp [List.range,List.range.loop,sm]; omega
 unfold H8
 have m0:=m 0
 rw [Int.zero_sub] at m0
 have m1:=m 1
 rw [Int.zero_sub] at m1
 have m2:=m 2
 rw [Int.zero_sub] at m2
 have m3:=m 3
 rw [Int.zero_sub] at m3
 have:=H7 (b:=S6 (J1 r z)) (fun i=>(match i with
   | 0=>(0,0,⟨0,0,0,0⟩)
   | 1=>(below (E4 r z 0),1,⟨below (E4 r z 0),0,0,0⟩)
   | 2=>(below (E4 r z 0) + below (E4 r z 1),2,⟨below (E4 r z 0),below (E4 r z 1),0,0⟩)
   | 3=>(below (E4 r z 0) + below (E4 r z 1) + below (E4 r z 2),3,⟨below (E4 r z 0),below (E4 r z 1),below (E4 r z 2),0⟩)
   | _=>(sm (T9 r z),4,⟨below (E4 r z 0),below (E4 r z 1),below (E4 r z 2),below (E4 r z 3)⟩):Int × Int × Ar4 Int)) 4 (r:=(sm (T9 r z),⟨below (E4 r z 0),below (E4 r z 1),below (E4 r z 2),below (E4 r z 3)⟩)) (by omega) (fun i hi=>by
  unfold S6
  rcases (by omega:i = 0∨i = 1∨i = 2∨i = 3) with rfl | rfl | rfl | rfl
  ·simp only [J1,idx,Ar4.l,Ar4.set]
   simp [m0]
   first | exact ⟨E0 (by omega),E0 (by omega)⟩ | exact E0 (by omega)
  ·simp only [J1,idx,Ar4.l,Ar4.set]
   simp [m1]
   first | exact ⟨E0 (by omega),E0 (by omega)⟩ | exact E0 (by omega)
  ·simp only [J1,idx,Ar4.l,Ar4.set]
   simp [m2]
   first | exact ⟨E0 (by omega),E0 (by omega)⟩ | exact E0 (by omega)
  ·simp only [J1,idx,Ar4.l,Ar4.set]
   simp [m3,hs]
   first | exact ⟨E0 (by omega),E0 (by omega)⟩ | exact E0 (by omega)) rfl
 rw [show ((0:Int),(0:Int),(Ar4.mk (0:Int) 0 0 0)) = (match (0:Nat) with
   | 0=>(0,0,⟨0,0,0,0⟩)
   | 1=>(below (E4 r z 0),1,⟨below (E4 r z 0),0,0,0⟩)
   | 2=>(below (E4 r z 0) + below (E4 r z 1),2,⟨below (E4 r z 0),below (E4 r z 1),0,0⟩)
   | 3=>(below (E4 r z 0) + below (E4 r z 1) + below (E4 r z 2),3,⟨below (E4 r z 0),below (E4 r z 1),below (E4 r z 2),0⟩)
   | _=>(sm (T9 r z),4,⟨below (E4 r z 0),below (E4 r z 1),below (E4 r z 2),below (E4 r z 3)⟩):Int × Int × Ar4 Int) from rfl,this]; rfl
theorem B7e {x:Int}:(below x == 0) = decide (0≤x):= by
 unfold below
 rw [Bool.eq_iff_iff,beq_iff_eq,decide_eq_true_eq]
 split <;> omega
theorem B7c {r:DrRoom} (ok:RmOk r) {z:Prs} (hz:B1j r z):L9 (J1 r z) = some (A48 r z):= by
 unfold L9
 rw [A9k ok hz]
 simp only [Option.bind_some,B7e,Bool.and_true,Option.some.injEq]
 have ho:=ok.ounces
 have hf:∀c,r.Ounces.length≤c→decide (0≤E4 r z c) = true:=fun c hc=>by rw [C5a ok hz hc]; rfl
 unfold A48
 rcases (by omega:r.Ounces.length = 1∨r.Ounces.length = 2∨r.Ounces.length = 3∨r.Ounces.length = 4) with e | e | e | e <;> rw [e] at hf ⊢
 ·rw [hf 1 (by omega),hf 2 (by omega),hf 3 (by omega)]; simp [List.range,List.range.loop]
 ·rw [hf 2 (by omega),hf 3 (by omega)]; simp [List.range,List.range.loop]
 ·rw [hf 3 (by omega)]; simp [List.range,List.range.loop]
 ·simp [List.range,List.range.loop]
theorem D05 {r:DrRoom} {z:Prs}:(sm (T9 r z) == 0) = A48 r z:= by
 unfold T9 A48
 induction (List.range r.Ounces.length) with
 | nil=>rfl
 | cons c l ih =>
  have h0:∀l:List Nat,0≤sm (l.map fun c=>below (E4 r z c)):=fun l=>by
   have:∀x ∈ l.map fun c=>below (E4 r z c),0≤x:=fun x hx=>by
    obtain ⟨k,_,rfl⟩:=List.mem_map.mp hx
    unfold below; split <;> omega
   revert this
   generalize l.map (fun c=>below (E4 r z c)) = m
   intro this
   induction m with
   | nil=>exact Int.le_refl _
   | cons x l ih =>
    have h1:=this x (List.mem_cons_self ..)
    have h2:=ih fun y hy=>this y (List.mem_cons_of_mem _ hy)
    simp only [sm]; omega
  have h1:=h0 l
  have h2:0≤below (E4 r z c):= by unfold below; split <;> omega
  rw [List.all_cons,← ih,← B7e,Bool.eq_iff_iff,Bool.and_eq_true,beq_iff_eq,beq_iff_eq,beq_iff_eq]
  simp only [List.map_cons,sm]
  omega
theorem C3w {q:List Nat} {ps:List DrLook} {i:Nat} (h:i < q.length) (h2:q.length≤ps.length):(q.zip ps)[i]! = (q[i]!,ps[i]!):= by
 rw [getElem!_pos _ i (by rw [List.length_zip]; omega),List.getElem_zip,getElem!_pos q i h,getElem!_pos ps i (by omega)]
theorem B33 {q:List Nat} {ps:List DrLook} (h:q.length≤ps.length):(q.zip ps).length = q.length:= by
 rw [List.length_zip]; omega
theorem A4b {q:List Nat} {i:Nat} (h:i < q.length):idx (ints q) (i:Int) = some ((q[i]!:Nat):Int) :=
 A2y (by unfold ints; rw [List.getElem?_map,List.getElem?_eq_getElem h,getElem!_pos q i h]; rfl)
structure QOk (r:DrRoom) (q:List Nat):Prop where
 len:q.length≤r.Persons.length
 fig:∀x ∈ q,x < r.Figures.length
def prs (r:DrRoom) (q:List Nat):Prs:=q.zip r.Persons
theorem QOk.pr {r:DrRoom} (ok:RmOk r) {q:List Nat} (h:QOk r q):B1j r (prs r q):= by
 refine ⟨by unfold prs; rw [B33 h.len]; have:=ok.persons; have:=h.len; omega,fun x hx=>?_⟩
 have:=List.of_mem_zip (a:=x.1) (b:=x.2) hx
 exact ⟨h.fig _ this.1,ok.person _ this.2⟩
theorem C6x {r:DrRoom} (ok:RmOk r) {q:List Nat} (h:QOk r q):X6 r (ints q) = some (A3e r (prs r q)):= by
 have hP:=ok.persons
 have hl:=h.len
 have hz:=h.pr ok
 have hzl:(prs r q).length = q.length:=B33 h.len
 unfold X6
 have:=B0q (b:=A3a r (ints q)) (prs r q) (fun (t:Int) x=>t + cst r x) 0 (fun i t=>(t,(i:Int))) (r:=A3e r (prs r q)) (by omega) (fun i hi=>by
  rw [A5d (cst r)]
  have hs:=A8s ok ((prs r q).take i)
  rw [List.length_take] at hs
  have hx:=D2x ok (prs r q)[i]!
  have hi2:i < q.length:= by omega
  have e:(prs r q)[i]! = (q[i]!,r.Persons[i]!):=C3w hi2 h.len
  unfold A3a
  simp only []
  rw [if_pos (by rw [F4]; simpa using hi2),A4b hi2]
  simp only [Option.bind_some]
  have hf:=h.fig _ (J0 hi2)
  rw [I1 hf,I1 (by omega)]
  simp only [Option.bind_some]
  rw [D2a ok (ok.figure _ (J0 hf)).len (ok.person _ (J0 (by omega))).len]
  simp only [Option.bind_some]
  rw [show one r r.Figures[q[i]!]! r.Persons[i]! = cst r (prs r q)[i]! by rw [e]; rfl]
  unfold A3e at hs
  rw [E0 (by omega),E0 (by omega)]
  rfl) (by
  unfold A3a
  simp only []
  rw [if_neg (by rw [F4,hzl]; simp),A5d (cst r)]
  unfold A3e; simp)
 rw [show ((0:Int),(0:Int)) = ((0:Int),((0:Nat):Int)) from rfl,this]; rfl
theorem D3d (n:Nat) (f p:DrLook) (hn:1≤n):(ints (N7 n f p)).any (· == 0) = ck f p 0:= by
 rw [Bool.eq_iff_iff,List.any_eq_true]
 constructor
 ·rintro ⟨x,hx,e⟩
  unfold ints N7 at hx
  obtain ⟨k,hk,rfl⟩:=List.mem_map.mp hx
  have:k = 0:= by simpa using e
  subst this
  exact (List.mem_filter.mp hk).2
 ·intro h
  refine ⟨0,?_,rfl⟩
  unfold ints N7
  exact List.mem_map.mpr ⟨0,List.mem_filter.mpr ⟨by simp; omega,h⟩,rfl⟩
theorem hair1 {r:DrRoom} (ok:RmOk r) {q:List Nat} (h:QOk r q) (c:Nat) (hc:c < r.Ounces.length) (l0:List Int):loop (A0i r (ints q) ((c:Int),l0)) (r.Ounces[c]!,0) = some (E4 r (prs r q) c):= by
 have hP:=ok.persons
 have hC:=ok.costs
 have hl:=h.len
 have hz:=h.pr ok
 have hzl:(prs r q).length = q.length:=B33 h.len
 have hd:r.Ounces.getD c 0 = r.Ounces[c]!:= by rw [List.getD_eq_getElem?_getD,List.getElem?_eq_getElem hc,getElem!_pos _ c hc]; rfl
 have:=B0q (b:=A0i r (ints q) ((c:Int),l0)) (prs r q) (fun (t:Int) x=>t + hr r c x) r.Ounces[c]! (fun i t=>(t,(i:Int))) (r:=E4 r (prs r q) c) (by omega) (fun i hi=>by
  rw [A5d (hr r c)]
  have hs:=A9l ok (hz.take i) c
  unfold E4 at hs
  rw [hd] at hs
  have hi2:i < q.length:= by omega
  have e:(prs r q)[i]! = (q[i]!,r.Persons[i]!):=C3w hi2 h.len
  have hf:=h.fig _ (J0 hi2)
  have lf:=ok.figure _ (J0 hf)
  have lp:=ok.person _ (J0 (l:=r.Persons) (i:=i) (by omega))
  generalize r.Ounces[c]! + sm (List.map (hr r c) ((prs r q).take i)) = t at hs ⊢
  unfold A0i
  simp only []
  rw [if_pos (by rw [F4]; simpa using hi2),A4b hi2]
  simp only [Option.bind_some]
  rw [I1 hf,I1 (by omega)]
  simp only [Option.bind_some]
  rw [B67 ok lf.len lp.len]
  simp only [Option.bind_some]
  rw [C2k _ _ (by rw [F4]; have:=P3 r.Costs.length r.Figures[q[i]!]! r.Persons[i]!; omega),D3d _ _ _ hC.1,e]
  simp only [Option.bind_some]
  have h1:=lf.hair
  have h2:=lp.hair
  unfold hr A8x
  generalize r.Figures[q[i]!]! = F at lf h1 ⊢
  generalize r.Persons[i]! = P at lp h2 ⊢
  rw [show idx F.Looks 0 = some F.Looks[0]! from I1 (i:=0) (by rw [lf.len]; omega),show idx P.Looks 0 = some P.Looks[0]! from I1 (i:=0) (by rw [lp.len]; omega)]
  simp only [Option.bind_some,beq_iff_eq]
  have hw:w64 ((i:Int) + 1) = ((i + 1:Nat):Int):=E0 (by omega)
  cases ck F P 0 with
  | false=>simp only [Bool.not_false,if_true,Bool.false_eq_true,if_false,hw,Int.add_zero]
  | true =>
   simp only [Bool.not_true,Bool.false_eq_true,if_false,if_true,hw]
   by_cases c1:F.Looks[0]! = (c:Int) <;> by_cases c2:P.Looks[0]! = (c:Int) <;> simp only [c1,c2,if_true,if_false]
   ·rw [E0 (n:=t + F.Hair) (by omega),E0 (by omega)]; congr 3; omega
   ·rw [E0 (n:=t + F.Hair) (by omega)]; congr 3; omega
   ·rw [E0 (by omega)]; congr 3; omega
   ·congr 3; omega) (by
  unfold A0i
  simp only []
  rw [if_neg (by rw [F4,hzl]; simp),A5d (hr r c)]
  unfold E4; rw [hd])
 exact this
def A3g (r:DrRoom) (z:Prs):List Int:=(List.range r.Ounces.length).map (E4 r z)
theorem C2j {r:DrRoom} (ok:RmOk r) {q:List Nat} (h:QOk r q):Z3 r (ints q) = some (A3g r (prs r q)):= by
 have hO:=ok.ounces
 unfold Z3
 have:=B0q (b:=A1z r (ints q)) (List.range r.Ounces.length) (fun (t:List Int) c=>t++[E4 r (prs r q) c]) [] (fun i t=>((i:Int),t)) (r:=A3g r (prs r q)) (by simp; omega) (fun i hi=>by
  have hi2:i < r.Ounces.length:= by simpa using hi
  rw [A6j (E4 r (prs r q)),D1m hi2]
  unfold A1z
  simp only []
  rw [if_pos (by simpa using hi2),I1 hi2]
  simp only [Option.bind_some]
  rw [hair1 ok h i hi2]
  simp only [Option.bind_some]
  rw [T0 (by omega) (by simp; omega),E0 (by omega)]
  rfl) (by
  unfold A1z
  simp only []
  rw [if_neg (by simp),A6j (E4 r (prs r q))]
  simp [A3g])
 rw [show ((0:Int),([]:List Int)) = (((0:Nat):Int),([]:List Int)) from rfl,this]; rfl
theorem B3t {r:DrRoom} (ok:RmOk r) {z:Prs} (hz:B1j r z):Y5 (A3g r z) = some (T9 r z,sm (T9 r z)):= by
 have hO:=ok.ounces
 have hb:∀c,-1000≤E4 r z c∧E4 r z c≤1000:=fun c=>by have:=A9l ok hz c; omega
 unfold Y5
 have:=H7 (b:=A03 (A3g r z)) (fun i=>(sm ((List.range i).map fun c=>below (E4 r z c)),(i:Int),(List.range i).map fun c=>below (E4 r z c))) r.Ounces.length (r:=(sm (T9 r z),T9 r z)) (by omega) (fun i hi=>by
  have hs:0≤sm ((List.range i).map fun c=>below (E4 r z c))∧sm ((List.range i).map fun c=>below (E4 r z c))≤1000 * i:= by
   have:=C19 (a:=0) (b:=1000) (l:=(List.range i).map fun c=>below (E4 r z c)) fun x hx=>by
    obtain ⟨k,_,rfl⟩:=List.mem_map.mp hx
    exact B2l (hb k)
   simp at this; omega
  unfold A03
  simp only []
  rw [if_pos (by simpa [A3g] using hi),show idx (A3g r z) (i:Int) = some (E4 r z i) from A2y (by unfold A3g; rw [List.getElem?_map,List.getElem?_range hi]; rfl)]
  simp only [Option.bind_some]
  rw [C0t (hb i),T0 (by omega) (by simp; omega)]
  have hq:=B2l (hb i)
  simp only [Option.bind_some]
  rw [E0 (by omega),E0 (by omega),List.range_succ,List.map_append,A46]
  simp [sm]) (by
  unfold A03
  simp only []
  rw [if_neg (by simp [A3g])]; rfl)
 rw [show ((0:Int),(0:Int),([]:List Int)) = (sm ((List.range 0).map fun c=>below (E4 r z c)),((0:Nat):Int),(List.range 0).map fun c=>below (E4 r z c)) from rfl,this]; rfl
theorem B64 {r:DrRoom} (ok:RmOk r) {q:List Nat} (h:QOk r q):T3 r (ints q) = some (A48 r (prs r q)):= by
 unfold T3
 rw [C2j ok h]
 simp only [Option.bind_some]
 rw [B3t ok (h.pr ok)]
 simp only [Option.bind_some,D05]
end Ds
end
section
set_option maxRecDepth 100000
set_option maxHeartbeats 0
namespace Ds
open Go Am Go.Proofs.Ytdkflofgolehkaa.Cd
end Ds
end
section
namespace Ds
open Go Am
def nats (l:List Int):List Nat:=l.map Int.toNat
theorem C37 {r:DrRoom} (ok:RmOk r):begin0 r = J1 r []:= by
 have ho:=ok.ounces
 unfold begin0 J1 cpy4
 simp [ints,A3e,E4,sm,List.getD_eq_getElem?_getD]
section
variable {α β σ ρ:Type}
def X0 (f:α→σ→Option (σ ⊕ ρ)):List α→σ→Option (σ ⊕ ρ)
 | [],s=>some (.inl s)
 | a :: l,s=>(f a s).bind fun x=>match x with
  | .inl s'=>X0 f l s'
  | .inr r=>some (.inr r)
theorem B2v (f:α→σ→Option (σ ⊕ ρ)) (m:List α):∀(l:List α) (s:σ),X0 f (l++m) s = (X0 f l s).bind fun x=>match x with
  | .inl s'=>X0 f m s'
  | .inr r=>some (.inr r)
 | [],s=>rfl
 | a :: l,s=>by
  show (f a s).bind _ = ((f a s).bind _).bind _
  cases f a s with
  | none=>rfl
  | some x=>cases x with
   | inl s'=>exact B2v f m l s'
   | inr r=>rfl
theorem B7w (f:α→σ→Option (σ ⊕ ρ)) (h:β→List α):∀(l:List β) (s:σ),X0 f (l.flatMap h) s = X0 (fun b s=>X0 f (h b) s) l s
 | [],s=>rfl
 | b :: l,s=>by
  rw [List.flatMap_cons,B2v]
  show _ = (X0 f (h b) s).bind _
  cases X0 f (h b) s with
  | none=>rfl
  | some x=>cases x with
   | inl s'=>exact B7w f h l s'
   | inr r=>rfl
theorem A76 (f:α→σ→Option (σ ⊕ ρ)) (p:α→Bool):∀(l:List α) (s:σ),X0 f (l.filter p) s = X0 (fun a s=>if p a then f a s else some (.inl s)) l s
 | [],s=>rfl
 | a :: l,s=>by
  rw [List.filter_cons]
  cases h:p a with
  | false =>
   rw [if_neg (by decide),A76 f p l s]
   show _ = (if p a then f a s else some (.inl s)).bind _
   rw [h]; rfl
  | true =>
   rw [if_pos rfl]
   show (f a s).bind _ = (if p a then f a s else some (.inl s)).bind _
   rw [h,if_pos rfl]
   cases f a s with
   | none=>rfl
   | some x=>cases x with
    | inl s'=>exact A76 f p l s'
    | inr r=>rfl
def E1m (i:Nat):σ ⊕ ρ→(Int × σ) ⊕ (ρ ⊕ σ)
 | .inl s=>.inl (((i + 1:Nat):Int),s)
 | .inr r=>.inr (.inl r)
def C95:σ ⊕ ρ→ρ ⊕ σ
 | .inl s=>.inr s
 | .inr r=>.inl r
end
def A9e (n:Nat) (q:List Nat):List Nat:=(List.range n).filter fun f=>!q.contains f
def DF (n:Nat):Nat→List Nat→List (List Nat)
 | 0,q=>[q]
 | d + 1,q=>(A9e n q).flatMap fun f=>DF n d (q++[f])
def bit (u i:Nat):Bool:=u / 2 ^ i % 2 == 1
def C3u (u:Int) (q:List Nat):Prop:=∃ n:Nat,u = (n:Int)∧n < 64∧∀ f,f < 6→bit n f = q.contains f
theorem C9t:∀u:Nat,u < 64→∀ p:Nat,p < 6→orI (u:Int) ((2 ^ p:Nat):Int) = ((u ||| 2 ^ p:Nat):Int)∧(u ||| 2 ^ p) < 64:= by decide +kernel
theorem D80:∀u:Nat,u < 64→∀ p:Nat,p < 6→∀ t:Nat,t < 6→bit (u ||| 2 ^ p) t = (bit u t || t == p):= by decide +kernel
theorem C8m:C3u 0 []:=⟨0,rfl,by decide,by decide⟩
theorem D13 {u:Int} {q:List Nat} (hu:C3u u q) {p:Nat} (hp:p < 6):C3u (orI u ((2 ^ p:Nat):Int)) (q++[p]):= by
 obtain ⟨n,rfl,h1,h2⟩:=hu
 refine ⟨n ||| 2 ^ p,(C9t n h1 p hp).1,(C9t n h1 p hp).2,fun f hf=>?_⟩
 rw [D80 n h1 p hp f hf,h2 f hf,Bool.eq_iff_iff]
 simp
def B07 (n:Nat) (S k:Nat):List Nat:=(List.range n).filter fun i=>decide (k≤i) && bit S i
def A1l (r:DrRoom) (S k:Nat):List DrLook:=(B07 r.Persons.length S k).map fun i=>r.Persons[i]!
theorem B16 (n S k:Nat):B07 n S k = (List.range' k (n - k)).filter (bit S):= by
 unfold B07
 by_cases h:k≤n
 ·have e:List.range n = List.range k++List.range' k (n - k):= by
   rw [List.range_eq_range',List.range_eq_range',show List.range' k (n - k) = List.range' (0 + 1 * k) (n - k) by simp,List.range'_append]; congr 1; omega
  rw [e,List.filter_append,List.filter_eq_nil_iff.mpr (by
   intro i hi
   have:i < k:= by simpa using hi
   simp; omega),List.nil_append]
  refine List.filter_congr fun i hi=>?_
  rw [List.mem_range'_1] at hi
  rw [decide_eq_true hi.1,Bool.true_and]
 ·rw [show n - k = 0 by omega,List.range'_zero,List.filter_nil,List.filter_eq_nil_iff]
  intro i hi
  have:i < n:= by simpa using hi
  simp; omega
theorem B42 {n S k:Nat} (h:k < n):B07 n S k = if bit S k then k :: B07 n S (k + 1) else B07 n S (k + 1):= by
 rw [B16,B16,show n - k = (n - (k + 1)) + 1 by omega,List.range'_succ,List.filter_cons]
theorem D42 {n S k:Nat} (h:n≤k):B07 n S k = []:= by rw [B16,show n - k = 0 by omega]; rfl
theorem C94 (r:DrRoom) (hP:r.Persons.length≤5) {S:Nat} (hS:S < 64):∀(d k:Nat),k + d = r.Persons.length →
  ∃ k':Nat,loop (B9h r (S:Int)) (k:Int) = some (k':Int)∧k≤k'∧k'≤r.Persons.length∧B07 r.Persons.length S k = B07 r.Persons.length S k'∧(k' < r.Persons.length→bit S k' = true):= by
 intro d k hk
 have key:∀(d k m:Nat),k + d = r.Persons.length→d < m→∃ k':Nat,A3h (B9h r (S:Int)) m (k:Int) = some (k':Int)∧k≤k'∧k'≤r.Persons.length∧B07 r.Persons.length S k = B07 r.Persons.length S k'∧(k' < r.Persons.length→bit S k' = true):= by
  intro d
  induction d with
  | zero =>
   intro k m hk hm
   obtain ⟨m',rfl⟩:∃m',m = m' + 1:=⟨m - 1,by omega⟩
   refine ⟨k,?_,Nat.le_refl _,by omega,rfl,fun c=>by omega⟩
   rw [H6]
   unfold B9h
   rw [if_neg (by simp; omega)]; rfl
  | succ d ih =>
   intro k m hk hm
   obtain ⟨m',rfl⟩:∃m',m = m' + 1:=⟨m - 1,by omega⟩
   have hb:(B1k ((S / 2 ^ k:Nat):Int) 1 == 0) = !bit S k:=and0 (Nat.lt_of_le_of_lt (Nat.div_le_self _ _) hS)
   have e:B9h r (S:Int) (k:Int) = if bit S k then some (.inr (k:Int)) else some (.inl ((k + 1:Nat):Int)):= by
    unfold B9h
    rw [if_pos (by simp; omega),B9g _ _ (by omega)]
    simp only [Option.bind_some]
    rw [hb,E0 (by omega)]
    cases bit S k <;> rfl
   cases hq:bit S k with
   | true =>
    refine ⟨k,?_,Nat.le_refl _,by omega,rfl,fun _=>hq⟩
    rw [H6,e,hq]; rfl
   | false =>
    obtain ⟨k',h1,h2,h3,h4,h5⟩:=ih (k + 1) m' (by omega) (by omega)
    refine ⟨k',?_,by omega,h3,?_,h5⟩
    ·rw [H6,e,hq]; exact h1
    ·rw [B42 (by omega),hq,← h4]; rfl
 exact key d k _ hk (by omega)
section
variable {σ ρ:Type}
theorem D5e {q:List Nat} {ps:List DrLook} {f:Nat} {p:DrLook} {l:List DrLook} (h:ps.drop q.length = p :: l):(q++[f]).zip ps = q.zip ps++[(f,p)]∧ps.drop (q++[f]).length = l:= by
 have hps:ps = ps.take q.length++p :: l:= by rw [← h,List.take_append_drop]
 have hlen:(ps.take q.length).length = q.length:= by
  have:q.length < ps.length:= by
   have:=congrArg List.length h
   rw [List.length_drop] at this; simp at this; omega
  rw [List.length_take]; omega
 constructor
 ·generalize ps.take q.length = a at *
  subst hps
  rw [List.zip_append hlen.symm]
  have:q.zip (a++p :: l) = q.zip a++([]:List Nat).zip (p :: l):= by
   rw [← List.zip_append hlen.symm,List.append_nil]
  rw [this]; simp
 ·rw [List.length_append,← List.drop_drop,h]; rfl
theorem D30 {r:DrRoom} (ok:RmOk r) {ch:Chg} (hch:C2i r ch) {S:Nat} (hS:S < 64) (ps:List DrLook) (hps:∀p ∈ ps,LkOk r (-1) p) (hpl:ps.length≤5) (body:dress_plan→σ→Option (σ ⊕ ρ)) :
  ∀ (d k:Nat) (q:List Nat) (u:Int) (s:σ) (X:σ ⊕ ρ) (m:Nat),ps.drop q.length = A1l r S k→(A1l r S k).length = d→k≤r.Persons.length→C3u u q→(∀ f ∈ q,f < r.Figures.length)→q.length + d = ps.length→d < m →
   X0 (fun q s=>body (J1 r (q.zip ps)) s) (DF r.Figures.length d q) s = some X→A8y r ch (S:Int) body m (k:Int) u (J1 r (q.zip ps)) s = some X:= by
 have hP:=ok.persons
 have hF:=ok.figures
 intro d
 induction d with
 | zero =>
  intro k q u s X m hd hl hk hu hq hlen hm hf
  obtain ⟨m',rfl⟩:∃m',m = m' + 1:=⟨m - 1,by omega⟩
  obtain ⟨k',h1,h2,h3,h4,h5⟩:=C94 r hP hS (r.Persons.length - k) k (by omega)
  have e:k' = r.Persons.length:= by
   by_cases c:k' < r.Persons.length
   ·unfold A1l at hl
    rw [h4,B42 c,h5 c] at hl
    simp at hl
   ·omega
  subst e
  unfold A8y
  rw [h1]
  simp only [Option.bind_some,BEq.rfl,if_true]
  unfold DF at hf
  unfold X0 at hf
  cases hb:body (J1 r (q.zip ps)) s with
  | none=>rw [hb] at hf; cases hf
  | some x=>rw [hb] at hf; cases x <;> cases hf <;> rfl
 | succ d ih =>
  intro k q u s X m hd hl hk hu hq hlen hm hf
  obtain ⟨m',rfl⟩:∃m',m = m' + 1:=⟨m - 1,by omega⟩
  obtain ⟨k',h1,h2,h3,h4,h5⟩:=C94 r hP hS (r.Persons.length - k) k (by omega)
  have c:k' < r.Persons.length:= by
   by_cases c:k' < r.Persons.length
   ·exact c
   ·unfold A1l at hl
    rw [h4,D42 (by omega)] at hl
    simp at hl
  have hsel:A1l r S k = r.Persons[k']! :: A1l r S (k' + 1):= by
   unfold A1l
   rw [h4,B42 c,h5 c]; rfl
  rw [hsel] at hd hl
  have hne:((k':Int) == (r.Persons.length:Int)) = false:= by simp; omega
  have hPk:LkOk r (-1) r.Persons[k']!:=ok.person _ (J0 c)
  have hz:B1j r (q.zip ps):=⟨by rw [List.length_zip]; omega,fun x hx=>by
   have:=List.of_mem_zip (a:=x.1) (b:=x.2) hx
   exact ⟨hq _ this.1,hps _ this.2⟩⟩
  unfold A8y
  rw [h1]
  simp only [Option.bind_some,hne,Bool.false_eq_true,if_false]
  unfold DF A9e at hf
  rw [B7w,A76] at hf
  have hloop:loop (B96 r ch (A8y r ch (S:Int) body m') (k':Int) u (J1 r (q.zip ps))) (0,s) = some (C95 X):= by
   have key:∀(j i m2:Nat) (s:σ),i + j = r.Figures.length→j < m2→X0 (fun f s=>if (!q.contains f) = true then X0 (fun q s=>body (J1 r (q.zip ps)) s) (DF r.Figures.length d (q++[f])) s else some (.inl s)) ((List.range r.Figures.length).drop i) s = some X →
     A3h (B96 r ch (A8y r ch (S:Int) body m') (k':Int) u (J1 r (q.zip ps))) m2 ((i:Int),s) = some (C95 X):= by
    intro j
    induction j with
    | zero =>
     intro i m2 s hi hm2 h
     obtain ⟨m3,rfl⟩:∃m3,m2 = m3 + 1:=⟨m2 - 1,by omega⟩
     rw [List.drop_of_length_le (by simp; omega)] at h
     cases h
     rw [H6]
     unfold B96
     simp only []
     rw [if_neg (by simp; omega)]; rfl
    | succ j ihj =>
     intro i m2 s hi hm2 h
     obtain ⟨m3,rfl⟩:∃m3,m2 = m3 + 1:=⟨m2 - 1,by omega⟩
     have hi2:i < (List.range r.Figures.length).length:= by simp; omega
     rw [List.drop_eq_getElem_cons hi2,List.getElem_range] at h
     obtain ⟨n,rfl,hn,hbit⟩:=hu
     have hb:(B1k ((n / 2 ^ i:Nat):Int) 1 == 1) = q.contains i:= by
      rw [and1 (Nat.lt_of_le_of_lt (Nat.div_le_self _ _) hn)]; exact hbit i (by omega)
     unfold X0 at h
     cases hc:q.contains i with
     | true =>
      have e:B96 r ch (A8y r ch (S:Int) body m') (k':Int) (n:Int) (J1 r (q.zip ps)) ((i:Int),s) = some (.inl (((i + 1:Nat):Int),s)):= by
       unfold B96
       simp only []
       rw [if_pos (by simp; omega),B9g _ _ (by omega)]
       simp only [Option.bind_some]
       rw [hb,hc,if_pos rfl,E0 (by omega)]; rfl
      rw [hc] at h
      rw [H6,e]
      exact ihj (i + 1) m3 s (by omega) (by omega) h
     | false =>
      rw [hc] at h
      simp only [Bool.not_false,if_true] at h
      obtain ⟨z1,z2⟩:=D5e (f:=i) hd
      cases hX:X0 (fun q s=>body (J1 r (q.zip ps)) s) (DF r.Figures.length d (q++[i])) s with
      | none=>rw [hX] at h; cases h
      | some Y =>
       rw [hX] at h
       have hr:=ih (k' + 1) (q++[i]) (orI (n:Int) ((2 ^ i:Nat):Int)) s Y m' (by rw [z2]) (by simpa using hl) (by omega) (D13 ⟨n,rfl,hn,hbit⟩ (by omega)) (fun f hf=>by
        rcases List.mem_append.mp hf with hf | hf
        ·exact hq f hf
        ·have:f = i:= by simpa using hf
         omega) (by rw [List.length_append]; simp; omega) (by omega) hX
       rw [z1] at hr
       have e:B96 r ch (A8y r ch (S:Int) body m') (k':Int) (n:Int) (J1 r (q.zip ps)) ((i:Int),s) = some (E1m i Y):= by
        unfold B96
        simp only []
        rw [if_pos (by simp; omega),B9g _ _ (by omega)]
        simp only [Option.bind_some]
        rw [hb,hc,if_neg (by decide)]
        have hg:=hch i k' (by omega) c
        unfold A4m
        rw [hg,Option.getD_some,C98 ok hz ⟨by omega,hPk⟩]
        simp only [Option.bind_some]
        rw [A7q i (by omega),E0 (n:=(k':Int) + 1) (by omega)]
        simp only [Option.bind_some]
        rw [show (((k':Nat):Int) + 1) = ((k' + 1:Nat):Int) from rfl,hr]
        cases Y with
        | inl s'=>simp only [Option.bind_some]; rw [E0 (by omega)]; rfl
        | inr x=>rfl
       rw [H6,e]
       cases Y with
       | inl s'=>exact ihj (i + 1) m3 s' (by omega) (by omega) h
       | inr x=>cases h; rfl
   exact key r.Figures.length 0 _ s (by omega) (by omega) hf
  rw [hloop]
  cases X <;> rfl
end
theorem B65 {n:Nat}:∀{d:Nat} {q p:List Nat},p ∈ DF n d q↔∃ t,p = q++t∧t.length = d∧t.Nodup∧∀ x ∈ t,x < n∧x ∉ q
 | 0,q,p=>by
  unfold DF
  rw [List.mem_singleton]
  constructor
  ·rintro rfl; exact ⟨[],by simp⟩
  ·rintro ⟨t,rfl,h,-,-⟩
   rw [List.length_eq_zero_iff.mp h,List.append_nil]
 | d + 1,q,p=>by
  unfold DF A9e
  rw [List.mem_flatMap]
  constructor
  ·rintro ⟨f,hf,hp⟩
   obtain ⟨t,rfl,h1,h2,h3⟩:=B65.mp hp
   have hf:=List.mem_filter.mp hf
   have hfn:f < n:= by simpa using hf.1
   have hfq:f ∉ q:= by simpa using hf.2
   refine ⟨f :: t,by simp,by simp [h1],?_,?_⟩
   ·rw [List.nodup_cons]
    exact ⟨fun c=>(h3 f c).2 (by simp),h2⟩
   ·intro x hx
    rcases List.mem_cons.mp hx with rfl | hx
    ·exact ⟨hfn,hfq⟩
    ·have:=h3 x hx
     exact ⟨this.1,fun c=>this.2 (List.mem_append_left _ c)⟩
  ·rintro ⟨t,rfl,h1,h2,h3⟩
   cases t with
   | nil=>cases h1
   | cons f t =>
    rw [List.nodup_cons] at h2
    have hf:=h3 f (List.mem_cons_self ..)
    refine ⟨f,List.mem_filter.mpr ⟨by simpa using hf.1,by simpa using hf.2⟩,B65.mpr ⟨t,by simp,by simpa using h1,h2.2,fun x hx=>⟨(h3 x (List.mem_cons_of_mem _ hx)).1,fun c=>?_⟩⟩⟩
    rcases List.mem_append.mp c with c | c
    ·exact (h3 x (List.mem_cons_of_mem _ hx)).2 c
    ·have:x = f:= by simpa using c
     subst this; exact h2.1 hx
def perms (n d:Nat):List (List Nat):=DF n d []
theorem B0w {n d:Nat} {p:List Nat}:p ∈ perms n d↔p.length = d∧p.Nodup∧∀ x ∈ p,x < n:= by
 unfold perms
 rw [B65]
 constructor
 ·rintro ⟨t,rfl,h1,h2,h3⟩
  exact ⟨h1,h2,fun x hx=>(h3 x hx).1⟩
 ·rintro ⟨h1,h2,h3⟩
  exact ⟨p,rfl,h1,h2,fun x hx=>⟨h3 x hx,by simp⟩⟩
theorem C2x {α β:Type} {f:α→List β} {b:Nat}:∀{l:List α},(∀ x ∈ l,(f x).length≤b)→(l.flatMap f).length≤l.length * b
 | [],_=>by simp
 | x :: l,h=>by
  have h1:=h x (List.mem_cons_self ..)
  have ih:=C2x (l:=l) fun y hy=>h y (List.mem_cons_of_mem _ hy)
  rw [List.flatMap_cons,List.length_append,List.length_cons,Nat.succ_mul]; omega
theorem B6f {n:Nat} (hn:n≤6):∀(d:Nat) (q:List Nat),(DF n d q).length≤6 ^ d
 | 0,q=>by simp [DF]
 | d + 1,q=>by
  unfold DF
  have h1:(A9e n q).length≤6:= by
   unfold A9e
   exact Nat.le_trans (List.length_filter_le _ _) (by simpa using hn)
  have:=C2x (l:=A9e n q) (f:=fun f=>DF n d (q++[f])) (b:=6 ^ d) fun f _=>B6f hn d _
  rw [Nat.pow_succ]
  calc _≤(A9e n q).length * 6 ^ d:=this
   _≤6 * 6 ^ d:=Nat.mul_le_mul_right _ h1
   _ = 6 ^ d * 6:=Nat.mul_comm _ _
theorem A3r {n d:Nat} (hn:n≤6) (hd:d≤5):(perms n d).length≤7776 :=
 Nat.le_trans (B6f hn d []) (Nat.le_trans (Nat.pow_le_pow_right (by decide) hd) (by decide))
def fm {α:Type} (k:α→Int):List α→Option α
 | []=>none
 | x :: l=>match fm k l with
  | none=>some x
  | some y=>if k y < k x then some y else some x
section
variable {α:Type} {k:α→Int}
theorem B6n:∀{l:List α},fm k l = none↔l = []
 | []=>⟨fun _=>rfl,fun _=>rfl⟩
 | x :: l=>by
  refine ⟨fun h=>?_,fun h=>by cases h⟩
  unfold fm at h
  split at h
  ·cases h
  ·split at h <;> cases h
theorem B2u:∀{l:List α} {b:α},fm k l = some b→(∀ y ∈ l,k b≤k y)∧∃ A B,l = A++b :: B∧∀ a ∈ A,k b < k a
 | [],b,h=>by cases h
 | x :: l,b,h=>by
  unfold fm at h
  cases hf:fm k l with
  | none =>
   rw [hf] at h; cases h
   rw [B6n.mp hf]
   exact ⟨by simp,[],[],rfl,by simp⟩
  | some y =>
   rw [hf] at h
   obtain ⟨h1,A,B,rfl,h3⟩:=B2u hf
   simp only at h
   split at h
   ·next c =>
    cases h
    refine ⟨fun z hz=>?_,x :: A,B,rfl,fun a ha=>?_⟩
    ·rcases List.mem_cons.mp hz with rfl | hz
     ·omega
     ·exact h1 z hz
    ·rcases List.mem_cons.mp ha with rfl | ha
     ·exact c
     ·exact h3 a ha
   ·next c =>
    cases h
    refine ⟨fun z hz=>?_,[],A++y :: B,rfl,by simp⟩
    rcases List.mem_cons.mp hz with rfl | hz
    ·exact Int.le_refl _
    ·have:=h1 z hz; omega
theorem A75 {l:List α} {b:α} (h:fm k l = some b):b ∈ l:= by
 obtain ⟨_,A,B,rfl,_⟩:=B2u h
 simp
theorem D7k {l:List α} {b:α} (h:fm k l = some b) {y:α} (hy:y ∈ l):k b≤k y:=(B2u h).1 y hy
theorem C84 {l:List α} {x:α} (h:x ∈ l):∃b,fm k l = some b:= by
 cases hf:fm k l with
 | none=>rw [B6n.mp hf] at h; cases h
 | some b=>exact ⟨b,rfl⟩
theorem B2t (y:α):∀(l:List α),fm k (l++[y]) = match fm k l with
  | none=>some y
  | some b=>if k y < k b then some y else some b
 | []=>rfl
 | x :: l=>by
  show (match fm k (l++[y]) with | none=>some x | some z=>if k z < k x then some z else some x) = match (match fm k l with | none=>some x | some z=>if k z < k x then some z else some x) with | none=>some y | some b=>if k y < k b then some y else some b
  rw [B2t y l]
  cases fm k l with
  | none=>rfl
  | some b =>
   simp only
   by_cases c1:k b < k x <;> by_cases c2:k y < k b <;> by_cases c3:k y < k x <;> simp only [c1,c2,c3,if_true,if_false] <;> omega
theorem C4t {k':α→Int}:∀{l:List α},(∀ x ∈ l,k x = k' x)→fm k l = fm k' l
 | [],_=>rfl
 | x :: l,h=>by
  unfold fm
  rw [C4t fun y hy=>h y (List.mem_cons_of_mem _ hy),h x (List.mem_cons_self ..)]
  cases hf:fm k' l with
  | none=>rfl
  | some y=>simp only; rw [h y (List.mem_cons_of_mem _ (A75 hf))]
theorem C7d {β:Type} (g:β→α):∀(l:List β),fm k (l.map g) = (fm (fun x=>k (g x)) l).map g
 | []=>rfl
 | x :: l=>by
  rw [List.map_cons]
  unfold fm
  rw [C7d g l]
  cases fm (fun x=>k (g x)) l with
  | none=>rfl
  | some y =>
   simp only [Option.map_some]
   split <;> rfl
end
theorem D4l {r:DrRoom} {z:Prs} (h:z.length≤5):A2i (J1 r z) = some (J1 r z):= by
 have hl:(ints (z.map (·.1))).length = z.length:= by rw [F4,List.length_map]
 unfold A2i
 show (C1o 8 ((ints (z.map (·.1))).length:Int) 0).bind _ = _
 rw [hl]
 unfold C1o
 rw [if_pos ⟨by omega,by omega,by omega⟩]
 simp only [Option.bind_some,Option.some.injEq]
 have:cpy (List.replicate (z.length:Int).toNat (0:Int)) (ints (z.map (·.1))) = ints (z.map (·.1)):= by
  unfold cpy
  rw [List.length_replicate,Int.toNat_natCast,hl,Nat.min_self,List.take_of_length_le (by omega),List.drop_of_length_le (by simp),List.append_nil]
 show (⟨cpy _ (ints (z.map (·.1))),_,_⟩:dress_plan) = _
 rw [this]; rfl
section
variable {α β ρ:Type}
theorem A6i {f:α→List β→Option (List β ⊕ ρ)} {p:α→Bool} {g:α→β}:∀{l:List α} {s:List β},s.length + l.length≤1000000000→(∀ a ∈ l,∀ s:List β,s.length < 1000000000→f a s = some (.inl (if p a then s++[g a] else s)))→X0 f l s = some (.inl (s++(l.filter p).map g))
 | [],s,_,_=>by simp [X0]
 | a :: l,s,hl,h=>by
  rw [List.length_cons] at hl
  unfold X0
  rw [h a (List.mem_cons_self ..) s (by omega)]
  simp only [Option.bind_some]
  have hq:(if p a then s++[g a] else s).length + l.length≤1000000000:= by
   split
   ·rw [List.length_append,List.length_singleton]; omega
   ·omega
  rw [A6i hq fun b hb=>h b (List.mem_cons_of_mem _ hb),List.filter_cons]
  cases p a <;> simp
end
structure PsOk (r:DrRoom) (ps:List DrLook):Prop where
 len:ps.length≤5
 look:∀p ∈ ps,LkOk r (-1) p
theorem PsOk.pr {r:DrRoom} {ps:List DrLook} (h:PsOk r ps) {q:List Nat} (hq:q ∈ perms r.Figures.length ps.length):B1j r (q.zip ps):= by
 have hq:=B0w.mp hq
 refine ⟨by rw [List.length_zip]; have:=h.len; omega,fun x hx=>?_⟩
 have:=List.of_mem_zip (a:=x.1) (b:=x.2) hx
 exact ⟨hq.2.2 _ this.1,h.look _ this.2⟩
def AL (r:DrRoom) (ps:List DrLook):List (List Nat):=(perms r.Figures.length ps.length).filter fun q=>A48 r (q.zip ps)
theorem C2g {r:DrRoom} {ps:List DrLook} {q:List Nat}:q ∈ AL r ps↔(q.length = ps.length∧q.Nodup∧∀ x ∈ q,x < r.Figures.length)∧A48 r (q.zip ps) = true:= by
 unfold AL; rw [List.mem_filter,B0w]
theorem C3q {r:DrRoom} (ok:RmOk r) (S k:Nat):PsOk r (A1l r S k):= by
 refine ⟨?_,fun p hp=>?_⟩
 ·unfold A1l B07
  rw [List.length_map]
  have:=List.length_filter_le (fun i=>decide (k≤i) && bit S i) (List.range r.Persons.length)
  have:=ok.persons
  simp at *; omega
 ·unfold A1l B07 at hp
  obtain ⟨i,hi,rfl⟩:=List.mem_map.mp hp
  have:i < r.Persons.length:= by simpa using (List.mem_filter.mp hi).1
  exact ok.person _ (J0 this)
theorem B8x {σ ρ:Type} {r:DrRoom} (ok:RmOk r) {ch:Chg} (hch:C2i r ch) {S:Nat} (hS:S < 64) (body:dress_plan→σ→Option (σ ⊕ ρ)) {s:σ} {X:σ ⊕ ρ}
  (h:X0 (fun q s=>body (J1 r (q.zip (A1l r S 0))) s) (perms r.Figures.length (A1l r S 0).length) s = some X):A8k r ch (S:Int) σ ρ body s = some X:= by
 have hp:=C3q ok S 0
 unfold A8k
 have:=D30 ok hch hS (A1l r S 0) hp.look hp.len body (A1l r S 0).length 0 [] 0 s X 64 rfl rfl (Nat.zero_le _) C8m (by simp) (by simp) (by have:=hp.len; omega) h
 rw [C37 ok]
 exact this
theorem C3r {r:DrRoom} (ok:RmOk r) {ch:Chg} (hch:C2i r ch) {S:Nat} (hS:S < 64):P5 r ch (S:Int) = some ((AL r (A1l r S 0)).map fun q=>J1 r (q.zip (A1l r S 0))):= by
 have hp:=C3q ok S 0
 have hF:=ok.figures
 have hsz:=A3r hF hp.len
 unfold P5
 rw [B8x ok hch hS B01 (s:=[]) (X:=.inl ((AL r (A1l r S 0)).map fun q=>J1 r (q.zip (A1l r S 0)))) (by
  have:=A6i (ρ:=Unit) (l:=perms r.Figures.length (A1l r S 0).length) (s:=([]:List dress_plan)) (f:=fun q s=>B01 (J1 r (q.zip (A1l r S 0))) s) (p:=fun q=>A48 r (q.zip (A1l r S 0))) (g:=fun q=>J1 r (q.zip (A1l r S 0))) (by simp; omega) (fun q hq s hs=>by
   have hz:=hp.pr hq
   unfold B01
   rw [B7c ok hz]
   simp only [Option.bind_some]
   cases A48 r (q.zip (A1l r S 0)) with
   | false=>rfl
   | true =>
    rw [if_pos rfl,D4l hz.1]
    simp only [Option.bind_some]
    rw [T0 (by omega) (by simp; omega)]; rfl)
  rw [this]; rfl)]
 rfl
instance:Inhabited dress_plan:=⟨plan0⟩
theorem C02 (l:List dress_plan) (g:dress_plan × dress_plan→Option Bool) (k:dress_plan→Int) (hl:l.length < 1000000000) (hg:∀x ∈ l,∀ y ∈ l,g (x,y) = some (decide (k x < k y))) :
  M4 l g = some (match fm k l with | none=>(plan0,false) | some b=>(b,true)):= by
 unfold M4
 have:=H7 (b:=I7 l g) (fun i=>((match fm k (l.take i) with | none=>(false,(i:Int),plan0) | some b=>(true,(i:Int),b)):Bool × Int × dress_plan)) l.length (r:=match fm k l with | none=>(false,plan0) | some b=>(true,b)) (by omega) (fun i hi=>by
  have hsn:fm k (l.take (i + 1)) = match fm k (l.take i) with | none=>some l[i]! | some b=>if k l[i]! < k b then some l[i]! else some b:= by
   rw [List.take_succ_eq_append_getElem hi,B2t,getElem!_pos l i hi]
   cases fm k (l.take i) <;> rfl
  rw [hsn]
  cases hf:fm k (l.take i) with
  | none =>
   have h0:i = 0:= by
    have:=congrArg List.length (B6n.mp hf)
    rw [List.length_take,List.length_nil] at this; omega
   subst h0
   unfold I7
   simp only []
   rw [if_pos (by simpa using hi),I1 hi]; rfl
  | some b =>
   have h0:i ≠ 0:= by rintro rfl; cases hf
   have hb:b ∈ l:=List.mem_of_mem_take (A75 hf)
   unfold I7
   simp only []
   rw [if_pos (by simpa using hi),I1 hi]
   simp only [Option.bind_some]
   rw [if_neg (by simp; omega),hg _ (J0 hi) b hb,E0 (by omega)]
   simp only [Option.bind_some]
   by_cases c:k l[i]! < k b
   ·rw [if_pos (by simpa using c),if_pos c]; rfl
   ·rw [if_neg (by simpa using c),if_neg c]; rfl) (by
  rw [List.take_length]
  cases fm k l with
  | none=>unfold I7; simp only []; rw [if_neg (by simp)]
  | some b=>unfold I7; simp only []; rw [if_neg (by simp)])
 rw [show ((false,0,(dress_plan.mk ([]:List Int) 0 (Ar4.mk 0 0 0 0))):Bool × Int × dress_plan) = (match fm k (l.take 0) with | none=>(false,((0:Nat):Int),plan0) | some b=>(true,((0:Nat):Int),b)) from rfl,this]
 simp only [Option.bind_some]
 cases fm k l <;> rfl
def A0o (r:DrRoom) (ps:List DrLook) (q:List Nat):Int:=A3e r (q.zip ps)
end Ds
end
section
set_option maxRecDepth 100000
set_option maxHeartbeats 0
namespace Ds
open Go Am Go.Proofs.Ytdkflofgolehkaa.Cd
def A4f (a0:DrRoom) (a1:(List Int)) (g99:((DrRoom × (List Int))→Option (List (List Int)))) (s2:(Int × (List (List Int)))):Option ((Int × (List (List Int))) ⊕ (List (List Int))) :=
 if (decide (s2.1 < (List.length a0.Figures:Int))) = true then
  (A2l a1 s2.1).bind fun x5 =>
  if (!x5) = true then
  (app 8 ([]:List Int) a1).bind fun x7 =>
  (app 8 x7 [s2.1]).bind fun x8 =>
  (g99 (a0,x8)).bind fun x9 =>
  (app 24 s2.2 x9).bind fun x10 =>
  some (.inl ((w64 (s2.1 + 1)),x10))
  else
  some (.inl ((w64 (s2.1 + 1)),s2.2))
 else
  some (.inr s2.2)
def A2d (g99:((DrRoom × (List Int))→Option (List (List Int)))) (a0:DrRoom) (a1:(List Int)):Option (List (List Int)) :=
 if ((List.length a1:Int) == (List.length a0.Persons:Int)) = true then
  some [a1]
 else
  (loop (A4f a0 a1 g99) (0,([]:List (List Int)))).bind fun (o11:(List (List Int))) =>
  some o11
def Z4:Nat→(DrRoom × (List Int))→Option (List (List Int))
 | 0=>fun _=>none
 | k + 1=>fun y=>A2d (Z4 k) y.1 y.2
def B84 (a0:DrRoom) (a1:(List Int)):Option (List (List Int)):=Z4 64 (a0,a1)
theorem C0f {g99:((DrRoom × (List Int))→Option (List (List Int)))} (hg99:∀{c:Sc} {H:A1} {y:(DrRoom × (List Int))} {r:(List (List Int))},g99 y = some r→R3 tab c H (.fn (.func 99) [] []) [(.agg (A4 y.1)),(.seq 1 (List.map cI y.2))] [(.seq 1 (List.map (cL 1 cI) r))]) {c:Sc} {H:A1} {a0:DrRoom} {a1:(List Int)} {r:(List (List Int))} (h:A2d g99 a0 a1 = some r) :
  R3 tab c H (.fn (.func 99) [] []) [(.agg (A4 a0)),(.seq 1 (List.map cI a1))] [(.seq 1 (List.map (cL 1 cI) r))]:= by
 unfold A2d at h
 refine cF rfl rfl<|sg 0 rfl<|A0 (F5 (cs:=A4 a0) rfl rfl rfl) rfl<|qm rfl<|es (ra2 rfl rfl)<|B6<|s0<|qm rfl<|A0 (D4 (f:=cI) rfl) rfl<|A0 (D1 rfl) rfl<|A0 (C5 rfl rfl rfl) rfl<|A0 (D4 (f:=A7) rfl) rfl<|A0 (F6 rfl rfl) rfl<|es (ra3 rfl rfl rfl)<|wi h rfl (fun hc1 h=>?_) fun hc1 h=>?_
 ·refine s0<|qm rfl<|A0 (G1 (rows:=List.map (cL 1 cI) [a1]) rfl rfl (D8 (fun _=>rfl) _)) rfl<|qm rfl<|es (ra1 rfl)<|C4 ?_
  obtain rfl:=os h
  refine Exists.intro [(.seq 1 (List.map (cL 1 cI) [a1]))] (And.intro ?_ rfl)
  exact retq trivial (B1 rfl B7) (A5 rfl B9) (A3 E3 B2)
 ·refine C1<|sg 1 rfl<|A0 A2k rfl<|es (ra3 rfl rfl rfl)<|B6<|s0<|qm rfl<|es (ra4 rfl rfl rfl rfl)<|C3<|oB h fun o11 ho11 h=>wl (fun s2=>[(1,(.seq 1 (List.map cI a1))),(2,(.ptr (H.length + 0) 0)),(5,(.asl (H.length + 1) (List.length s2.2))),(6,.i s2.1)]) (fun (q3:Unit) s2=>[(.cells (A4 a0)),(.arr 1 false (List.map (cL 1 cI) s2.2))]) 2 (fun r e s' H'=>PX 0 [(5,(.asl (H.length + 1) (List.length r)))] (H++[(.cells (A4 a0)),(.arr 1 false (List.map (cL 1 cI) r))]) e s' H') () ho11 rfl rfl (fun _ _=>rfl) (fun _=>rfl) rfl (fun s2=>(bdc E3 (bdc (F0 rfl) (bdc (W9 rfl) (bdc A8 bdn))))) (fun q3 s2 ys2 hs2=>?_) ?_
  ·unfold A4f at hs2
   refine B6<|s0<|qm rfl<|A0 (D1 rfl) rfl<|A0 (C5 rfl rfl rfl) rfl<|A0 (D4 (f:=A7) rfl) rfl<|A0 (G2 rfl rfl) rfl<|es (ra5 rfl rfl rfl rfl rfl)<|wi hs2 rfl (fun hc4 hs2=>?_) fun hc4 hs2=>?_
   ·refine C1<|B6<|C3<|s0<|oB hs2 fun x5 hx5 hs2=>qm rfl<|qm rfl<|B4 (rs:=[.b x5]) rfl rfl (A2 rfl (A2 rfl B5)) ((A4u hx5).frz)<|A0 (S4 rfl) rfl<|es (ra5 rfl rfl rfl rfl rfl)<|wi hs2 rfl (fun hc6 hs2=>?_) fun hc6 hs2=>?_
    ·refine rg 2 rfl<|oB hs2 fun x7 hx7 hs2=>oB hs2 fun x8 hx8 hs2=>oB hs2 fun x9 hx9 hs2=>oB hs2 fun x10 hx10 hs2=>A0 (B6x (rows:=List.map cI []) rfl rfl (D8 (fun _=>rfl) _)) rfl<|qm rfl<|A8j [0] [(.cells (A4 a0)),(.arr 1 false (List.map (cL 1 cI) s2.2)),(.arr 1 false (List.map cI x7))] (X1 [] rfl (A7r rfl A5e K2) rfl rfl) (seen0 rfl) (U5 (f:=cI) rfl rfl rfl rfl Q6 (fun _=>rfl) hx7) rfl rfl rfl<|qm rfl<|A0 (G1 (rows:=List.map cI [s2.1]) rfl rfl (D8 (fun _=>rfl) _)) rfl<|A8j [0] [(.cells (A4 a0)),(.arr 1 false (List.map (cL 1 cI) s2.2)),.dead] (X1 [] rfl (A7r rfl A5e K2) rfl rfl) (seen0 rfl) (C28 (f:=cI) rfl rfl rfl rfl Q6 (fun _=>rfl) hx8) rfl rfl rfl<|Q9 [2] (X1 [2] rfl K2 rfl rfl) (B00 (b:=H.length + 0) rfl (A3v (A06 _ rfl) (A3v (A06 _ rfl) A7o))) (C2 rfl rfl rfl) rfl<|B4 (rs:=[(.seq 1 (List.map (cL 1 cI) x9))]) rfl rfl (A2 (C9 rfl) (A2 rfl B5)) (hg99 hx9)<|qm rfl<|Q2 (U5 (f:=(cL 1 cI)) rfl rfl rfl rfl Q6 (fun _=>rfl) hx10) rfl<|qm rfl<|en (ra4 rfl rfl rfl rfl)<|r0<|qm rfl<|A0 (E8 rfl rfl) rfl<|qm rfl<|en (ra4 rfl rfl rfl rfl) ?_
     cases hs2
     exact lnT () rfl (su4 rfl rfl rfl rfl)
    ·refine C1<|r0<|qm rfl<|A0 (E8 rfl rfl) rfl<|qm rfl<|en (ra4 rfl rfl rfl rfl) ?_
     cases hs2
     exact lnT () rfl (su4 rfl rfl rfl rfl)
   ·refine F2 ?_
    obtain rfl:=os hs2
    exact lx rfl px (su1 rfl)
  ·rintro e s' H' - ⟨rfl,rfl,rfl⟩
   refine s0<|qm rfl<|qm rfl<|es (ra1 rfl)<|C4 ?_
   obtain rfl:=os h
   refine Exists.intro [(.fresh 1 (List.map (cL 1 cI) o11))] (And.intro ?_ rfl)
   exact retq trivial (B1 rfl B7) (A5 (A1r rfl (List.length_map _)) B9) (A3 T6 B2)
theorem B1d:∀(k:Nat) {c:Sc} {H:A1} {y:(DrRoom × (List Int))} {r:(List (List Int))},Z4 k y = some r→R3 tab c H (.fn (.func 99) [] []) [(.agg (A4 y.1)),(.seq 1 (List.map cI y.2))] [(.seq 1 (List.map (cL 1 cI) r))]
 | 0,_,_,_,_,h=>by cases h
 | k + 1,_,_,_,_,h=>C0f (B1d k) h
theorem C5q {c:Sc} {H:A1} {a0:DrRoom} {a1:(List Int)} {r:(List (List Int))} (h:B84 a0 a1 = some r):R3 tab c H (.fn (.func 99) [] []) [(.agg (A4 a0)),(.seq 1 (List.map cI a1))] [(.seq 1 (List.map (cL 1 cI) r))]:=B1d 64 h
def X5 (a0:DrRoom) (a1:Bool) (x1:(List (List Int))) (s2:(Int × (List (List Int)))):Option ((Int × (List (List Int))) ⊕ (List (List Int))) :=
 if (decide (s2.1 < (List.length x1:Int))) = true then
  (if (!a1) = true then
  some true
  else
  (idx x1 s2.1).bind fun x6 =>
  (T3 a0 x6).bind fun x7 =>
  some x7).bind fun x8 =>
  if x8 = true then
  (idx x1 s2.1).bind fun x10 =>
  (app 24 s2.2 [x10]).bind fun x11 =>
  some (.inl ((w64 (s2.1 + 1)),x11))
  else
  some (.inl ((w64 (s2.1 + 1)),s2.2))
 else
  some (.inr s2.2)
def V6 (a0:DrRoom) (a1:Bool):Option (List (List Int)) :=
 (B84 a0 ([]:List Int)).bind fun x1 =>
 (loop (X5 a0 a1 x1) (0,([]:List (List Int)))).bind fun (o12:(List (List Int))) =>
 some o12
theorem A5n {c:Sc} {H:A1} {a0:DrRoom} {a1:Bool} {r:(List (List Int))} (h:V6 a0 a1 = some r) :
  E9 tab c H (.fn (.func 71) [] []) [(.agg (A4 a0)),.b a1] [(.fresh 1 (List.map (cL 1 cI) r))]:= by
 unfold V6 at h
 refine cE rfl rfl<|sg 0 rfl<|A0 (F5 (cs:=A4 a0) rfl rfl rfl) rfl<|qm rfl<|es (ra2 rfl rfl)<|s0<|oB h fun x1 hx1 h=>A0 (C2 rfl rfl rfl) rfl<|B4 (rs:=[(.seq 1 (List.map (cL 1 cI) x1))]) rfl rfl (A2 (C9 rfl) (A2 rfl B5)) (C5q hx1)<|qm rfl<|es (ra3 rfl rfl rfl)<|sg 1 rfl<|A0 A2k rfl<|es (ra4 rfl rfl rfl rfl)<|B6<|s0<|qm rfl<|es (ra5 rfl rfl rfl rfl rfl)<|C3<|oB h fun o12 ho12 h=>wl (fun s2=>[(1,.b a1),(2,(.ptr (H.length + 0) 0)),(5,(.seq 1 (List.map (cL 1 cI) x1))),(6,(.asl (H.length + 1) (List.length s2.2))),(7,.i s2.1)]) (fun (q3:Unit) s2=>[(.cells (A4 a0)),(.arr 1 false (List.map (cL 1 cI) s2.2))]) 2 (fun r e s' H'=>PX 0 [(6,(.asl (H.length + 1) (List.length r)))] (H++[(.cells (A4 a0)),(.arr 1 false (List.map (cL 1 cI) r))]) e s' H') () ho12 rfl rfl (fun _ _=>rfl) (fun _=>rfl) rfl (fun s2=>(bdc A8 (bdc (F0 rfl) (bdc E3 (bdc (W9 rfl) (bdc A8 bdn)))))) (fun q3 s2 ys2 hs2=>?_) ?_
 ·unfold X5 at hs2
  refine B6<|s0<|qm rfl<|qm rfl<|A0 (D4 (f:=(cL 1 cI)) rfl) rfl<|A0 (G2 rfl rfl) rfl<|es (ra6 rfl rfl rfl rfl rfl rfl)<|wi hs2 rfl (fun hc4 hs2=>?_) fun hc4 hs2=>?_
  ·refine C1<|B6<|C3<|s0<|oB hs2 fun x8 hx8 hs2=>qm rfl<|A0 (S4 rfl) rfl<|qm rfl<|gp 7 25 (.b x8) 18 rfl rfl (fun hg5=>?_) (fun hg5=>?_) ?_
   ·obtain rfl:=os (bt hx8 hg5)
    exact nF rfl hg5 rfl<|nF rfl hg5 rfl<|nF rfl hg5 rfl<|nF rfl hg5 rfl<|nF rfl hg5 rfl<|N6 (G5 rfl (by rw [hg5]; rfl)) rfl<|A0 (C8 rfl hg5 rfl) rfl<|ge 7 rfl rfl rfl
   ·refine oB (bf hx8 hg5) fun x6 hx6 hx8=>oB hx8 fun x7 hx7 hx8=>?_
    obtain rfl:=os hx8
    exact gF rfl hg5<|A0 (C2 rfl rfl rfl) rfl<|gF rfl hg5<|qm rfl<|gF rfl hg5<|qm rfl<|gF rfl hg5<|A0 (E1 (f:=(cL 1 cI)) rfl rfl hx6) rfl<|gF rfl hg5<|A0 (E5 rfl rfl) rfl<|gF rfl hg5<|B4 (rs:=[.b x7]) rfl rfl (A2 (C9 rfl) (A2 rfl B5)) ((A7a hx7).frz)<|A0 (C7 rfl hg5 rfl) rfl<|ge 7 rfl rfl rfl
   refine es (ra6 rfl rfl rfl rfl rfl rfl)<|wi hs2 rfl (fun hc9 hs2=>?_) fun hc9 hs2=>?_
   ·refine r0<|oB hs2 fun x10 hx10 hs2=>oB hs2 fun x11 hx11 hs2=>qm rfl<|qm rfl<|qm rfl<|A0 (E1 (f:=(cL 1 cI)) rfl rfl hx10) rfl<|A0 (E5 rfl rfl) rfl<|A0 (G1 (rows:=List.map (cL 1 cI) [x10]) rfl rfl (D8 (fun _=>rfl) _)) rfl<|Q2 (U5 (f:=(cL 1 cI)) rfl rfl rfl rfl Q6 (fun _=>rfl) hx11) rfl<|qm rfl<|en (ra5 rfl rfl rfl rfl rfl)<|r0<|qm rfl<|A0 (E8 rfl rfl) rfl<|qm rfl<|en (ra5 rfl rfl rfl rfl rfl) ?_
    cases hs2
    exact lnT () rfl (su5 rfl rfl rfl rfl rfl)
   ·refine C1<|r0<|qm rfl<|A0 (E8 rfl rfl) rfl<|qm rfl<|en (ra5 rfl rfl rfl rfl rfl) ?_
    cases hs2
    exact lnT () rfl (su5 rfl rfl rfl rfl rfl)
  ·refine F2 ?_
   obtain rfl:=os hs2
   exact lx rfl px (su1 rfl)
 ·rintro e s' H' - ⟨rfl,rfl,rfl⟩
  refine s0<|qm rfl<|qm rfl<|es (ra1 rfl)<|C4 ?_
  obtain rfl:=os h
  exact retq trivial (B1 rfl B7) (A5 (A1r rfl (List.length_map _)) B9) (A3 T6 B2)
end Ds
end
section
set_option maxRecDepth 100000
namespace Ds
open Go Am Go.Proofs.Ytdkflofgolehkaa.Cd
end Ds
end
section
set_option maxRecDepth 100000
set_option maxHeartbeats 0
namespace Ds
open Go Am Go.Proofs.Ytdkflofgolehkaa.Cd
end Ds
end
section
namespace Ds
open Go Am
theorem B76 (q:List Nat) (f:Nat):(ints q).any (· == (f:Int)) = q.contains f:= by
 unfold ints
 rw [List.any_map,Bool.eq_iff_iff,List.any_eq_true]
 simp only [Function.comp_def,beq_iff_eq,List.contains_iff_mem]
 constructor
 ·rintro ⟨x,hx,e⟩
  have:x = f:= by omega
  subst this; exact hx
 ·intro h; exact ⟨f,h,rfl⟩
theorem E09 {r:DrRoom} (ok:RmOk r):∀(d:Nat) (q:List Nat),q.length + d = r.Persons.length→∀ k,d < k→Z4 k (r,ints q) = some ((DF r.Figures.length d q).map ints):= by
 have hP:=ok.persons
 have hF:=ok.figures
 intro d
 induction d with
 | zero =>
  intro q hq k hk
  obtain ⟨k',rfl⟩:∃k',k = k' + 1:=⟨k - 1,by omega⟩
  show A2d (Z4 k') r (ints q) = _
  unfold A2d
  rw [if_pos (by rw [F4]; simp; omega)]; rfl
 | succ d ih =>
  intro q hq k hk
  obtain ⟨k',rfl⟩:∃k',k = k' + 1:=⟨k - 1,by omega⟩
  show A2d (Z4 k') r (ints q) = _
  unfold A2d
  rw [if_neg (by rw [F4]; simp; omega)]
  have hsz:6 ^ d≤1296:=Nat.le_trans (Nat.pow_le_pow_right (by decide) (show d≤4 by omega)) (by decide)
  have hlen:∀i,i≤6→((((List.range i).filter fun f=>!q.contains f).flatMap fun f=>DF r.Figures.length d (q++[f])).map ints).length≤7776:=fun i hi=>by
   rw [List.length_map]
   have h1:=C2x (l:=(List.range i).filter fun f=>!q.contains f) (f:=fun f=>DF r.Figures.length d (q++[f])) (b:=1296) fun f _=>Nat.le_trans (B6f hF d _) hsz
   have h2:=List.length_filter_le (fun f=>!q.contains f) (List.range i)
   rw [List.length_range] at h2
   have h3:=Nat.mul_le_mul_right 1296 (Nat.le_trans h2 hi)
   omega
  have:=H7 (b:=A4f r (ints q) (Z4 k')) (fun i=>((i:Int),(((List.range i).filter fun f=>!q.contains f).flatMap fun f=>DF r.Figures.length d (q++[f])).map ints)) r.Figures.length (r:=(DF r.Figures.length (d + 1) q).map ints) (by omega) (fun i hi=>by
   unfold A4f
   simp only []
   rw [if_pos (by simpa using hi),C2k _ _ (by rw [F4]; omega),B76]
   simp only [Option.bind_some]
   rw [List.range_succ,List.filter_append,List.flatMap_append,List.map_append]
   cases hc:q.contains i with
   | true =>
    have hc':i ∈ q:= by simpa using hc
    rw [if_neg (by decide),E0 (by omega)]
    simp [hc']
   | false =>
    have e:ints q++[(i:Int)] = ints (q++[i]):= by simp [ints]
    have h1:=B6f hF d (q++[i])
    have h2:=hlen i (by omega)
    rw [if_pos (by decide),T0 (by omega) (by rw [F4]; simp; omega)]
    simp only [Option.bind_some,List.nil_append]
    rw [T0 (by omega) (by rw [F4]; simp; omega),e]
    simp only [Option.bind_some]
    rw [ih (q++[i]) (by rw [List.length_append]; simp; omega) k' (by omega)]
    simp only [Option.bind_some]
    have hc':i ∉ q:= by simpa using hc
    have h3:((DF r.Figures.length d (q++[i])).map ints).length = (DF r.Figures.length d (q++[i])).length:=List.length_map _
    rw [T0 (by omega) (by rw [h3]; omega),E0 (by omega)]
    simp [hc']) (by
   unfold A4f
   simp only []
   rw [if_neg (by simp)]; rfl)
  rw [show ((0:Int),([]:List (List Int))) = (((0:Nat):Int),(((List.range 0).filter fun f=>!q.contains f).flatMap fun f=>DF r.Figures.length d (q++[f])).map ints) from rfl,this]; rfl
theorem C3j {r:DrRoom} {q:List Nat} (h:q ∈ perms r.Figures.length r.Persons.length):QOk r q:= by
 have:=B0w.mp h
 exact ⟨by omega,this.2.2⟩
theorem B68 {r:DrRoom} (ok:RmOk r) (al:Bool):V6 r al = some (((perms r.Figures.length r.Persons.length).filter fun q=>!al || A48 r (prs r q)).map ints):= by
 have hP:=ok.persons
 have hF:=ok.figures
 unfold V6 B84
 rw [show Z4 64 (r,[]) = Z4 64 (r,ints []) from rfl,E09 ok r.Persons.length [] (by simp) 64 (by omega)]
 simp only [Option.bind_some]
 have hsz:(perms r.Figures.length r.Persons.length).length≤7776:=A3r hF hP
 show (loop (X5 r al ((perms r.Figures.length r.Persons.length).map ints)) (0,[])).bind _ = _
 have hQ:∀q ∈ perms r.Figures.length r.Persons.length,QOk r q:=fun q hq=>C3j hq
 generalize perms r.Figures.length r.Persons.length = L at hsz hQ
 have:=H7 (b:=X5 r al (L.map ints)) (fun i=>((i:Int),((L.take i).filter fun q=>!al || A48 r (prs r q)).map ints)) L.length (r:=(L.filter fun q=>!al || A48 r (prs r q)).map ints) (by omega) (fun i hi=>by
  have hx:idx (L.map ints) (i:Int) = some (ints L[i]!):=A2y (by rw [List.getElem?_map,List.getElem?_eq_getElem hi,getElem!_pos L i hi]; rfl)
  have hb:(if (!al) = true then some true else (idx (L.map ints) (i:Int)).bind fun x6=>(T3 r x6).bind fun x7=>some x7) = some (!al || A48 r (prs r L[i]!)):= by
   cases al with
   | false=>rfl
   | true =>
    rw [if_neg (by decide),hx]
    simp only [Option.bind_some]
    rw [B64 ok (hQ _ (J0 hi))]; rfl
  unfold X5
  simp only []
  rw [if_pos (by simpa using hi),hb,List.take_succ_eq_append_getElem hi,List.filter_append,List.map_append]
  simp only [Option.bind_some]
  rw [getElem!_pos L i hi] at hx ⊢
  have hl:(((L.take i).filter fun q=>!al || A48 r (prs r q)).map ints).length≤7776:= by
   rw [List.length_map]
   have:=List.length_filter_le (fun q=>!al || A48 r (prs r q)) (L.take i)
   rw [List.length_take] at this
   omega
  cases hq:(!al || A48 r (prs r L[i])) with
  | false=>rw [E0 (by omega)]; simp [hq]
  | true =>
   rw [if_pos rfl,hx]
   simp only [Option.bind_some]
   rw [T0 (by omega) (by simp only [List.length_singleton]; omega),E0 (by omega)]
   simp [hq]) (by
  unfold X5
  simp only []
  rw [if_neg (by simp),List.take_length])
 rw [show ((0:Int),([]:List (List Int))) = (((0:Nat):Int),((L.take 0).filter fun q=>!al || A48 r (prs r q)).map ints) from rfl,this]; rfl
theorem D41 {n S:Nat} (h:∀i,i < n→bit S i = true):B07 n S 0 = List.range n:= by
 unfold B07
 rw [List.filter_eq_self]
 intro i hi
 rw [h i (by simpa using hi)]; simp
theorem B4r {α:Type} [Inhabited α] (l:List α):(List.range l.length).map (fun i=>l[i]!) = l:= by
 apply List.ext_getElem
 ·simp
 ·intro i h1 h2
  rw [List.getElem_map,List.getElem_range,getElem!_pos l i h2]
theorem D43 {r:DrRoom} {S:Nat} (h:∀i,i < r.Persons.length→bit S i = true):A1l r S 0 = r.Persons:= by
 unfold A1l
 rw [D41 h,B4r]
theorem B9u:∀n:Nat,n < 6→∀ i:Nat,i < n→bit (2 ^ n - 1) i = true:= by decide
theorem A7s {r:DrRoom} (ok:RmOk r):I8 ⟨r⟩ = some ((2 ^ r.Persons.length - 1:Nat):Int):= by
 have hP:=ok.persons
 unfold I8
 show (C0j .i64 1 (r.Persons.length:Int)).bind _ = _
 rw [A7q _ (by omega)]
 simp only [Option.bind_some,Option.some.injEq]
 have h1:0 < 2 ^ r.Persons.length:=Nat.two_pow_pos _
 have h2:2 ^ r.Persons.length≤32:=Nat.le_trans (Nat.pow_le_pow_right (by decide) hP) (by decide)
 rw [E0 (by omega)]; omega
theorem B0b {r:DrRoom} (ok:RmOk r):2 ^ r.Persons.length - 1 < 64:= by
 have:2 ^ r.Persons.length≤32:=Nat.le_trans (Nat.pow_le_pow_right (by decide) ok.persons) (by decide)
 omega
theorem A5s {r:DrRoom} (ok:RmOk r):A1l r (2 ^ r.Persons.length - 1) 0 = r.Persons :=
 D43 fun i hi=>B9u _ (by have:=ok.persons; omega) i hi
end Ds
end
section
set_option maxRecDepth 100000
namespace Ds
open Go Am
end Ds
end
section
set_option maxRecDepth 100000
set_option maxHeartbeats 0
namespace Ds
open Go Am Go.Proofs.Ytdkflofgolehkaa.Cd
def X7 (a0:DrRoom) (a1:(List Int)) (s1:(Int × (List DrLook))):Option ((Int × (List DrLook)) ⊕ (List DrLook)) :=
 if (decide (s1.1 < (List.length a0.Persons:Int))) = true then
  (A2l a1 s1.1).bind fun x4 =>
  if (!x4) = true then
  (idx a0.Persons s1.1).bind fun x6 =>
  (app 48 s1.2 [x6]).bind fun x7 =>
  some (.inl ((w64 (s1.1 + 1)),x7))
  else
  some (.inl ((w64 (s1.1 + 1)),s1.2))
 else
  some (.inr s1.2)
def W5 (a0:DrRoom) (a1:(List Int)):Option DrRoom :=
 (loop (X7 a0 a1) (0,([]:List DrLook))).bind fun (o8:(List DrLook)) =>
 some (DrRoom.mk a0.Costs a0.Ounces a0.Figures o8)
theorem A7b {c:Sc} {H:A1} {a0:DrRoom} {a1:(List Int)} {r:DrRoom} (h:W5 a0 a1 = some r) :
  E9 tab c H (.fn (.func 44) [] []) [(.agg (A4 a0)),(.seq 1 (List.map cI a1))] [(.agg [(.seq 1 (List.map cI r.Costs)),(.seq 1 (List.map cI r.Ounces)),(.seq 3 (List.map A7 r.Figures)),(.fresh 3 (List.map A7 r.Persons))])]:= by
 unfold W5 at h
 refine cE rfl rfl<|sg 0 rfl<|A0 (F5 (cs:=A4 a0) rfl rfl rfl) rfl<|A0 E7 rfl<|es (ra3 rfl rfl rfl)<|sg 2 rfl<|A0 A2k rfl<|es (ra4 rfl rfl rfl rfl)<|B6<|s0<|qm rfl<|es (ra5 rfl rfl rfl rfl rfl)<|C3<|oB h fun o8 ho8 h=>wl (fun s1=>[(1,(.seq 1 (List.map cI a1))),(2,(.ptr (H.length + 0) 0)),(4,(.ptr (H.length + 1) 0)),(5,(.asl (H.length + 2) (List.length s1.2))),(6,.i s1.1)]) (fun (q2:Unit) s1=>[(.cells (A4 a0)),(.cells (A4 (DrRoom.mk ([]:List Int) ([]:List Int) ([]:List DrLook) ([]:List DrLook)))),(.arr 3 false (List.map A7 s1.2))]) 3 (fun r e s' H'=>PX 0 [(2,(.ptr (H.length + 0) 0)),(4,(.ptr (H.length + 1) 0)),(5,(.asl (H.length + 2) (List.length r)))] (H++[(.cells (A4 a0)),(.cells (A4 (DrRoom.mk ([]:List Int) ([]:List Int) ([]:List DrLook) ([]:List DrLook)))),(.arr 3 false (List.map A7 r))]) e s' H') () ho8 rfl rfl (fun _ _=>rfl) (fun _=>rfl) rfl (fun s1=>(bdc E3 (bdc (F0 rfl) (bdc (F0 rfl) (bdc (W9 rfl) (bdc A8 bdn)))))) (fun q2 s1 ys1 hs1=>?_) ?_
 ·unfold X7 at hs1
  refine B6<|s0<|qm rfl<|A0 (D1 rfl) rfl<|A0 (C5 rfl rfl rfl) rfl<|A0 (D4 (f:=A7) rfl) rfl<|A0 (G2 rfl rfl) rfl<|es (ra6 rfl rfl rfl rfl rfl rfl)<|wi hs1 rfl (fun hc3 hs1=>?_) fun hc3 hs1=>?_
  ·refine C1<|B6<|C3<|s0<|oB hs1 fun x4 hx4 hs1=>qm rfl<|qm rfl<|B4 (rs:=[.b x4]) rfl rfl (A2 rfl (A2 rfl B5)) ((A4u hx4).frz)<|A0 (S4 rfl) rfl<|es (ra6 rfl rfl rfl rfl rfl rfl)<|wi hs1 rfl (fun hc5 hs1=>?_) fun hc5 hs1=>?_
   ·refine r0<|oB hs1 fun x6 hx6 hs1=>oB hs1 fun x7 hx7 hs1=>qm rfl<|A0 (D1 rfl) rfl<|A0 (C5 rfl rfl rfl) rfl<|qm rfl<|A0 (E1 (f:=A7) rfl rfl hx6) rfl<|A0 (M6 rfl rfl) rfl<|A0 (G1 (rows:=List.map A7 [x6]) rfl rfl (D8 (fun _=>rfl) _)) rfl<|Q2 (U5 (f:=A7) rfl rfl rfl rfl Q6 (fun _=>rfl) hx7) rfl<|qm rfl<|en (ra5 rfl rfl rfl rfl rfl)<|r0<|qm rfl<|A0 (E8 rfl rfl) rfl<|qm rfl<|en (ra5 rfl rfl rfl rfl rfl) ?_
    cases hs1
    exact lnT () rfl (su5 rfl rfl rfl rfl rfl)
   ·refine C1<|r0<|qm rfl<|A0 (E8 rfl rfl) rfl<|qm rfl<|en (ra5 rfl rfl rfl rfl rfl) ?_
    cases hs1
    exact lnT () rfl (su5 rfl rfl rfl rfl rfl)
  ·refine F2 ?_
   obtain rfl:=os hs1
   exact lx rfl px (su3 rfl rfl rfl)
 ·rintro e s' H' - ⟨rfl,rfl,rfl⟩
  refine s0<|qm rfl<|A0 (D1 rfl) rfl<|I2 (D2 (ds:=[(.seq 1 (List.map cI a0.Costs)),(.seq 1 (List.map cI a0.Ounces)),(.seq 3 (List.map A7 a0.Figures)),(.asl (H.length + 2) (List.length o8))]) rfl rfl rfl rfl (P8 (Nat.le_add_right _ _)) rfl) rfl<|es (ra2 rfl rfl)<|s0<|A0 (I6 (ds:=[(.seq 1 (List.map cI a0.Costs)),(.seq 1 (List.map cI a0.Ounces)),(.seq 3 (List.map A7 a0.Figures)),(.asl (H.length + 2) (List.length o8))]) rfl rfl rfl rfl) rfl<|I2 (D2 (ds:=[(.seq 1 (List.map cI a0.Costs)),(.seq 1 (List.map cI a0.Ounces)),(.seq 3 (List.map A7 a0.Figures)),(.asl (H.length + 2) (List.length o8))]) rfl rfl rfl rfl (P8 (Nat.le_add_right _ _)) rfl) rfl<|es (ra1 rfl)<|C4 ?_
  obtain rfl:=os h
  exact retq trivial (P1 (I6 (ds:=[(.seq 1 (List.map cI a0.Costs)),(.seq 1 (List.map cI a0.Ounces)),(.seq 3 (List.map A7 a0.Figures)),(.asl (H.length + 2) (List.length o8))]) rfl rfl rfl rfl) B7) (A5 (C3h (W7 rfl (W7 rfl (W7 rfl (W7 (C7v rfl (List.length_map _)) C7u))))) B9) (A3 (Y7 rfl) B2)
end Ds
end
section
namespace Ds
open Go Am
def CL (r:DrRoom) (ps:List DrLook) (b:List Nat):List (List Nat):=(AL r ps).filter fun q=>A0o r ps q == A0o r ps b
def wo (r:DrRoom) (X:Nat→Bool):List DrLook:=((List.range r.Persons.length).filter fun i=>!X i).map fun i=>r.Persons[i]!
def woR (r:DrRoom) (X:Nat→Bool):DrRoom:=⟨r.Costs,r.Ounces,r.Figures,wo r X⟩
theorem B7a {r:DrRoom} (hP:r.Persons.length≤5) (l:List Int) (hl:l.length < 9223372036854775808):W5 r l = some (woR r fun i=>l.any (· == (i:Int))):= by
 unfold W5
 have:=H7 (b:=X7 r l) (fun (i:Nat)=>((i:Int),((List.range i).filter fun (j:Nat)=>!l.any (· == (j:Int))).map fun (j:Nat)=>r.Persons[j]!)) r.Persons.length (r:=wo r fun i=>l.any (· == (i:Int))) (by omega) (fun i hi=>by
  unfold X7
  simp only []
  rw [if_pos (by simpa using hi),C2k l _ hl,List.range_succ,List.filter_append,List.map_append,E0 (by omega)]
  simp only [Option.bind_some]
  have hlen:=List.length_filter_le (fun i:Nat=>!l.any (· == (i:Int))) (List.range i)
  rw [List.length_range] at hlen
  cases hc:l.any (· == (i:Int)) with
  | true=>rw [if_neg (by decide),List.filter_cons,hc]; simp
  | false =>
   rw [if_pos (by decide),I1 hi]
   simp only [Option.bind_some]
   rw [T0 (by omega) (by rw [List.length_map]; simp only [List.length_singleton]; omega),List.filter_cons,hc]
   simp) (by
  unfold X7
  simp only []
  rw [if_neg (by simp)]; rfl)
 rw [show ((0:Int),([]:List DrLook)) = (((0:Nat):Int),((List.range 0).filter fun (j:Nat)=>!l.any (· == (j:Int))).map fun (j:Nat)=>r.Persons[j]!) from rfl,this]; rfl
theorem C8o (r:DrRoom) (X:Nat→Bool):(wo r X).Sublist r.Persons:= by
 unfold wo
 have:=(List.filter_sublist (p:=fun i=>!X i) (l:=List.range r.Persons.length)).map fun i=>r.Persons[i]!
 rwa [B4r] at this
theorem D47 {r:DrRoom} (h:(chk r).2.2 = 0) {ps:List DrLook} (hs:ps.Sublist r.Persons):(chk ⟨r.Costs,r.Ounces,r.Figures,ps⟩).2.2 = 0:= by
 obtain ⟨ok,n1,n2⟩:=(N1 r).mp h
 have hl:=hs.length_le
 have hP:=ok.persons
 have hL:∀least x,LkOk r least x→LkOk ⟨r.Costs,r.Ounces,r.Figures,ps⟩ least x:=fun least x o=>⟨o.len,o.col,o.look,o.hair⟩
 refine (N1 _).mpr ⟨⟨ok.costs,ok.cost,ok.ounces,ok.ounce,ok.figures,by show ps.length≤5; omega,fun x hx=>hL _ _ (ok.figure x hx),fun x hx=>hL _ _ (ok.person x (hs.subset hx))⟩,n1,?_⟩
 exact ⟨fun s hs2=>n2.each s ((hs.map _).subset hs2),n2.two.sublist (hs.map _)⟩
theorem C0p:∀n:Nat,n < 6→∀ s:Nat,s < 32→B0d ((2 ^ n - 1:Nat):Int) (s:Int) = ((mask (fun i=>!bit s i) n:Nat):Int):= by decide +kernel
theorem C1n {p:Nat→Bool} {n:Nat} (h:n≤5):mask p n < 64 :=
 Nat.lt_of_lt_of_le (B0r p n) (Nat.le_trans (Nat.pow_le_pow_right (by decide) h) (by decide))
theorem C18 {r:DrRoom} (X:Nat→Bool):A1l r (mask (fun i=>!X i) r.Persons.length) 0 = wo r X:= by
 unfold A1l wo B07
 congr 1
 refine List.filter_congr fun i hi=>?_
 have hi:i < r.Persons.length:= by simpa using hi
 rw [decide_eq_true (Nat.zero_le i),Bool.true_and]
 exact A9n (fun i=>!X i) hi
theorem B32 {r:DrRoom} {X Y:Nat→Bool} (h:∀i,i < r.Persons.length→X i = Y i):wo r X = wo r Y:= by
 unfold wo
 congr 1
 refine List.filter_congr fun i hi=>?_
 rw [h i (by simpa using hi)]
end Ds
end
section
set_option maxRecDepth 100000
set_option maxHeartbeats 0
namespace Ds
open Go Am Go.Proofs.Ytdkflofgolehkaa.Cd
end Ds
end
section
set_option maxRecDepth 100000
namespace Ds
open Go Am Go.Proofs.Ytdkflofgolehkaa.Cd
def arP (p:Bool) (l:List Int):AO:=.arr 1 p (l.map cI)
theorem A4h {α:Type} {l:List α} {i:Nat} {x:α} (h:l[i]? = some x):l.set i x = l:= by
 apply List.ext_getElem?
 intro k
 by_cases e:i = k
 ·subst e; rw [List.getElem?_set_self (List.getElem?_eq_some_iff.1 h).1,h]
 ·rw [List.getElem?_set_ne e]
structure AnyG (room:List AV) where
 L:List AO
 j:Nat
 h0:L[0]? = some (.cells room)
 h2:2 < L.length
 hj:j < L.length
 j0:j ≠ 0
 j2:j ≠ 2
def AnyG.M {room:List AV} (g:AnyG room) (s:Int × List Int × List Int):List AO:=(g.L.set 2 (arP false s.2.1)).set g.j (arP false s.2.2)
end Ds
end
section
set_option maxRecDepth 100000
set_option maxHeartbeats 0
namespace Ds
open Go Am Go.Proofs.Ytdkflofgolehkaa.Cd
end Ds
end
section
namespace Ds
open Go Am
theorem A9j (a b:List Nat):ints (a++b) = ints a++ints b:=List.map_append
end Ds
end
section
set_option maxRecDepth 100000
set_option maxHeartbeats 0
namespace Ds
open Go Am Go.Proofs.Ytdkflofgolehkaa.Cd
def A92 (a0:Int) (x2:(List (List Int))) (s3:(Int × (List (List Int)))) (s12:(Int × (List (List Int)))):Option ((Int × (List (List Int))) ⊕ (List (List Int))) :=
 if (decide (s12.1 < a0)) = true then
  (idx x2 s3.1).bind fun x15 =>
  (app 8 ([]:List Int) x15).bind fun x16 =>
  (app 8 x16 [s12.1]).bind fun x17 =>
  (app 24 s12.2 [x17]).bind fun x18 =>
  some (.inl ((w64 (s12.1 + 1)),x18))
 else
  some (.inr s12.2)
def A93 (a0:Int) (x2:(List (List Int))) (s3:(Int × (List (List Int)))):Option ((Int × (List (List Int))) ⊕ (List (List Int))) :=
 if (decide (s3.1 < (List.length x2:Int))) = true then
  (idx x2 s3.1).bind fun x6 =>
  (if (decide ((List.length x6:Int) > 0)) = true then
   (idx x2 s3.1).bind fun x9 =>
   (idx x2 s3.1).bind fun x10 =>
   (idx x9 (w64 ((List.length x10:Int) - 1))).bind fun x11 =>
   some x11
  else
   some (-1)).bind fun (p7:Int) =>
  (loop (A92 a0 x2 s3) ((w64 (p7 + 1)),s3.2)).bind fun (o19:(List (List Int))) =>
  some (.inl ((w64 (s3.1 + 1)),o19))
 else
  some (.inr s3.2)
def A6u (g99:((Int × Int)→Option (List (List Int)))) (a0:Int) (a1:Int):Option (List (List Int)) :=
 if (a1 == 0) = true then
  some [([]:List Int)]
 else
  (g99 (a0,(w64 (a1 - 1)))).bind fun x2 =>
  (loop (A93 a0 x2) (0,([]:List (List Int)))).bind fun (o20:(List (List Int))) =>
  some o20
def A6v:Nat→(Int × Int)→Option (List (List Int))
 | 0=>fun _=>none
 | k + 1=>fun y=>A6u (A6v k) y.1 y.2
def A4d (a0:Int) (a1:Int):Option (List (List Int)):=A6v 64 (a0,a1)
theorem B4u {g99:((Int × Int)→Option (List (List Int)))} (hg99:∀{c:Sc} {H:A1} {y:(Int × Int)} {r:(List (List Int))},g99 y = some r→R3 tab c H (.fn (.func 70) [] []) [.i y.1,.i y.2] [(.seq 1 (List.map (cL 1 cI) r))]) {c:Sc} {H:A1} {a0:Int} {a1:Int} {r:(List (List Int))} (h:A6u g99 a0 a1 = some r) :
  R3 tab c H (.fn (.func 70) [] []) [.i a0,.i a1] [(.seq 1 (List.map (cL 1 cI) r))]:= by
 unfold A6u at h
 refine cF rfl rfl<|s0<|qm rfl<|es (ra2 rfl rfl)<|B6<|s0<|qm rfl<|A0 (F6 rfl rfl) rfl<|es (ra3 rfl rfl rfl)<|wi h rfl (fun hc1 h=>?_) fun hc1 h=>?_
 ·refine s0<|A0 (G1 (rows:=List.map (cL 1 cI) [([]:List Int)]) rfl rfl (D8 (fun _=>rfl) _)) rfl<|qm rfl<|es (ra1 rfl)<|C4 ?_
  obtain rfl:=os h
  refine Exists.intro [(.seq 1 (List.map (cL 1 cI) [([]:List Int)]))] (And.intro ?_ rfl)
  exact retq trivial (B1 rfl B7) (A5 rfl B9) (A3 E3 B2)
 ·refine C1<|sg 0 rfl<|A0 A2k rfl<|es (ra3 rfl rfl rfl)<|s0<|oB h fun x2 hx2 h=>qm rfl<|qm rfl<|A0 (Z8 rfl rfl) rfl<|B4 (rs:=[(.seq 1 (List.map (cL 1 cI) x2))]) rfl rfl (A2 rfl (A2 rfl B5)) (hg99 hx2)<|qm rfl<|es (ra3 rfl rfl rfl)<|B6<|s0<|qm rfl<|es (ra4 rfl rfl rfl rfl)<|C3<|oB h fun o20 ho20 h=>wl (fun s3=>[(0,.i a0),(5,(.asl (H.length + 0) (List.length s3.2))),(6,(.seq 1 (List.map (cL 1 cI) x2))),(7,.i s3.1)]) (fun (q4:Unit) s3=>[(.arr 1 false (List.map (cL 1 cI) s3.2))]) 1 (fun r e s' H'=>PX 0 [(5,(.asl (H.length + 0) (List.length r)))] (H++[(.arr 1 false (List.map (cL 1 cI) r))]) e s' H') () ho20 rfl rfl (fun _ _=>rfl) (fun _=>rfl) rfl (fun s3=>(bdc A8 (bdc (W9 rfl) (bdc E3 (bdc A8 bdn))))) (fun q4 s3 ys3 hs3=>?_) ?_
  ·unfold A93 at hs3
   refine B6<|s0<|qm rfl<|qm rfl<|A0 (D4 (f:=(cL 1 cI)) rfl) rfl<|A0 (G2 rfl rfl) rfl<|es (ra5 rfl rfl rfl rfl rfl)<|wi hs3 rfl (fun hc5 hs3=>?_) fun hc5 hs3=>?_
   ·refine C1<|B6<|C3<|s0<|qm rfl<|es (ra5 rfl rfl rfl rfl rfl)<|B6<|s0<|oB hs3 fun x6 hx6 hs3=>qm rfl<|qm rfl<|A0 (E1 (f:=(cL 1 cI)) rfl rfl hx6) rfl<|A0 (E5 rfl rfl) rfl<|A0 (D4 (f:=cI) rfl) rfl<|A0 (A6z rfl rfl) rfl<|es (ra6 rfl rfl rfl rfl rfl rfl)<|oB hs3 fun p7 hp7 hs3=>B2b (Q1:=fun e s' H'=>e = .normal∧s' = [(0,.i a0),(5,(.asl (H.length + 0) (List.length s3.2))),(6,(.seq 1 (List.map (cL 1 cI) x2))),(7,.i s3.1),(8,.i p7)]∧H' = (H++[(.arr 1 false (List.map (cL 1 cI) s3.2))])) ?_ ?_
    ·refine wi hp7 rfl (fun hc8 hp7=>?_) fun hc8 hp7=>?_
     ·refine r0<|oB hp7 fun x9 hx9 hp7=>oB hp7 fun x10 hx10 hp7=>oB hp7 fun x11 hx11 hp7=>qm rfl<|qm rfl<|A0 (E1 (f:=(cL 1 cI)) rfl rfl hx9) rfl<|A0 (E5 rfl rfl) rfl<|qm rfl<|qm rfl<|A0 (E1 (f:=(cL 1 cI)) rfl rfl hx10) rfl<|A0 (E5 rfl rfl) rfl<|A0 (D4 (f:=cI) rfl) rfl<|A0 (Z8 rfl rfl) rfl<|A0 (E1 (f:=cI) rfl rfl hx11) rfl<|A0 (E5 rfl rfl) rfl<|qm rfl<|en (ra5 rfl rfl rfl rfl rfl) ?_
      obtain rfl:=os hp7
      exact me (And.intro rfl (And.intro rfl rfl)) (su5 rfl rfl rfl rfl rfl)
     ·refine C1 ?_
      obtain rfl:=os hp7
      exact me (And.intro rfl (And.intro rfl rfl)) (su5 rfl rfl rfl rfl rfl)
    ·rintro e s' H' ⟨rfl,rfl,rfl⟩
     refine s0<|qm rfl<|A0 (E8 rfl rfl) rfl<|qm rfl<|es (ra5 rfl rfl rfl rfl rfl)<|C3<|oB hs3 fun o19 ho19 hs3=>wl (fun s12=>[(0,.i a0),(5,(.asl (H.length + 0) (List.length s12.2))),(6,(.seq 1 (List.map (cL 1 cI) x2))),(7,.i s3.1),(9,.i s12.1)]) (fun (q13:Unit) s12=>[(.arr 1 false (List.map (cL 1 cI) s12.2))]) 1 (fun r e s' H'=>PX 2 [(0,.i a0),(5,(.asl (H.length + 0) (List.length r))),(6,(.seq 1 (List.map (cL 1 cI) x2))),(7,.i s3.1)] (H++[(.arr 1 false (List.map (cL 1 cI) r))]) e s' H') () ho19 rfl rfl (fun _ _=>rfl) (fun _=>rfl) rfl (fun s12=>(bdc A8 (bdc (W9 rfl) (bdc E3 (bdc A8 (bdc A8 bdn)))))) (fun q13 s12 ys12 hs12=>?_) ?_
     ·unfold A92 at hs12
      refine B6<|s0<|qm rfl<|qm rfl<|A0 (G2 rfl rfl) rfl<|es (ra6 rfl rfl rfl rfl rfl rfl)<|wi hs12 rfl (fun hc14 hs12=>?_) fun hc14 hs12=>?_
      ·refine C1<|B6<|C3<|rg 1 rfl<|oB hs12 fun x15 hx15 hs12=>oB hs12 fun x16 hx16 hs12=>oB hs12 fun x17 hx17 hs12=>oB hs12 fun x18 hx18 hs12=>qm rfl<|A0 (B6x (rows:=List.map cI []) rfl rfl (D8 (fun _=>rfl) _)) rfl<|qm rfl<|qm rfl<|A0 (E1 (f:=(cL 1 cI)) rfl rfl hx15) rfl<|A0 (E5 rfl rfl) rfl<|Q2 (U5 (f:=cI) rfl rfl rfl rfl Q6 (fun _=>rfl) hx16) rfl<|qm rfl<|A0 (G1 (rows:=List.map cI [s12.1]) rfl rfl (D8 (fun _=>rfl) _)) rfl<|Q2 (C28 (f:=cI) rfl rfl rfl rfl Q6 (fun _=>rfl) hx17) rfl<|A0 (G1 (rows:=List.map (cL 1 cI) [x17]) rfl rfl (D8 (fun _=>rfl) _)) rfl<|Q2 (U5 (f:=(cL 1 cI)) rfl rfl rfl rfl Q6 (fun _=>rfl) hx18) rfl<|qm rfl<|en (ra5 rfl rfl rfl rfl rfl)<|r0<|qm rfl<|A0 (E8 rfl rfl) rfl<|qm rfl<|en (ra5 rfl rfl rfl rfl rfl) ?_
       cases hs12
       exact lnT () rfl (su5 rfl rfl rfl rfl rfl)
      ·refine F2 ?_
       obtain rfl:=os hs12
       exact lx rfl px (su4 rfl rfl rfl rfl)
     ·rintro e s' H' - ⟨rfl,rfl,rfl⟩
      refine r0<|qm rfl<|A0 (E8 rfl rfl) rfl<|qm rfl<|en (ra4 rfl rfl rfl rfl) ?_
      cases hs3
      exact lnT () rfl (su4 rfl rfl rfl rfl)
   ·refine F2 ?_
    obtain rfl:=os hs3
    exact lx rfl px (su1 rfl)
  ·rintro e s' H' - ⟨rfl,rfl,rfl⟩
   refine s0<|qm rfl<|qm rfl<|es (ra1 rfl)<|C4 ?_
   obtain rfl:=os h
   refine Exists.intro [(.fresh 1 (List.map (cL 1 cI) o20))] (And.intro ?_ rfl)
   exact retq trivial (B1 rfl B7) (A5 (A1r rfl (List.length_map _)) B9) (A3 T6 B2)
theorem A69:∀(k:Nat) {c:Sc} {H:A1} {y:(Int × Int)} {r:(List (List Int))},A6v k y = some r→R3 tab c H (.fn (.func 70) [] []) [.i y.1,.i y.2] [(.seq 1 (List.map (cL 1 cI) r))]
 | 0,_,_,_,_,h=>by cases h
 | k + 1,_,_,_,_,h=>B4u (A69 k) h
theorem A9w {c:Sc} {H:A1} {a0:Int} {a1:Int} {r:(List (List Int))} (h:A4d a0 a1 = some r):R3 tab c H (.fn (.func 70) [] []) [.i a0,.i a1] [(.seq 1 (List.map (cL 1 cI) r))]:=A69 64 h
end Ds
end
section
set_option maxRecDepth 100000
namespace Ds
open Go Am
def bl (n s:Nat):List Nat:=(List.range n).filter (bit s)
def pk (n m:Nat):List (List Nat):=((A4d (n:Int) (m:Int)).getD []).map nats
def C6z (n:Nat):List (List Nat):=(List.range (n + 1)).flatMap (pk n)
def rank (n s:Nat):Nat:=(C6z n).idxOf (bl n s)
def E1j (a b:List Int):Option Bool :=
 (if (decide ((List.length a:Int) > (List.length b:Int))) = true then
   some true
  else
   (if ((List.length a:Int) == (List.length b:Int)) = true then
   (T2 a b).bind fun x28 =>
   some (decide (x28 > 0))
   else
   some false).bind fun x29 =>
   some x29).bind fun x30 =>
  some x30
theorem C50:∀n:Nat,n < 6→∀ m:Nat,m < n + 1→A4d (n:Int) (m:Int) = some ((pk n m).map ints):= by decide +kernel
theorem C9y:∀n:Nat,n < 6→pk n n = [List.range n]:= by decide +kernel
theorem D9d:∀n:Nat,n < 6→∀ m:Nat,m < n + 1→(pk n m).length≤10:= by decide +kernel
theorem A91:∀n:Nat,n < 6→∀ s:Nat,s < 2 ^ n→(C6z n)[rank n s]? = some (bl n s):= by decide +kernel
theorem C57:∀n:Nat,n < 6→∀ i:Nat,i < (C6z n).length→(List.range (2 ^ n)).any (fun s=>rank n s == i) = true:= by decide +kernel
theorem D1u:∀n:Nat,n < 6→∀ s:Nat,s < 2 ^ n→∀ t:Nat,t < 2 ^ n→E1j (ints (bl n s)) (ints (bl n t)) = some (decide (rank n t < rank n s)):= by decide +kernel
end Ds
end
section
set_option maxRecDepth 100000
set_option maxHeartbeats 0
namespace Ds
open Go Am Go.Proofs.Ytdkflofgolehkaa.Cd
def A1h (a0:DrRoom) (x6:(List (List Int))) (s7:Int):Option (Int ⊕ (((List Int) × Int) ⊕ Unit)) :=
 if (decide (s7 < (List.length x6:Int))) = true then
  (idx x6 s7).bind fun x10 =>
  (W5 a0 x10).bind fun x11 =>
  (V6 x11 true).bind fun x12 =>
  if (decide ((List.length x12:Int) > 0)) = true then
  (idx x6 s7).bind fun x14 =>
  some (.inr (.inl (x14,0)))
  else
  some (.inl (w64 (s7 + 1)))
 else
  some (.inr (.inr ()))
def A29 (a0:DrRoom) (s3:Int):Option (Int ⊕ (((List Int) × Int) ⊕ Unit)) :=
 if (decide (s3 < (List.length a0.Persons:Int))) = true then
  (A4d (List.length a0.Persons:Int) s3).bind fun x6 =>
  (loop (A1h a0 x6) 0).bind fun (o15:(((List Int) × Int) ⊕ Unit)) =>
  match o15 with
  | (.inl vo15_0) =>
  some (.inr (.inl vo15_0))
  | (.inr vo15_1) =>
  some (.inl (w64 (s3 + 1)))
 else
  some (.inr (.inr ()))
def A7j (a0:DrRoom):Option ((List Int) × Int) :=
 (P6 a0).bind fun x1 =>
 if (x1.2.2 != 0) = true then
  some (([]:List Int),x1.2.2)
 else
  (loop (A29 a0) 0).bind fun (o16:(((List Int) × Int) ⊕ Unit)) =>
  match o16 with
  | (.inl vo16_0) =>
  some vo16_0
  | (.inr vo16_1) =>
  (A4d (List.length a0.Persons:Int) (List.length a0.Persons:Int)).bind fun x17 =>
  (idx x17 0).bind fun x18 =>
  some (x18,0)
theorem C3f {c:Sc} {H:A1} {a0:DrRoom} {r:((List Int) × Int)} (h:A7j a0 = some r) :
  E9 tab c H (.fn (.func 33) [] []) [(.agg (A4 a0))] [(.seq 1 (List.map cI r.1)),.i r.2]:= by
 unfold A7j at h
 refine cE rfl rfl<|sg 0 rfl<|A0 (F5 (cs:=A4 a0) rfl rfl rfl) rfl<|qm rfl<|qm rfl<|es (ra1 rfl)<|s0<|oB h fun x1 hx1 h=>A0 (C2 rfl rfl rfl) rfl<|B4 (rs:=[.i x1.1,.i x1.2.1,.i x1.2.2]) rfl rfl (A2 (C9 rfl) B5) ((R8 hx1).frz)<|qm rfl<|A0 (A6 rfl rfl) rfl<|A0 (A6 rfl rfl) rfl<|A0 (A6 rfl rfl) rfl<|qm rfl<|qm rfl<|qm rfl<|es (ra2 rfl rfl)<|B6<|s0<|qm rfl<|A0 (J7 rfl rfl) rfl<|es (ra3 rfl rfl rfl)<|wi h rfl (fun hc2 h=>?_) fun hc2 h=>?_
 ·refine s0<|qm rfl<|qm rfl<|qm rfl<|es (ra2 rfl rfl)<|C4 ?_
  obtain rfl:=os h
  exact retq trivial (B1 rfl (B1 rfl B7)) (A5 rfl (A5 rfl B9)) (A3 E3 (A3 A8 B2))
 ·refine C1<|B6<|s0<|qm rfl<|es (ra2 rfl rfl)<|C3<|oB h fun o16 ho16 h=>wl (fun s3=>[(1,(.ptr (H.length + 0) 0)),(7,.i s3)]) (fun (q4:Unit) s3=>[(.cells (A4 a0))]) 1 (fun r e s' H'=>(match r with | (.inl v)=>e = .ret∧RetQ H [.tmp 2,.tmp 3] [(.seq 1 (List.map cI v.1)),.i v.2] e s' H' | (.inr v)=>PX 0 [(1,(.ptr (H.length + 0) 0))] (H++[(.cells (A4 a0))]) e s' H':Prop)) () ho16 rfl rfl (fun _ _=>rfl) (fun _=>rfl) rfl (fun s3=>(bdc (F0 rfl) (bdc A8 bdn))) (fun q4 s3 ys3 hs3=>?_) ?_
  ·unfold A29 at hs3
   refine B6<|s0<|qm rfl<|A0 (D1 rfl) rfl<|A0 (C5 rfl rfl rfl) rfl<|A0 (D4 (f:=A7) rfl) rfl<|A0 (G2 rfl rfl) rfl<|es (ra3 rfl rfl rfl)<|wi hs3 rfl (fun hc5 hs3=>?_) fun hc5 hs3=>?_
   ·refine C1<|B6<|C3<|s0<|oB hs3 fun x6 hx6 hs3=>A0 (D1 rfl) rfl<|A0 (C5 rfl rfl rfl) rfl<|A0 (D4 (f:=A7) rfl) rfl<|qm rfl<|B4 (rs:=[(.seq 1 (List.map (cL 1 cI) x6))]) rfl rfl (A2 rfl (A2 rfl B5)) (A9w hx6)<|qm rfl<|es (ra3 rfl rfl rfl)<|s0<|qm rfl<|es (ra4 rfl rfl rfl rfl)<|C3<|oB hs3 fun o15 ho15 hs3=>wl (fun s7=>[(1,(.ptr (H.length + 0) 0)),(7,.i s3),(8,(.seq 1 (List.map (cL 1 cI) x6))),(9,.i s7)]) (fun (q8:Unit) s7=>[(.cells (A4 a0))]) 1 (fun r e s' H'=>(match r with | (.inl v)=>e = .ret∧RetQ H [.tmp 2,.tmp 3] [(.seq 1 (List.map cI v.1)),.i v.2] e s' H' | (.inr v)=>PX 2 [(1,(.ptr (H.length + 0) 0)),(7,.i s3)] (H++[(.cells (A4 a0))]) e s' H':Prop)) () ho15 rfl rfl (fun _ _=>rfl) (fun _=>rfl) rfl (fun s7=>(bdc (F0 rfl) (bdc A8 (bdc E3 (bdc A8 bdn))))) (fun q8 s7 ys7 hs7=>?_) ?_
    ·unfold A1h at hs7
     refine B6<|s0<|qm rfl<|qm rfl<|A0 (D4 (f:=(cL 1 cI)) rfl) rfl<|A0 (G2 rfl rfl) rfl<|es (ra5 rfl rfl rfl rfl rfl)<|wi hs7 rfl (fun hc9 hs7=>?_) fun hc9 hs7=>?_
     ·refine C1<|B6<|C3<|s0<|oB hs7 fun x10 hx10 hs7=>oB hs7 fun x11 hx11 hs7=>oB hs7 fun x12 hx12 hs7=>A0 (C2 rfl rfl rfl) rfl<|qm rfl<|qm rfl<|A0 (E1 (f:=(cL 1 cI)) rfl rfl hx10) rfl<|A0 (E5 rfl rfl) rfl<|B4 (rs:=[(.agg (A4 x11))]) rfl rfl (A2 (C9 rfl) (A2 rfl B5)) ((A7b hx11).frz)<|B4 (rs:=[(.seq 1 (List.map (cL 1 cI) x12))]) rfl rfl (A2 (C9 rfl) (A2 rfl B5)) ((A5n hx12).frz)<|A0 (D4 (f:=(cL 1 cI)) rfl) rfl<|A0 (A6z rfl rfl) rfl<|es (ra5 rfl rfl rfl rfl rfl)<|wi hs7 rfl (fun hc13 hs7=>?_) fun hc13 hs7=>?_
      ·refine s0<|oB hs7 fun x14 hx14 hs7=>qm rfl<|qm rfl<|A0 (E1 (f:=(cL 1 cI)) rfl rfl hx14) rfl<|A0 (E5 rfl rfl) rfl<|qm rfl<|qm rfl<|es (ra2 rfl rfl)<|C4 ?_
       obtain rfl:=os hs7
       exact lx rfl (And.intro rfl (retq trivial (B1 rfl (B1 rfl B7)) (A5 rfl (A5 rfl B9)) (A3 E3 (A3 A8 B2)))) (Sub.refl _)
      ·refine C1<|r0<|qm rfl<|A0 (E8 rfl rfl) rfl<|qm rfl<|en (ra4 rfl rfl rfl rfl) ?_
       cases hs7
       exact lnT () rfl (su4 rfl rfl rfl rfl)
     ·refine F2 ?_
      obtain rfl:=os hs7
      exact lx rfl px (su2 rfl rfl)
    ·rcases o15 with vo15_0 | vo15_1
     ·rintro e s' H' - ⟨rfl,hret⟩
      cases hs3
      exact lx rfl (And.intro rfl hret) (Sub.refl _)
     ·rintro e s' H' - ⟨rfl,rfl,rfl⟩
      refine r0<|qm rfl<|A0 (E8 rfl rfl) rfl<|qm rfl<|en (ra2 rfl rfl) ?_
      cases hs3
      exact lnT () rfl (su2 rfl rfl)
   ·refine F2 ?_
    obtain rfl:=os hs3
    exact lx rfl px (su1 rfl)
  ·rcases o16 with vo16_0 | vo16_1
   ·rintro e s' H' - ⟨rfl,hret⟩
    cases h
    exact hret
   ·rintro e s' H' - ⟨rfl,rfl,rfl⟩
    refine s0<|oB h fun x17 hx17 h=>oB h fun x18 hx18 h=>A0 (D1 rfl) rfl<|A0 (C5 rfl rfl rfl) rfl<|A0 (D4 (f:=A7) rfl) rfl<|A0 (D1 rfl) rfl<|A0 (C5 rfl rfl rfl) rfl<|A0 (D4 (f:=A7) rfl) rfl<|B4 (rs:=[(.seq 1 (List.map (cL 1 cI) x17))]) rfl rfl (A2 rfl (A2 rfl B5)) (A9w hx17)<|A0 (E1 (f:=(cL 1 cI)) rfl rfl hx18) rfl<|A0 (E5 rfl rfl) rfl<|qm rfl<|qm rfl<|es (ra2 rfl rfl)<|C4 ?_
    obtain rfl:=os h
    exact retq trivial (B1 rfl (B1 rfl B7)) (A5 rfl (A5 rfl B9)) (A3 E3 (A3 A8 B2))
end Ds
end
section
namespace Ds
open Go Am
theorem A5c {ρ:Type} (f:Nat→Option ρ):∀n,first f n = (List.range n).findSome? f
 | 0=>rfl
 | n + 1=>by
  unfold first
  rw [A5c f n,List.range_succ,List.findSome?_append]
  cases (List.range n).findSome? f with
  | some x=>rfl
  | none =>
   simp only [List.findSome?_cons,List.findSome?_nil,Option.none_or]
   cases f n <;> rfl
theorem C4p {α ρ:Type} (p:α→Bool) (g:α→ρ):∀l:List α,l.findSome? (fun x=>if p x then some (g x) else none) = (l.find? p).map g
 | []=>rfl
 | x :: l=>by
  rw [List.findSome?_cons,List.find?_cons,C4p p g l]
  cases p x <;> rfl
theorem C7c {α ρ:Type} [Inhabited α] (l:List α) (p:α→Bool) (g:α→ρ):first (fun i=>if p l[i]! then some (g l[i]!) else none) l.length = (l.find? p).map g:= by
 rw [A5c,← C4p p g l]
 conv=>rhs; rw [← B4r l]
 rw [List.findSome?_map]; rfl
theorem B5d {n s i:Nat} (h:i < n):(bl n s).contains i = bit s i:= by
 unfold bl
 rw [Bool.eq_iff_iff,List.contains_iff_mem,List.mem_filter,List.mem_range]
 exact ⟨fun x=>x.2,fun x=>⟨h,x⟩⟩
def A7y (r:DrRoom) (L:List Nat):Bool:=!(AL r (wo r fun i=>L.contains i)).isEmpty
def can (r:DrRoom) (s:Nat):Bool:=A7y r (bl r.Persons.length s)
theorem E1o (r:DrRoom) (s:Nat):wo r (fun i=>(bl r.Persons.length s).contains i) = wo r (bit s):=B32 fun _ hi=>B5d hi
theorem D76 (r:DrRoom) (s:Nat):can r s = !(AL r (wo r (bit s))).isEmpty:= by
 unfold can A7y; rw [E1o]
def rk (n s:Nat):Int:=(rank n s:Int)
def B13 (r:DrRoom) (i:Nat):Option Nat:=fm (rk r.Persons.length) ((List.range i).filter (can r))
def stO (n:Nat) (o:Option Nat) (i:Nat):List Int × Bool × Int:=match o with
 | none=>([],false,(i:Int))
 | some s=>(ints (bl n s),true,(i:Int))
theorem D1g (r:DrRoom) (i:Nat):B13 r (i + 1) = if can r i then (match B13 r i with | none=>some i | some b=>if rk r.Persons.length i < rk r.Persons.length b then some i else some b) else B13 r i:= by
 unfold B13
 rw [List.range_succ,List.filter_append,List.filter_cons]
 cases can r i with
 | false=>simp
 | true =>
  simp only [if_true,List.filter_nil]
  rw [B2t]
  cases fm (rk r.Persons.length) ((List.range i).filter (can r)) <;> rfl
theorem C9w {r:DrRoom} {i s:Nat} (h:B13 r i = some s):s < i∧can r s = true:= by
 have:=List.mem_filter.mp (A75 h)
 exact ⟨by simpa using this.1,this.2⟩
theorem C62 (n s:Nat):(bl n s).length≤n:= by
 have:=List.length_filter_le (bit s) (List.range n)
 rw [List.length_range] at this
 exact this
theorem D81 {r:DrRoom} (ok:RmOk r) (s15:List Int × Bool × Int) {s:Nat} (e:s15.2.2 = (s:Int)) (hs:s < 64):loop (A07 r s15) (0,[]) = some (ints (bl r.Persons.length s)):= by
 have hP:=ok.persons
 have:=H7 (b:=A07 r s15) (fun i=>((i:Int),ints (bl i s))) r.Persons.length (r:=ints (bl r.Persons.length s)) (by omega) (fun i hi=>by
  have hl:=C62 i s
  unfold A07
  simp only []
  rw [if_pos (by simpa using hi),e,B9g _ _ (by omega)]
  simp only [Option.bind_some]
  rw [and1 (Nat.lt_of_le_of_lt (Nat.div_le_self _ _) hs)]
  have hb:(s / 2 ^ i % 2 == 1) = bit s i:=rfl
  rw [hb,E0 (by omega)]
  have hst:bl (i + 1) s = bl i s++if bit s i then [i] else []:= by
   unfold bl
   rw [List.range_succ,List.filter_append,List.filter_cons]
   cases bit s i <;> rfl
  rw [hst]
  cases bit s i with
  | false=>simp only [Bool.false_eq_true,if_false,List.append_nil]; rfl
  | true =>
   simp only [if_true]
   rw [T0 (by omega) (by rw [F4]; simp only [List.length_singleton]; omega),A9j]; rfl) (by
  unfold A07
  simp only []
  rw [if_neg (by simp)])
 exact this
theorem D82 {r:DrRoom} (ok:RmOk r) {ch:Chg} (hch:C2i r ch) {i:Nat} (hi:i < 2 ^ r.Persons.length) :
  A08 r ch ((2 ^ r.Persons.length:Nat):Int) (stO r.Persons.length (B13 r i) i) = some (.inl (stO r.Persons.length (B13 r (i + 1)) (i + 1))):= by
 have hP:=ok.persons
 have h32:2 ^ r.Persons.length≤32:=Nat.le_trans (Nat.pow_le_pow_right (by decide) hP) (by decide)
 have e0:(stO r.Persons.length (B13 r i) i).2.2 = (i:Int):= by
  cases B13 r i <;> rfl
 have hgo:((I8 ⟨r⟩).bind fun x33=>(P5 r ch (B0d x33 (i:Int))).bind fun x34=>some (decide ((List.length x34:Int) > 0))) = some (can r i):= by
  rw [A7s ok]
  simp only [Option.bind_some]
  rw [C0p _ (by omega) _ (by omega),C3r ok hch (C1n hP),C18]
  simp only [Option.bind_some]
  rw [D76,List.length_map]
  cases AL r (wo r (bit i)) with
  | nil=>rfl
  | cons x l=>simp
 obtain ⟨x33,g1,g⟩:=Option.bind_eq_some_iff.mp hgo
 obtain ⟨x34,g2,g3⟩:=Option.bind_eq_some_iff.mp g
 have g3:=Option.some.inj g3
 unfold A08
 rw [e0,if_pos (by rw [decide_eq_true_eq]; omega),D81 ok _ e0 (by omega),E0 (by omega),show ((i:Int) + 1) = ((i + 1:Nat):Int) from rfl,D1g]
 simp only [Option.bind_some]
 cases ho:B13 r i with
 | none =>
  simp only [stO,Bool.false_eq_true,if_false,Option.bind_some]
  rw [g1]
  simp only [Option.bind_some]
  rw [g2]
  simp only [Option.bind_some]
  rw [g3]
  cases can r i <;> rfl
 | some b =>
  obtain ⟨hb,-⟩:=C9w ho
  have hsk:=D1u r.Persons.length (by omega) i hi b (by omega)
  simp only [stO,if_true]
  refine Eq.trans (congrArg (fun o=>Option.bind o _) hsk) ?_
  simp only [Option.bind_some]
  by_cases c:rank r.Persons.length b < rank r.Persons.length i
  ·rw [if_pos (by simpa using c)]
   have hn:¬ rk r.Persons.length i < rk r.Persons.length b:= by unfold rk; omega
   rw [if_neg hn]
   cases can r i <;> rfl
  ·rw [if_neg (by simpa using c),g1]
   simp only [Option.bind_some]
   rw [g2]
   simp only [Option.bind_some]
   rw [g3]
   cases can r i with
   | false=>rfl
   | true =>
    simp only [if_true]
    by_cases d:rank r.Persons.length i < rank r.Persons.length b
    ·rw [if_pos (by unfold rk; omega)]
    ·rw [if_neg (by unfold rk; omega)]
     have e:rank r.Persons.length i = rank r.Persons.length b:= by omega
     have r1:=A91 r.Persons.length (by omega) i hi
     have r2:=A91 r.Persons.length (by omega) b (by omega)
     rw [e,r2] at r1
     have:=Option.some.inj r1
     simp only [this]
theorem D2g {r:DrRoom} (ok:RmOk r):A48 r [] = true:= by
 unfold A48
 rw [List.all_eq_true]
 intro c _
 rw [decide_eq_true_eq]
 have:=(C5s ok c).1
 show 0≤r.Ounces.getD c 0 + 0
 omega
theorem nobody {r:DrRoom} (ok:RmOk r) {L:List Nat} (h:∀i,i < r.Persons.length→L.contains i = true):A7y r L = true:= by
 have e:(wo r fun i=>L.contains i) = []:= by
  unfold wo
  rw [List.filter_eq_nil_iff.mpr (fun i hi=>by
   have:=h i (by simpa using hi)
   show ¬ (!L.contains i) = true
   rw [this]; decide)]
  rfl
 unfold A7y
 rw [e]
 have:[] ∈ AL r []:=C2g.mpr ⟨⟨rfl,List.nodup_nil,by simp⟩,D2g ok⟩
 cases hA:AL r [] with
 | nil=>rw [hA] at this; cases this
 | cons x l=>rfl
def C7x (r:DrRoom):Nat:=(B13 r (2 ^ r.Persons.length)).getD 0
theorem C9x {r:DrRoom} (ok:RmOk r):B13 r (2 ^ r.Persons.length) = some (C7x r):= by
 have hP:=ok.persons
 have h1:0 < 2 ^ r.Persons.length:=Nat.two_pow_pos _
 have hm:2 ^ r.Persons.length - 1 ∈ (List.range (2 ^ r.Persons.length)).filter (can r):= by
  rw [List.mem_filter]
  refine ⟨by simp; omega,nobody ok fun i hi=>?_⟩
  rw [B5d hi]
  exact B9u _ (by omega) i hi
 obtain ⟨b,hb⟩:=C84 (k:=rk r.Persons.length) hm
 unfold C7x
 rw [show B13 r (2 ^ r.Persons.length) = some b from hb]; rfl
def D1h (r:DrRoom):List Int × Int:=if (chk r).2.2 ≠ 0 then ([],(chk r).2.2) else (ints (bl r.Persons.length (C7x r)),0)
theorem D7w (r:DrRoom) (hb:NB r):A3l r = some (D1h r):= by
 unfold A3l D1h
 rw [A33 r hb]
 simp only [Option.bind_some]
 by_cases h0:(chk r).2.2 = 0
 ·obtain ⟨ok,-⟩:=(N1 r).mp h0
  have hP:=ok.persons
  have h32:2 ^ r.Persons.length≤32:=Nat.le_trans (Nat.pow_le_pow_right (by decide) hP) (by decide)
  obtain ⟨ch,e1,hch⟩:=B7i ok
  have hr:∀{α:Type} (a b:α),(if (chk r).2.2 ≠ 0 then a else b) = b:=fun a b=>if_neg (fun c=>c h0)
  rw [hr,if_neg (by simp [h0]),show loop (A71 r) (0,[]) = some ch from e1,A7q _ (by omega)]
  simp only [Option.bind_some]
  have:=H7 (b:=A08 r ch ((2 ^ r.Persons.length:Nat):Int)) (fun i=>stO r.Persons.length (B13 r i) i) (2 ^ r.Persons.length) (r:=ints (bl r.Persons.length (C7x r))) (by omega) (fun i hi=>D82 ok hch hi) (by
   rw [C9x ok]
   unfold A08 stO
   simp only []
   rw [if_neg (by simp)])
  rw [show (([]:List Int),false,(0:Int)) = stO r.Persons.length (B13 r 0) 0 from rfl,this]; rfl
 ·rw [if_pos h0,if_pos (by simpa using h0)]
theorem D4v {r:DrRoom} (h0:(chk r).2.2 = 0) (L:List Nat) (hL:L.length < 1000):((W5 r (ints L)).bind fun x11=>(V6 x11 true).bind fun x12=>some (decide ((List.length x12:Int) > 0))) = some (A7y r L):= by
 obtain ⟨ok,-⟩:=(N1 r).mp h0
 rw [B7a ok.persons _ (by rw [F4]; omega)]
 simp only [Option.bind_some]
 have hw:woR r (fun i=>(ints L).any (· == (i:Int))) = woR r (fun i=>L.contains i):= by
  unfold woR
  rw [B32 (X:=fun i=>(ints L).any (· == (i:Int))) (Y:=fun i=>L.contains i) fun i _=>B76 L i]
 rw [hw]
 obtain ⟨ok2,-⟩:=(N1 _).mp (D47 h0 (C8o r fun i=>L.contains i))
 rw [show V6 (woR r fun i=>L.contains i) true = _ from B68 ok2 true]
 simp only [Option.bind_some]
 rw [List.length_map]
 show some (decide (((AL r (wo r fun i=>L.contains i)).length:Int) > 0)) = _
 unfold A7y
 cases AL r (wo r fun i=>L.contains i) with
 | nil=>rfl
 | cons x l=>simp
theorem D4t {n m:Nat} (hn:n < 6) (hm:m < n + 1):∀L ∈ pk n m,L.length < 1000:=fun L hL=>by
 have h1:L ∈ C6z n:=List.mem_flatMap.mpr ⟨m,by simpa using hm,hL⟩
 obtain ⟨i,hi,rfl⟩:=List.mem_iff_getElem.mp h1
 have h2:=List.any_eq_true.mp (C57 n hn i hi)
 obtain ⟨s,hs,e⟩:=h2
 have hs:s < 2 ^ n:= by simpa using hs
 have e:rank n s = i:= by simpa using e
 have h3:=A91 n hn s hs
 rw [e,List.getElem?_eq_getElem hi] at h3
 rw [Option.some.inj h3]
 have:=C62 n s; omega
theorem C77 {r:DrRoom} (h0:(chk r).2.2 = 0) (l:List (List Nat)) (hl:l.length < 1000) (hL:∀L ∈ l,L.length < 1000):loop (A1h r (l.map ints)) 0 = some (match l.find? (A7y r) with | some L=>.inl (ints L,0) | none=>.inr ()):= by
 have:=A55 (b:=A1h r (l.map ints)) l.length (fun i=>if A7y r l[i]! then some (Sum.inl (ints l[i]!,(0:Int))) else none) (.inr ()) (by omega) (fun i hi _=>by
  have hx:idx (l.map ints) (i:Int) = some (ints l[i]!):=A2y (by rw [List.getElem?_map,List.getElem?_eq_getElem hi,getElem!_pos l i hi]; rfl)
  have hp:=D4v h0 l[i]! (hL _ (J0 hi))
  obtain ⟨x11,g1,g⟩:=Option.bind_eq_some_iff.mp hp
  obtain ⟨x12,g2,g3⟩:=Option.bind_eq_some_iff.mp g
  have g3:=Option.some.inj g3
  unfold A1h
  rw [if_pos (by simpa using hi),hx]
  simp only [Option.bind_some]
  rw [g1]
  simp only [Option.bind_some]
  rw [g2]
  simp only [Option.bind_some]
  rw [g3]
  cases A7y r l[i]! <;> rfl) (by
  unfold A1h
  rw [if_neg (by simp)])
 rw [this,C7c l (A7y r) (fun L=>Sum.inl (ints L,(0:Int)))]
 cases l.find? (A7y r) <;> rfl
theorem D23 {r:DrRoom} (ok:RmOk r):(C6z r.Persons.length).find? (A7y r) = some (bl r.Persons.length (C7x r)):= by
 have hP:=ok.persons
 have hn:r.Persons.length < 6:= by omega
 have ho:=C9x ok
 obtain ⟨h1,h2⟩:=C9w ho
 have hg:=A91 _ hn _ h1
 obtain ⟨hi,he⟩:=List.getElem?_eq_some_iff.mp hg
 rw [List.find?_eq_some_iff_getElem]
 refine ⟨h2,rank r.Persons.length (C7x r),hi,he,fun j hj=>?_⟩
 have hjl:j < (C6z r.Persons.length).length:= by omega
 obtain ⟨t,ht,e⟩:=List.any_eq_true.mp (C57 _ hn j hjl)
 have ht:t < 2 ^ r.Persons.length:= by simpa using ht
 have e:rank r.Persons.length t = j:= by simpa using e
 have hgt:=A91 _ hn _ ht
 rw [e,List.getElem?_eq_getElem hjl] at hgt
 rw [Option.some.inj hgt]
 cases hc:A7y r (bl r.Persons.length t) with
 | false=>rfl
 | true =>
  have:=D7k (k:=rk r.Persons.length) ho (y:=t) (List.mem_filter.mpr ⟨by simpa using ht,hc⟩)
  unfold rk at this
  omega
theorem C78 (r:DrRoom):A7j r = some (D1h r):= by
 unfold A7j D1h
 rw [V7]
 simp only [Option.bind_some]
 by_cases h0:(chk r).2.2 = 0
 ·obtain ⟨ok,-⟩:=(N1 r).mp h0
  have hP:=ok.persons
  have hr:∀{α:Type} (a b:α),(if (chk r).2.2 ≠ 0 then a else b) = b:=fun a b=>if_neg (fun c=>c h0)
  rw [hr,if_neg (by simp [h0])]
  have hL2:=A55 (b:=A29 r) r.Persons.length (fun m=>match (pk r.Persons.length m).find? (A7y r) with | some L=>some (Sum.inl (ints L,(0:Int))) | none=>none) (.inr ()) (by omega) (fun m hm _=>by
   have hp:=C50 r.Persons.length (by omega) m (by omega)
   have hs:=D9d r.Persons.length (by omega) m (by omega)
   unfold A29
   rw [if_pos (by simpa using hm),hp]
   simp only [Option.bind_some]
   rw [C77 h0 _ (by omega) (D4t (by omega) (by omega))]
   simp only [Option.bind_some]
   cases (pk r.Persons.length m).find? (A7y r) <;> rfl) (by
   unfold A29
   rw [if_neg (by simp)])
  rw [hL2,C50 r.Persons.length (by omega) r.Persons.length (by omega),C9y _ (by omega)]
  have hfa:=D23 ok
  unfold C6z at hfa
  rw [List.find?_flatMap,List.range_succ,List.findSome?_append] at hfa
  rw [A5c]
  have hm:∀l:List Nat,(l.findSome? fun m=>match (pk r.Persons.length m).find? (A7y r) with | some L=>some (Sum.inl (ints L,(0:Int))) | none=>(none:Option ((List Int × Int) ⊕ Unit))) = (l.findSome? fun m=>(pk r.Persons.length m).find? (A7y r)).map fun L=>Sum.inl (ints L,(0:Int)):= by
   intro l
   induction l with
   | nil=>rfl
   | cons m l ih =>
    rw [List.findSome?_cons,List.findSome?_cons,ih]
    cases (pk r.Persons.length m).find? (A7y r) <;> rfl
  rw [hm]
  cases hq:(List.range r.Persons.length).findSome? fun m=>(pk r.Persons.length m).find? (A7y r) with
  | some L =>
   rw [hq] at hfa
   obtain rfl:L = _:=Option.some.inj hfa
   rfl
  | none =>
   rw [hq] at hfa
   simp only [List.findSome?_cons,List.findSome?_nil,Option.none_or] at hfa
   rw [C9y _ (by omega),List.find?_cons,nobody ok (fun i hi=>by simpa using hi)] at hfa
   obtain e:List.range r.Persons.length = _:=Option.some.inj hfa
   rw [← e]; rfl
 ·rw [if_pos h0,if_pos (by simpa using h0)]
end Ds
end
section
set_option maxRecDepth 100000
set_option maxHeartbeats 0
namespace Ds
open Go Am Go.Proofs.Ytdkflofgolehkaa.Cd
def A27 (a0:DrRoom) (x3:(List (List Int))) (s10:((List Int) × Int × Int × Int)):Option (((List Int) × Int × Int × Int) ⊕ ((List Int) × Int)) :=
 if (decide (s10.2.2.2 < (List.length x3:Int))) = true then
  (idx x3 s10.2.2.2).bind fun x13 =>
  (Z3 a0 x13).bind fun x14 =>
  (Y5 x14).bind fun x15 =>
  (idx x3 s10.2.2.2).bind fun x16 =>
  (X6 a0 x16).bind fun x17 =>
  if ((decide (x15.2 < s10.2.1)) || ((x15.2 == s10.2.1) && (decide (x17 < s10.2.2.1)))) = true then
  some (.inl (x15.1,x15.2,x17,(w64 (s10.2.2.2 + 1))))
  else
  some (.inl (s10.1,s10.2.1,s10.2.2.1,(w64 (s10.2.2.2 + 1))))
 else
  some (.inr (s10.1,s10.2.2.1))
def A7i (a0:DrRoom):Option ((List Int) × Int × Int) :=
 (P6 a0).bind fun x1 =>
 if (x1.2.2 != 0) = true then
  some (([]:List Int),0,x1.2.2)
 else
  (V6 a0 false).bind fun x3 =>
  if ((List.length x3:Int) == 0) = true then
  some (([]:List Int),0,9)
  else
  (idx x3 0).bind fun x5 =>
  (Z3 a0 x5).bind fun x6 =>
  (Y5 x6).bind fun x7 =>
  (idx x3 0).bind fun x8 =>
  (X6 a0 x8).bind fun x9 =>
  (loop (A27 a0 x3) (x7.1,x7.2,x9,1)).bind fun (o21:((List Int) × Int)) =>
  some (o21.1,o21.2,0)
theorem C3e {c:Sc} {H:A1} {a0:DrRoom} {r:((List Int) × Int × Int)} (h:A7i a0 = some r) :
  E9 tab c H (.fn (.func 35) [] []) [(.agg (A4 a0))] [(.seq 1 (List.map cI r.1)),.i r.2.1,.i r.2.2]:= by
 unfold A7i at h
 refine cE rfl rfl<|sg 0 rfl<|A0 (F5 (cs:=A4 a0) rfl rfl rfl) rfl<|qm rfl<|qm rfl<|qm rfl<|es (ra1 rfl)<|s0<|oB h fun x1 hx1 h=>A0 (C2 rfl rfl rfl) rfl<|B4 (rs:=[.i x1.1,.i x1.2.1,.i x1.2.2]) rfl rfl (A2 (C9 rfl) B5) ((R8 hx1).frz)<|qm rfl<|A0 (A6 rfl rfl) rfl<|A0 (A6 rfl rfl) rfl<|A0 (A6 rfl rfl) rfl<|qm rfl<|qm rfl<|qm rfl<|es (ra2 rfl rfl)<|B6<|s0<|qm rfl<|A0 (J7 rfl rfl) rfl<|es (ra3 rfl rfl rfl)<|wi h rfl (fun hc2 h=>?_) fun hc2 h=>?_
 ·refine s0<|qm rfl<|qm rfl<|qm rfl<|qm rfl<|es (ra3 rfl rfl rfl)<|C4 ?_
  obtain rfl:=os h
  exact retq trivial (B1 rfl (B1 rfl (B1 rfl B7))) (A5 rfl (A5 rfl (A5 rfl B9))) (A3 E3 (A3 A8 (A3 A8 B2)))
 ·refine C1<|s0<|oB h fun x3 hx3 h=>A0 (C2 rfl rfl rfl) rfl<|B4 (rs:=[(.seq 1 (List.map (cL 1 cI) x3))]) rfl rfl (A2 (C9 rfl) (A2 rfl B5)) ((A5n hx3).frz)<|qm rfl<|es (ra2 rfl rfl)<|B6<|s0<|qm rfl<|A0 (D4 (f:=(cL 1 cI)) rfl) rfl<|A0 (F6 rfl rfl) rfl<|es (ra3 rfl rfl rfl)<|wi h rfl (fun hc4 h=>?_) fun hc4 h=>?_
  ·refine s0<|qm rfl<|qm rfl<|qm rfl<|es (ra3 rfl rfl rfl)<|C4 ?_
   obtain rfl:=os h
   exact retq trivial (B1 rfl (B1 rfl (B1 rfl B7))) (A5 rfl (A5 rfl (A5 rfl B9))) (A3 E3 (A3 A8 (A3 A8 B2)))
  ·refine C1<|s0<|oB h fun x5 hx5 h=>oB h fun x6 hx6 h=>oB h fun x7 hx7 h=>A0 (C2 rfl rfl rfl) rfl<|qm rfl<|A0 (E1 (f:=(cL 1 cI)) rfl rfl hx5) rfl<|A0 (E5 rfl rfl) rfl<|B4 (rs:=[(.seq 1 (List.map cI x6))]) rfl rfl (A2 (C9 rfl) (A2 rfl B5)) ((A31 hx6).frz)<|B4 (rs:=[(.seq 1 (List.map cI x7.1)),.i x7.2]) rfl rfl (A2 rfl B5) ((A5m hx7).frz)<|qm rfl<|A0 (A6 rfl rfl) rfl<|A0 (A6 rfl rfl) rfl<|qm rfl<|qm rfl<|es (ra4 rfl rfl rfl rfl)<|s0<|oB h fun x8 hx8 h=>oB h fun x9 hx9 h=>A0 (C2 rfl rfl rfl) rfl<|qm rfl<|A0 (E1 (f:=(cL 1 cI)) rfl rfl hx8) rfl<|A0 (E5 rfl rfl) rfl<|B4 (rs:=[.i x9]) rfl rfl (A2 (C9 rfl) (A2 rfl B5)) ((A4v hx9).frz)<|qm rfl<|es (ra5 rfl rfl rfl rfl rfl)<|B6<|s0<|qm rfl<|es (ra6 rfl rfl rfl rfl rfl rfl)<|C3<|oB h fun o21 ho21 h=>wl (fun s10=>[(1,(.ptr (H.length + 0) 0)),(8,(.seq 1 (List.map (cL 1 cI) x3))),(9,(.seq 1 (List.map cI s10.1))),(10,.i s10.2.1),(11,.i s10.2.2.1),(12,.i s10.2.2.2)]) (fun (q11:Unit) s10=>[(.cells (A4 a0))]) 1 (fun r e s' H'=>PX 0 [(9,(.seq 1 (List.map cI r.1))),(11,.i r.2)] (H++[(.cells (A4 a0))]) e s' H') () ho21 rfl rfl (fun _ _=>rfl) (fun _=>rfl) rfl (fun s10=>(bdc (F0 rfl) (bdc E3 (bdc E3 (bdc A8 (bdc A8 (bdc A8 bdn))))))) (fun q11 s10 ys10 hs10=>?_) ?_
   ·unfold A27 at hs10
    refine B6<|s0<|qm rfl<|qm rfl<|A0 (D4 (f:=(cL 1 cI)) rfl) rfl<|A0 (G2 rfl rfl) rfl<|es (ra7 rfl rfl rfl rfl rfl rfl rfl)<|wi hs10 rfl (fun hc12 hs10=>?_) fun hc12 hs10=>?_
    ·refine C1<|B6<|C3<|s0<|oB hs10 fun x13 hx13 hs10=>oB hs10 fun x14 hx14 hs10=>oB hs10 fun x15 hx15 hs10=>A0 (C2 rfl rfl rfl) rfl<|qm rfl<|qm rfl<|A0 (E1 (f:=(cL 1 cI)) rfl rfl hx13) rfl<|A0 (E5 rfl rfl) rfl<|B4 (rs:=[(.seq 1 (List.map cI x14))]) rfl rfl (A2 (C9 rfl) (A2 rfl B5)) ((A31 hx14).frz)<|B4 (rs:=[(.seq 1 (List.map cI x15.1)),.i x15.2]) rfl rfl (A2 rfl B5) ((A5m hx15).frz)<|qm rfl<|A0 (A6 rfl rfl) rfl<|A0 (A6 rfl rfl) rfl<|qm rfl<|qm rfl<|es (ra8 rfl rfl rfl rfl rfl rfl rfl rfl)<|s0<|oB hs10 fun x16 hx16 hs10=>oB hs10 fun x17 hx17 hs10=>A0 (C2 rfl rfl rfl) rfl<|qm rfl<|qm rfl<|A0 (E1 (f:=(cL 1 cI)) rfl rfl hx16) rfl<|A0 (E5 rfl rfl) rfl<|B4 (rs:=[.i x17]) rfl rfl (A2 (C9 rfl) (A2 rfl B5)) ((A4v hx17).frz)<|qm rfl<|es (ra9 rfl rfl rfl rfl rfl rfl rfl rfl rfl)<|s0<|qm rfl<|qm rfl<|A0 (G2 rfl rfl) rfl<|qm rfl<|gp 9 78 (.b ((decide (x15.2 < s10.2.1)) || ((x15.2 == s10.2.1) && (decide (x17 < s10.2.2.1))))) 69 rfl rfl (fun hg18=>?_) (fun hg18=>?_) ?_
     ·exact nF rfl hg18 rfl<|nF rfl hg18 rfl<|nF rfl hg18 rfl<|nF rfl hg18 rfl<|nX rfl rfl<|nX rfl rfl<|nX rfl rfl<|nF rfl hg18 rfl<|A0 (C8 rfl hg18 rfl) rfl<|ge 9 (by rw [hg18]; rfl) rfl rfl
     ·refine gF rfl hg18<|qm rfl<|gF rfl hg18<|qm rfl<|gF rfl hg18<|A0 (F6 rfl rfl) rfl<|gF rfl hg18<|qm rfl<|gq 4 77 (.b ((x15.2 == s10.2.1) && (decide (x17 < s10.2.2.1)))) 73 rfl rfl (fun hg19=>?_) (fun hg19=>?_) ?_
      ·exact gT rfl hg19<|qm rfl<|gT rfl hg19<|qm rfl<|gT rfl hg19<|A0 (G2 rfl rfl) rfl<|gF rfl hg18<|A0 (C8 rfl hg19 rfl) rfl<|ge 4 (by rw [hg19]; rfl) rfl rfl
      ·exact nT rfl hg19 rfl<|nT rfl hg19 rfl<|nT rfl hg19 rfl<|gF rfl hg18<|A0 (C7 rfl hg19 rfl) rfl<|ge 4 (by rw [hg19]; rfl) rfl rfl
      exact A0 (C7 rfl hg18 rfl) rfl<|ge 6 (by rw [hg18]; rfl) rfl rfl
     refine es (ra10 rfl rfl rfl rfl rfl rfl rfl rfl rfl rfl)<|wi hs10 rfl (fun hc20 hs10=>?_) fun hc20 hs10=>?_
     ·refine r0<|qm rfl<|qm rfl<|qm rfl<|qm rfl<|qm rfl<|qm rfl<|en (ra6 rfl rfl rfl rfl rfl rfl)<|r0<|qm rfl<|A0 (E8 rfl rfl) rfl<|qm rfl<|en (ra6 rfl rfl rfl rfl rfl rfl) ?_
      cases hs10
      exact lnT () rfl (su6 rfl rfl rfl rfl rfl rfl)
     ·refine C1<|r0<|qm rfl<|A0 (E8 rfl rfl) rfl<|qm rfl<|en (ra6 rfl rfl rfl rfl rfl rfl) ?_
      cases hs10
      exact lnT () rfl (su6 rfl rfl rfl rfl rfl rfl)
    ·refine F2 ?_
     obtain rfl:=os hs10
     exact lx rfl px (su2 rfl rfl)
   ·rintro e s' H' - ⟨rfl,rfl,rfl⟩
    refine s0<|qm rfl<|qm rfl<|qm rfl<|qm rfl<|qm rfl<|es (ra3 rfl rfl rfl)<|C4 ?_
    obtain rfl:=os h
    exact retq trivial (B1 rfl (B1 rfl (B1 rfl B7))) (A5 rfl (A5 rfl (A5 rfl B9))) (A3 E3 (A3 A8 (A3 A8 B2)))
end Ds
end
section
namespace Ds
open Go Am
def kB (r:DrRoom) (q:List Nat):Int:=3000 * sm (T9 r (prs r q)) + A3e r (prs r q)
def D5o (r:DrRoom):Option (List Nat):=fm (kB r) (perms r.Figures.length r.Persons.length)
def D0h (r:DrRoom):List Int × Int × Int :=
 if (chk r).2.2 ≠ 0 then ([],0,(chk r).2.2) else
 match D5o r with
 | none=>([],0,9)
 | some q=>(T9 r (prs r q),A3e r (prs r q),0)
theorem B4o (r:DrRoom) (z:Prs):(T9 r z).length = r.Ounces.length:= by unfold T9; simp
theorem D3p {a b c d:Int} (h1:0≤c∧c≤2000) (h2:0≤d∧d≤2000):(3000 * a + c < 3000 * b + d)↔(a < b∨a = b∧c < d):= by omega
def kP (p:dress_plan):Int:=3000 * ((H8 p).map (·.2)).getD 0 + p.cost_
theorem buy1 {p:dress_plan} {u:Ar4 Int × Int} (h:H8 p = some u):A2h p = some u.2:= by
 unfold A2h; rw [h]; rfl
theorem less2 {p q:dress_plan} {u v:Ar4 Int × Int} (hp:H8 p = some u) (hq:H8 q = some v):B3c by2 p q = some (decide (u.2 < v.2∨u.2 = v.2∧p.cost_ < q.cost_)):= by
 unfold B3c
 have h0:O8 by2 p q 0 = some (if u.2 = v.2 then .inl 1 else .inr (.inl (decide (u.2 < v.2)))):= by
  unfold O8
  rw [if_pos (by decide),show idx by2 0 = some (74,A2h) from rfl]
  simp only [Option.bind_some]
  rw [buy1 hp,buy1 hq]
  simp only [Option.bind_some]
  by_cases c:u.2 = v.2
  ·rw [if_neg (by simp [c]),if_pos c]; rfl
  ·rw [if_pos (by simpa using c),if_neg c]
 have h1:O8 by2 p q 1 = some (if p.cost_ = q.cost_ then .inl 2 else .inr (.inl (decide (p.cost_ < q.cost_)))):= by
  unfold O8
  rw [if_pos (by decide),show idx by2 1 = some (76,A36) from rfl]
  simp only [Option.bind_some,A36]
  by_cases c:p.cost_ = q.cost_
  ·rw [if_neg (by simp [c]),if_pos c]; rfl
  ·rw [if_pos (by simpa using c),if_neg c]
 have h2:O8 by2 p q 2 = some (.inr (.inr ())):= by unfold O8; rw [if_neg (by decide)]
 have one:∀{m:Nat} {s:Int} {x:Int ⊕ (Bool ⊕ Unit)},O8 by2 p q s = some x→A3h (O8 by2 p q) (m + 1) s = match x with | .inl s'=>A3h (O8 by2 p q) m s' | .inr y=>some y:= by
  intro m s x h
  rw [H6,h]
  cases x <;> rfl
 by_cases c:u.2 = v.2
 ·by_cases d:p.cost_ = q.cost_
  ·have:loop (O8 by2 p q) 0 = some (.inr ()):=H7 (b:=O8 by2 p q) (fun i=>(i:Int)) 2 (r:=.inr ()) (by omega) (fun i hi=>by
    rcases (show i = 0∨i = 1 by omega) with rfl | rfl
    ·exact h0.trans (by rw [if_pos c]; rfl)
    ·exact h1.trans (by rw [if_pos d]; rfl)) h2
   rw [this]; simp [c,d]
  ·have:loop (O8 by2 p q) 0 = some (.inl (decide (p.cost_ < q.cost_))):=H7 (b:=O8 by2 p q) (fun i=>(i:Int)) 1 (r:=.inl (decide (p.cost_ < q.cost_))) (by omega) (fun i hi=>by
    rcases (show i = 0 by omega) with rfl
    exact h0.trans (by rw [if_pos c]; rfl)) (h1.trans (by rw [if_neg d]))
   rw [this,c]; simp
 ·have:loop (O8 by2 p q) 0 = some (.inl (decide (u.2 < v.2))):=H7 (b:=O8 by2 p q) (fun i=>(i:Int)) 0 (r:=.inl (decide (u.2 < v.2))) (by omega) (fun i hi=>absurd hi (Nat.not_lt_zero i)) (h0.trans (by rw [if_neg c]))
  rw [this]; simp [c]
theorem D3n {r:DrRoom} (ok:RmOk r) {z:Prs} (hz:B1j r z):kP (J1 r z) = 3000 * sm (T9 r z) + A3e r z:= by
 unfold kP
 rw [A9k ok hz]; rfl
theorem D3r {r:DrRoom} (ok:RmOk r) (z:Prs):slc (Ar4.l (⟨below (E4 r z 0),below (E4 r z 1),below (E4 r z 2),below (E4 r z 3)⟩:Ar4 Int)) 0 (r.Ounces.length:Int) = some (T9 r z):= by
 have hO:=ok.ounces
 unfold T9
 rcases (show r.Ounces.length = 1∨r.Ounces.length = 2∨r.Ounces.length = 3∨r.Ounces.length = 4 by omega) with h | h | h | h <;> rw [h] <;> rfl
theorem D70 {r:DrRoom} (ok:RmOk r) {ch:Chg} (hch:C2i r ch):A8k r ch ((2 ^ r.Persons.length - 1:Nat):Int) (List dress_plan) Unit B1l [] = some (.inl ((perms r.Figures.length r.Persons.length).map fun q=>J1 r (prs r q))):= by
 have hsz:=A3r ok.figures ok.persons
 have hps:PsOk r r.Persons:=⟨ok.persons,ok.person⟩
 refine B8x ok hch (B0b ok) B1l (s:=[]) ?_
 rw [A5s ok]
 have:=A6i (ρ:=Unit) (l:=perms r.Figures.length r.Persons.length) (s:=([]:List dress_plan)) (f:=fun q s=>B1l (J1 r (q.zip r.Persons)) s) (p:=fun _=>true) (g:=fun q=>J1 r (q.zip r.Persons)) (by simp; omega) (fun q hq s hs=>by
  have hz:=hps.pr hq
  unfold B1l
  rw [D4l hz.1]
  simp only [Option.bind_some]
  rw [T0 (by omega) (by simp; omega)]; rfl)
 rw [this,List.nil_append,List.filter_eq_self.mpr (fun _ _=>rfl)]; rfl
theorem D7u (r:DrRoom) (hb:NB r):A3k r = some (D0h r):= by
 unfold A3k D0h
 rw [A33 r hb]
 simp only [Option.bind_some]
 by_cases h0:(chk r).2.2 = 0
 ·obtain ⟨ok,-⟩:=(N1 r).mp h0
  have hO:=ok.ounces
  obtain ⟨ch,e1,hch⟩:=B7i ok
  have hr:∀{α:Type} (a b:α),(if (chk r).2.2 ≠ 0 then a else b) = b:=fun a b=>if_neg (fun c=>c h0)
  rw [hr,if_neg (by simp [h0]),show loop (K9 r) (0,[]) = some ch from e1,A7s ok]
  simp only [Option.bind_some]
  rw [D70 ok hch]
  simp only [Option.bind_some]
  have hsz:=A3r ok.figures ok.persons
  have hps:PsOk r r.Persons:=⟨ok.persons,ok.person⟩
  have hz:∀q ∈ perms r.Figures.length r.Persons.length,B1j r (prs r q):=fun q hq=>hps.pr hq
  rw [C02 _ _ kP (by rw [List.length_map]; omega) (fun x hx y hy=>by
   obtain ⟨p,hp,rfl⟩:=List.mem_map.mp hx
   obtain ⟨q,hq,rfl⟩:=List.mem_map.mp hy
   have zp:=hz p hp
   have zq:=hz q hq
   rw [less2 (A9k ok zp) (A9k ok zq),D3n ok zp,D3n ok zq]
   congr 1
   rw [decide_eq_decide]
   have b1:=A8s ok (prs r p)
   have b2:=A8s ok (prs r q)
   have l1:=zp.1
   have l2:=zq.1
   exact (D3p (c:=A3e r (prs r p)) (d:=A3e r (prs r q)) (by omega) (by omega)).symm),C7d]
  unfold D5o
  rw [C4t (k':=kB r) (fun q hq=>D3n ok (hz q hq))]
  cases hf:fm (kB r) (perms r.Figures.length r.Persons.length) with
  | none=>rfl
  | some q =>
   have zq:=hz q (A75 hf)
   have hll:=B4o r (prs r q)
   simp only [Option.map_some,Bool.not_true,Bool.false_eq_true,if_false]
   simp only [Option.bind_some,Bool.not_true,Bool.false_eq_true,if_false]
   rw [A9k ok zq]
   simp only [Option.bind_some]
   rw [D3r ok]
   simp only [Option.bind_some]
   rw [T0 (by omega) (by simp; omega)]; rfl
 ·rw [if_pos h0,if_pos (by simpa using h0)]
theorem C76 (r:DrRoom):A7i r = some (D0h r):= by
 unfold A7i D0h
 rw [V7]
 simp only [Option.bind_some]
 by_cases h0:(chk r).2.2 = 0
 ·obtain ⟨ok,-⟩:=(N1 r).mp h0
  have hr:∀{α:Type} (a b:α),(if (chk r).2.2 ≠ 0 then a else b) = b:=fun a b=>if_neg (fun c=>c h0)
  rw [hr,if_neg (by simp [h0]),B68 ok false]
  simp only [Option.bind_some,Bool.not_false,Bool.true_or]
  rw [List.filter_eq_self.mpr (fun _ _=>rfl)]
  have hsz:=A3r ok.figures ok.persons
  have hQ:∀q ∈ perms r.Figures.length r.Persons.length,QOk r q:=fun q hq=>C3j hq
  unfold D5o
  generalize perms r.Figures.length r.Persons.length = L at hsz hQ
  have hone:∀q ∈ L,Z3 r (ints q) = some (A3g r (prs r q))∧Y5 (A3g r (prs r q)) = some (T9 r (prs r q),sm (T9 r (prs r q)))∧X6 r (ints q) = some (A3e r (prs r q)):=fun q hq=>⟨C2j ok (hQ q hq),B3t ok ((hQ q hq).pr ok),C6x ok (hQ q hq)⟩
  cases hL:L with
  | nil=>rfl
  | cons x0 l =>
   have hn:0 < L.length:= by rw [hL]; simp
   have hx0:L[0]! = x0:= by rw [hL]; rfl
   rw [← hL]
   have hg:∀i,i < L.length→idx (L.map ints) (i:Int) = some (ints L[i]!):=fun i hi=>A2y (by rw [List.getElem?_map,List.getElem?_eq_getElem hi,getElem!_pos L i hi]; rfl)
   obtain ⟨a1,a2,a3⟩:=hone x0 (by rw [hL]; simp)
   rw [if_neg (by rw [List.length_map,beq_iff_eq]; omega),show idx (L.map ints) 0 = some (ints L[0]!) from hg 0 hn,hx0]
   simp only [Option.bind_some]
   rw [a1]
   simp only [Option.bind_some]
   rw [a2]
   simp only [Option.bind_some]
   rw [a3]
   simp only [Option.bind_some]
   let b:Nat→List Nat:=fun i=>(fm (kB r) (L.take (i + 1))).getD []
   have hb:∀i,i < L.length→fm (kB r) (L.take (i + 1)) = some (b i):=fun i hi=>by
    obtain ⟨y,hy⟩:=C84 (k:=kB r) (l:=L.take (i + 1)) (x:=x0) (by rw [hL]; simp)
    show _ = some ((fm (kB r) (L.take (i + 1))).getD [])
    rw [hy]; rfl
   have hlp:=H7 (b:=A27 r (L.map ints)) (fun i=>(T9 r (prs r (b i)),sm (T9 r (prs r (b i))),A3e r (prs r (b i)),((i + 1:Nat):Int))) (L.length - 1) (r:=(T9 r (prs r (b (L.length - 1))),A3e r (prs r (b (L.length - 1))))) (by omega) (fun i hi=>by
    have hi1:i + 1 < L.length:= by omega
    have hbi:=hb i (by omega)
    have hbm:b i ∈ L:=List.mem_of_mem_take (A75 hbi)
    obtain ⟨g1,g2,g3⟩:=hone _ (J0 hi1)
    have hsn:b (i + 1) = if kB r L[i + 1]! < kB r (b i) then L[i + 1]! else b i:= by
     have h1:=hb (i + 1) hi1
     rw [List.take_succ_eq_append_getElem hi1,B2t,hbi,← getElem!_pos L (i + 1) hi1] at h1
     simp only at h1
     split at h1
     ·next c=>rw [if_pos c]; exact (Option.some.inj h1).symm
     ·next c=>rw [if_neg c]; exact (Option.some.inj h1).symm
    rw [hsn]
    have zx:=(hQ _ (J0 hi1)).pr ok
    have zb:=(hQ _ hbm).pr ok
    have hgi:=hg (i + 1) hi1
    generalize L[i + 1]! = x at *
    generalize b i = y at *
    have s1:=A8s ok (prs r x)
    have s2:=A8s ok (prs r y)
    have l1:=zx.1
    have l2:=zb.1
    unfold A27
    simp only []
    rw [if_pos (by simp; omega),hgi]
    simp only [Option.bind_some]
    rw [g1]
    simp only [Option.bind_some]
    rw [g2]
    simp only [Option.bind_some]
    rw [g3]
    simp only [Option.bind_some]
    rw [E0 (by omega)]
    have hk:(decide (sm (T9 r (prs r x)) < sm (T9 r (prs r y))) || (sm (T9 r (prs r x)) == sm (T9 r (prs r y)) && decide (A3e r (prs r x) < A3e r (prs r y)))) = decide (kB r x < kB r y):= by
     rw [Bool.eq_iff_iff,Bool.or_eq_true,Bool.and_eq_true,decide_eq_true_iff,beq_iff_eq,decide_eq_true_iff,decide_eq_true_iff]
     exact (D3p (by omega) (by omega)).symm
    rw [hk]
    by_cases c:kB r x < kB r y
    ·rw [if_pos (by simpa using c),if_pos c]; rfl
    ·rw [if_neg (by simpa using c),if_neg c]; rfl) (by
    unfold A27
    simp only []
    rw [if_neg (by simp; omega)])
   have hb0:b 0 = x0:= by
    show (fm (kB r) (L.take 1)).getD [] = x0
    rw [hL]; rfl
   simp only [hb0] at hlp
   have hend:fm (kB r) L = some (b (L.length - 1)):= by
    have:=hb (L.length - 1) (by omega)
    rwa [show L.length - 1 + 1 = L.length by omega,List.take_length] at this
   rw [hend]
   refine Eq.trans (congrArg (fun o=>Option.bind o _) hlp) ?_
   rfl
 ·rw [if_pos h0,if_pos (by simpa using h0)]
end Ds
end
section
set_option maxRecDepth 100000
set_option maxHeartbeats 0
namespace Ds
open Go Am Go.Proofs.Ytdkflofgolehkaa.Cd
def A10 (a0:DrRoom):Option Bool :=
 (A3l a0).bind fun x1 =>
 (A7j a0).bind fun x2 =>
 (J8 x1.1 x2.1).bind fun x3 =>
 if ((!x3) || (x1.2 != x2.2)) = true then
  some false
 else
  (A3k a0).bind fun x6 =>
  (A7i a0).bind fun x7 =>
  (J8 x6.1 x7.1).bind fun x8 =>
  (if ((x8 && (x6.2.1 == x7.2.1)) && (x6.2.2 == x7.2.2)) = true then
  (Y4).bind fun x12 =>
  some x12
  else
  some false).bind fun x13 =>
  some x13
theorem B1z {c:Sc} {H:A1} (hscv:S0 c H = true) {a0:DrRoom} {r:Bool} (h:A10 a0 = some r) :
  E9 tab c H (.fn (.func 6) [] []) [(.agg (A4 a0))] [.b r]:= by
 unfold A10 at h
 refine cE rfl rfl<|sg 0 rfl<|A0 (F5 (cs:=A4 a0) rfl rfl rfl) rfl<|qm rfl<|es (ra1 rfl)<|s0<|oB h fun x1 hx1 h=>A0 (C2 rfl rfl rfl) rfl<|B4 (rs:=[(.seq 1 (List.map cI x1.1)),.i x1.2]) rfl rfl (A2 (C9 rfl) B5) ((A8i (A2p hscv) hx1).frz)<|qm rfl<|A0 (A6 rfl rfl) rfl<|A0 (A6 rfl rfl) rfl<|qm rfl<|qm rfl<|es (ra3 rfl rfl rfl)<|s0<|oB h fun x2 hx2 h=>A0 (C2 rfl rfl rfl) rfl<|B4 (rs:=[(.seq 1 (List.map cI x2.1)),.i x2.2]) rfl rfl (A2 (C9 rfl) B5) ((C3f hx2).frz)<|qm rfl<|A0 (A6 rfl rfl) rfl<|A0 (A6 rfl rfl) rfl<|qm rfl<|qm rfl<|es (ra5 rfl rfl rfl rfl rfl)<|B6<|s0<|oB h fun x3 hx3 h=>qm rfl<|qm rfl<|B4 (rs:=[.b x3]) rfl rfl (A2 rfl (A2 rfl B5)) ((J3 hx3).frz)<|A0 (S4 rfl) rfl<|qm rfl<|gp 4 27 (.b ((!x3) || (x1.2 != x2.2))) 23 rfl rfl (fun hg4=>?_) (fun hg4=>?_) ?_
 ·exact nF rfl hg4 rfl<|nF rfl hg4 rfl<|nF rfl hg4 rfl<|A0 (C8 rfl hg4 rfl) rfl<|ge 4 (by rw [hg4]; rfl) rfl rfl
 ·exact gF rfl hg4<|qm rfl<|gF rfl hg4<|qm rfl<|gF rfl hg4<|A0 (J7 rfl rfl) rfl<|A0 (C7 rfl hg4 rfl) rfl<|ge 4 (by rw [hg4]; rfl) rfl rfl
 refine es (ra2 rfl rfl)<|wi h rfl (fun hc5 h=>?_) fun hc5 h=>?_
 ·refine s0<|qm rfl<|es (ra1 rfl)<|C4 ?_
  obtain rfl:=os h
  exact retq trivial (B1 rfl B7) (A5 rfl B9) (A3 A8 B2)
 ·refine C1<|s0<|oB h fun x6 hx6 h=>A0 (C2 rfl rfl rfl) rfl<|B4 (rs:=[(.seq 1 (List.map cI x6.1)),.i x6.2.1,.i x6.2.2]) rfl rfl (A2 (C9 rfl) B5) ((A8h (A2p hscv) hx6).frz)<|qm rfl<|A0 (A6 rfl rfl) rfl<|A0 (A6 rfl rfl) rfl<|A0 (A6 rfl rfl) rfl<|qm rfl<|qm rfl<|qm rfl<|es (ra4 rfl rfl rfl rfl)<|s0<|oB h fun x7 hx7 h=>A0 (C2 rfl rfl rfl) rfl<|B4 (rs:=[(.seq 1 (List.map cI x7.1)),.i x7.2.1,.i x7.2.2]) rfl rfl (A2 (C9 rfl) B5) ((C3e hx7).frz)<|qm rfl<|A0 (A6 rfl rfl) rfl<|A0 (A6 rfl rfl) rfl<|A0 (A6 rfl rfl) rfl<|qm rfl<|qm rfl<|qm rfl<|es (ra6 rfl rfl rfl rfl rfl rfl)<|s0<|oB h fun x8 hx8 h=>oB h fun x13 hx13 h=>qm rfl<|qm rfl<|B4 (rs:=[.b x8]) rfl rfl (A2 rfl (A2 rfl B5)) ((J3 hx8).frz)<|qm rfl<|gp 4 47 (.b (x8 && (x6.2.1 == x7.2.1))) 43 rfl rfl (fun hg9=>?_) (fun hg9=>?_) ?_
  ·exact gT rfl hg9<|qm rfl<|gT rfl hg9<|qm rfl<|gT rfl hg9<|A0 (F6 rfl rfl) rfl<|A0 (C8 rfl hg9 rfl) rfl<|ge 4 (by rw [hg9]; rfl) rfl rfl
  ·exact nT rfl hg9 rfl<|nT rfl hg9 rfl<|nT rfl hg9 rfl<|A0 (C7 rfl hg9 rfl) rfl<|ge 4 (by rw [hg9]; rfl) rfl rfl
  refine qm rfl<|gp 4 52 (.b ((x8 && (x6.2.1 == x7.2.1)) && (x6.2.2 == x7.2.2))) 48 rfl rfl (fun hg10=>?_) (fun hg10=>?_) ?_
  ·exact gT rfl hg10<|qm rfl<|gT rfl hg10<|qm rfl<|gT rfl hg10<|A0 (F6 rfl rfl) rfl<|A0 (C8 rfl hg10 rfl) rfl<|ge 4 (by rw [hg10]; rfl) rfl rfl
  ·exact nT rfl hg10 rfl<|nT rfl hg10 rfl<|nT rfl hg10 rfl<|A0 (C7 rfl hg10 rfl) rfl<|ge 4 (by rw [hg10]; rfl) rfl rfl
  refine qm rfl<|gp 2 55 (.b x13) 53 rfl rfl (fun hg11=>?_) (fun hg11=>?_) ?_
  ·refine oB (bt hx13 hg11) fun x12 hx12 hx13=>?_
   obtain rfl:=os hx13
   exact gT rfl hg11<|B4 (rs:=[.b x12]) rfl rfl B5 ((A0x (A2p hscv) hx12).frz)<|A0 (C8 rfl hg11 rfl) rfl<|ge 2 rfl rfl rfl
  ·obtain rfl:=os (bf hx13 hg11)
   exact N6 (G5 rfl (by rw [hg11]; rfl)) rfl<|A0 (C7 rfl hg11 rfl) rfl<|ge 2 rfl rfl rfl
  refine qm rfl<|es (ra1 rfl)<|C4 ?_
  obtain rfl:=os h
  exact retq trivial (B1 rfl B7) (A5 rfl B9) (A3 A8 B2)
end Ds
end
section
namespace Ds
open Go Am
theorem D4g (r:DrRoom):(D1h r).1.length < 9223372036854775808:= by
 unfold D1h
 split
 ·simp
 ·next h0 =>
  obtain ⟨ok,-⟩:=(N1 r).mp (Decidable.not_not.mp h0)
  have hP:=ok.persons
  have:=C62 r.Persons.length (C7x r)
  simp only [F4]; omega
theorem D2p (r:DrRoom):(D0h r).1.length < 9223372036854775808:= by
 unfold D0h
 split
 ·simp
 ·next h0 =>
  obtain ⟨ok,-⟩:=(N1 r).mp (Decidable.not_not.mp h0)
  have hO:=ok.ounces
  cases hb:D5o r with
  | none=>simp
  | some q =>
   have:=B4o r (prs r q)
   simp only; omega
theorem B7m {r:DrRoom} (hb:NB r):A10 r = some true:= by
 unfold A10
 rw [D7w r hb,C78]
 simp only [Option.bind_some]
 rw [A42 _ (D4g r)]
 simp only [Option.bind_some,bne_self_eq_false,Bool.not_true,Bool.or_self,Bool.false_eq_true,if_false]
 rw [D7u r hb,C76]
 simp only [Option.bind_some]
 rw [A42 _ (D2p r)]
 simp only [Option.bind_some,BEq.rfl,Bool.and_self,if_true]
 rw [awake]; rfl
end Ds
end
