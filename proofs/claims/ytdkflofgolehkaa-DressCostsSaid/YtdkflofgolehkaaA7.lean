/- Texts that the claim stands on, one behind another. -/
import Derived.Test.YtdkflofgolehkaaA6
set_option linter.unusedVariables false
set_option linter.unusedSimpArgs false
set_option linter.unnecessarySimpa false
section
set_option maxRecDepth 100000
set_option maxHeartbeats 0
namespace Ds
open Go Am Go.Proofs.Ytdkflofgolehkaa.Cd
def A3y (a0:Int):Option Int :=
 (if (decide (a0 ≥ 4294967296)) = true then
  (B7z .u64 a0 32).bind fun x3 =>
  some (x3,32)
  else
  some (a0,0)).bind fun (p1:(Int × Int)) =>
 (if (decide (p1.1 ≥ 65536)) = true then
  (B7z .u64 p1.1 16).bind fun x6 =>
  some (x6,(w64 (p1.2 + 16)))
  else
  some (p1.1,p1.2)).bind fun (p4:(Int × Int)) =>
 if (decide (p4.1 ≥ 256)) = true then
  (B7z .u64 p4.1 8).bind fun x8 =>
  (B2o (ByteArray.mk #[0,1,2,2,3,3,3,3,4,4,4,4,4,4,4,4,5,5,5,5,5,5,5,5,5,5,5,5,5,5,5,5,6,6,6,6,6,6,6,6,6,6,6,6,6,6,6,6,6,6,6,6,6,6,6,6,6,6,6,6,6,6,6,6,7,7,7,7,7,7,7,7,7,7,7,7,7,7,7,7,7,7,7,7,7,7,7,7,7,7,7,7,7,7,7,7,7,7,7,7,7,7,7,7,7,7,7,7,7,7,7,7,7,7,7,7,7,7,7,7,7,7,7,7,7,7,7,7,8,8,8,8,8,8,8,8,8,8,8,8,8,8,8,8,8,8,8,8,8,8,8,8,8,8,8,8,8,8,8,8,8,8,8,8,8,8,8,8,8,8,8,8,8,8,8,8,8,8,8,8,8,8,8,8,8,8,8,8,8,8,8,8,8,8,8,8,8,8,8,8,8,8,8,8,8,8,8,8,8,8,8,8,8,8,8,8,8,8,8,8,8,8,8,8,8,8,8,8,8,8,8,8,8,8,8,8,8,8,8,8,8,8,8,8,8,8,8,8,8,8,8,8,8,8,8,8]) (IntKind.u8.wrap x8)).bind fun x9 =>
  some (w64 ((w64 (p4.2 + 8)) + (w64 x9)))
 else
  (B2o (ByteArray.mk #[0,1,2,2,3,3,3,3,4,4,4,4,4,4,4,4,5,5,5,5,5,5,5,5,5,5,5,5,5,5,5,5,6,6,6,6,6,6,6,6,6,6,6,6,6,6,6,6,6,6,6,6,6,6,6,6,6,6,6,6,6,6,6,6,7,7,7,7,7,7,7,7,7,7,7,7,7,7,7,7,7,7,7,7,7,7,7,7,7,7,7,7,7,7,7,7,7,7,7,7,7,7,7,7,7,7,7,7,7,7,7,7,7,7,7,7,7,7,7,7,7,7,7,7,7,7,7,7,8,8,8,8,8,8,8,8,8,8,8,8,8,8,8,8,8,8,8,8,8,8,8,8,8,8,8,8,8,8,8,8,8,8,8,8,8,8,8,8,8,8,8,8,8,8,8,8,8,8,8,8,8,8,8,8,8,8,8,8,8,8,8,8,8,8,8,8,8,8,8,8,8,8,8,8,8,8,8,8,8,8,8,8,8,8,8,8,8,8,8,8,8,8,8,8,8,8,8,8,8,8,8,8,8,8,8,8,8,8,8,8,8,8,8,8,8,8,8,8,8,8,8,8,8,8,8,8]) (IntKind.u8.wrap p4.1)).bind fun x10 =>
  some (w64 (p4.2 + (w64 x10)))
theorem B0j {c:Sc} {H:A1} {a0:Int} {r:Int} (h:A3y a0 = some r) :
  E5 tab c H (.fn (.func 115) [] []) [(.lit (.int .u64 a0))] [.i r]:= by
 unfold A3y at h
 refine cE rfl rfl<|s0<|qm rfl<|es (ra2 rfl rfl)<|B7<|s0<|qm rfl<|A0 (A7f rfl rfl) rfl<|es (ra3 rfl rfl rfl)<|oB h fun p1 hp1 h=>B3x (Q1:=fun e s' H'=>e = .normal∧s' = [(0,(.lit (.int .u64 p1.1))),(2,.i p1.2)]∧H' = (H++[])) ?_ ?_
 ·refine wi hp1 rfl (fun hc2 hp1=>?_) fun hc2 hp1=>?_
  ·refine s0<|oB hp1 fun x3 hx3 hp1=>qm rfl<|A0 (B61 rfl rfl hx3) rfl<|qm rfl<|es (ra1 rfl)<|r0<|qm rfl<|en (ra2 rfl rfl) ?_
   obtain rfl:=os hp1
   exact me (And.intro rfl (And.intro rfl rfl)) (su2 rfl rfl)
  ·refine C1 ?_
   obtain rfl:=os hp1
   exact me (And.intro rfl (And.intro rfl rfl)) (su2 rfl rfl)
 ·rintro e s' H' ⟨rfl,rfl,rfl⟩
  refine B7<|s0<|qm rfl<|A0 (A7f rfl rfl) rfl<|es (ra3 rfl rfl rfl)<|oB h fun p4 hp4 h=>B3x (Q1:=fun e s' H'=>e = .normal∧s' = [(0,(.lit (.int .u64 p4.1))),(2,.i p4.2)]∧H' = (H++[])) ?_ ?_
  ·refine wi hp4 rfl (fun hc5 hp4=>?_) fun hc5 hp4=>?_
   ·refine s0<|oB hp4 fun x6 hx6 hp4=>qm rfl<|A0 (B61 rfl rfl hx6) rfl<|qm rfl<|es (ra2 rfl rfl)<|r0<|qm rfl<|A0 (E7 rfl rfl) rfl<|qm rfl<|en (ra2 rfl rfl) ?_
    obtain rfl:=os hp4
    exact me (And.intro rfl (And.intro rfl rfl)) (su2 rfl rfl)
   ·refine C1 ?_
    obtain rfl:=os hp4
    exact me (And.intro rfl (And.intro rfl rfl)) (su2 rfl rfl)
  ·rintro e s' H' ⟨rfl,rfl,rfl⟩
   refine B7<|s0<|qm rfl<|A0 (A7f rfl rfl) rfl<|es (ra3 rfl rfl rfl)<|wi h rfl (fun hc7 h=>?_) fun hc7 h=>?_
   ·refine s0<|oB h fun x8 hx8 h=>qm rfl<|A0 (B61 rfl rfl hx8) rfl<|qm rfl<|es (ra2 rfl rfl)<|r0<|qm rfl<|A0 (E7 rfl rfl) rfl<|qm rfl<|en (ra2 rfl rfl)<|s0<|oB h fun x9 hx9 h=>qm rfl<|qm rfl<|A0 (B0f rfl) rfl<|A0 (A8b rfl rfl hx9) rfl<|A0 (B0f rfl) rfl<|A0 (E7 rfl rfl) rfl<|qm rfl<|es (ra1 rfl)<|C4 ?_
    obtain rfl:=os h
    exact retq trivial (B1 rfl B8) (A6 rfl B9) (A3 A8 B3)
   ·refine C1<|s0<|oB h fun x10 hx10 h=>qm rfl<|qm rfl<|A0 (B0f rfl) rfl<|A0 (A8b rfl rfl hx10) rfl<|A0 (B0f rfl) rfl<|A0 (E7 rfl rfl) rfl<|qm rfl<|es (ra1 rfl)<|C4 ?_
    obtain rfl:=os h
    exact retq trivial (B1 rfl B8) (A6 rfl B9) (A3 A8 B3)
def A5n (a0:Int):Option Int :=
 (A3y a0).bind fun x1 =>
 some x1
theorem B3i {c:Sc} {H:A1} {a0:Int} {r:Int} (h:A5n a0 = some r) :
  E5 tab c H (.fn (.func 97) [] []) [(.lit (.int .u64 a0))] [.i r]:= by
 unfold A5n at h
 refine cE rfl rfl<|s0<|qm rfl<|es (ra1 rfl)<|B7<|Y2 rfl rfl<|C1<|s0<|oB h fun x1 hx1 h=>qm rfl<|B5 (rs:=[.i x1]) rfl rfl (A2 rfl B6) ((B0j hx1).frz)<|qm rfl<|es (ra1 rfl)<|C4 ?_
 obtain rfl:=os h
 exact retq trivial (B1 rfl B8) (A6 rfl B9) (A3 A8 B3)
end Ds
end
section
set_option maxRecDepth 100000
namespace Am
open Go
theorem B90 {σ ρ:Type} {b:σ→Option (σ ⊕ ρ)} (I:σ→Prop) (J:ρ→Prop) (hs:∀x y,I x→b x = some (.inl y)→I y) (he:∀x r,I x→b x = some (.inr r)→J r) {x0:σ} {r:ρ} (h0:I x0) (h:loop b x0 = some r):J r:= by
 have key:∀n x0,I x0→A55 b n x0 = some r→J r:= by
  intro n
  induction n with
  | zero=>intro x0 _ h; cases h
  | succ n ih =>
   intro x0 hI h
   rw [J5] at h
   split at h
   ·next x' hb=>exact ih x' (hs _ _ hI hb) h
   ·next r' hb=>simp only [Option.some.injEq] at h; subst h; exact he _ _ hI hb
   ·cases h
 exact key _ _ h0 h
end Am
namespace Ds
open Go Am Go.Proofs.Ytdkflofgolehkaa.Cd
def B5t (a:Int) (s:Int × List Int):Option ((Int × List Int) ⊕ List Int) :=
 (if (decide (s.1 > a)) = true then (idx s.2 s.1).bind fun x=>(idx s.2 (w64 (s.1 - 1))).bind fun y=>(A6q x y).bind fun z=>some z else some false).bind fun g =>
 if g = true then
  (idx s.2 (w64 (s.1 - 1))).bind fun y=>(idx s.2 s.1).bind fun x =>
  (idx (B0s s.2 s.1 y) (w64 (s.1 - 1))).bind fun _ =>
  some (.inl (w64 (s.1 - 1),B0s (B0s s.2 s.1 y) (w64 (s.1 - 1)) x))
 else some (.inr s.2)
def B5s (a b:Int) (s:Int × List Int):Option ((Int × List Int) ⊕ List Int) :=
 if (decide (s.1 < b)) = true then
  (loop (B5t a) (s.1,s.2)).bind fun l=>some (.inl (w64 (s.1 + 1),l))
 else some (.inr s.2)
def C4q (a b:Int) (l:List Int):Option (List Int):=loop (B5s a b) (w64 (a + 1),l)
def ar1 (l:List Int):AO:=.arr 1 false (l.map cI)
theorem D2y {c:Sc} {A B:A1} {a b:Int} {l r:List Int} (h:C4q a b l = some r) :
  G3 tab c (A++(ar1 l :: B)) (.fn (.func 105) [] []) [.asl (A.length + 0) l.length,.i a,.i b] [] (A++(ar1 r :: B)):= by
 unfold C4q at h
 have htk:∀x:AO,(x :: B).take (B.length + 1) = x :: B:=fun x=>List.take_of_length_le (Nat.le_refl _)
 refine A7u (aq:=[.asl (A.length + 0) l.length,.i a,.i b]) rfl rfl rfl ?_
 refine s0<|qm rfl<|A0 (E7 rfl rfl) rfl<|qm rfl<|es (ra4 rfl rfl rfl rfl)<|C3<|wl (fun s=>[(0,.asl (A.length + 0) s.2.length),(1,.i a),(2,.i b),(6,.i s.1)]) (fun (_:Unit) s=>ar1 s.2 :: B) (B.length + 1) (fun r e s' H'=>PX 0 [] (A++(ar1 r :: B)) e s' H') () h rfl rfl (fun _ _=>rfl) (fun _=>rfl) rfl (fun s=>bdc (A08 (Nat.ble_eq_true_of_le (by omega))) (bdc A8 (bdc A8 (bdc A8 bdn)))) (fun _ s o hs=>?_) ?_
 ·unfold B5s at hs
  refine B7<|s0<|qm rfl<|qm rfl<|A0 (I4 rfl rfl) rfl<|es (ra5 rfl rfl rfl rfl rfl)<|wi hs rfl (fun hc hs=>?_) fun hc hs=>?_
  ·refine oB hs fun l1 hl1 hs=>?_
   refine C1<|B7<|C3<|s0<|qm rfl<|qm rfl<|es (ra5 rfl rfl rfl rfl rfl)<|C3<|wl (fun t=>[(0,.asl (A.length + 0) t.2.length),(1,.i a),(2,.i b),(6,.i s.1),(7,.i t.1)]) (fun (_:Unit) t=>ar1 t.2 :: B) (B.length + 1) (fun r e s' H'=>PX 2 [(0,.asl (A.length + 0) r.length),(1,.i a),(2,.i b),(6,.i s.1)] (A++(ar1 r :: B)) e s' H') () hl1 rfl rfl (fun _ _=>rfl) (fun _=>rfl) rfl (fun t=>bdc (A08 (Nat.ble_eq_true_of_le (by omega))) (bdc A8 (bdc A8 (bdc A8 (bdc A8 bdn))))) (fun _ t o' ht=>?_) ?_
   ·unfold B5t at ht
    refine oB ht fun g hg ht=>?_
    refine B7<|s0<|qm rfl<|qm rfl<|A0 (A9o rfl rfl) rfl<|qm rfl<|gp 11 30 (.b g) 19 rfl rfl (fun hb=>?_) (fun hb=>?_) ?_
    ·refine oB (bt hg hb) fun x hx hg=>oB hg fun y hy hg=>oB hg fun z hz hg=>?_
     obtain rfl:=os hg
     exact gT rfl hb<|qm rfl<|gT rfl hb<|qm rfl<|gT rfl hb<|A0 (B0g (f:=cI) rfl rfl rfl rfl hx) rfl<|gT rfl hb<|A0 (B1y (x:=.i x) rfl rfl (List.length_map _) (B0o hx) rfl) rfl<|gT rfl hb<|qm rfl<|gT rfl hb<|qm rfl<|gT rfl hb<|A0 (Z8 rfl rfl) rfl<|gT rfl hb<|A0 (B0g (f:=cI) rfl rfl rfl rfl hy) rfl<|gT rfl hb<|A0 (B1y (x:=.i y) rfl rfl (List.length_map _) (B0o hy) rfl) rfl<|gT rfl hb<|B5 (rs:=[.b z]) rfl rfl (A2 rfl (A2 rfl B6)) ((B42 hz).frz)<|A0 (C9 rfl hb rfl) rfl<|ge 11 rfl rfl rfl
    ·obtain rfl:=os (bf hg hb)
     exact nT rfl hb rfl<|nT rfl hb rfl<|nT rfl hb rfl<|nT rfl hb rfl<|nT rfl hb rfl<|nT rfl hb rfl<|nT rfl hb rfl<|nT rfl hb rfl<|nT rfl hb rfl<|O1 (G6 rfl (by rw [hb]; rfl)) rfl<|A0 (C8 rfl hb rfl) rfl<|ge 11 rfl rfl rfl
    ·refine es (ra6 rfl rfl rfl rfl rfl rfl)<|wi ht rfl (fun hc2 ht=>?_) fun hc2 ht=>?_
     ·refine oB ht fun y hy ht=>oB ht fun x hx ht=>oB ht fun w hw ht=>?_
      refine C1<|B7<|C3<|r0<|qm rfl<|qm rfl<|qm rfl<|qm rfl<|A0 (Z8 rfl rfl) rfl<|A0 (B0g (f:=cI) rfl rfl rfl rfl hy) rfl<|A0 (B1y (x:=.i y) rfl rfl (List.length_map _) (B0o hy) rfl) rfl<|qm rfl<|qm rfl<|A0 (B0g (f:=cI) rfl rfl rfl rfl hx) rfl<|A0 (B1y (x:=.i x) rfl rfl (List.length_map _) (B0o hx) rfl) rfl<|A0 (B0g (f:=cI) rfl rfl rfl rfl hx) rfl<|H6 (C3x (ds:=cI y) rfl rfl rfl rfl rfl (List.length_map _) (B0o hx) rfl rfl) rfl ?_
      rw [C3q]
      refine qm rfl<|qm rfl<|A0 (Z8 rfl rfl) rfl<|A0 (B0g (f:=cI) (e:=B0s t.2 t.1 y) rfl rfl rfl (A5e _ _ _) hw) rfl<|H6 (C3x (ds:=cI x) rfl rfl rfl rfl rfl (by rw [List.length_map,A5e]) (B0o hw) rfl rfl) rfl ?_
      rw [C3q]
      refine en (ra5 rfl rfl rfl rfl rfl)<|r0<|qm rfl<|A0 (Z8 rfl rfl) rfl<|qm rfl<|en (ra5 rfl rfl rfl rfl rfl) ?_
      cases ht
      exact lnT () (htk _) (su5 (by simp only [A5e]; rfl) rfl rfl rfl rfl)
     ·refine F4 ?_
      obtain rfl:=os ht
      exact lx rfl px (su4 rfl rfl rfl rfl)
   ·rintro e s' H' - ⟨rfl,rfl,rfl⟩
    refine r0<|qm rfl<|A0 (E7 rfl rfl) rfl<|qm rfl<|en (ra4 rfl rfl rfl rfl) ?_
    cases hs
    exact lnT () (htk _) (su4 rfl rfl rfl rfl)
  ·refine F4 ?_
   obtain rfl:=os hs
   exact lx rfl px (Sub.nil _)
 ·rintro e s' H' - ⟨rfl,rfl,rfl⟩
  show B8h _ _ _ _ .normal _ _
  exact C6g trivial B8 B9 B3 (List.take_of_length_le (by simp))
def D4p (a b:Int) (l:List Int):Option (List Int):=if (decide (w64 (b - a)≤12)) = true then C4q a b l else none
theorem D4q {c:Sc} {A B:A1} {a b k:Int} {l r:List Int} (h:D4p a b l = some r) :
  G3 tab c (A++(ar1 l :: B)) (.fn (.func 96) [] []) [.asl (A.length + 0) l.length,.i a,.i b,.i k] [] (A++(ar1 r :: B)):= by
 unfold D4p at h
 split at h
 ·next hc =>
  refine A7u (aq:=[.asl (A.length + 0) l.length,.i a,.i b,.i k]) rfl rfl rfl ?_
  refine s0<|qm rfl<|es (ra5 rfl rfl rfl rfl rfl)<|s0<|qm rfl<|es (ra6 rfl rfl rfl rfl rfl rfl)<|C3<|D22 (B.length + 1) rfl _ (fun S hS=>O7 (live:=[0,1,2,3,8,9]) rfl (by decide) (Sub.trans (su6 rfl rfl rfl rfl rfl rfl) hS))<|C3<|s0<|qm rfl<|qm rfl<|A0 (Z8 rfl rfl) rfl<|qm rfl<|es (ra7 rfl rfl rfl rfl rfl rfl rfl)<|B7<|s0<|qm rfl<|A0 (B87 rfl rfl) rfl<|es (ra8 rfl rfl rfl rfl rfl rfl rfl rfl)<|Q7 rfl hc<|s0<|qm rfl<|qm rfl<|qm rfl<|R4 (S3 rfl rfl (D2y h) rfl) rfl<|es .n<|C4 ?_
  refine .out rfl ?_
  show B8h _ _ _ _ .ret _ _
  exact C6g trivial B8 B9 B3 (List.take_of_length_le (by simp))
 ·cases h
def B71 (l:List Int):Option (List Int) :=
 (A5n (IntKind.u64.wrap (List.length l:Int))).bind fun _=>D4p 0 (List.length l:Int) l
theorem D4x {c:Sc} {A B:A1} {l r:List Int} (h:B71 l = some r) :
  G3 tab c (A++(ar1 l :: B)) (.fn (.func 67) [] []) [.asl (A.length + 0) l.length] [] (A++(ar1 r :: B)):= by
 unfold B71 at h
 refine oB h fun k hk h=>?_
 refine A7u (aq:=[.asl (A.length + 0) l.length]) rfl rfl rfl ?_
 refine s0<|qm rfl<|A0 (B3g (f:=cI) rfl rfl rfl) rfl<|qm rfl<|es (ra2 rfl rfl)<|r0<|qm rfl<|qm rfl<|qm rfl<|A0 (B0f rfl) rfl<|B5 (rs:=[.i k]) rfl rfl (A2 rfl B6) ((B3i hk).frz)<|R4 (S3 rfl rfl (D4q h) rfl) rfl<|en .n ?_
 show B8h _ _ _ _ .normal _ _
 exact C6g trivial B8 B9 B3 (List.take_of_length_le (by simp))
theorem C9v {a b:Int} {l r:List Int} (h:C4q a b l = some r):r.length = l.length:= by
 unfold C4q at h
 refine B90 (fun s=>s.2.length = l.length) (fun r=>r.length = l.length) (fun x y hx hy=>?_) (fun x r hx hr=>?_) rfl h
 ·unfold B5s at hy
  split at hy
  ·refine oB hy fun l1 hl1 hy=>?_
   cases hy
   refine B90 (fun s=>s.2.length = l.length) (fun r=>r.length = l.length) (fun x y hx hy=>?_) (fun x r hx hr=>?_) hx hl1
   ·unfold B5t at hy
    refine oB hy fun g _ hy=>?_
    split at hy
    ·refine oB hy fun _ _ hy=>oB hy fun _ _ hy=>oB hy fun _ _ hy=>?_
     cases hy
     simpa only [A5e] using hx
    ·cases hy
   ·unfold B5t at hr
    refine oB hr fun g _ hr=>?_
    split at hr
    ·refine oB hr fun _ _ hr=>oB hr fun _ _ hr=>oB hr fun _ _ hr=>?_
     cases hr
    ·cases hr; exact hx
  ·cases hy
 ·unfold B5s at hr
  split at hr
  ·refine oB hr fun _ _ hr=>?_
   cases hr
  ·cases hr; exact hx
theorem C9w {l r:List Int} (h:B71 l = some r):r.length = l.length:= by
 unfold B71 D4p at h
 refine oB h fun _ _ h=>?_
 split at h
 ·exact C9v h
 ·cases h
end Ds
end
section
set_option maxRecDepth 100000
namespace Ds
open Go Am Go.Proofs.Ytdkflofgolehkaa.Cd
def B58 (t:DrRoom) (person:Int):Option ((Chg × dress_plan) × Int) :=
 (L4 t).bind fun x1 =>
 if (x1.2.2 != 0) = true then some (([],plan0),x1.2.2)
 else (loop (M1 t) (0,[])).bind fun ch =>
  (I7 0 (w64 ((List.length t.Persons:Int) - 1)) [person]).bind fun k =>
  if k = true then some (([],plan0),4)
  else (I9 ⟨t⟩).bind fun w=>(P1 t ch w).bind fun z =>
   if (!z.2) = true then some (([],plan0),9) else some ((ch,z.1),0)
def C5j (N:Nat) (t:DrRoom) (ch:Chg) (p:dress_plan):List AO:=[.cells (A4 t),.cells (A9 p),.cells (A4 t),.map (A9j ch),.cells (A33 t (N + 3)),.cells (A9 p)]
def EnQ (H:A1) (t:DrRoom) (r:(Chg × dress_plan) × Int) (e:Ex) (s:B2) (H1:A1):Prop :=
 (match e with | .exit _=>False | _=>True)∧∃ rs H2,results s H1 [.tmp 4,.cell 5 (some 6),.tmp 6] = some rs∧P5 H.length H1 rs = some (rs,H2) ∧
  ((r.2 != 0) = true∧rs = [.lit (.pointer none),.agg (A9 plan0),.i r.2]∧trunc H.length rs H2 = H∨r.2 = 0∧rs = [.ptr (H.length + 4) 0,.agg (A9 r.1.2),.i 0]∧trunc H.length rs H2 = H++C5j H.length t r.1.1 r.1.2)
theorem C03 {H:A1} {l:List AO} {s:B2} {t:DrRoom} {e:Int} {x:Chg × dress_plan} (he:(e != 0) = true) (h4:sget s 4 = some (.lit (.pointer none))) (h5:sget s 5 = some (.ptr (H.length + 1) 0)) (h6:sget s 6 = some (.i e)) (hl:l[1]? = some (.cells (A9 plan0))):EnQ H t (x,e) .ret s (H++l) :=
 ⟨trivial,_,_,B1 h4 (O9 (I1 (ds:=A9 plan0) h5 hl rfl rfl) (B1 h6 B8)),A6 rfl (A6 (A1c rfl) (A6 rfl B9)),.inl ⟨he,rfl,by rw [C0l (by rfl),List.append_nil]⟩⟩
theorem D0y {c:Sc} {H:A1} (hscv:Q9 c H = true) {t:DrRoom} {person:Int} {r:(Chg × dress_plan) × Int} (h:B58 t person = some r) :
  (r.2 != 0) = true∧G3 tab c H (.fn (.func 64) [] []) [.agg (A4 t),.i person] [.lit (.pointer none),.agg (A9 plan0),.i r.2] H ∨
  r.2 = 0∧G3 tab c H (.fn (.func 64) [] []) [.agg (A4 t),.i person] [.ptr (H.length + 4) 0,.agg (A9 r.1.2),.i 0] (H++C5j H.length t r.1.1 r.1.2):= by
 have key:WP tab c64 (I3 0 [.agg (A4 t),.i person]) (H++[]) ⟨H.length,c.cur :: c.outer⟩ (EnQ H t r):= by
  unfold B58 at h
  refine oB h fun x1 hx1 h=>?_
  refine sg 0 rfl<|A0 (F3 (cs:=A4 t) rfl rfl rfl) rfl<|qm rfl<|A0 E4 rfl<|qm rfl<|es (ra3 rfl rfl rfl) ?_
  by_cases hc1:(x1.2.2 != 0) = true
  ·rw [if_pos hc1] at h
   obtain rfl:=os h
   refine s0<|A0 (C2 rfl rfl rfl) rfl<|R4 (W0 rfl rfl (A2 (D2 rfl) B6) (B6s hx1 hc1) rfl) rfl<|qm rfl<|A0 (A7 rfl rfl) rfl<|A0 (A7 rfl rfl) rfl<|qm rfl<|qm rfl<|es (ra5 rfl rfl rfl rfl rfl)<|B7<|C3<|s0<|qm rfl<|A0 (J8 rfl rfl) rfl<|qm rfl<|es (ra6 rfl rfl rfl rfl rfl rfl)<|Q7 rfl hc1<|s0<|A0 (K9 (cs:=A9 plan0) rfl rfl) rfl<|qm rfl<|qm rfl<|H6 (D0 (ds:=A9 plan0) rfl rfl rfl rfl (C5 rfl) rfl) rfl<|qm rfl<|es (ra3 rfl rfl rfl)<|C4<|C03 hc1 rfl rfl rfl rfl
  ·rw [if_neg hc1] at h
   have hc1:(x1.2.2 != 0) = false:=Bool.eq_false_iff.2 hc1
   refine oB h fun ch hch h=>oB h fun k hk h=>?_
   have hlook:G3 tab ⟨H.length,c.cur :: c.outer⟩ (H++[.cells (A4 t),.cells (A9 plan0)]) (.fn (.func 52) [] []) [(.agg (A4 t))] [.ptr (H.length + 4) 0,.i 0] (H++[.cells (A4 t),.cells (A9 plan0),.cells (A4 t),.map (A9j ch),.cells (A33 t (H.length + 3))]):= by
    have:=B6t (c:=⟨H.length,c.cur :: c.outer⟩) (H:=H++[.cells (A4 t),.cells (A9 plan0)]) hx1 hc1 hch
    unfold C7q at this
    rw [List.length_append,List.append_assoc] at this
    exact this
   refine s0<|A0 (C2 rfl rfl rfl) rfl<|R4 (W0 rfl rfl (A2 (D2 rfl) B6) hlook rfl) rfl<|qm rfl<|A0 (A7 rfl rfl) rfl<|A0 (A7 rfl rfl) rfl<|qm rfl<|qm rfl<|es (ra5 rfl rfl rfl rfl rfl)<|B7<|C3<|s0<|qm rfl<|A0 (N9 (v:=(.b false)) rfl rfl rfl) rfl<|qm rfl<|es (ra6 rfl rfl rfl rfl rfl rfl)<|Y2 rfl rfl<|s0<|A0 (D3 rfl) rfl<|A0 (C7 rfl rfl rfl) rfl<|A0 (D9 (f:=A5) rfl) rfl<|A0 (Z8 rfl rfl) rfl<|qm rfl<|A0 (G7 (rows:=List.map cI [person]) rfl rfl (D8 (fun _=>rfl) _)) rfl<|B5 (rs:=[.b k]) rfl rfl (A2 rfl (A2 rfl (A2 rfl B6))) ((M2 hk).frz)<|qm rfl<|es (ra3 rfl rfl rfl)<|wi h rfl (fun hc2 h=>?_) fun hc2 h=>?_
   ·obtain rfl:=os h
    exact s0<|A0 (K9 (cs:=A9 plan0) rfl rfl) rfl<|qm rfl<|H6 (D0 (ds:=A9 plan0) rfl rfl rfl rfl (C5 rfl) rfl) rfl<|qm rfl<|es (ra3 rfl rfl rfl)<|C4<|C03 rfl rfl rfl rfl rfl
   refine oB h fun w hw h=>oB h fun z hz h=>?_
   refine C1<|sg 5 rfl<|qm rfl<|qm rfl<|B5 (rs:=[.i w]) rfl rfl (A2 rfl B6) ((N0 (a0:=⟨t⟩) (D6 rfl) hw).frz)<|B5 (rs:=[(.agg (A9 z.1)),.b z.2]) rfl rfl (A2 rfl (A2 rfl B6)) (B5a (t:=t) (ch:=ch) ⟨_,D6 rfl,A1f rfl⟩ (A29 hscv) hz)<|qm rfl<|A0 (A7 rfl rfl) rfl<|A0 (A7 rfl rfl) rfl<|A0 E4 rfl<|H6 (D0 (ds:=(A9 z.1)) rfl rfl rfl rfl (C5 rfl) rfl) rfl<|qm rfl<|es (ra4 rfl rfl rfl rfl)<|B7<|s0<|qm rfl<|A0 (R6 rfl) rfl<|es (ra4 rfl rfl rfl rfl)<|wi h rfl (fun hc3 h=>?_) fun hc3 h=>?_
   ·obtain rfl:=os h
    exact s0<|A0 (K9 (cs:=A9 plan0) rfl rfl) rfl<|qm rfl<|H6 (D0 (ds:=A9 plan0) rfl rfl rfl rfl (C5 rfl) rfl) rfl<|qm rfl<|es (ra3 rfl rfl rfl)<|C4<|C03 rfl rfl rfl rfl rfl
   ·obtain rfl:=os h
    refine C1<|s0<|qm rfl<|A0 (C2 rfl rfl rfl) rfl<|qm rfl<|H6 (D0 (ds:=(A9 z.1)) rfl rfl rfl rfl (C5 rfl) rfl) rfl<|qm rfl<|es (ra3 rfl rfl rfl)<|C4 ?_
    exact ⟨trivial,_,_,B1 rfl (O9 (I1 (ds:=A9 z.1) rfl rfl rfl rfl) (B1 rfl B8)),A6 rfl (A6 (A1c rfl) (A6 rfl B9)),.inr ⟨rfl,rfl,B77 C63⟩⟩
 rw [List.append_nil] at key
 obtain ⟨e,S',s',H2,h1,h2,h3,rs,H3,h4,h5,h6⟩:=key _ (Sub.refl _)
 have hrun:∀H',trunc H.length rs H3 = H'→G3 tab c H (.fn (.func 64) [] []) [.agg (A4 t),.i person] rs H':=fun H' hH =>
  G3.fn (af:=a64) (bd:=c64) (aq:=[.agg (A4 t),.i person]) (rs0:=rs) (rs1:=rs) (H1:=H3) (e:=e) (st':=⟨S',H2,⟨H.length,c.cur :: c.outer⟩⟩) rfl rfl rfl rfl rfl rfl h1 (by cases e <;> first | rfl | exact h3.elim) (O8 h2 h4) h5 rfl hH.symm
 rcases h6 with ⟨h6,rfl,h7⟩ | ⟨h6,rfl,h7⟩
 ·exact .inl ⟨h6,hrun _ h7⟩
 ·exact .inr ⟨h6,hrun _ h7⟩
theorem retq0 {H:A1} {s:B2} {rv:List ARes} {rs:List AV} {e:Ex} (h:RetQ H rv rs e s (H++[])):RetQ H rv rs e s H:= by rwa [List.append_nil] at h
theorem D1k {c:Sc} {A B:A1} {b:Nat} {l:List Int} {x r:Int} (hb:A.length = b) (h:L9 l x = some r):E5 tab c (A++(ar1 l :: B)) (.fn (.func 95) [] []) [.asl b l.length,.i x] [.i r]:= by
 subst hb
 unfold L9 at h
 have htk:∀x:AO,(x :: B).take (B.length + 1) = x :: B:=fun x=>List.take_of_length_le (Nat.le_refl _)
 refine B53 (aq:=[.asl A.length l.length,.i x]) rfl rfl rfl ?_
 refine s0<|qm rfl<|es (ra2 rfl rfl)<|B7<|s0<|qm rfl<|A0 (B3g (f:=cI) (j:=0) rfl rfl rfl) rfl<|qm rfl<|es (ra4 rfl rfl rfl rfl)<|C3<|oB h fun o6 ho6 h=>wl (fun s1=>[(0,(.asl (A.length + 0) l.length)),(1,.i x),(7,(.i (List.length l:Int))),(8,.i s1)]) (fun (q2:Unit) s1=>ar1 l :: B) (B.length + 1) (fun r e s' H'=>(match r with | (.inl v)=>e = .ret∧RetQ (A++(ar1 l :: B)) [.tmp 4] [.i v] e s' H' | (.inr v)=>PX 0 [] (A++(ar1 l :: B)) e s' H':Prop)) () ho6 rfl rfl (fun _ _=>rfl) (fun _=>rfl) rfl (fun s1=>(bdc (A08 (Nat.ble_eq_true_of_le (by omega))) (bdc A8 (bdc A8 (bdc A8 bdn))))) (fun q2 s1 ys1 hs1=>?_) ?_
 ·unfold G1 at hs1
  refine s0<|A0 (I4 rfl rfl) rfl<|es (ra5 rfl rfl rfl rfl rfl)<|B7<|wi hs1 rfl (fun hc3 hs1=>?_) fun hc3 hs1=>?_
  ·refine C1<|B7<|C3<|s0<|qm rfl<|qm rfl<|es (ra5 rfl rfl rfl rfl rfl)<|s0<|oB hs1 fun x4 hx4 hs1=>qm rfl<|qm rfl<|qm rfl<|A0 (B0g (f:=cI) rfl rfl rfl rfl hx4) rfl<|A0 (B1y (x:=.i x4) rfl rfl (List.length_map _) (B0o hx4) rfl) rfl<|A0 (F6 rfl rfl) rfl<|es (ra6 rfl rfl rfl rfl rfl rfl)<|wi hs1 rfl (fun hc5 hs1=>?_) fun hc5 hs1=>?_
   ·refine s0<|qm rfl<|qm rfl<|es (ra1 rfl)<|C4 ?_
    obtain rfl:=os hs1
    exact lx rfl (And.intro rfl (retq0 (retq trivial (B1 rfl B8) (A6 rfl B9) (A3 A8 B3)))) (Sub.refl _)
   ·refine C1<|r0<|A0 (E7 rfl rfl) rfl<|qm rfl<|en (ra4 rfl rfl rfl rfl) ?_
    cases hs1
    exact lnT () (htk _) (su4 rfl rfl rfl rfl)
  ·refine F4 ?_
   obtain rfl:=os hs1
   exact lx rfl px (.nil _)
 ·rcases o6 with vo6_0 | vo6_1
  ·rintro e s' H' - ⟨rfl,hret⟩
   cases h
   exact hret
  ·rintro e s' H' - ⟨rfl,rfl,rfl⟩
   refine s0<|qm rfl<|es (ra1 rfl)<|C4 ?_
   obtain rfl:=os h
   exact retq0 (retq trivial (B1 rfl B8) (A6 rfl B9) (A3 A8 B3))
theorem C2w {c:Sc} {A B:A1} {b:Nat} {l:List Int} {x:Int} {r:Bool} (hb:A.length = b) (h:F7 l x = some r):E5 tab c (A++(ar1 l :: B)) (.fn (.func 66) [] []) [.asl b l.length,.i x] [.b r]:= by
 unfold F7 at h
 refine oB h fun x1 hx1 h=>?_
 refine B53 (aq:=[.asl b l.length,.i x]) rfl rfl rfl ?_
 refine s0<|qm rfl<|es (ra2 rfl rfl)<|s0<|qm rfl<|qm rfl<|R4 (A4u (rs:=[.i x1]) rfl rfl ((D1k hb hx1).frz)) rfl<|A0 (A7f rfl rfl) rfl<|qm rfl<|es (ra1 rfl)<|C4 ?_
 obtain rfl:=os h
 exact retq0 (retq trivial (B1 rfl B8) (A6 rfl B9) (A3 A8 B3))
def B3z (person:Int) (best:dress_plan) (l:List dress_plan) (s:Int × List Int):Option ((Int × List Int) ⊕ List Int) :=
 if (decide (s.1 < (List.length l:Int))) = true then
  (idx l s.1).bind fun p=>(idx p.figures_ person).bind fun f =>
  (if (p.cost_ == best.cost_) = true then (F7 s.2 f).bind fun k=>some (!k) else some false).bind fun g =>
  if g = true then (app 8 s.2 [f]).bind fun q=>some (.inl (w64 (s.1 + 1),q))
  else some (.inl (w64 (s.1 + 1),s.2))
 else some (.inr s.2)
def A39 (t:DrRoom) (person:Int):Option (List Int × Int) :=
 (B58 t person).bind fun r =>
 if (r.2 != 0) = true then some ([],r.2)
 else (I9 ⟨t⟩).bind fun w=>(Q8 t r.1.1 w).bind fun l =>
  (loop (B3z person r.1.2 l) (0,[])).bind fun o=>(B71 o).bind fun q=>some (q,0)
def B3y (N:Nat) (t:DrRoom) (ch:Chg) (p:dress_plan) (s:List Int):List AO:=[.cells (A4 t),ar1 s,.cells (A9 p),.cells (A4 t),.cells (A9 p),.cells (A4 t),.map (A9j ch),.cells (A33 t (N + 6)),.cells (A9 p)]
theorem B13 {c:Sc} {H:A1} (hscv:Q9 c H = true) {a0:DrRoom} {a1:Int} {r:List Int × Int} (h:A39 a0 a1 = some r) :
  S4 tab c H (.fn (.func 28) [] []) [(.agg (A4 a0)),.i a1] [(.seq 1 (List.map cI r.1)),.i r.2]:= by
 unfold A39 at h
 refine oB h fun x hx h=>?_
 refine cF rfl rfl<|sg 0 rfl<|A0 (F3 (cs:=A4 a0) rfl rfl rfl) rfl<|A0 A3m rfl<|qm rfl<|es (ra3 rfl rfl rfl)<|sg 2 rfl<|A0 (C2 rfl rfl rfl) rfl<|qm rfl ?_
 rcases D0y (c:=⟨H.length,c.cur :: c.outer⟩) (H:=H++[.cells (A4 a0),ar1 [],.dead]) (A29 hscv) hx with ⟨hc,hcall⟩ | ⟨hc,hcall⟩
 ·rw [if_pos hc] at h
  obtain rfl:=os h
  refine R4 (W0 rfl rfl (A2 (D2 rfl) (A2 rfl B6)) hcall rfl) rfl<|qm rfl<|A0 (A7 rfl rfl) rfl<|A0 (A7 rfl rfl) rfl<|A0 (A7 rfl rfl) rfl<|A0 E4 rfl<|qm rfl<|H6 (D0 (ds:=A9 plan0) rfl rfl rfl rfl (C5 rfl) rfl) rfl<|qm rfl<|es (ra5 rfl rfl rfl rfl rfl)<|B7<|s0<|qm rfl<|A0 (J8 rfl rfl) rfl<|es (ra6 rfl rfl rfl rfl rfl rfl)<|Q7 rfl hc<|sg 3 rfl<|qm rfl<|A0 A3m rfl<|qm rfl<|es (ra2 rfl rfl)<|C4 ?_
  exact ⟨[.fresh 1 (List.map cI []),.i x.2],retq trivial (B1 rfl (B1 rfl B8)) (A6 (A2o rfl (List.length_map _)) (A6 rfl B9)) (A3 V7 (A3 A8 B3)),rfl⟩
 ·obtain ⟨⟨ch,best⟩,e⟩:=x
  dsimp only at hc
  subst hc
  rw [if_neg (by simp)] at h
  refine oB h fun w hw h=>oB h fun l hl h=>oB h fun o ho h=>oB h fun q hq h=>?_
  obtain rfl:=os h
  have hcall:G3 tab ⟨H.length,c.cur :: c.outer⟩ (H++[.cells (A4 a0),ar1 [],.dead]) (.fn (.func 64) [] []) [.agg (A4 a0),.i a1] [.ptr (H.length + 7) 0,.agg (A9 best),.i 0] (H++[.cells (A4 a0),ar1 [],.dead,.cells (A4 a0),.cells (A9 best),.cells (A4 a0),.map (A9j ch),.cells (A33 a0 (H.length + 6)),.cells (A9 best)]):= by
   unfold C5j at hcall
   rw [List.length_append,List.append_assoc] at hcall
   exact hcall
  have hH:∀s:List Int,H++B3y H.length a0 ch best s = (H++[.cells (A4 a0)])++(ar1 s :: (B3y H.length a0 ch best s).drop 2):=fun s=>by simp [B3y]
  have hA:(H++[AO.cells (A4 a0)]).length = H.length + 1:= by simp
  refine R4 (W0 rfl rfl (A2 (D2 rfl) (A2 rfl B6)) hcall rfl) rfl<|qm rfl<|A0 (A7 rfl rfl) rfl<|A0 (A7 rfl rfl) rfl<|A0 (A7 rfl rfl) rfl<|A0 E4 rfl<|qm rfl<|H6 (D0 (ds:=A9 best) rfl rfl rfl rfl (C5 rfl) rfl) rfl<|qm rfl<|es (ra5 rfl rfl rfl rfl rfl)<|B7<|s0<|qm rfl<|A0 (N9 (v:=(.b false)) rfl rfl rfl) rfl<|es (ra6 rfl rfl rfl rfl rfl rfl)<|Y2 rfl rfl<|C1<|B7<|s0<|qm rfl<|qm rfl<|B5 (rs:=[.i w]) rfl rfl (A2 rfl B6) ((N0 (a0:=⟨a0⟩) (D6 rfl) hw).frz)<|B5 (rs:=[.seq 6 (l.map A9)]) rfl rfl (A2 rfl (A2 rfl B6)) (C10 (t:=a0) (ch:=ch) ⟨_,D6 rfl,A1f rfl⟩ (A29 hscv) hl)<|A0 (D9 (f:=A9) rfl) rfl<|qm rfl<|es (ra6 rfl rfl rfl rfl rfl rfl)<|C3<|wl (fun s=>[(1,.i a1),(4,.asl (H.length + 1) s.2.length),(7,.ptr (H.length + 2) 0),(24,.seq 6 (l.map A9)),(25,.i (List.length l:Int)),(26,.i s.1)]) (fun (_:Unit) s=>B3y H.length a0 ch best s.2) 9 (fun r e s' H'=>PX 0 [(4,.asl (H.length + 1) r.length)] (H++B3y H.length a0 ch best r) e s' H') () ho rfl rfl (fun _ _=>rfl) (fun _=>rfl) rfl (fun s=>bdc A8 (bdc (A08 rfl) (bdc (F1 rfl) (bdc E8 (bdc A8 (bdc A8 bdn)))))) (fun _ s o hs=>?_) ?_
  ·unfold B3z at hs
   refine s0<|A0 (I4 rfl rfl) rfl<|es (ra7 rfl rfl rfl rfl rfl rfl rfl)<|B7<|wi hs rfl (fun hc hs=>?_) fun hc hs=>?_
   ·refine oB hs fun p hp hs=>oB hs fun f hf hs=>oB hs fun g hg hs=>?_
    refine C1<|B7<|C3<|sg 9 rfl<|A0 (E9 (f:=A9) rfl rfl hp) rfl<|A0 (M6 rfl rfl) rfl<|A0 E4 rfl<|H6 (D0 (ds:=A9 p) rfl rfl rfl rfl (C5 rfl) rfl) rfl<|es (ra7 rfl rfl rfl rfl rfl rfl rfl)<|s0<|A0 (D3 rfl) rfl<|A0 (C7 rfl rfl rfl) rfl<|qm rfl<|A0 (E9 (f:=cI) rfl rfl hf) rfl<|A0 (F5 rfl rfl) rfl<|qm rfl<|es (ra8 rfl rfl rfl rfl rfl rfl rfl rfl)<|s0<|A0 (D3 rfl) rfl<|A0 (C7 (x:=.i p.cost_) rfl rfl rfl) rfl<|A0 (D3 rfl) rfl<|A0 (C7 (x:=.i best.cost_) rfl rfl rfl) rfl<|A0 (F6 rfl rfl) rfl<|qm rfl<|gp 5 45 (.b g) 40 rfl rfl (fun hb=>?_) (fun hb=>?_) ?_
    ·refine oB (bt hg hb) fun k hk hg=>?_
     obtain rfl:=os hg
     have hcon:S4 tab ⟨H.length + 9,(⟨H.length,c.cur :: c.outer⟩:Sc).cur :: (⟨H.length,c.cur :: c.outer⟩:Sc).outer⟩ (H++(B3y H.length a0 ch best s.2++[.cells (A9 p)])) (.fn (.func 66) [] []) [.asl (H.length + 1) s.2.length,.i f] [.b k]:= by
      have:=(C2w (c:=⟨H.length + 9,(⟨H.length,c.cur :: c.outer⟩:Sc).cur :: (⟨H.length,c.cur :: c.outer⟩:Sc).outer⟩) (B:=(B3y H.length a0 ch best s.2).drop 2++[.cells (A9 p)]) hA hk).frz
      rw [show (H++[AO.cells (A4 a0)])++(ar1 s.2 :: ((B3y H.length a0 ch best s.2).drop 2++[.cells (A9 p)])) = H++(B3y H.length a0 ch best s.2++[.cells (A9 p)]) by simp [B3y]] at this
      exact this
     exact gT rfl hb<|qm rfl<|gT rfl hb<|qm rfl<|gT rfl hb<|R4 (A4u (rs:=[.b k]) rfl rfl hcon) rfl<|gT rfl hb<|A0 (R6 rfl) rfl<|A0 (C9 rfl hb rfl) rfl<|ge 5 rfl rfl rfl
    ·obtain rfl:=os (bf hg hb)
     exact nT rfl hb rfl<|nT rfl hb rfl<|O1 (G6 rfl (by rw [hb]; rfl)) rfl<|nT rfl hb rfl<|A0 (C8 rfl hb rfl) rfl<|ge 5 rfl rfl rfl
    refine es (ra8 rfl rfl rfl rfl rfl rfl rfl rfl)<|wi hs rfl (fun hc2 hs=>?_) fun hc2 hs=>?_
    ·refine oB hs fun q hq hs=>?_
     refine r0<|qm rfl<|qm rfl<|A0 (G7 (rows:=List.map cI [f]) rfl rfl (D8 (fun _=>rfl) _)) rfl<|R4 (A1b (f:=cI) rfl rfl rfl rfl W2 (fun _=>rfl) hq) rfl<|qm rfl<|en (ra6 rfl rfl rfl rfl rfl rfl)<|r0<|A0 (E7 rfl rfl) rfl<|qm rfl<|en (ra6 rfl rfl rfl rfl rfl rfl) ?_
     cases hs
     exact lnT () rfl (su6 rfl rfl rfl rfl rfl rfl)
    ·refine C1<|r0<|A0 (E7 rfl rfl) rfl<|qm rfl<|en (ra6 rfl rfl rfl rfl rfl rfl) ?_
     cases hs
     exact lnT () rfl (su6 rfl rfl rfl rfl rfl rfl)
   ·refine F4 ?_
    obtain rfl:=os hs
    exact lx rfl px (su1 rfl)
  ·rintro e s' H' - ⟨rfl,rfl,rfl⟩
   have hsort:G3 tab ⟨H.length,c.cur :: c.outer⟩ (H++B3y H.length a0 ch best o) (.fn (.func 67) [] []) [.asl (H.length + 1) o.length] [] (H++B3y H.length a0 ch best q):= by
    have:=D4x (c:=⟨H.length,c.cur :: c.outer⟩) (A:=H++[AO.cells (A4 a0)]) (B:=(B3y H.length a0 ch best o).drop 2) hq
    rw [hA] at this
    rw [hH o,hH q]
    exact this
   refine s0<|qm rfl<|R4 (S3 rfl rfl hsort rfl) rfl<|es (ra1 rfl)<|s0<|qm rfl<|qm rfl<|qm rfl<|es (ra2 rfl rfl)<|C4 ?_
   exact ⟨[.fresh 1 (List.map cI q),.i 0],retq trivial (B1 rfl (B1 rfl B8)) (A6 (A2o rfl (by rw [List.length_map]; exact C9w hq)) (A6 rfl B9)) (A3 V7 (A3 A8 B3)),rfl⟩
end Ds
end
section
set_option maxRecDepth 100000
set_option maxHeartbeats 0
namespace Ds
open Go Am Go.Proofs.Ytdkflofgolehkaa.Cd
def A0g :Option Bool :=
 (A4p 2).bind fun x1 =>
 (A4p 1).bind fun x2 =>
 (Z9 x1 0 0).bind fun x3 =>
 (A1s x1 [2,0,1]).bind fun x4 =>
 (A1t x1 [1,0,2]).bind fun x5 =>
 (A1r x1).bind fun x6 =>
 (A1r x2).bind fun x7 =>
 (A39 x1 2).bind fun x8 =>
 (X0 x1 1).bind fun x9 =>
 (A8v x2).bind fun x10 =>
 (A8u x2).bind fun x11 =>
 (if ((((((((((x3.2.2 == 0) && (x4.2 == 0)) && (x5.2 == 0)) && (x6.2.2 == 0)) && (x7.2.2 == 9)) && (x8.2 == 0)) && (x9.2 == 0)) && (x10.2 == 0)) && (x11.2.2 == 0)) && (x3.1 == 14)) = true then
  (K7 x3.2.1 [0,2]).bind fun x22 =>
  some x22
 else
  some false).bind fun x23 =>
 (if x23 = true then
  (K7 x4.1 [4,(-1)]).bind fun x25 =>
  some x25
 else
  some false).bind fun x26 =>
 (if (x26 && (x5.1 == 14)) = true then
  (K7 x6.1 [1,0,2]).bind fun x29 =>
  some x29
 else
  some false).bind fun x30 =>
 (if (x30 && (x6.2.1 == 14)) = true then
  (K7 x8.1 [2]).bind fun x33 =>
  some x33
 else
  some false).bind fun x34 =>
 (if (x34 && (x9.1 == 10)) = true then
  (K7 x10.1 [0]).bind fun x37 =>
  some x37
 else
  some false).bind fun x38 =>
 (if x38 = true then
  (K7 x11.1 [0,1]).bind fun x40 =>
  some x40
 else
  some false).bind fun x41 =>
 some (x41 && (x11.2.1 == 14))
theorem A2n {c:Sc} {H:A1} (hscv:Q9 c H = true)  {r:Bool} (h:A0g  = some r) :
  E5 tab c H (.fn (.func 21) [] []) [] [.b r]:= by
 unfold A0g at h
 refine cE rfl rfl<|s0<|qm rfl<|es .n<|sg 0 rfl<|oB h fun x1 hx1 h=>oB h fun x2 hx2 h=>B5 (rs:=[(.agg (A4 x1))]) rfl rfl (A2 rfl B6) ((A5s hx1).frz)<|B5 (rs:=[(.agg (A4 x2))]) rfl rfl (A2 rfl B6) ((A5s hx2).frz)<|A0 E4 rfl<|A0 E4 rfl<|H6 (D0 (ds:=(A4 x1)) rfl rfl rfl rfl (C5 rfl) rfl) rfl<|H6 (D0 (ds:=(A4 x2)) rfl rfl rfl rfl (C5 rfl) rfl) rfl<|es (ra2 rfl rfl)<|s0<|oB h fun x3 hx3 h=>A0 (C2 rfl rfl rfl) rfl<|B5 (rs:=[.i x3.1,(.seq 1 (List.map cI x3.2.1)),.i x3.2.2]) rfl rfl (A2 (D2 rfl) (A2 rfl (A2 rfl B6))) ((A3e hx3).frz)<|qm rfl<|A0 (A7 rfl rfl) rfl<|A0 (A7 rfl rfl) rfl<|A0 (A7 rfl rfl) rfl<|qm rfl<|qm rfl<|qm rfl<|es (ra5 rfl rfl rfl rfl rfl)<|s0<|oB h fun x4 hx4 h=>A0 (C2 rfl rfl rfl) rfl<|A0 (G7 (rows:=List.map cI [2,0,1]) rfl rfl (D8 (fun _=>rfl) _)) rfl<|B5 (rs:=[(.seq 1 (List.map cI x4.1)),.i x4.2]) rfl rfl (A2 (D2 rfl) (A2 rfl B6)) ((A5q hx4).frz)<|qm rfl<|A0 (A7 rfl rfl) rfl<|A0 (A7 rfl rfl) rfl<|qm rfl<|qm rfl<|es (ra7 rfl rfl rfl rfl rfl rfl rfl)<|s0<|oB h fun x5 hx5 h=>A0 (C2 rfl rfl rfl) rfl<|A0 (G7 (rows:=List.map cI [1,0,2]) rfl rfl (D8 (fun _=>rfl) _)) rfl<|B5 (rs:=[.i x5.1,.i x5.2]) rfl rfl (A2 (D2 rfl) (A2 rfl B6)) ((A5r hx5).frz)<|qm rfl<|A0 (A7 rfl rfl) rfl<|A0 (A7 rfl rfl) rfl<|qm rfl<|qm rfl<|es (ra9 rfl rfl rfl rfl rfl rfl rfl rfl rfl)<|s0<|oB h fun x6 hx6 h=>A0 (C2 rfl rfl rfl) rfl<|B5 (rs:=[(.seq 1 (List.map cI x6.1)),.i x6.2.1,.i x6.2.2]) rfl rfl (A2 (D2 rfl) B6) ((A5p (A29 hscv) hx6).frz)<|qm rfl<|A0 (A7 rfl rfl) rfl<|A0 (A7 rfl rfl) rfl<|A0 (A7 rfl rfl) rfl<|qm rfl<|qm rfl<|qm rfl<|es (ra12 rfl rfl rfl rfl rfl rfl rfl rfl rfl rfl rfl rfl)<|s0 ?_
 refine oB h fun x7 hx7 h=>A0 (C2 rfl rfl rfl) rfl<|B5 (rs:=[(.seq 1 (List.map cI x7.1)),.i x7.2.1,.i x7.2.2]) rfl rfl (A2 (D2 rfl) B6) ((A5p (A29 hscv) hx7).frz)<|qm rfl<|A0 (A7 rfl rfl) rfl<|A0 (A7 rfl rfl) rfl<|A0 (A7 rfl rfl) rfl<|qm rfl<|qm rfl<|qm rfl<|es (ra13 rfl rfl rfl rfl rfl rfl rfl rfl rfl rfl rfl rfl rfl)<|s0<|oB h fun x8 hx8 h=>A0 (C2 rfl rfl rfl) rfl<|B5 (rs:=[(.seq 1 (List.map cI x8.1)),.i x8.2]) rfl rfl (A2 (D2 rfl) (A2 rfl B6)) (B13 (A29 hscv) hx8)<|qm rfl<|A0 (A7 rfl rfl) rfl<|A0 (A7 rfl rfl) rfl<|qm rfl<|qm rfl<|es (.k rfl (.k rfl (.k rfl (.k rfl (.k rfl (.k rfl (.k rfl (.k rfl (.k rfl (.k rfl (.k rfl (.k rfl (.k rfl (.k rfl (.k rfl .n)))))))))))))))<|s0<|oB h fun x9 hx9 h=>A0 (C2 rfl rfl rfl) rfl<|B5 (rs:=[.i x9.1,.i x9.2]) rfl rfl (A2 (D2 rfl) (A2 rfl B6)) ((A2m (A29 hscv) hx9).frz)<|qm rfl<|A0 (A7 rfl rfl) rfl<|A0 (A7 rfl rfl) rfl<|qm rfl<|qm rfl<|es (.k rfl (.k rfl (.k rfl (.k rfl (.k rfl (.k rfl (.k rfl (.k rfl (.k rfl (.k rfl (.k rfl (.k rfl (.k rfl (.k rfl (.k rfl (.k rfl .n))))))))))))))))<|s0<|oB h fun x10 hx10 h=>A0 (C2 rfl rfl rfl) rfl<|B5 (rs:=[(.seq 1 (List.map cI x10.1)),.i x10.2]) rfl rfl (A2 (D2 rfl) B6) ((B12 (A29 hscv) hx10).frz)<|qm rfl<|A0 (A7 rfl rfl) rfl<|A0 (A7 rfl rfl) rfl<|qm rfl<|qm rfl<|es (.k rfl (.k rfl (.k rfl (.k rfl (.k rfl (.k rfl (.k rfl (.k rfl (.k rfl (.k rfl (.k rfl (.k rfl (.k rfl (.k rfl (.k rfl (.k rfl (.k rfl (.k rfl .n))))))))))))))))))<|s0<|oB h fun x11 hx11 h=>A0 (C2 rfl rfl rfl) rfl<|B5 (rs:=[(.seq 1 (List.map cI x11.1)),.i x11.2.1,.i x11.2.2]) rfl rfl (A2 (D2 rfl) B6) ((B11 (A29 hscv) hx11).frz)<|qm rfl<|A0 (A7 rfl rfl) rfl<|A0 (A7 rfl rfl) rfl<|A0 (A7 rfl rfl) rfl<|qm rfl<|qm rfl<|qm rfl<|es (.k rfl (.k rfl (.k rfl (.k rfl (.k rfl (.k rfl (.k rfl (.k rfl (.k rfl (.k rfl (.k rfl (.k rfl (.k rfl (.k rfl (.k rfl (.k rfl (.k rfl (.k rfl (.k rfl (.k rfl .n))))))))))))))))))))<|s0<|oB h fun x23 hx23 h=>oB h fun x26 hx26 h=>oB h fun x30 hx30 h=>oB h fun x34 hx34 h=>oB h fun x38 hx38 h=>oB h fun x41 hx41 h=>qm rfl ?_
 refine A0 (F6 rfl rfl) rfl<|qm rfl<|gp 3 83 (.b ((x3.2.2 == 0) && (x4.2 == 0))) 80 rfl rfl (fun hg12=>?_) (fun hg12=>?_) ?_
 ·exact gT rfl hg12<|qm rfl<|gT rfl hg12<|A0 (F6 rfl rfl) rfl<|A0 (C9 rfl hg12 rfl) rfl<|ge 3 (by rw [hg12]; rfl) rfl rfl
 ·exact nT rfl hg12 rfl<|nT rfl hg12 rfl<|A0 (C8 rfl hg12 rfl) rfl<|ge 3 (by rw [hg12]; rfl) rfl rfl
 refine qm rfl<|gp 3 87 (.b (((x3.2.2 == 0) && (x4.2 == 0)) && (x5.2 == 0))) 84 rfl rfl (fun hg13=>?_) (fun hg13=>?_) ?_
 ·exact gT rfl hg13<|qm rfl<|gT rfl hg13<|A0 (F6 rfl rfl) rfl<|A0 (C9 rfl hg13 rfl) rfl<|ge 3 (by rw [hg13]; rfl) rfl rfl
 ·exact nT rfl hg13 rfl<|nT rfl hg13 rfl<|A0 (C8 rfl hg13 rfl) rfl<|ge 3 (by rw [hg13]; rfl) rfl rfl
 refine qm rfl<|gp 3 91 (.b ((((x3.2.2 == 0) && (x4.2 == 0)) && (x5.2 == 0)) && (x6.2.2 == 0))) 88 rfl rfl (fun hg14=>?_) (fun hg14=>?_) ?_
 ·exact gT rfl hg14<|qm rfl<|gT rfl hg14<|A0 (F6 rfl rfl) rfl<|A0 (C9 rfl hg14 rfl) rfl<|ge 3 (by rw [hg14]; rfl) rfl rfl
 ·exact nT rfl hg14 rfl<|nT rfl hg14 rfl<|A0 (C8 rfl hg14 rfl) rfl<|ge 3 (by rw [hg14]; rfl) rfl rfl
 refine qm rfl<|gp 3 95 (.b (((((x3.2.2 == 0) && (x4.2 == 0)) && (x5.2 == 0)) && (x6.2.2 == 0)) && (x7.2.2 == 9))) 92 rfl rfl (fun hg15=>?_) (fun hg15=>?_) ?_
 ·exact gT rfl hg15<|qm rfl<|gT rfl hg15<|A0 (F6 rfl rfl) rfl<|A0 (C9 rfl hg15 rfl) rfl<|ge 3 (by rw [hg15]; rfl) rfl rfl
 ·exact nT rfl hg15 rfl<|nT rfl hg15 rfl<|A0 (C8 rfl hg15 rfl) rfl<|ge 3 (by rw [hg15]; rfl) rfl rfl
 refine qm rfl<|gp 3 99 (.b ((((((x3.2.2 == 0) && (x4.2 == 0)) && (x5.2 == 0)) && (x6.2.2 == 0)) && (x7.2.2 == 9)) && (x8.2 == 0))) 96 rfl rfl (fun hg16=>?_) (fun hg16=>?_) ?_
 ·exact gT rfl hg16<|qm rfl<|gT rfl hg16<|A0 (F6 rfl rfl) rfl<|A0 (C9 rfl hg16 rfl) rfl<|ge 3 (by rw [hg16]; rfl) rfl rfl
 ·exact nT rfl hg16 rfl<|nT rfl hg16 rfl<|A0 (C8 rfl hg16 rfl) rfl<|ge 3 (by rw [hg16]; rfl) rfl rfl
 refine qm rfl<|gp 3 103 (.b (((((((x3.2.2 == 0) && (x4.2 == 0)) && (x5.2 == 0)) && (x6.2.2 == 0)) && (x7.2.2 == 9)) && (x8.2 == 0)) && (x9.2 == 0))) 100 rfl rfl (fun hg17=>?_) (fun hg17=>?_) ?_
 ·exact gT rfl hg17<|qm rfl<|gT rfl hg17<|A0 (F6 rfl rfl) rfl<|A0 (C9 rfl hg17 rfl) rfl<|ge 3 (by rw [hg17]; rfl) rfl rfl
 ·exact nT rfl hg17 rfl<|nT rfl hg17 rfl<|A0 (C8 rfl hg17 rfl) rfl<|ge 3 (by rw [hg17]; rfl) rfl rfl
 refine qm rfl<|gp 3 107 (.b ((((((((x3.2.2 == 0) && (x4.2 == 0)) && (x5.2 == 0)) && (x6.2.2 == 0)) && (x7.2.2 == 9)) && (x8.2 == 0)) && (x9.2 == 0)) && (x10.2 == 0))) 104 rfl rfl (fun hg18=>?_) (fun hg18=>?_) ?_
 ·exact gT rfl hg18<|qm rfl<|gT rfl hg18<|A0 (F6 rfl rfl) rfl<|A0 (C9 rfl hg18 rfl) rfl<|ge 3 (by rw [hg18]; rfl) rfl rfl
 ·exact nT rfl hg18 rfl<|nT rfl hg18 rfl<|A0 (C8 rfl hg18 rfl) rfl<|ge 3 (by rw [hg18]; rfl) rfl rfl
 refine qm rfl<|gp 3 111 (.b (((((((((x3.2.2 == 0) && (x4.2 == 0)) && (x5.2 == 0)) && (x6.2.2 == 0)) && (x7.2.2 == 9)) && (x8.2 == 0)) && (x9.2 == 0)) && (x10.2 == 0)) && (x11.2.2 == 0))) 108 rfl rfl (fun hg19=>?_) (fun hg19=>?_) ?_
 ·exact gT rfl hg19<|qm rfl<|gT rfl hg19<|A0 (F6 rfl rfl) rfl<|A0 (C9 rfl hg19 rfl) rfl<|ge 3 (by rw [hg19]; rfl) rfl rfl
 ·exact nT rfl hg19 rfl<|nT rfl hg19 rfl<|A0 (C8 rfl hg19 rfl) rfl<|ge 3 (by rw [hg19]; rfl) rfl rfl
 refine qm rfl<|gp 3 115 (.b ((((((((((x3.2.2 == 0) && (x4.2 == 0)) && (x5.2 == 0)) && (x6.2.2 == 0)) && (x7.2.2 == 9)) && (x8.2 == 0)) && (x9.2 == 0)) && (x10.2 == 0)) && (x11.2.2 == 0)) && (x3.1 == 14))) 112 rfl rfl (fun hg20=>?_) (fun hg20=>?_) ?_
 ·exact gT rfl hg20<|qm rfl<|gT rfl hg20<|A0 (F6 rfl rfl) rfl<|A0 (C9 rfl hg20 rfl) rfl<|ge 3 (by rw [hg20]; rfl) rfl rfl
 ·exact nT rfl hg20 rfl<|nT rfl hg20 rfl<|A0 (C8 rfl hg20 rfl) rfl<|ge 3 (by rw [hg20]; rfl) rfl rfl
 refine qm rfl<|gp 4 120 (.b x23) 116 rfl rfl (fun hg21=>?_) (fun hg21=>?_) ?_
 ·refine oB (bt hx23 hg21) fun x22 hx22 hx23=>?_
  obtain rfl:=os hx23
  exact gT rfl hg21<|qm rfl<|gT rfl hg21<|A0 (G7 (rows:=List.map cI [0,2]) rfl rfl (D8 (fun _=>rfl) _)) rfl<|gT rfl hg21<|B5 (rs:=[.b x22]) rfl rfl (A2 rfl (A2 rfl B6)) ((K4 hx22).frz)<|A0 (C9 rfl hg21 rfl) rfl<|ge 4 rfl rfl rfl
 ·obtain rfl:=os (bf hx23 hg21)
  exact nT rfl hg21 rfl<|nT rfl hg21 rfl<|O1 (G6 rfl (by rw [hg21]; rfl)) rfl<|A0 (C8 rfl hg21 rfl) rfl<|ge 4 rfl rfl rfl
 refine qm rfl<|gp 4 125 (.b x26) 121 rfl rfl (fun hg24=>?_) (fun hg24=>?_) ?_
 ·refine oB (bt hx26 hg24) fun x25 hx25 hx26=>?_
  obtain rfl:=os hx26
  exact gT rfl hg24<|qm rfl<|gT rfl hg24<|A0 (G7 (rows:=List.map cI [4,(-1)]) rfl rfl (D8 (fun _=>rfl) _)) rfl<|gT rfl hg24<|B5 (rs:=[.b x25]) rfl rfl (A2 rfl (A2 rfl B6)) ((K4 hx25).frz)<|A0 (C9 rfl hg24 rfl) rfl<|ge 4 rfl rfl rfl
 ·obtain rfl:=os (bf hx26 hg24)
  exact nT rfl hg24 rfl<|nT rfl hg24 rfl<|O1 (G6 rfl (by rw [hg24]; rfl)) rfl<|A0 (C8 rfl hg24 rfl) rfl<|ge 4 rfl rfl rfl
 refine qm rfl<|gp 3 129 (.b (x26 && (x5.1 == 14))) 126 rfl rfl (fun hg27=>?_) (fun hg27=>?_) ?_
 ·exact gT rfl hg27<|qm rfl<|gT rfl hg27<|A0 (F6 rfl rfl) rfl<|A0 (C9 rfl hg27 rfl) rfl<|ge 3 (by rw [hg27]; rfl) rfl rfl
 ·exact nT rfl hg27 rfl<|nT rfl hg27 rfl<|A0 (C8 rfl hg27 rfl) rfl<|ge 3 (by rw [hg27]; rfl) rfl rfl
 refine qm rfl<|gp 4 134 (.b x30) 130 rfl rfl (fun hg28=>?_) (fun hg28=>?_) ?_
 ·refine oB (bt hx30 hg28) fun x29 hx29 hx30=>?_
  obtain rfl:=os hx30
  exact gT rfl hg28<|qm rfl<|gT rfl hg28<|A0 (G7 (rows:=List.map cI [1,0,2]) rfl rfl (D8 (fun _=>rfl) _)) rfl<|gT rfl hg28<|B5 (rs:=[.b x29]) rfl rfl (A2 rfl (A2 rfl B6)) ((K4 hx29).frz)<|A0 (C9 rfl hg28 rfl) rfl<|ge 4 rfl rfl rfl
 ·obtain rfl:=os (bf hx30 hg28)
  exact nT rfl hg28 rfl<|nT rfl hg28 rfl<|O1 (G6 rfl (by rw [hg28]; rfl)) rfl<|A0 (C8 rfl hg28 rfl) rfl<|ge 4 rfl rfl rfl
 refine qm rfl<|gp 3 138 (.b (x30 && (x6.2.1 == 14))) 135 rfl rfl (fun hg31=>?_) (fun hg31=>?_) ?_
 ·exact gT rfl hg31<|qm rfl<|gT rfl hg31<|A0 (F6 rfl rfl) rfl<|A0 (C9 rfl hg31 rfl) rfl<|ge 3 (by rw [hg31]; rfl) rfl rfl
 ·exact nT rfl hg31 rfl<|nT rfl hg31 rfl<|A0 (C8 rfl hg31 rfl) rfl<|ge 3 (by rw [hg31]; rfl) rfl rfl
 refine qm rfl<|gp 4 143 (.b x34) 139 rfl rfl (fun hg32=>?_) (fun hg32=>?_) ?_
 ·refine oB (bt hx34 hg32) fun x33 hx33 hx34=>?_
  obtain rfl:=os hx34
  exact gT rfl hg32<|qm rfl<|gT rfl hg32<|A0 (G7 (rows:=List.map cI [2]) rfl rfl (D8 (fun _=>rfl) _)) rfl<|gT rfl hg32<|B5 (rs:=[.b x33]) rfl rfl (A2 rfl (A2 rfl B6)) ((K4 hx33).frz)<|A0 (C9 rfl hg32 rfl) rfl<|ge 4 rfl rfl rfl
 ·obtain rfl:=os (bf hx34 hg32)
  exact nT rfl hg32 rfl<|nT rfl hg32 rfl<|O1 (G6 rfl (by rw [hg32]; rfl)) rfl<|A0 (C8 rfl hg32 rfl) rfl<|ge 4 rfl rfl rfl
 refine qm rfl<|gp 3 147 (.b (x34 && (x9.1 == 10))) 144 rfl rfl (fun hg35=>?_) (fun hg35=>?_) ?_
 ·exact gT rfl hg35<|qm rfl<|gT rfl hg35<|A0 (F6 rfl rfl) rfl<|A0 (C9 rfl hg35 rfl) rfl<|ge 3 (by rw [hg35]; rfl) rfl rfl
 ·exact nT rfl hg35 rfl<|nT rfl hg35 rfl<|A0 (C8 rfl hg35 rfl) rfl<|ge 3 (by rw [hg35]; rfl) rfl rfl
 refine qm rfl<|gp 4 152 (.b x38) 148 rfl rfl (fun hg36=>?_) (fun hg36=>?_) ?_
 ·refine oB (bt hx38 hg36) fun x37 hx37 hx38=>?_
  obtain rfl:=os hx38
  exact gT rfl hg36<|qm rfl<|gT rfl hg36<|A0 (G7 (rows:=List.map cI [0]) rfl rfl (D8 (fun _=>rfl) _)) rfl<|gT rfl hg36<|B5 (rs:=[.b x37]) rfl rfl (A2 rfl (A2 rfl B6)) ((K4 hx37).frz)<|A0 (C9 rfl hg36 rfl) rfl<|ge 4 rfl rfl rfl
 ·obtain rfl:=os (bf hx38 hg36)
  exact nT rfl hg36 rfl<|nT rfl hg36 rfl<|O1 (G6 rfl (by rw [hg36]; rfl)) rfl<|A0 (C8 rfl hg36 rfl) rfl<|ge 4 rfl rfl rfl
 refine qm rfl<|gp 4 157 (.b x41) 153 rfl rfl (fun hg39=>?_) (fun hg39=>?_) ?_
 ·refine oB (bt hx41 hg39) fun x40 hx40 hx41=>?_
  obtain rfl:=os hx41
  exact gT rfl hg39<|qm rfl<|gT rfl hg39<|A0 (G7 (rows:=List.map cI [0,1]) rfl rfl (D8 (fun _=>rfl) _)) rfl<|gT rfl hg39<|B5 (rs:=[.b x40]) rfl rfl (A2 rfl (A2 rfl B6)) ((K4 hx40).frz)<|A0 (C9 rfl hg39 rfl) rfl<|ge 4 rfl rfl rfl
 ·obtain rfl:=os (bf hx41 hg39)
  exact nT rfl hg39 rfl<|nT rfl hg39 rfl<|O1 (G6 rfl (by rw [hg39]; rfl)) rfl<|A0 (C8 rfl hg39 rfl) rfl<|ge 4 rfl rfl rfl
 refine qm rfl<|gp 3 161 (.b (x41 && (x11.2.1 == 14))) 158 rfl rfl (fun hg42=>?_) (fun hg42=>?_) ?_
 ·exact gT rfl hg42<|qm rfl<|gT rfl hg42<|A0 (F6 rfl rfl) rfl<|A0 (C9 rfl hg42 rfl) rfl<|ge 3 (by rw [hg42]; rfl) rfl rfl
 ·exact nT rfl hg42 rfl<|nT rfl hg42 rfl<|A0 (C8 rfl hg42 rfl) rfl<|ge 3 (by rw [hg42]; rfl) rfl rfl
 refine qm rfl<|es (ra1 rfl)<|C4 ?_
 obtain rfl:=os h
 exact retq trivial (B1 rfl B8) (A6 rfl B9) (A3 A8 B3)
end Ds
end
section
set_option maxRecDepth 100000
namespace Ds
theorem awake:A0g = some true:= by decide +kernel
end Ds
end
section
set_option maxRecDepth 100000
set_option maxHeartbeats 0
namespace Ds
open Go Am Go.Proofs.Ytdkflofgolehkaa.Cd
def A0w (a0:DrRoom) (a1:(Ar2 Int)):Option Bool :=
 (L4 a0).bind fun x1 =>
 (U5 a0).bind fun x2 =>
 if (((x1.1 != x2.1) || (x1.2.1 != x2.2.1)) || (x1.2.2 != x2.2.2)) = true then
  some false
 else
  (idx (Ar2.l a1) 0).bind fun x6 =>
  (idx (Ar2.l a1) 1).bind fun x7 =>
  (Z9 a0 x6 x7).bind fun x8 =>
  (idx (Ar2.l a1) 0).bind fun x9 =>
  (idx (Ar2.l a1) 1).bind fun x10 =>
  (A4w a0 x9 x10).bind fun x11 =>
  (if (x8.1 == x11.1) = true then
  (K7 x8.2.1 x11.2.1).bind fun x13 =>
  some x13
  else
  some false).bind fun x14 =>
  (if (x14 && (x8.2.2 == x11.2.2)) = true then
  (A0g).bind fun x17 =>
  some x17
  else
  some false).bind fun x18 =>
  some x18
theorem A9l {c:Sc} {H:A1} (hscv:Q9 c H = true) {a0:DrRoom} {a1:(Ar2 Int)} {r:Bool} (h:A0w a0 a1 = some r) :
  E5 tab c H (.fn (.func 3) [] []) [(.agg (A4 a0)),(.agg ((D0r cI) a1))] [.b r]:= by
 unfold A0w at h
 refine cE rfl rfl<|sg 0 rfl<|A0 (F3 (cs:=A4 a0) rfl rfl rfl) rfl<|A0 (F3 (cs:=(D0r cI) a1) rfl rfl rfl) rfl<|qm rfl<|es (ra2 rfl rfl)<|s0<|oB h fun x1 hx1 h=>A0 (C2 rfl rfl rfl) rfl<|B5 (rs:=[.i x1.1,.i x1.2.1,.i x1.2.2]) rfl rfl (A2 (D2 rfl) B6) ((S9 hx1).frz)<|qm rfl<|A0 (A7 rfl rfl) rfl<|A0 (A7 rfl rfl) rfl<|A0 (A7 rfl rfl) rfl<|qm rfl<|qm rfl<|qm rfl<|es (ra5 rfl rfl rfl rfl rfl)<|s0<|oB h fun x2 hx2 h=>A0 (C2 rfl rfl rfl) rfl<|B5 (rs:=[.i x2.1,.i x2.2.1,.i x2.2.2]) rfl rfl (A2 (D2 rfl) B6) ((A0i hx2).frz)<|qm rfl<|A0 (A7 rfl rfl) rfl<|A0 (A7 rfl rfl) rfl<|A0 (A7 rfl rfl) rfl<|qm rfl<|qm rfl<|qm rfl<|es (ra8 rfl rfl rfl rfl rfl rfl rfl rfl)<|B7<|s0<|qm rfl<|qm rfl<|A0 (J8 rfl rfl) rfl<|qm rfl<|gp 4 32 (.b ((x1.1 != x2.1) || (x1.2.1 != x2.2.1))) 28 rfl rfl (fun hg3=>?_) (fun hg3=>?_) ?_
 ·exact nF rfl hg3 rfl<|nF rfl hg3 rfl<|nF rfl hg3 rfl<|A0 (C9 rfl hg3 rfl) rfl<|ge 4 (by rw [hg3]; rfl) rfl rfl
 ·exact gF rfl hg3<|qm rfl<|gF rfl hg3<|qm rfl<|gF rfl hg3<|A0 (J8 rfl rfl) rfl<|A0 (C8 rfl hg3 rfl) rfl<|ge 4 (by rw [hg3]; rfl) rfl rfl
 refine qm rfl<|gp 4 37 (.b (((x1.1 != x2.1) || (x1.2.1 != x2.2.1)) || (x1.2.2 != x2.2.2))) 33 rfl rfl (fun hg4=>?_) (fun hg4=>?_) ?_
 ·exact nF rfl hg4 rfl<|nF rfl hg4 rfl<|nF rfl hg4 rfl<|A0 (C9 rfl hg4 rfl) rfl<|ge 4 (by rw [hg4]; rfl) rfl rfl
 ·exact gF rfl hg4<|qm rfl<|gF rfl hg4<|qm rfl<|gF rfl hg4<|A0 (J8 rfl rfl) rfl<|A0 (C8 rfl hg4 rfl) rfl<|ge 4 (by rw [hg4]; rfl) rfl rfl
 refine es (ra3 rfl rfl rfl)<|wi h rfl (fun hc5 h=>?_) fun hc5 h=>?_
 ·refine s0<|qm rfl<|es (ra1 rfl)<|C4 ?_
  obtain rfl:=os h
  exact retq trivial (B1 rfl B8) (A6 rfl B9) (A3 A8 B3)
 ·refine C1<|s0<|oB h fun x6 hx6 h=>oB h fun x7 hx7 h=>oB h fun x8 hx8 h=>A0 (C2 rfl rfl rfl) rfl<|A0 (A2k (e:=Ar2.l a1) rfl rfl rfl hx6) rfl<|A0 (A2l (f:=cI) (g:=fun n=>(.i n)) (e:=Ar2.l a1) (fun _=>rfl) rfl (D6 rfl) rfl hx6) rfl<|A0 (A2k (e:=Ar2.l a1) rfl rfl rfl hx7) rfl<|A0 (A2l (f:=cI) (g:=fun n=>(.i n)) (e:=Ar2.l a1) (fun _=>rfl) rfl (D6 rfl) rfl hx7) rfl<|B5 (rs:=[.i x8.1,(.seq 1 (List.map cI x8.2.1)),.i x8.2.2]) rfl rfl (A2 (D2 rfl) (A2 rfl (A2 rfl B6))) ((A3e hx8).frz)<|qm rfl<|A0 (A7 rfl rfl) rfl<|A0 (A7 rfl rfl) rfl<|A0 (A7 rfl rfl) rfl<|qm rfl<|qm rfl<|qm rfl<|es (ra5 rfl rfl rfl rfl rfl)<|s0<|oB h fun x9 hx9 h=>oB h fun x10 hx10 h=>oB h fun x11 hx11 h=>A0 (C2 rfl rfl rfl) rfl<|A0 (A2k (e:=Ar2.l a1) rfl rfl rfl hx9) rfl<|A0 (A2l (f:=cI) (g:=fun n=>(.i n)) (e:=Ar2.l a1) (fun _=>rfl) rfl (D6 rfl) rfl hx9) rfl<|A0 (A2k (e:=Ar2.l a1) rfl rfl rfl hx10) rfl<|A0 (A2l (f:=cI) (g:=fun n=>(.i n)) (e:=Ar2.l a1) (fun _=>rfl) rfl (D6 rfl) rfl hx10) rfl<|B5 (rs:=[.i x11.1,(.seq 1 (List.map cI x11.2.1)),.i x11.2.2]) rfl rfl (A2 (D2 rfl) (A2 rfl (A2 rfl B6))) ((B8t hx11).frz)<|qm rfl<|A0 (A7 rfl rfl) rfl<|A0 (A7 rfl rfl) rfl<|A0 (A7 rfl rfl) rfl<|qm rfl<|qm rfl<|qm rfl<|es (ra6 rfl rfl rfl rfl rfl rfl)<|s0<|oB h fun x14 hx14 h=>oB h fun x18 hx18 h=>qm rfl<|qm rfl<|A0 (F6 rfl rfl) rfl<|qm rfl<|gp 4 65 (.b x14) 61 rfl rfl (fun hg12=>?_) (fun hg12=>?_) ?_
  ·refine oB (bt hx14 hg12) fun x13 hx13 hx14=>?_
   obtain rfl:=os hx14
   exact gT rfl hg12<|qm rfl<|gT rfl hg12<|qm rfl<|gT rfl hg12<|B5 (rs:=[.b x13]) rfl rfl (A2 rfl (A2 rfl B6)) ((K4 hx13).frz)<|A0 (C9 rfl hg12 rfl) rfl<|ge 4 rfl rfl rfl
  ·obtain rfl:=os (bf hx14 hg12)
   exact nT rfl hg12 rfl<|nT rfl hg12 rfl<|O1 (G6 rfl (by rw [hg12]; rfl)) rfl<|A0 (C8 rfl hg12 rfl) rfl<|ge 4 rfl rfl rfl
  refine qm rfl<|gp 4 70 (.b (x14 && (x8.2.2 == x11.2.2))) 66 rfl rfl (fun hg15=>?_) (fun hg15=>?_) ?_
  ·exact gT rfl hg15<|qm rfl<|gT rfl hg15<|qm rfl<|gT rfl hg15<|A0 (F6 rfl rfl) rfl<|A0 (C9 rfl hg15 rfl) rfl<|ge 4 (by rw [hg15]; rfl) rfl rfl
  ·exact nT rfl hg15 rfl<|nT rfl hg15 rfl<|nT rfl hg15 rfl<|A0 (C8 rfl hg15 rfl) rfl<|ge 4 (by rw [hg15]; rfl) rfl rfl
  refine qm rfl<|gp 2 73 (.b x18) 71 rfl rfl (fun hg16=>?_) (fun hg16=>?_) ?_
  ·refine oB (bt hx18 hg16) fun x17 hx17 hx18=>?_
   obtain rfl:=os hx18
   exact gT rfl hg16<|B5 (rs:=[.b x17]) rfl rfl B6 ((A2n (A29 hscv) hx17).frz)<|A0 (C9 rfl hg16 rfl) rfl<|ge 2 rfl rfl rfl
  ·obtain rfl:=os (bf hx18 hg16)
   exact O1 (G6 rfl (by rw [hg16]; rfl)) rfl<|A0 (C8 rfl hg16 rfl) rfl<|ge 2 rfl rfl rfl
  refine qm rfl<|es (ra1 rfl)<|C4 ?_
  obtain rfl:=os h
  exact retq trivial (B1 rfl B8) (A6 rfl B9) (A3 A8 B3)
end Ds
end
section
namespace Ds
open Go Am
theorem B40 {r:DrRoom} {x:Ar2 Int} (hb:NB r) (_:True):A0w r x = some true:= by
 unfold A0w
 rw [A5w r hb,A2u]
 simp only [Option.bind_some,bne_self_eq_false,Bool.or_self,Bool.false_eq_true,if_false]
 rw [show idx (Ar2.l x) 0 = some x.x0 from rfl,show idx (Ar2.l x) 1 = some x.x1 from rfl]
 simp only [Option.bind_some]
 rw [D3d r hb,C4f]
 simp only [Option.bind_some,BEq.rfl,if_true]
 rw [A82 _ (C8p r _ _),awake]
 simp
end Ds
end
