/- Texts that the claim stands on, one behind another. -/
import Derived.Test.YtjpjdglddmhplaaGreatA6
set_option linter.unusedVariables false
set_option linter.unusedSimpArgs false
set_option linter.unnecessarySimpa false
section
set_option maxRecDepth 100000
set_option maxHeartbeats 0
namespace Pw
open Go Am Go.Proofs.YtjpjdglddmhplaaGreat.Cd
theorem D23 {N:Nat} {l:A1} (h:∀o ∈ l,o.anc = []):grL N l = true:= by
 unfold grL
 rw [List.all_eq_true]
 intro o ho
 rw [h o ho]; rfl
def B3y (t:PaShow) (days:List Int) (bS b:Nat) (H:A1):Prop:=hcells H bS = some [.ptr b 0]∧hcells H b = some (A2l t days)
theorem B3y.app {t:PaShow} {days:List Int} {bS b:Nat} {H L:A1} (h:B3y t days bS b H):B3y t days bS b (H++L):=⟨D6 h.1 _,D6 h.2 _⟩
theorem C9w {t:PaShow} {days:List Int} {bS b:Nat}:B54 tab 108 [.ptr bS 0] shF (B3y t days bS b) (C2l t days):= by
 intro σ ρ Hm N hN hpre y hyb hyc body hy a0 o ho c hc
 unfold C2l at ho
 have h1:∀x,hcells (Hm x) bS = some [.ptr b 0]:=fun x=>(hpre x).1
 have ht:∀x,hcells (Hm x) b = some (A2l t days):=fun x=>(hpre x).2
 have e:=hN (.inl a0)
 have q0:∀z L,hcells (Hm z++(AO.cells [y] :: L)) (N + 0) = some [y]:=fun z L=>by rw [← hN z]; exact D8 rfl
 have q1:∀z L,hcells (Hm z++(AO.cells [y] :: .cells [.ptr b 0] :: L)) (N + 1) = some [.ptr b 0]:=fun z L=>by rw [← hN z]; exact D8 rfl
 have htk:∀z L,(Hm z++L).take N = Hm z:=fun z L=>by rw [← hN z]; exact List.take_left
 have hl2:∀z,(Hm z++[AO.cells [y],.cells [.ptr b 0]]).length = N + 2:=fun z=>by rw [List.length_append,hN]; rfl
 have key:WP tab c108 [(0,y),(1,.ptr bS 0)] (Hm (.inl a0)++[]) ⟨(Hm (.inl a0)).length,c.cur :: c.outer⟩ (A7y (Hm (.inl a0)) (Hm o) [] []):= by
  refine sg 0 rfl<|A0 (E7 rfl hyc rfl) rfl<|es (ra2 rfl rfl)<|s0<|A0 (F5 rfl (h1 _) rfl) rfl<|A4m (as2:=[.ptr b 0]) (H1:=Hm (.inl a0)++[.cells [y]]) rfl rfl (A2 rfl B7) rfl rfl rfl (A9j rfl)<|sg 1 rfl<|A0 (E7 (cs:=[.ptr b 0]) rfl rfl rfl) rfl<|qm rfl<|es (ra1 rfl)<|s0<|A0 (A2w rfl rfl) rfl<|qm rfl<|es (ra1 rfl)<|C5<|InlQ.mk trivial ⟨_,_,_,[(.fn (.func 119) [] [(.ptr ((Hm (.inl a0)).length + 1) 0)])],_,(A6 rfl B6),(A4 rfl B5),(A9g (T2 (B22 (T2 (A5k rfl)))) (A9f rfl B3b)),?_⟩
  refine es (ra3 rfl rfl rfl)<|C6 ?_
  refine B2v (it:=B51 t days) (sh:=shP) (pre:=B3y t days ((Hm (.inl a0)).length + 1) b) (D14 (t:=t) (days:=days) (bS:=(Hm (.inl a0)).length + 1) (b:=b)) (K:=N + 2) [(1,.ptr bS 0),(2,.ptr ((Hm (.inl a0)).length + 0) 0)] (fun z=>Hm (.inl z)++[.cells [y],.cells [.ptr b 0]]) (fun r=>Hm (.inr r)++[.cells [y],.cells [.ptr b 0]]) (fun _=>.ret) ho (fun _=>rfl) rfl (fun S hS=>O0 (live:=[1,2]) rfl (by decide) (Sub.trans (su2 rfl rfl) hS)) rfl (fun x=>hl2 _) (fun x=>hl2 _) ?_ ?_ ?_ ?_
  ·rw [e]
   exact ⟨fun x z=>⟨D6 (q1 _ _) _,D6 (D6 (ht _) _) _⟩,fun x z=>⟨D6 (q1 _ _) _,D6 (D6 (ht _) _) _⟩⟩
  ·exact A81 hc (by simp) (by simp)
  ·intro c' p s o' L v hsc hgr hv hbo y0 y1 hy0 hy1
   obtain ⟨j,rfl,hj⟩:=hv
   refine oB hbo fun x hx hbo=>?_
   have hGl:(Hm (.inl s)++[AO.cells [y],.cells [.ptr b 0]]++y1 :: L).length = N + 2 + 1 + L.length:= by rw [List.length_append,hl2]; simp; omega
   have e4:∀z (l:List AO),Hm z++[AO.cells [y],.cells [.ptr b 0]]++y1 :: L++l = Hm z++(AO.cells [y] :: .cells [.ptr b 0] :: y1 :: (L++l)):=fun z l=>by simp
   refine r0<|qm rfl<|en (ra3 rfl rfl rfl) ⟨rfl,L,rfl,?_⟩
   have hharr:harr (Hm (.inl s)++[AO.cells [y],.cells [.ptr b 0]]++y1 :: L) (N + 2 + 1 + j) = some (3,false,p.map A8):= by
    have h3:(Hm (.inl s)++[AO.cells [y],.cells [.ptr b 0]]++[y1]).length = N + 2 + 1:= by rw [List.length_append,hl2]; rfl
    rw [show Hm (.inl s)++[AO.cells [y],.cells [.ptr b 0]]++y1 :: L = (Hm (.inl s)++[AO.cells [y],.cells [.ptr b 0]]++[y1])++L by simp,← h3]
    exact N1 hj
   refine A0v (C9v (t:=t) (days:=days) (x:=x) (ok:=o'.isLeft) (GE:=Hm o'++[AO.cells [y],.cells [.ptr b 0]]++y1 :: L) (y:=y) ⟨_,_,rfl,hharr⟩ (D6 (D6 (h1 _) _) _) (D6 (D6 (ht _) _) _) (by rw [e]; exact D6 (q0 _ _) _) (by rw [hGl]; exact Nat.le_refl _) hx (fun c2 l hl hs2 hc2=>?_) (C16 hsc (by rw [hGl]; simp [hN]; omega))) ?_
   ·have hsc3:R0 c2 (Hm (.inl s)++(AO.cells [y] :: .cells [.ptr b 0] :: y1 :: (L++l))) = true:= by rw [hc2,← e4]; exact hs2
    rw [e4,e4]
    exact hy hsc3 (A6j rfl (A6j rfl (A6j hy1 (B5u (C28 (by omega) hgr) (D23 hl))))) rfl hbo
   ·rintro e1 s1 H1 ⟨he,l,rfl⟩
    have htk2:∀z,(Hm z++[AO.cells [y],.cells [.ptr b 0]]++y1 :: L++l).take (N + 2 + 1 + L.length) = Hm z++[AO.cells [y],.cells [.ptr b 0]]++y1 :: L:=fun z=>by
     have:(Hm z++[AO.cells [y],.cells [.ptr b 0]]++y1 :: L).length = N + 2 + 1 + L.length:= by rw [List.length_append,hl2]; simp; omega
     rw [← this]; exact List.take_left
    cases o' with
    | inl s'=>exact ⟨he,htk2 _⟩
    | inr r=>exact ⟨he,htk2 _⟩
  ·rw [e]
   cases o with
   | inl s' =>
    show A7y _ _ _ _ .normal _ _
    refine B71 trivial rfl rfl rfl ?_
    rw [List.append_assoc,e]; exact htk _ _
   | inr r =>
    show A7y _ _ _ _ .ret _ _
    refine B71 trivial rfl rfl rfl ?_
    rw [List.append_assoc,e]; exact htk _ _
 rw [List.append_nil] at key
 exact Z1 (aq:=[y,.ptr bS 0]) rfl rfl rfl key
def C0l (t:PaShow) (days:List Int) (σ ρ:Type) (body:pawn_found→σ→Option (σ ⊕ ρ)) (s:σ):Option (σ ⊕ ρ) :=
 C2l t days σ ρ (fun x s=>if (decide (x.short_ > 0)) = true then some (.inl s) else body x s) s
theorem C50 {t:PaShow} {days:List Int} {bS b:Nat}:B54 tab 106 [.ptr bS 0] shF (B3y t days bS b) (C0l t days):= by
 intro σ ρ Hm N hN hpre y hyb hyc body hy a0 o ho c hc
 unfold C0l at ho
 have h1:∀x,hcells (Hm x) bS = some [.ptr b 0]:=fun x=>(hpre x).1
 have ht:∀x,hcells (Hm x) b = some (A2l t days):=fun x=>(hpre x).2
 have e:=hN (.inl a0)
 have q0:∀z L,hcells (Hm z++(AO.cells [y] :: L)) (N + 0) = some [y]:=fun z L=>by rw [← hN z]; exact D8 rfl
 have q1:∀z L,hcells (Hm z++(AO.cells [y] :: .cells [.ptr b 0] :: L)) (N + 1) = some [.ptr b 0]:=fun z L=>by rw [← hN z]; exact D8 rfl
 have htk:∀z L,(Hm z++L).take N = Hm z:=fun z L=>by rw [← hN z]; exact List.take_left
 have hl2:∀z,(Hm z++[AO.cells [y],.cells [.ptr b 0]]).length = N + 2:=fun z=>by rw [List.length_append,hN]; rfl
 have key:WP tab c106 [(0,y),(1,.ptr bS 0)] (Hm (.inl a0)++[]) ⟨(Hm (.inl a0)).length,c.cur :: c.outer⟩ (A7y (Hm (.inl a0)) (Hm o) [] []):= by
  refine sg 0 rfl<|A0 (E7 rfl hyc rfl) rfl<|es (ra2 rfl rfl)<|C70<|C4<|C3<|s0<|A0 (F5 rfl (h1 _) rfl) rfl<|A4m (as2:=[.ptr b 0]) (H1:=Hm (.inl a0)++[.cells [y]]) rfl rfl (A2 rfl B7) rfl rfl rfl (A9j rfl)<|sg 1 rfl<|A0 (E7 (cs:=[.ptr b 0]) rfl rfl rfl) rfl<|qm rfl<|es (ra1 rfl)<|s0<|A0 (A2w rfl rfl) rfl<|qm rfl<|es (ra1 rfl)<|C5<|InlQ.mk trivial ⟨_,_,_,[(.fn (.func 108) [] [(.ptr ((Hm (.inl a0)).length + 1) 0)])],_,(A6 rfl B6),(A4 rfl B5),(A9g (T2 (B22 (T2 (A5k rfl)))) (A9f rfl B3b)),?_⟩
  refine es (ra2 rfl rfl)<|C6 ?_
  refine B2v (it:=C2l t days) (sh:=shF) (pre:=B3y t days ((Hm (.inl a0)).length + 1) b) (C9w (t:=t) (days:=days) (bS:=(Hm (.inl a0)).length + 1) (b:=b)) (K:=N + 2) [(2,.ptr ((Hm (.inl a0)).length + 0) 0)] (fun z=>Hm (.inl z)++[.cells [y],.cells [.ptr b 0]]) (fun r=>Hm (.inr r)++[.cells [y],.cells [.ptr b 0]]) (fun _=>.ret) ho (fun _=>rfl) rfl (fun S hS=>O0 (live:=[2]) rfl (by decide) (Sub.trans (su1 rfl) hS)) rfl (fun x=>hl2 _) (fun x=>hl2 _) ?_ ?_ ?_ ?_
  ·rw [e]
   exact ⟨fun x z=>⟨D6 (q1 _ _) _,D6 (D6 (ht _) _) _⟩,fun x z=>⟨D6 (q1 _ _) _,D6 (D6 (ht _) _) _⟩⟩
  ·exact A81 hc (by simp) (by simp)
  ·intro c' x s o' L v hsc hgr hv hbo y0 y1 hy0 hy1
   obtain rfl:v = .agg (C2 x):=hv
   have hGl:∀z z1,(Hm z++[AO.cells [y],.cells [.ptr b 0]]++z1 :: L).length = N + 2 + 1 + L.length:=fun z z1=>by rw [List.length_append,hl2]; simp; omega
   have e4:∀z (l:List AO),Hm z++[AO.cells [y],.cells [.ptr b 0]]++y1 :: L++l = Hm z++(AO.cells [y] :: .cells [.ptr b 0] :: y1 :: (L++l)):=fun z l=>by simp
   have htk2:∀z l,(Hm z++[AO.cells [y],.cells [.ptr b 0]]++y1 :: L++l).take (N + 2 + 1 + L.length) = Hm z++[AO.cells [y],.cells [.ptr b 0]]++y1 :: L:=fun z l=>by
    rw [← hGl z y1]; exact List.take_left
   refine T9<|rg 0 rfl<|A0 I2 rfl<|O4 (F1 (ds:=C2 x) rfl rfl rfl rfl (A0l (by rw [hGl]; exact Nat.le_add_right _ _)) rfl) rfl<|en (ra2 rfl rfl) ⟨rfl,L++[.cells (C2 x)],by simp,?_⟩
   refine B47 (show _ = (Hm (.inl s)++[AO.cells [y],.cells [.ptr b 0]]++y1 :: L)++[.cells (C2 x)] by simp) ?_
   have q8:ev [(2,AV.ptr ((Hm (.inl a0)).length + 0) 0),(3,.ptr ((Hm (.inl s)++[AO.cells [y],.cells [.ptr b 0]]++y0 :: L).length + (0 + 0)) 0)] (.t 3) = some (.ptr ((Hm (.inl s)++[AO.cells [y],.cells [.ptr b 0]]++y1 :: L).length + 0) 0):= by
    show some _ = some _
    rw [hGl,hGl]
   rw [show (AV.ptr ((Hm (.inl s)++[AO.cells [y],.cells [.ptr b 0]]++y0 :: L).length + (0 + 0)) 0) = .ptr ((Hm (.inl s)++[AO.cells [y],.cells [.ptr b 0]]++y1 :: L).length + 0) 0 by rw [hGl,hGl]]
   refine C6<|C4<|s0<|A0 (B9 rfl) rfl<|A0 (B1 (x:=.i x.short_) rfl rfl rfl) rfl<|A0 (A0w rfl rfl) rfl<|es (ra3 rfl rfl rfl)<|wi hbo rfl (fun hc2 hbo=>?_) fun hc2 hbo=>?_
   ·cases hbo
    exact G9 ⟨rfl,htk2 _ _⟩
   ·have hcl:I8 tab ⟨N + 2 + 1 + L.length,c'⟩ (Hm (.inl s)++[AO.cells [y],.cells [.ptr b 0]]++y1 :: L++[.cells (C2 x)]) y [.agg (C2 x)] [.b o'.isLeft] (Hm o'++[AO.cells [y],.cells [.ptr b 0]]++y1 :: L++[.cells (C2 x)]):= by
     have hsc3:R0 ⟨N + 2 + 1 + L.length,c'⟩ (Hm (.inl s)++(AO.cells [y] :: .cells [.ptr b 0] :: y1 :: (L++[.cells (C2 x)]))) = true:= by
      rw [← e4]
      exact C16 hsc (by simp only [List.length_append,List.length_cons,List.length_nil]; omega)
     rw [e4,e4]
     exact hy hsc3 (A6j rfl (A6j rfl (A6j hy1 (B5u (C28 (by omega) hgr) rfl)))) rfl hbo
    refine C3<|s0<|A0 (F5 (x:=y) rfl (by rw [e]; exact D6 (q0 _ _) _) rfl) rfl<|A0 (D4 rfl rfl rfl) rfl<|O5 (Q2 (rs:=[.b o'.isLeft]) rfl rfl (A2 (D0 rfl) B7) hcl rfl) rfl<|A0 (C3t rfl rfl) rfl<|es (ra1 rfl) ?_
    cases o' with
    | inl s'=>exact P4 rfl rfl<|C3 ⟨rfl,htk2 _ _⟩
    | inr r=>exact N6 rfl rfl<|C5 ⟨rfl,htk2 _ _⟩
  ·rw [e]
   cases o with
   | inl s' =>
    show A7y _ _ _ _ .normal _ _
    refine B71 trivial rfl rfl rfl ?_
    rw [List.append_assoc,e]; exact htk _ _
   | inr r =>
    show A7y _ _ _ _ .ret _ _
    refine B71 trivial rfl rfl rfl ?_
    rw [List.append_assoc,e]; exact htk _ _
 rw [List.append_nil] at key
 exact Z1 (aq:=[y,.ptr bS 0]) rfl rfl rfl key
end Pw
end
section
set_option maxRecDepth 100000
set_option maxHeartbeats 0
namespace Pw
open Go Am Go.Proofs.YtjpjdglddmhplaaGreat.Cd
def fnd0:pawn_found:=⟨[],0,0,0,⟨0,0,0⟩⟩
def D4p (g:pawn_found→pawn_found→Option Int) (x:pawn_found) (s:pawn_found × Bool):Option ((pawn_found × Bool) ⊕ Unit) :=
 (if (!s.2) = true then some true else (g x s.1).bind fun r=>some (decide (r < 0))).bind fun z =>
 if z = true then some (.inl (x,true)) else some (.inl s)
abbrev It:=∀ (σ ρ:Type),(pawn_found→σ→Option (σ ⊕ ρ))→σ→Option (σ ⊕ ρ)
def C2p (it:It) (g:pawn_found→pawn_found→Option Int):Option (pawn_found × Bool) :=
 (it (pawn_found × Bool) Unit (D4p g) (fnd0,false)).bind fun o=>match o with
  | .inl s=>some s
  | .inr _=>none
def bM (ig:Nat) (s:pawn_found × Bool):List AO:=[.cells [.fn (.func ig) [] []],.cells (C2 s.1),.cells [.b s.2]]
theorem C04 {c:Sc} {H:A1} {i ig bS b:Nat} {t:PaShow} {days:List Int} {it:It} {g:pawn_found→pawn_found→Option Int} {r:pawn_found × Bool} (hit:B54 tab i [.ptr bS 0] shF (B3y t days bS b) it)
  (hg:∀{c:Sc} {H:A1} {x y:pawn_found} {r:Int},g x y = some r→V1 tab c H (.fn (.func ig) [] []) [.agg (C2 x),.agg (C2 y)] [.i r]) (hpre:B3y t days bS b H) (hscv:R0 c H = true) (h:C2p it g = some r) :
  V1 tab c H (.fn (.func 69) [] []) [.fn (.func i) [] [.ptr bS 0],.fn (.func ig) [] []] [.agg (C2 r.1),.b r.2]:= by
 unfold C2p at h
 refine oB h fun o ho h=>?_
 have hl3:∀s,(H++bM ig s).length = H.length + 3:=fun s=>by rw [List.length_append]; rfl
 refine cF rfl rfl<|sg 0 rfl<|A0 (E7 (cs:=[.fn (.func ig) [] []]) rfl rfl rfl) rfl<|A0 I2 rfl<|A0 I2 rfl<|es (ra4 rfl rfl rfl rfl)<|C4<|s0<|qm rfl<|es (ra4 rfl rfl rfl rfl)<|C6 ?_
 refine B2v (it:=it) (sh:=shF) (pre:=B3y t days bS b) hit (K:=H.length + 3) [(3,.ptr (H.length + 0) 0),(4,.ptr (H.length + 1) 0),(5,.ptr (H.length + 2) 0)] (fun s=>H++bM ig s) (fun (_:Unit)=>H++bM ig (fnd0,false)) (fun _=>.ret) ho (fun _=>rfl) rfl (fun S hS=>O0 (live:=[3,4,5]) rfl (by decide) (Sub.trans (su3 rfl rfl rfl) hS)) rfl (fun _=>hl3 _) (fun _=>hl3 _) ⟨fun _ _=>by rw [List.append_assoc]; exact hpre.app,fun _ _=>by rw [List.append_assoc]; exact hpre.app⟩ (B73 hscv) (fun c' x s o' L v hsc hgr hv hbo y0 y1 hy0 hy1=>?_) ?_
 ·obtain rfl:v = .agg (C2 x):=hv
  have hGl:∀s z,(H++bM ig s++z :: L).length = H.length + 3 + 1 + L.length:=fun s z=>by rw [List.length_append,hl3]; simp; omega
  refine T9<|rg 0 rfl<|A0 I2 rfl<|O4 (F1 (ds:=C2 x) rfl rfl rfl rfl (A0l (by rw [hGl]; exact Nat.le_add_right _ _)) rfl) rfl<|en (ra4 rfl rfl rfl rfl) ⟨rfl,L++[.cells (C2 x)],by simp,?_⟩
  refine B47 (show _ = H++(.cells [.fn (.func ig) [] []] :: .cells (C2 s.1) :: .cells [.b s.2] :: y1 :: (L++[AO.cells (C2 x)])) by simp [bM]) ?_
  rw [show (AV.ptr ((H++bM ig s++y0 :: L).length + (0 + 0)) 0) = .ptr (H.length + 3 + 1 + L.length) 0 by rw [hGl]; rfl]
  have q6:∀s':pawn_found × Bool,hcells (H++(.cells [.fn (.func ig) [] []] :: .cells (C2 s'.1) :: .cells [.b s'.2] :: y1 :: (L++[AO.cells (C2 x)]))) (H.length + 3 + 1 + L.length) = some (C2 x):=fun s'=>by
   rw [show H++(.cells [.fn (.func ig) [] []] :: .cells (C2 s'.1) :: .cells [.b s'.2] :: y1 :: (L++[AO.cells (C2 x)])) = (H++bM ig s'++y1 :: L)++[AO.cells (C2 x)] by simp [bM],← hGl s' y1]
   exact D8 (j:=0) rfl
  have htk:∀(s':pawn_found × Bool),(H++(.cells [.fn (.func ig) [] []] :: .cells (C2 s'.1) :: .cells [.b s'.2] :: y1 :: (L++[AO.cells (C2 x)]))).take (H.length + 3 + 1 + L.length) = H++bM ig s'++y1 :: L:=fun s'=>by
   rw [show H++(.cells [.fn (.func ig) [] []] :: .cells (C2 s'.1) :: .cells [.b s'.2] :: y1 :: (L++[AO.cells (C2 x)])) = (H++bM ig s'++y1 :: L)++[AO.cells (C2 x)] by simp [bM],← hGl s' y1]
   exact List.take_left
  unfold D4p at hbo
  refine oB hbo fun z hz hbo=>?_
  refine C6<|s0<|A0 (B1 (x:=.b s.2) rfl rfl rfl) rfl<|A0 (C3t rfl rfl) rfl<|qm rfl<|gp 6 17 (.b z) 11 rfl rfl (fun hc1=>?_) (fun hc1=>?_) ?_
  ·obtain rfl:=os (bt hz hc1)
   exact nF rfl hc1 rfl<|nF rfl hc1 rfl<|nF rfl hc1 rfl<|I1 (E2 rfl (by rw [hc1]; rfl)) rfl<|nF rfl hc1 rfl<|A0 (C8 rfl hc1 rfl) rfl<|ge 6 rfl rfl rfl
  ·refine oB (bf hz hc1) fun q hq hz=>?_
   obtain rfl:=os hz
   exact gF rfl hc1<|A0 (B1 (x:=.fn (.func ig) [] []) rfl rfl rfl) rfl<|gF rfl hc1<|A0 (A6n (ds:=C2 x) rfl (q6 s) rfl rfl) rfl<|gF rfl hc1<|A0 (A3e (ds:=C2 s.1) rfl rfl rfl rfl) rfl<|gF rfl hc1<|B8 (rs:=[.i q]) rfl rfl (A2 (D0 rfl) (A2 (D0 rfl) B7)) (hg hq)<|gF rfl hc1<|A0 (J1 rfl rfl) rfl<|A0 (C7 rfl hc1 rfl) rfl<|ge 6 rfl rfl rfl
  ·refine es (ra4 rfl rfl rfl rfl)<|wi hbo rfl (fun hc2 hbo=>?_) fun hc2 hbo=>?_
   ·cases hbo
    refine r0<|A0 (A6n (ds:=C2 x) rfl (q6 s) rfl rfl) rfl<|O4 (F1 (j:=1) (ds:=C2 x) rfl rfl rfl rfl (E3 rfl) rfl) rfl<|O4 (F1 (j:=2) (ds:=[.b true]) rfl rfl rfl rfl (E3 rfl) rfl) rfl<|en .n ⟨rfl,htk (x,true)⟩
   ·cases hbo
    exact C3 ⟨rfl,htk s⟩
 ·rcases o with s | s
  ·obtain rfl:=os h
   refine B47 (show _ = H++[.cells [.fn (.func ig) [] []],.cells (C2 s.1),.cells [.b s.2],.dead] by simp [bM]) ?_
   refine s0<|A0 (A3e (ds:=C2 s.1) rfl rfl rfl rfl) rfl<|C1v [2] [.cells [.fn (.func ig) [] []],.cells (C2 s.1),.cells [.b s.2],.dead] (R4 [] rfl (B4a rfl B0n H6) rfl rfl) (seen0 rfl) (F1 (j:=1) (ds:=C2 s.1) rfl rfl rfl rfl (E3 rfl) rfl) rfl rfl rfl<|K7 [] (R4 [] rfl H6 rfl rfl) (C17 (b:=H.length + 2) rfl (B32 (A64 _ rfl) B74)) (B1 (x:=.b s.2) rfl rfl rfl) rfl<|O4 (F1 (j:=2) (ds:=[.b s.2]) rfl rfl rfl rfl (E3 rfl) rfl) rfl<|es (ra2 rfl rfl)<|C5 ?_
   exact ⟨_,retq trivial (A9t (A3e (ds:=C2 s.1) rfl rfl rfl rfl) (A9t (B1 (x:=.b s.2) rfl rfl rfl) B6)) (A4 (B3r rfl) (A4 rfl B5)) (A3 (B21 rfl) (A3 A5 A7)),rfl⟩
  ·cases h
end Pw
namespace Am
open Go
theorem B54.it {α:Type} {T:Tab} {i:Nat} {fc:List AV} {ea:α→AV} {pre:A1→Prop} {it:∀(σ ρ:Type),(α→σ→Option (σ ⊕ ρ))→σ→Option (σ ⊕ ρ)} (h:B54 T i fc (fun _ _ x v=>v = ea x) pre it):D68 T i fc ea pre it :=
 fun Hm N h1 h2 y hb hc body hy _ _ ho _ hs=>h Hm N h1 h2 y hb hc body (fun a b d e=>by subst d; exact hy a b e) ho hs
end Am
end
section
set_option maxRecDepth 100000
set_option maxHeartbeats 0
namespace Pw
open Go Am Go.Proofs.YtjpjdglddmhplaaGreat.Cd
def A9q (a0:PaShow):Option ((List PaUse) × Int × Int × Int) :=
 (A1j a0).bind fun x1 =>
 if (x1.1 == 0) = true then
  (C2p (C0l a0 x1.2) A8r).bind fun x4 =>
  some (x4.1.plan_,x4.1.without_,x4.1.cost_,0)
 else
  some (([]:List PaUse),0,0,x1.1)
theorem B17 {c:Sc} {H:A1} (hscv:R0 c H = true) {a0:PaShow} {r:((List PaUse) × Int × Int × Int)} (h:A9q a0 = some r) :
  E0 tab c H (.fn (.func 26) [] []) [(.agg (B2 a0))] [(.seq 3 (List.map A8 r.1)),.i r.2.1,.i r.2.2.1,.i r.2.2.2]:= by
 unfold A9q at h
 refine cE rfl rfl<|sg 0 rfl<|A0 (E7 (cs:=B2 a0) rfl rfl rfl) rfl<|qm rfl<|qm rfl<|qm rfl<|qm rfl<|es (ra1 rfl)<|s0<|oB h fun x1 hx1 h=>A0 (D4 rfl rfl rfl) rfl ?_
 by_cases hc2:(x1.1 == 0) = true
 ·rw [if_pos hc2] at h
  obtain ⟨X3,hX3⟩:=A1u hx1 hc2
  refine O5 (A3g hX3 rfl rfl (A2 (D0 rfl) B7) rfl) rfl<|qm rfl<|A0 (A9 rfl rfl) rfl<|A0 (A9 rfl rfl) rfl<|qm rfl<|qm rfl<|es (ra2 rfl rfl)<|C4<|s0<|qm rfl<|A0 (P6 (v:=(.b false)) rfl rfl rfl) rfl<|es (ra3 rfl rfl rfl)<|P4 rfl rfl<|C3<|sg 4 rfl<|qm rfl<|A4m (as2:=[(.ptr (H.length + 3) 0)]) (H1:=(H++[(.cells (B2 a0)),(.cells (B2 a0)),X3,(.cells [(.seq 8 (List.map C1 a0.Gowns)),(.seq 4 (List.map B3 a0.Figures)),.i a0.Purse,(.seq 2 (List.map D2 a0.Incomes)),(.fn (.func 90) [] []),(.fn (.func 91) [] []),(.fn (.func 92) [] []),(.fn (.func 52) [] []),(.fn (.func 93) [] []),(.fn (.func 94) [] []),(.fn (.func 55) [] []),(.fn (.func 95) [] []),(.fn (.func 96) [] []),(.seq 1 (List.map cI x1.2))]),.dead])) rfl rfl (A2 rfl B7) rfl rfl rfl (A9j rfl)<|sg 5 rfl<|A0 (E7 (cs:=[(.ptr (H.length + 3) 0)]) rfl rfl rfl) rfl<|qm rfl<|es (ra1 rfl)<|s0<|A0 (A2w rfl rfl) rfl<|qm rfl<|es (ra1 rfl)<|C5<|InlQ.mk trivial ⟨_,_,_,[(.fn (.func 106) [] [(.ptr (H.length + 5) 0)])],_,(A6 rfl B6),(A4 rfl B5),(A9g (T2 (B22 (T2 (A5k rfl)))) (A9f rfl B3b)),?_⟩
  refine oB h fun x4 hx4 h=>B8 (rs:=[(.agg (C2 x4.1)),.b x4.2]) rfl rfl (A2 rfl (A2 rfl B7)) (C04 (C50 (t:=a0) (days:=x1.2) (bS:=H.length + 5) (b:=H.length + 3)) (fun h=>(B7c h).frz) (And.intro (D8 rfl) (D8 rfl)) (B73 hscv) hx4)<|qm rfl<|A0 (A9 rfl rfl) rfl<|A0 (A9 rfl rfl) rfl<|A0 I2 rfl<|O4 (F1 (ds:=(C2 x4.1)) rfl rfl rfl rfl (E3 rfl) rfl) rfl<|qm rfl<|es (ra1 rfl)<|s0<|A0 (B9 rfl) rfl<|A0 (B1 rfl rfl rfl) rfl<|A0 (B9 rfl) rfl<|A0 (B1 rfl rfl rfl) rfl<|A0 (B9 rfl) rfl<|A0 (B1 rfl rfl rfl) rfl<|qm rfl<|qm rfl<|qm rfl<|qm rfl<|es (ra4 rfl rfl rfl rfl)<|C5 ?_
  obtain rfl:=os h
  exact retq trivial (A6 rfl (A6 rfl (A6 rfl (A6 rfl B6)))) (A4 rfl (A4 rfl (A4 rfl (A4 rfl B5)))) (A3 K1 (A3 A5 (A3 A5 (A3 A5 A7))))
 ·rw [if_neg hc2] at h
  refine O5 (Q2 (rs:=[.lit (.pointer none),.i x1.1]) rfl rfl (A2 (D0 rfl) B7) (A2n hx1 (by simpa using hc2)) rfl) rfl<|qm rfl<|A0 (A9 rfl rfl) rfl<|A0 (A9 rfl rfl) rfl<|qm rfl<|qm rfl<|es (ra2 rfl rfl)<|C4<|s0<|qm rfl<|A0 (J4 rfl rfl) rfl<|es (ra3 rfl rfl rfl)<|N6 rfl (nef hc2)<|s0<|qm rfl<|qm rfl<|qm rfl<|qm rfl<|qm rfl<|es (ra4 rfl rfl rfl rfl)<|C5 ?_
  obtain rfl:=os h
  exact retq trivial (A6 rfl (A6 rfl (A6 rfl (A6 rfl B6)))) (A4 rfl (A4 rfl (A4 rfl (A4 rfl B5)))) (A3 K1 (A3 A5 (A3 A5 (A3 A5 A7))))
def T5 (a0:PaUse) (a1:Int):Option Bool :=
 some ((a0.Gown == a1) && (a0.How == 1))
theorem A8m {c:Sc} {H:A1} {a0:PaUse} {a1:Int} {b1:Nat} (hb1:hcells H b1 = some (cI a1)) {r:Bool} (h:T5 a0 a1 = some r) :
  E0 tab c H (.fn (.func 105) [] []) [(.agg (A8 a0)),.ptr b1 0] [.b r]:= by
 unfold T5 at h
 refine cE rfl rfl<|sg 0 rfl<|A0 (E7 (cs:=A8 a0) rfl rfl rfl) rfl<|qm rfl<|es (ra2 rfl rfl)<|s0<|A0 (B9 rfl) rfl<|A0 (B1 rfl rfl rfl) rfl<|A0 (F5 rfl hb1 rfl) rfl<|A0 (G2 rfl rfl) rfl<|qm rfl<|gp 4 12 (.b ((a0.Gown == a1) && (a0.How == 1))) 8 rfl rfl (fun hg1=>?_) (fun hg1=>?_) ?_
 ·exact gT rfl hg1<|A0 (B9 rfl) rfl<|gT rfl hg1<|A0 (B1 rfl rfl rfl) rfl<|gT rfl hg1<|A0 (G2 rfl rfl) rfl<|A0 (C8 rfl hg1 rfl) rfl<|ge 4 (by rw [hg1]; rfl) rfl rfl
 ·exact nT rfl hg1 rfl<|nT rfl hg1 rfl<|nT rfl hg1 rfl<|A0 (C7 rfl hg1 rfl) rfl<|ge 4 (by rw [hg1]; rfl) rfl rfl
 refine qm rfl<|es (ra1 rfl)<|C5 ?_
 obtain rfl:=os h
 exact retq trivial (A6 rfl B6) (A4 rfl B5) (A3 A5 A7)
def X6 (a0:pawn_show) (a1:(List PaUse)) (a2:Int):Option Bool :=
 (E6 a1 (fun (y:PaUse)=>T5 y a2)).bind fun x1 =>
 some x1
theorem B0y {c:Sc} {H:A1} {a0:pawn_show} {b0:Nat} (hb0:hcells H b0 = some [(.seq 8 (List.map C1 a0.PaShow.Gowns)),(.seq 4 (List.map B3 a0.PaShow.Figures)),.i a0.PaShow.Purse,(.seq 2 (List.map D2 a0.PaShow.Incomes)),(.fn (.func 90) [] []),(.fn (.func 91) [] []),(.fn (.func 92) [] []),(.fn (.func 52) [] []),(.fn (.func 93) [] []),(.fn (.func 94) [] []),(.fn (.func 55) [] []),(.fn (.func 95) [] []),(.fn (.func 96) [] []),(.seq 1 (List.map cI a0.days_))]) {a1:(List PaUse)} {a2:Int} {r:Bool} (h:X6 a0 a1 a2 = some r) :
  E0 tab c H (.fn (.func 68) [] []) [.ptr b0 0,(.seq 3 (List.map A8 a1)),.i a2] [.b r]:= by
 unfold X6 at h
 refine cE rfl rfl<|sg 0 rfl<|A0 (E7 (cs:=cI a2) rfl rfl rfl) rfl<|qm rfl<|es (ra2 rfl rfl)<|s0<|oB h fun x1 hx1 h=>qm rfl<|A0 (A2w rfl rfl) rfl<|B8 (rs:=[.b x1]) rfl rfl (A2 rfl (A2 rfl B7)) ((W2 (show Impl _ _ 105 [] [(.ptr (H.length + 0) 0)] (fun (y:PaUse)=>T5 y a2) (fun (y:PaUse)=>[(.agg (A8 y))]) (fun (y:Bool)=>[.b y]) from ⟨⟨A7,(by rw [List.length_append]; exact (A3 (M2 rfl) A7))⟩,fun H' hle hag c y r hr=>(A2m (A8m (hag _ _ (D8 rfl)) hr)).frz⟩) hx1).frz)<|qm rfl<|es (ra1 rfl)<|C5 ?_
 obtain rfl:=os h
 exact retq trivial (A6 rfl B6) (A4 rfl B5) (A3 A5 A7)
def A4e (a0:PaShow) (a1:(List PaUse)) (x1:(Int × (List Int))) (s4:(Int × (List Int))):Option ((Int × (List Int)) ⊕ (List Int)) :=
 if (decide (s4.1 < (List.length a0.Gowns:Int))) = true then
  (idx a0.Gowns s4.1).bind fun x7 =>
  (if (x7.Pawn && (decide (x7.Last < 364))) = true then
  (X6 (pawn_show.mk a0 (Ar3.mk (pawn_way.mk ) (pawn_way.mk ) (pawn_way.mk )) x1.2) a1 s4.1).bind fun x10 =>
  some (!x10)
  else
  some false).bind fun x11 =>
  if x11 = true then
  (app 8 s4.2 [s4.1]).bind fun x13 =>
  some (.inl ((w64 (s4.1 + 1)),x13))
  else
  some (.inl ((w64 (s4.1 + 1)),s4.2))
 else
  some (.inr s4.2)
def A4n (a0:PaShow) (a1:(List PaUse)):Option ((List Int) × Int) :=
 (A2c a0 a1).bind fun x1 =>
 if (x1.1 == 0) = true then
  (loop (A4e a0 a1 x1) (0,([]:List Int))).bind fun (o14:(List Int)) =>
  some (o14,0)
 else
  some (([]:List Int),x1.1)
theorem B18 {c:Sc} {H:A1} {a0:PaShow} {a1:(List PaUse)} {r:((List Int) × Int)} (h:A4n a0 a1 = some r) :
  E0 tab c H (.fn (.func 24) [] []) [(.agg (B2 a0)),(.seq 3 (List.map A8 a1))] [(.fresh 1 (List.map cI r.1)),.i r.2]:= by
 unfold A4n at h
 refine cE rfl rfl<|sg 0 rfl<|A0 (E7 (cs:=B2 a0) rfl rfl rfl) rfl<|A0 A5r rfl<|qm rfl<|es (ra3 rfl rfl rfl)<|s0<|oB h fun x1 hx1 h=>A0 (D4 rfl rfl rfl) rfl<|qm rfl ?_
 by_cases hc2:(x1.1 == 0) = true
 ·rw [if_pos hc2] at h
  obtain ⟨X3,hX3⟩:=A8v hx1 hc2
  refine O5 (A3g hX3 rfl rfl (A2 (D0 rfl) (A2 rfl B7)) rfl) rfl<|qm rfl<|A0 (A9 rfl rfl) rfl<|A0 (A9 rfl rfl) rfl<|qm rfl<|qm rfl<|es (ra5 rfl rfl rfl rfl rfl)<|C4<|s0<|qm rfl<|A0 (P6 (v:=(.b false)) rfl rfl rfl) rfl<|es (ra6 rfl rfl rfl rfl rfl rfl)<|P4 rfl rfl<|C3<|s0<|qm rfl<|A0 (A2w rfl rfl) rfl<|qm rfl<|es (ra4 rfl rfl rfl rfl)<|C4<|s0<|A0 (B9 rfl) rfl<|A0 (B1 rfl rfl rfl) rfl<|A0 (F9 (f:=C1) rfl) rfl<|qm rfl<|es (ra6 rfl rfl rfl rfl rfl rfl)<|C6<|oB h fun o14 ho14 h=>wl (fun s4=>[(1,(.seq 3 (List.map A8 a1))),(4,(.asl (H.length + 1) (List.length s4.2))),(7,(.fn (.func 68) [(.ptr (H.length + 5) 0)] [])),(22,(.seq 8 (List.map C1 a0.Gowns))),(23,(.i (List.length a0.Gowns:Int))),(24,.i s4.1)]) (fun (q5:Unit) s4=>[(.cells (B2 a0)),(.arr 1 false (List.map cI s4.2)),(.cells (B2 a0)),(.cells (B2 a0)),X3,(.cells [(.seq 8 (List.map C1 a0.Gowns)),(.seq 4 (List.map B3 a0.Figures)),.i a0.Purse,(.seq 2 (List.map D2 a0.Incomes)),(.fn (.func 90) [] []),(.fn (.func 91) [] []),(.fn (.func 92) [] []),(.fn (.func 52) [] []),(.fn (.func 93) [] []),(.fn (.func 94) [] []),(.fn (.func 55) [] []),(.fn (.func 95) [] []),(.fn (.func 96) [] []),(.seq 1 (List.map cI x1.2))])]) 6 (fun r e s' H'=>PX 0 [(4,(.asl (H.length + 1) (List.length r)))] (H++[(.cells (B2 a0)),(.arr 1 false (List.map cI r)),(.cells (B2 a0)),(.cells (B2 a0)),X3,(.cells [(.seq 8 (List.map C1 a0.Gowns)),(.seq 4 (List.map B3 a0.Figures)),.i a0.Purse,(.seq 2 (List.map D2 a0.Incomes)),(.fn (.func 90) [] []),(.fn (.func 91) [] []),(.fn (.func 92) [] []),(.fn (.func 52) [] []),(.fn (.func 93) [] []),(.fn (.func 94) [] []),(.fn (.func 55) [] []),(.fn (.func 95) [] []),(.fn (.func 96) [] []),(.seq 1 (List.map cI x1.2))])]) e s' H') () ho14 rfl rfl (fun _ _=>rfl) (fun _=>rfl) rfl (fun s4=>(bdc K1 (bdc (A0x rfl) (bdc (D46 (A3 (M2 rfl) A7) A7) (bdc K1 (bdc A5 (bdc A5 bdn))))))) (fun q5 s4 ys4 hs4=>?_) ?_
  ·unfold A4e at hs4
   refine s0<|A0 (J1 rfl rfl) rfl<|es (ra7 rfl rfl rfl rfl rfl rfl rfl)<|C4<|wi hs4 rfl (fun hc6 hs4=>?_) fun hc6 hs4=>?_
   ·refine C3<|C4<|C6<|sg 6 rfl<|oB hs4 fun x7 hx7 hs4=>qm rfl<|A0 (E8 (f:=C1) rfl rfl hx7) rfl<|A0 (F8 rfl rfl) rfl<|A0 I2 rfl<|qm rfl<|O4 (F1 (ds:=(C1 x7)) rfl rfl rfl rfl (E3 rfl) rfl) rfl<|es (ra8 rfl rfl rfl rfl rfl rfl rfl rfl)<|s0<|oB hs4 fun x11 hx11 hs4=>A0 (B9 rfl) rfl<|A0 (B1 rfl rfl rfl) rfl<|qm rfl<|gp 4 35 (.b (x7.Pawn && (decide (x7.Last < 364)))) 31 rfl rfl (fun hg8=>?_) (fun hg8=>?_) ?_
    ·exact gT rfl hg8<|A0 (B9 rfl) rfl<|gT rfl hg8<|A0 (B1 rfl rfl rfl) rfl<|gT rfl hg8<|A0 (J1 rfl rfl) rfl<|A0 (C8 rfl hg8 rfl) rfl<|ge 4 (by rw [hg8]; rfl) rfl rfl
    ·exact nT rfl hg8 rfl<|nT rfl hg8 rfl<|nT rfl hg8 rfl<|A0 (C7 rfl hg8 rfl) rfl<|ge 4 (by rw [hg8]; rfl) rfl rfl
    refine qm rfl<|gp 6 42 (.b x11) 36 rfl rfl (fun hg9=>?_) (fun hg9=>?_) ?_
    ·refine oB (bt hx11 hg9) fun x10 hx10 hx11=>?_
     obtain rfl:=os hx11
     exact gT rfl hg9<|qm rfl<|gT rfl hg9<|qm rfl<|gT rfl hg9<|qm rfl<|gT rfl hg9<|B8 (rs:=[.b x10]) rfl rfl (A2 rfl (A2 rfl B7)) ((A2m (B0y (D8 rfl) hx10)).frz)<|gT rfl hg9<|A0 (P8 rfl) rfl<|A0 (C8 rfl hg9 rfl) rfl<|ge 6 rfl rfl rfl
    ·obtain rfl:=os (bf hx11 hg9)
     exact nT rfl hg9 rfl<|nT rfl hg9 rfl<|nT rfl hg9 rfl<|I1 (E2 rfl (by rw [hg9]; rfl)) rfl<|nT rfl hg9 rfl<|A0 (C7 rfl hg9 rfl) rfl<|ge 6 rfl rfl rfl
    refine es (ra8 rfl rfl rfl rfl rfl rfl rfl rfl)<|wi hs4 rfl (fun hc12 hs4=>?_) fun hc12 hs4=>?_
    ·refine r0<|oB hs4 fun x13 hx13 hs4=>qm rfl<|qm rfl<|A0 (J2 (rows:=List.map cI [s4.1]) rfl rfl (E4 (fun _=>rfl) _)) rfl<|O5 (A53 (f:=cI) rfl rfl rfl rfl A6a (fun _=>rfl) hx13) rfl<|qm rfl<|en (ra6 rfl rfl rfl rfl rfl rfl)<|r0<|A0 (F4 rfl rfl) rfl<|qm rfl<|en (ra6 rfl rfl rfl rfl rfl rfl) ?_
     cases hs4
     exact lnT () rfl (su6 rfl rfl rfl rfl rfl rfl)
    ·refine C3<|r0<|A0 (F4 rfl rfl) rfl<|qm rfl<|en (ra6 rfl rfl rfl rfl rfl rfl) ?_
     cases hs4
     exact lnT () rfl (su6 rfl rfl rfl rfl rfl rfl)
   ·refine G9 ?_
    obtain rfl:=os hs4
    exact lx rfl px (su1 rfl)
  ·rintro e s' H' - ⟨rfl,rfl,rfl⟩
   refine s0<|qm rfl<|qm rfl<|qm rfl<|es (ra2 rfl rfl)<|C5 ?_
   obtain rfl:=os h
   exact retq trivial (A6 rfl (A6 rfl B6)) (A4 (A43 rfl (List.length_map _)) (A4 rfl B5)) (A3 W9 (A3 A5 A7))
 ·rw [if_neg hc2] at h
  refine O5 (Q2 (rs:=[.lit (.pointer none),.i x1.1]) rfl rfl (A2 (D0 rfl) (A2 rfl B7)) (A8u hx1 (by simpa using hc2)) rfl) rfl<|qm rfl<|A0 (A9 rfl rfl) rfl<|A0 (A9 rfl rfl) rfl<|qm rfl<|qm rfl<|es (ra5 rfl rfl rfl rfl rfl)<|C4<|s0<|qm rfl<|A0 (J4 rfl rfl) rfl<|es (ra6 rfl rfl rfl rfl rfl rfl)<|N6 rfl (nef hc2)<|sg 2 rfl<|qm rfl<|A0 A5r rfl<|qm rfl<|es (ra2 rfl rfl)<|C5 ?_
  obtain rfl:=os h
  exact retq trivial (A6 rfl (A6 rfl B6)) (A4 (A43 rfl (List.length_map _)) (A4 rfl B5)) (A3 W9 (A3 A5 A7))
def A8s (a0:pawn_found) (a1:pawn_found):Option Int :=
 (A63 [(w64 (a0.without_ - a1.without_)),(w64 (a0.short_ - a1.short_))]).bind fun x1 =>
 some x1
theorem B7d {c:Sc} {H:A1} {a0:pawn_found} {a1:pawn_found} {r:Int} (h:A8s a0 a1 = some r) :
  E0 tab c H (.fn (.func 76) [] []) [(.agg (C2 a0)),(.agg (C2 a1))] [.i r]:= by
 unfold A8s at h
 refine cE rfl rfl<|sg 0 rfl<|A0 (E7 (cs:=C2 a0) rfl rfl rfl) rfl<|A0 (E7 (cs:=C2 a1) rfl rfl rfl) rfl<|qm rfl<|es (ra2 rfl rfl)<|s0<|oB h fun x1 hx1 h=>A0 (B9 rfl) rfl<|A0 (B1 rfl rfl rfl) rfl<|A0 (B9 rfl) rfl<|A0 (B1 rfl rfl rfl) rfl<|A0 (V7 rfl rfl) rfl<|A0 (B9 rfl) rfl<|A0 (B1 rfl rfl rfl) rfl<|A0 (B9 rfl) rfl<|A0 (B1 rfl rfl rfl) rfl<|A0 (V7 rfl rfl) rfl<|A0 (J2 (rows:=List.map cI [(w64 (a0.without_ - a1.without_)),(w64 (a0.short_ - a1.short_))]) rfl rfl (E4 (fun _=>rfl) _)) rfl<|B8 (rs:=[.i x1]) rfl rfl (A2 rfl B7) ((A97 hx1).frz)<|qm rfl<|es (ra1 rfl)<|C5 ?_
 obtain rfl:=os h
 exact retq trivial (A6 rfl B6) (A4 rfl B5) (A3 A5 A7)
def B3w (a0:PaShow):Option (Int × Int) :=
 (A1j a0).bind fun x1 =>
 if (x1.1 == 0) = true then
  (C2p (C2l a0 x1.2) A8s).bind fun x4 =>
  if (((!x4.2) || (decide (x4.1.without_ > 0))) || (decide (x4.1.short_ > 10000))) = true then
  some (0,9)
  else
  if (x4.1.short_ == 0) = true then
   some (0,4)
  else
   some (x4.1.short_,0)
 else
  some (0,x1.1)
theorem C1t {c:Sc} {H:A1} (hscv:R0 c H = true) {a0:PaShow} {r:(Int × Int)} (h:B3w a0 = some r) :
  E0 tab c H (.fn (.func 31) [] []) [(.agg (B2 a0))] [.i r.1,.i r.2]:= by
 unfold B3w at h
 refine cE rfl rfl<|sg 0 rfl<|A0 (E7 (cs:=B2 a0) rfl rfl rfl) rfl<|qm rfl<|qm rfl<|es (ra1 rfl)<|s0<|oB h fun x1 hx1 h=>A0 (D4 rfl rfl rfl) rfl ?_
 by_cases hc2:(x1.1 == 0) = true
 ·rw [if_pos hc2] at h
  obtain ⟨X3,hX3⟩:=A1u hx1 hc2
  refine O5 (A3g hX3 rfl rfl (A2 (D0 rfl) B7) rfl) rfl<|qm rfl<|A0 (A9 rfl rfl) rfl<|A0 (A9 rfl rfl) rfl<|qm rfl<|qm rfl<|es (ra2 rfl rfl)<|C4<|s0<|qm rfl<|A0 (P6 (v:=(.b false)) rfl rfl rfl) rfl<|es (ra3 rfl rfl rfl)<|P4 rfl rfl<|C3<|sg 4 rfl<|qm rfl<|A4m (as2:=[(.ptr (H.length + 3) 0)]) (H1:=(H++[(.cells (B2 a0)),(.cells (B2 a0)),X3,(.cells [(.seq 8 (List.map C1 a0.Gowns)),(.seq 4 (List.map B3 a0.Figures)),.i a0.Purse,(.seq 2 (List.map D2 a0.Incomes)),(.fn (.func 90) [] []),(.fn (.func 91) [] []),(.fn (.func 92) [] []),(.fn (.func 52) [] []),(.fn (.func 93) [] []),(.fn (.func 94) [] []),(.fn (.func 55) [] []),(.fn (.func 95) [] []),(.fn (.func 96) [] []),(.seq 1 (List.map cI x1.2))]),.dead])) rfl rfl (A2 rfl B7) rfl rfl rfl (A9j rfl)<|sg 5 rfl<|A0 (E7 (cs:=[(.ptr (H.length + 3) 0)]) rfl rfl rfl) rfl<|qm rfl<|es (ra1 rfl)<|s0<|A0 (A2w rfl rfl) rfl<|qm rfl<|es (ra1 rfl)<|C5<|InlQ.mk trivial ⟨_,_,_,[(.fn (.func 108) [] [(.ptr (H.length + 5) 0)])],_,(A6 rfl B6),(A4 rfl B5),(A9g (T2 (B22 (T2 (A5k rfl)))) (A9f rfl B3b)),?_⟩
  refine oB h fun x4 hx4 h=>B8 (rs:=[(.agg (C2 x4.1)),.b x4.2]) rfl rfl (A2 rfl (A2 rfl B7)) (C04 (C9w (t:=a0) (days:=x1.2) (bS:=H.length + 5) (b:=H.length + 3)) (fun h=>(B7d h).frz) (And.intro (D8 rfl) (D8 rfl)) (B73 hscv) hx4)<|qm rfl<|A0 (A9 rfl rfl) rfl<|A0 (A9 rfl rfl) rfl<|A0 I2 rfl<|O4 (F1 (ds:=(C2 x4.1)) rfl rfl rfl rfl (E3 rfl) rfl) rfl<|qm rfl<|es (ra2 rfl rfl)<|C4<|C6<|s0<|qm rfl<|A0 (P8 rfl) rfl<|qm rfl<|gp 4 29 (.b ((!x4.2) || (decide (x4.1.without_ > 0)))) 25 rfl rfl (fun hg5=>?_) (fun hg5=>?_) ?_
  ·exact nF rfl hg5 rfl<|nF rfl hg5 rfl<|nF rfl hg5 rfl<|A0 (C8 rfl hg5 rfl) rfl<|ge 4 (by rw [hg5]; rfl) rfl rfl
  ·exact gF rfl hg5<|A0 (B9 rfl) rfl<|gF rfl hg5<|A0 (B1 rfl rfl rfl) rfl<|gF rfl hg5<|A0 (A0w rfl rfl) rfl<|A0 (C7 rfl hg5 rfl) rfl<|ge 4 (by rw [hg5]; rfl) rfl rfl
  refine qm rfl<|gp 4 34 (.b (((!x4.2) || (decide (x4.1.without_ > 0))) || (decide (x4.1.short_ > 10000)))) 30 rfl rfl (fun hg6=>?_) (fun hg6=>?_) ?_
  ·exact nF rfl hg6 rfl<|nF rfl hg6 rfl<|nF rfl hg6 rfl<|A0 (C8 rfl hg6 rfl) rfl<|ge 4 (by rw [hg6]; rfl) rfl rfl
  ·exact gF rfl hg6<|A0 (B9 rfl) rfl<|gF rfl hg6<|A0 (B1 rfl rfl rfl) rfl<|gF rfl hg6<|A0 (A0w rfl rfl) rfl<|A0 (C7 rfl hg6 rfl) rfl<|ge 4 (by rw [hg6]; rfl) rfl rfl
  refine qm rfl<|es (ra2 rfl rfl)<|wi h rfl (fun hc7 h=>?_) fun hc7 h=>?_
  ·refine s0<|qm rfl<|qm rfl<|es (ra2 rfl rfl)<|C5 ?_
   obtain rfl:=os h
   exact retq trivial (A6 rfl (A6 rfl B6)) (A4 rfl (A4 rfl B5)) (A3 A5 (A3 A5 A7))
  ·refine s0<|A0 (B9 rfl) rfl<|A0 (B1 rfl rfl rfl) rfl<|A0 (G2 rfl rfl) rfl<|qm rfl<|es (ra2 rfl rfl)<|wi h rfl (fun hc8 h=>?_) fun hc8 h=>?_
   ·refine s0<|qm rfl<|qm rfl<|es (ra2 rfl rfl)<|C5 ?_
    obtain rfl:=os h
    exact retq trivial (A6 rfl (A6 rfl B6)) (A4 rfl (A4 rfl B5)) (A3 A5 (A3 A5 A7))
   ·refine C3<|s0<|A0 (B9 rfl) rfl<|A0 (B1 rfl rfl rfl) rfl<|qm rfl<|qm rfl<|es (ra2 rfl rfl)<|C5 ?_
    obtain rfl:=os h
    exact retq trivial (A6 rfl (A6 rfl B6)) (A4 rfl (A4 rfl B5)) (A3 A5 (A3 A5 A7))
 ·rw [if_neg hc2] at h
  refine O5 (Q2 (rs:=[.lit (.pointer none),.i x1.1]) rfl rfl (A2 (D0 rfl) B7) (A2n hx1 (by simpa using hc2)) rfl) rfl<|qm rfl<|A0 (A9 rfl rfl) rfl<|A0 (A9 rfl rfl) rfl<|qm rfl<|qm rfl<|es (ra2 rfl rfl)<|C4<|s0<|qm rfl<|A0 (J4 rfl rfl) rfl<|es (ra3 rfl rfl rfl)<|N6 rfl (nef hc2)<|s0<|qm rfl<|qm rfl<|qm rfl<|es (ra2 rfl rfl)<|C5 ?_
  obtain rfl:=os h
  exact retq trivial (A6 rfl (A6 rfl B6)) (A4 rfl (A4 rfl B5)) (A3 A5 (A3 A5 A7))
def A21 (a0:PaShow) (a1:(List PaUse)) (a2:Int):Option (Int × Int) :=
 (A2c a0 a1).bind fun x1 =>
 if (x1.1 == 0) = true then
  (E1 0 364 [a2]).bind fun x4 =>
  if x4 = true then
  some (0,7)
  else
  (P7 (pawn_show.mk a0 (Ar3.mk (pawn_way.mk ) (pawn_way.mk ) (pawn_way.mk )) x1.2) a1 a2).bind fun x6 =>
  some (x6,0)
 else
  some (0,x1.1)
theorem B0a {c:Sc} {H:A1} {a0:PaShow} {a1:(List PaUse)} {a2:Int} {r:(Int × Int)} (h:A21 a0 a1 a2 = some r) :
  E0 tab c H (.fn (.func 20) [] []) [(.agg (B2 a0)),(.seq 3 (List.map A8 a1)),.i a2] [.i r.1,.i r.2]:= by
 unfold A21 at h
 refine cE rfl rfl<|sg 0 rfl<|A0 (E7 (cs:=B2 a0) rfl rfl rfl) rfl<|qm rfl<|qm rfl<|es (ra3 rfl rfl rfl)<|s0<|oB h fun x1 hx1 h=>A0 (D4 rfl rfl rfl) rfl<|qm rfl ?_
 by_cases hc2:(x1.1 == 0) = true
 ·rw [if_pos hc2] at h
  obtain ⟨X3,hX3⟩:=A8v hx1 hc2
  refine O5 (A3g hX3 rfl rfl (A2 (D0 rfl) (A2 rfl B7)) rfl) rfl<|qm rfl<|A0 (A9 rfl rfl) rfl<|A0 (A9 rfl rfl) rfl<|qm rfl<|qm rfl<|es (ra4 rfl rfl rfl rfl)<|C4<|C6<|s0<|qm rfl<|A0 (P6 (v:=(.b false)) rfl rfl rfl) rfl<|qm rfl<|es (ra5 rfl rfl rfl rfl rfl)<|P4 rfl rfl<|s0<|oB h fun x4 hx4 h=>qm rfl<|A0 (J2 (rows:=List.map cI [a2]) rfl rfl (E4 (fun _=>rfl) _)) rfl<|B8 (rs:=[.b x4]) rfl rfl (A2 rfl (A2 rfl (A2 rfl B7))) ((F0 hx4).frz)<|qm rfl<|es (ra4 rfl rfl rfl rfl)<|wi h rfl (fun hc5 h=>?_) fun hc5 h=>?_
  ·refine s0<|qm rfl<|qm rfl<|es (ra2 rfl rfl)<|C5 ?_
   obtain rfl:=os h
   exact retq trivial (A6 rfl (A6 rfl B6)) (A4 rfl (A4 rfl B5)) (A3 A5 (A3 A5 A7))
  ·refine C3<|s0<|oB h fun x6 hx6 h=>qm rfl<|qm rfl<|qm rfl<|O5 (U2 (rs:=[.i x6]) rfl rfl ((A5s (D8 rfl) hx6).frz)) rfl<|qm rfl<|qm rfl<|es (ra2 rfl rfl)<|C5 ?_
   obtain rfl:=os h
   exact retq trivial (A6 rfl (A6 rfl B6)) (A4 rfl (A4 rfl B5)) (A3 A5 (A3 A5 A7))
 ·rw [if_neg hc2] at h
  refine O5 (Q2 (rs:=[.lit (.pointer none),.i x1.1]) rfl rfl (A2 (D0 rfl) (A2 rfl B7)) (A8u hx1 (by simpa using hc2)) rfl) rfl<|qm rfl<|A0 (A9 rfl rfl) rfl<|A0 (A9 rfl rfl) rfl<|qm rfl<|qm rfl<|es (ra4 rfl rfl rfl rfl)<|C4<|C6<|s0<|qm rfl<|A0 (J4 rfl rfl) rfl<|qm rfl<|es (ra5 rfl rfl rfl rfl rfl)<|N6 rfl (nef hc2)<|s0<|qm rfl<|qm rfl<|qm rfl<|es (ra2 rfl rfl)<|C5 ?_
  obtain rfl:=os h
  exact retq trivial (A6 rfl (A6 rfl B6)) (A4 rfl (A4 rfl B5)) (A3 A5 (A3 A5 A7))
def A1m (a0:PaShow) (a1:(List PaUse)):Option (Int × Int) :=
 (A2c a0 a1).bind fun x1 =>
 if (x1.1 == 0) = true then
  (O2 (pawn_show.mk a0 (Ar3.mk (pawn_way.mk ) (pawn_way.mk ) (pawn_way.mk )) x1.2) a1).bind fun x4 =>
  if (x4.1 == 0) = true then
  some (0,4)
  else
  some (x4.2,0)
 else
  some (0,x1.1)
theorem A56 {c:Sc} {H:A1} {a0:PaShow} {a1:(List PaUse)} {r:(Int × Int)} (h:A1m a0 a1 = some r) :
  E0 tab c H (.fn (.func 22) [] []) [(.agg (B2 a0)),(.seq 3 (List.map A8 a1))] [.i r.1,.i r.2]:= by
 unfold A1m at h
 refine cE rfl rfl<|sg 0 rfl<|A0 (E7 (cs:=B2 a0) rfl rfl rfl) rfl<|qm rfl<|qm rfl<|es (ra2 rfl rfl)<|s0<|oB h fun x1 hx1 h=>A0 (D4 rfl rfl rfl) rfl<|qm rfl ?_
 by_cases hc2:(x1.1 == 0) = true
 ·rw [if_pos hc2] at h
  obtain ⟨X3,hX3⟩:=A8v hx1 hc2
  refine O5 (A3g hX3 rfl rfl (A2 (D0 rfl) (A2 rfl B7)) rfl) rfl<|qm rfl<|A0 (A9 rfl rfl) rfl<|A0 (A9 rfl rfl) rfl<|qm rfl<|qm rfl<|es (ra3 rfl rfl rfl)<|C4<|s0<|qm rfl<|A0 (P6 (v:=(.b false)) rfl rfl rfl) rfl<|es (ra4 rfl rfl rfl rfl)<|P4 rfl rfl<|C3<|s0<|oB h fun x4 hx4 h=>qm rfl<|qm rfl<|O5 (U2 (rs:=[.i x4.1,.i x4.2]) rfl rfl ((B0z (D8 rfl) hx4).frz)) rfl<|qm rfl<|A0 (A9 rfl rfl) rfl<|A0 (A9 rfl rfl) rfl<|qm rfl<|qm rfl<|es (ra2 rfl rfl)<|C4<|s0<|qm rfl<|A0 (G2 rfl rfl) rfl<|es (ra2 rfl rfl)<|wi h rfl (fun hc5 h=>?_) fun hc5 h=>?_
  ·refine s0<|qm rfl<|qm rfl<|es (ra2 rfl rfl)<|C5 ?_
   obtain rfl:=os h
   exact retq trivial (A6 rfl (A6 rfl B6)) (A4 rfl (A4 rfl B5)) (A3 A5 (A3 A5 A7))
  ·refine C3<|s0<|qm rfl<|qm rfl<|qm rfl<|es (ra2 rfl rfl)<|C5 ?_
   obtain rfl:=os h
   exact retq trivial (A6 rfl (A6 rfl B6)) (A4 rfl (A4 rfl B5)) (A3 A5 (A3 A5 A7))
 ·rw [if_neg hc2] at h
  refine O5 (Q2 (rs:=[.lit (.pointer none),.i x1.1]) rfl rfl (A2 (D0 rfl) (A2 rfl B7)) (A8u hx1 (by simpa using hc2)) rfl) rfl<|qm rfl<|A0 (A9 rfl rfl) rfl<|A0 (A9 rfl rfl) rfl<|qm rfl<|qm rfl<|es (ra3 rfl rfl rfl)<|C4<|s0<|qm rfl<|A0 (J4 rfl rfl) rfl<|es (ra4 rfl rfl rfl rfl)<|N6 rfl (nef hc2)<|s0<|qm rfl<|qm rfl<|qm rfl<|es (ra2 rfl rfl)<|C5 ?_
  obtain rfl:=os h
  exact retq trivial (A6 rfl (A6 rfl B6)) (A4 rfl (A4 rfl B5)) (A3 A5 (A3 A5 A7))
def B0f (a0:(List PaUse)) (a1:(List PaUse)) (s2:Int):Option (Int ⊕ (Bool ⊕ Unit)) :=
 if (decide (s2 < (List.length a0:Int))) = true then
  (idx a0 s2).bind fun x5 =>
  (idx a1 s2).bind fun x6 =>
  if (!((x5.Gown == x6.Gown) && ((x5.How == x6.How) && ((x5.Day == x6.Day) && true)))) = true then
  some (.inr (.inl false))
  else
  some (.inl (w64 (s2 + 1)))
 else
  some (.inr (.inr ()))
def B05 (a0:(List PaUse)) (a1:(List PaUse)):Option Bool :=
 if ((List.length a0:Int) != (List.length a1:Int)) = true then
  some false
 else
  (loop (B0f a0 a1) 0).bind fun (o8:(Bool ⊕ Unit)) =>
  match o8 with
  | (.inl vo8_0) =>
  some vo8_0
  | (.inr vo8_1) =>
  some true
theorem B80 {c:Sc} {H:A1} {a0:(List PaUse)} {a1:(List PaUse)} {r:Bool} (h:B05 a0 a1 = some r) :
  E0 tab c H (.fn (.func 28) [] []) [(.seq 3 (List.map A8 a0)),(.seq 3 (List.map A8 a1))] [.b r]:= by
 unfold B05 at h
 refine cE rfl rfl<|s0<|qm rfl<|es (ra2 rfl rfl)<|C4<|s0<|qm rfl<|A0 (F9 (f:=A8) rfl) rfl<|qm rfl<|A0 (F9 (f:=A8) rfl) rfl<|A0 (J4 rfl rfl) rfl<|es (ra3 rfl rfl rfl)<|wi h rfl (fun hc1 h=>?_) fun hc1 h=>?_
 ·refine s0<|qm rfl<|es (ra1 rfl)<|C5 ?_
  obtain rfl:=os h
  exact retq trivial (A6 rfl B6) (A4 rfl B5) (A3 A5 A7)
 ·refine C3<|C4<|s0<|qm rfl<|es (ra3 rfl rfl rfl)<|C6<|oB h fun o8 ho8 h=>wl (fun s2=>[(0,(.seq 3 (List.map A8 a0))),(1,(.seq 3 (List.map A8 a1))),(5,.i s2)]) (fun (q3:Unit) s2=>[]) 0 (fun r e s' H'=>(match r with | (.inl v)=>e = .ret∧RetQ H [.tmp 4] [.b v] e s' H' | (.inr v)=>PX 0 [] (H++[]) e s' H':Prop)) () ho8 rfl rfl (fun _ _=>rfl) (fun _=>rfl) rfl (fun s2=>(bdc K1 (bdc K1 (bdc A5 bdn)))) (fun q3 s2 ys2 hs2=>?_) ?_
  ·unfold B0f at hs2
   refine C4<|s0<|qm rfl<|qm rfl<|A0 (F9 (f:=A8) rfl) rfl<|A0 (J1 rfl rfl) rfl<|es (ra4 rfl rfl rfl rfl)<|wi hs2 rfl (fun hc4 hs2=>?_) fun hc4 hs2=>?_
   ·refine C3<|C4<|C6<|s0<|oB hs2 fun x5 hx5 hs2=>oB hs2 fun x6 hx6 hs2=>qm rfl<|qm rfl<|A0 (E8 (f:=A8) rfl rfl hx5) rfl<|A0 (F8 rfl rfl) rfl<|qm rfl<|qm rfl<|A0 (E8 (f:=A8) rfl rfl hx6) rfl<|A0 (F8 rfl rfl) rfl<|A0 (D1e (a:=A8 x5) (b:=A8 x6) rfl rfl rfl rfl (V0 (V0 (V0 B1k)))) rfl<|es (ra4 rfl rfl rfl rfl)<|wi hs2 rfl (fun hc7 hs2=>?_) fun hc7 hs2=>?_
    ·refine s0<|qm rfl<|es (ra1 rfl)<|C5 ?_
     obtain rfl:=os hs2
     exact lx rfl (And.intro rfl (retq trivial (A6 rfl B6) (A4 rfl B5) (A3 A5 A7))) (Sub.refl _)
    ·refine C3<|r0<|qm rfl<|A0 (F4 rfl rfl) rfl<|qm rfl<|en (ra3 rfl rfl rfl) ?_
     cases hs2
     exact lnT () rfl (su3 rfl rfl rfl)
   ·refine G9 ?_
    obtain rfl:=os hs2
    exact lx rfl px (.nil _)
  ·rcases o8 with vo8_0 | vo8_1
   ·rintro e s' H' - ⟨rfl,hret⟩
    cases h
    exact hret
   ·rintro e s' H' - ⟨rfl,rfl,rfl⟩
    refine s0<|qm rfl<|es (ra1 rfl)<|C5 ?_
    obtain rfl:=os h
    exact retq trivial (A6 rfl B6) (A4 rfl B5) (A3 A5 A7)
end Pw
end
section
set_option maxRecDepth 100000
set_option maxHeartbeats 0
namespace Am
open Go
section
variable {T:Tab} {s:B4} {H0 H:A1} {l:List AO} {c:Sc} {n0 k0:Nat}
theorem D1i {x:Opd} {b r:Nat} {es:List (AV × AV)} (hx:ev s x = some (.mp b)) (hm:hmap (H0++l) b = some es):One T c (H0.length + k0) s (H0++l) (.rangeM x r) (.itr (H0.length + (k0 + r))) (H0++l.set (k0 + r) (.mit b es.length [])) :=
 ⟨0,by simp only [core,prim,hx,hm,Nat.add_assoc,F6]⟩
theorem C8r {H L:A1} {b m n:Nat} {seen:List Nat} {e:AV × AV} {es:List (AV × AV)} (hg:hget H b = some (.mit m n seen)) (hm:hmap H m = some es) (h:A7t H b = some e):A7t (H++L) b = some e:= by
 have h1:hget (H++L) b = some (.mit m n seen):=C8j hg L
 have h2:hmap (H++L) m = some es:= by
  have:m < H.length:= by
   unfold hmap hget at hm
   cases e:H[m]? with
   | none=>rw [e] at hm; cases hm
   | some o=>exact (List.getElem?_eq_some_iff.1 e).1
  unfold hmap hget at hm ⊢
  rw [List.getElem?_append_left this]; exact hm
 unfold A7t at h ⊢
 rw [h1]
 rw [hg] at h
 simp only [h2,hm] at h ⊢
 exact h
theorem D3p {x:Opd} {b:Nat} {e:AV × AV} (hx:ev s x = some (.itr b)) (hm:A7t H b = some e):One T c n0 s H (.entry x) (.tup [e.1,e.2]) H:=⟨0,by simp only [core,prim,hx,hm]⟩
end
end Am
namespace Pw
open Go Am Go.Proofs.YtjpjdglddmhplaaGreat.Cd
abbrev Had:=Ar3 Int
theorem C7e:KeyOk (κ:=Had) true [0,0,0] (fun x=>.agg (C2r cI x)) (fun x=>C2r cI x):=⟨fun _=>rfl,fun _=>rfl,fun a b=>by
 obtain ⟨a1,a2,a3⟩:=a
 obtain ⟨b1,b2,b3⟩:=b
 show F2 [.lit (.int .i64 a1),.lit (.int .i64 a2),.lit (.int .i64 a3)] [.lit (.int .i64 b1),.lit (.int .i64 b2),.lit (.int .i64 b3)] = _
 simp only [C5d,Ar3.mk.injEq]
 by_cases h1:a1 = b1 <;> by_cases h2:a2 = b2 <;> by_cases h3:a3 = b3 <;> simp [h1,h2,h3,F2]⟩
abbrev Met:=List (Had × Int)
def C3m (m:Met):List (AV × AV):=m.map (kE (fun x=>.agg (C2r cI x)) (fun n=>.i n))
def D15 (h:Had) (f:Int):Option Bool :=
 if (!((h.x0 == 0) && ((h.x1 == 0) && ((h.x2 == 0) && true)))) = true then (idx h.l f).bind fun v=>some (decide (v > 0)) else some false
def C7r (f:Int):Met→Option (List Bool)
 | []=>some []
 | e :: l=>(D15 e.1 f).bind fun b=>(C7r f l).bind fun r=>some (b :: r)
def cnt (bs:List Bool) (seen:List Nat):Int:=((seen.filter fun i=>bs.getD i false).length:Int)
def C49 (m:Met) (f:Int):Option Int :=
 if m.length < 4611686018427387904 then (C7r f m).bind fun bs=>some ((bs.filter fun b=>b).length:Int) else none
theorem C0n {f:Int}:∀{m:Met} {bs:List Bool},C7r f m = some bs→bs.length = m.length∧∀ (i:Nat) (e:Had × Int),m[i]? = some e→D15 e.1 f = some (bs.getD i false)
 | [],bs,h=>by cases h; exact ⟨rfl,fun i e he=>by simp at he⟩
 | x :: m,bs,h=>by
  unfold C7r at h
  refine oB h fun b hb h=>oB h fun r hr h=>?_
  obtain rfl:=os h
  obtain ⟨h1,h2⟩:=C0n hr
  refine ⟨by simp [h1],fun i e he=>?_⟩
  cases i with
  | zero=>simp at he; subst he; simpa using hb
  | succ i=>simp at he; simpa using h2 i e he
theorem B1m:∀(bs:List Bool),((List.range bs.length).filter fun i=>bs.getD i false).length = (bs.filter fun b=>b).length
 | []=>rfl
 | b :: bs=>by
  rw [List.length_cons,List.range_succ_eq_map,List.filter_cons,List.filter_map,List.filter_cons]
  have ih:=B1m bs
  have e:(fun i=>(b :: bs).getD i false)∘Nat.succ = fun i=>bs.getD i false:= by funext i; simp
  rw [e]
  cases b <;> simp at ih ⊢ <;> exact ih
theorem D2v {bs:List Bool} {seen:List Nat} (hn:seen.Nodup) (hm:∀j,j ∈ seen↔j < bs.length):cnt bs seen = ((bs.filter fun b=>b).length:Int):= by
 have hp:seen.Perm (List.range bs.length):=(List.perm_ext_iff_of_nodup hn List.nodup_range).mpr fun j=>by rw [hm,List.mem_range]
 unfold cnt
 rw [(hp.filter _).length_eq,B1m]
theorem D5a (bs:List Bool) (seen:List Nat):cnt bs seen≤seen.length:= by
 unfold cnt
 have:=List.length_filter_le (fun i=>bs.getD i false) seen
 omega
theorem D0b (bs:List Bool) (seen:List Nat) (i:Nat):cnt bs (seen++[i]) = cnt bs seen + (if bs.getD i false = true then 1 else 0):= by
 unfold cnt
 rw [List.filter_append,List.length_append,List.filter_cons]
 by_cases h:bs.getD i false = true
 ·rw [if_pos h,if_pos h]; rfl
 ·rw [if_neg h,if_neg h]; simp
theorem C0b:∀(n:Nat) (l:List Nat),l.Nodup→(∀ x ∈ l,x < n)→l.length≤n
 | 0,l,_,h=>by
  cases l with
  | nil=>simp
  | cons x l=>exact absurd (h x (List.mem_cons_self ..)) (Nat.not_lt_zero x)
 | n + 1,l,hd,h=>by
  have h1:=C0b n (l.filter fun x=>x != n) (hd.filter _) fun x hx=>by
   have:=List.mem_filter.mp hx
   have h2:=h x this.1
   have h3:x ≠ n:= by simpa using this.2
   omega
  have h2:(l.filter fun x=>!(x != n)).length≤1:= by
   have hn:(l.filter fun x=>!(x != n)).Nodup:=hd.filter _
   cases hl:l.filter fun x=>!(x != n) with
   | nil=>simp
   | cons a t =>
    cases t with
    | nil=>simp
    | cons b t =>
     rw [hl] at hn
     have ha:a ∈ l.filter fun x=>!(x != n):= by rw [hl]; simp
     have hb:b ∈ l.filter fun x=>!(x != n):= by rw [hl]; simp
     have ea:a = n:= by simpa using (List.mem_filter.mp ha).2
     have eb:b = n:= by simpa using (List.mem_filter.mp hb).2
     subst ea; subst eb
     simp at hn
  have h3:l.length = (l.filter fun x=>x != n).length + (l.filter fun x=>!(x != n)).length:= by
   clear h1 h2 hd h
   induction l with
   | nil=>rfl
   | cons x l ih =>
    rw [List.filter_cons,List.filter_cons]
    cases x != n <;> simp [ih] <;> omega
  omega
theorem D2a {n:Nat} {seen:List Nat} (hn:seen.Nodup) (hm:∀j ∈ seen,j < n):seen.length≤n:=C0b n seen hn hm
def C6r:ACode:=(.seq (.cond 69 .skip (.exit 4)) (.block 5 (.s 1 [q 0 70 (.entry 67),EX 1 71 70 0,q 2 14 (.alloc [.lit (.int .i64 0),.lit (.int .i64 0),.lit (.int .i64 0)] [] 0),ST 3 3 14 71] [2,3,8,12,13,14,62,63,67] (.s 0 [LK 0 72 3 14,q 1 73 (.build [.lit (.int .i64 0),.lit (.int .i64 0),.lit (.int .i64 0)] []),q 2 74 (.cmp true [0,0,0] 72 73),M 3 75 74,G 4 76 75 true (.mv 12),G 5 77 75 true (.idxA 1 3 14 76),G 6 78 75 true (.load none 77),G 7 79 75 true (.bin .gtr 78 (.i 0)),q 8 80 (.pick 75 79 (.b false))] [2,3,8,12,13,62,63,67,80] (.cond 80 (.g 0 [M 0 81 13,B 1 82 .add 81 (.i 1),M 2 13 82] [2,3,8,12,13,62,63,67]) .skip)))))
theorem C5a {c:Sc} {Hh:A1} {l m:Nat} {met:Met} {f r:Int} {a2 a3 a8 a62 a63:AV} (hl:hget Hh l = some (.mit m met.length [])) (hm:hmap Hh m = some (C3m met)) (hlm:l ≠ m) (h:C49 met f = some r)
  (hb2:a2.bd Hh.length = true) (hb3:a3.bd Hh.length = true) (hb8:a8.bd Hh.length = true) (hb62:a62.bd Hh.length = true) (hb63:a63.bd Hh.length = true) :
  WP tab (.loopM 67 68 69 [2,3,8,12,13,62,63,67] [2,3,8,12,13,62,63,67] [2,3,8,12,13,62,63] C6r) [(2,a2),(3,a3),(8,a8),(12,.i f),(13,.i 0),(62,a62),(63,a63),(67,.itr l)] Hh c
   (fun e s' H'=>e = .exit 4∧s' = [(2,a2),(3,a3),(8,a8),(12,.i f),(13,.i r),(62,a62),(63,a63)]∧H' = hset Hh l .dead):= by
 unfold C49 at h
 split at h
 ·next hlen =>
  refine oB h fun bs hbs h=>?_
  obtain rfl:=os h
  obtain ⟨hbl,hbg⟩:=C0n hbs
  have hlt:l < Hh.length:= by unfold hget at hl; exact (List.getElem?_eq_some_iff.1 hl).1
  have hset0:hset Hh l (.mit m met.length []) = Hh:= by
   unfold hset
   unfold hget at hl
   obtain ⟨h1,h2⟩:=List.getElem?_eq_some_iff.1 hl
   rw [← h2]; exact List.set_getElem_self h1
  have hmm:∀o,hmap (hset Hh l o) m = some (C3m met):=fun o=>by
   rw [← hm]; unfold hmap hget hset; rw [List.getElem?_set_ne hlm]
  have hss:∀o o',hset (hset Hh l o) l o' = hset Hh l o':=fun o o'=>by unfold hset; rw [List.set_set]
  have hgl:∀o,hget (hset Hh l o) l = some o:=fun o=>by unfold hget hset; rw [List.getElem?_set_self hlt]
  have hle:∀o,(hset Hh l o).length = Hh.length:=fun o=>F3 _ _ _
  have key:=C9l (T:=tab) (c:=c) (x:=67) (nx:=68) (ok:=69) (l:=l) (m:=m) (n:=met.length) (live0:=[2,3,8,12,13,62,63,67]) (live:=[2,3,8,12,13,62,63,67]) (liveX:=[2,3,8,12,13,62,63]) (rest:=C6r) (es:=C3m met) (e0:=.exit 4)
   (fun seen=>[(2,a2),(3,a3),(8,a8),(12,.i f),(13,.i (cnt bs seen)),(62,a62),(63,a63),(67,.itr l)]) (fun seen=>hset Hh l (.mit m met.length seen)) [(2,a2),(3,a3),(8,a8),(12,.i f),(13,.i ((bs.filter fun b=>b).length:Int)),(62,a62),(63,a63)] (hset Hh l .dead)
   (fun _=>rfl) (by decide) rfl (by decide) (fun _=>rfl) (fun _=>hgl _) (fun _=>hmm _) (by rw [C3m,List.length_map,decide_eq_true rfl]; rfl) ?_ ?_ ?_
  ·refine A0v (B47 hset0.symm key) ?_
   rintro e s' H' ⟨h1,h2,h3⟩
   exact ⟨h1,h2,h3⟩
  ·intro seen i hnd hsl hi hni
   rw [hss,hle]
   obtain ⟨e,he⟩:∃e,met[i]? = some e:=⟨_,List.getElem?_eq_getElem hi⟩
   have hpo:=hbg i e he
   have hent:A7t (hset Hh l (.mit m met.length (seen++[i]))) l = some (.agg (C2r cI e.1),.i e.2):= by
    unfold A7t
    simp only [hgl,hmm,C3m,List.length_map,if_true,List.getLast?_append,List.getLast?_singleton,Option.some_or,Option.bind_some,List.getElem?_map,he,Option.map_some,kE]
   have hw:w64 (cnt bs seen + 1) = cnt bs seen + 1:= by
    have h1:=D5a bs seen
    have h2:=D2a hnd hsl
    have h3:0≤cnt bs seen:=Int.natCast_nonneg _
    unfold w64 IntKind.wrap
    simp [IntKind.bits,IntKind.signed]
    omega
   have hsn:=D0b bs seen i
   have htk:∀Y:List AO,(hset Hh l (.mit m met.length (seen++[i]))++Y).take Hh.length = hset Hh l (.mit m met.length (seen++[i])):=fun Y=>by
    rw [← hle (.mit m met.length (seen++[i]))]; exact List.take_left
   unfold D15 at hpo
   refine T9<|C4<|N6 rfl rfl<|C3<|C6<|sg 0 rfl<|O5 (D3p rfl (C8r (hgl _) (hmm _) hent)) rfl<|A0 (A9 rfl rfl) rfl<|A0 I2 rfl<|O4 (F1 (ds:=C2r cI e.1) rfl rfl rfl rfl (E3 rfl) rfl) rfl<|es (ra9 rfl rfl rfl rfl rfl rfl rfl rfl rfl)<|s0<|A0 (D4 rfl rfl rfl) rfl<|A0 (Q0 (cs:=[.i 0,.i 0,.i 0]) rfl rfl) rfl<|A0 (D1e (a:=C2r cI e.1) (b:=[.i 0,.i 0,.i 0]) rfl rfl rfl rfl (V0 (V0 (V0 B1k)))) rfl<|qm rfl<|gp 5 80 (.b (bs.getD i false)) 75 rfl rfl (fun hc1=>?_) (fun hc1=>?_) ?_
   ·refine oB (bt hpo hc1) fun v hv hpo=>?_
    have hz:=os hpo
    rw [← hz]
    exact gT rfl hc1<|qm rfl<|gT rfl hc1<|A0 (D1f (e:=Ar3.l e.1) rfl rfl rfl hv) rfl<|gT rfl hc1<|A0 (D1h (f:=cI) (g:=fun n=>.i n) (e:=Ar3.l e.1) (fun _=>rfl) rfl (D8 rfl) rfl hv) rfl<|gT rfl hc1<|A0 (A0w rfl rfl) rfl<|A0 (C8 rfl hc1 rfl) rfl<|ge 5 rfl rfl rfl
   ·have hz:=os (bf hpo hc1)
    rw [← hz]
    exact nT rfl hc1 rfl<|nT rfl hc1 rfl<|nT rfl hc1 rfl<|nT rfl hc1 rfl<|A0 (C7 rfl hc1 rfl) rfl<|ge 5 rfl rfl rfl
   ·refine es (ra9 rfl rfl rfl rfl rfl rfl rfl rfl rfl) ?_
    rw [hsn]
    by_cases hbi:bs.getD i false = true
    ·rw [if_pos hbi,← hw]
     refine N6 rfl hbi<|r0<|qm rfl<|A0 (F4 rfl rfl) rfl<|qm rfl<|en (ra8 rfl rfl rfl rfl rfl rfl rfl rfl) ?_
     exact ⟨rfl,su8 rfl rfl rfl rfl rfl rfl rfl rfl,htk _⟩
    ·rw [if_neg hbi,Int.add_zero]
     refine P4 rfl (by simpa using hbi)<|C3 ?_
     exact ⟨rfl,su8 rfl rfl rfl rfl rfl rfl rfl rfl,htk _⟩
  ·intro seen i
   simp only [hle]
   have hbl':(AV.itr l).bd Hh.length = true:= by simp only [AV.bd]; exact Nat.ble_eq_true_of_le hlt
   exact bdc hb2 (bdc hb3 (bdc hb8 (bdc A5 (bdc A5 (bdc hb62 (bdc hb63 (bdc hbl' bdn)))))))
  ·intro seen hnd hall
   refine C4<|P4 rfl rfl<|G9 ?_
   refine ⟨rfl,rfl,?_,⟨_,_,_,hgl _⟩,hss _ _⟩
   rw [← D2v hnd (by rw [hbl]; exact hall)]
   exact su7 rfl rfl rfl rfl rfl rfl rfl
 ·cases h
end Pw
end
section
set_option maxRecDepth 100000
set_option maxHeartbeats 0
namespace Pw
open Go Am Go.Proofs.YtjpjdglddmhplaaGreat.Cd
def A8q (a0:pawn_found) (a1:pawn_found):Option Int :=
 some (w64 (a0.without_ - a1.without_))
theorem B7b {c:Sc} {H:A1} {a0:pawn_found} {a1:pawn_found} {r:Int} (h:A8q a0 a1 = some r) :
  E0 tab c H (.fn (.func 74) [] []) [(.agg (C2 a0)),(.agg (C2 a1))] [.i r]:= by
 unfold A8q at h
 refine cE rfl rfl<|sg 0 rfl<|A0 (E7 (cs:=C2 a0) rfl rfl rfl) rfl<|A0 (E7 (cs:=C2 a1) rfl rfl rfl) rfl<|qm rfl<|es (ra2 rfl rfl)<|s0<|A0 (B9 rfl) rfl<|A0 (B1 rfl rfl rfl) rfl<|A0 (B9 rfl) rfl<|A0 (B1 rfl rfl rfl) rfl<|A0 (V7 rfl rfl) rfl<|qm rfl<|es (ra1 rfl)<|C5 ?_
 obtain rfl:=os h
 exact retq trivial (A6 rfl B6) (A4 rfl B5) (A3 A5 A7)
def D7v (few:pawn_found) (x:pawn_found) (m:Met):Option (Met ⊕ Unit) :=
 (if (x.without_ == few.without_) = true then
  (if (!(kget m x.had_).isSome) = true then some true else some (decide (x.cost_ < (kget m x.had_).getD 0))).bind fun w=>some w
 else some false).bind fun g =>
 if g = true then some (.inl (kset m x.had_ x.cost_)) else some (.inl m)
def C92 (figs:List PaFigure) (m:Met) (s:List Int × List Int × Int):Option ((List Int × List Int × Int) ⊕ (List Int × List Int)) :=
 if (decide (s.2.2 < (List.length figs:Int))) = true then
  (C49 m s.2.2).bind fun n =>
  (if (n == 0) = true then (app 8 s.1 [s.2.2]).bind fun l=>some l else some s.1).bind fun l1 =>
  (if (decide (n < (List.length m:Int))) = true then (app 8 s.2.1 [s.2.2]).bind fun l=>some l else some s.2.1).bind fun l2 =>
  some (.inl (l1,l2,w64 (s.2.2 + 1)))
 else some (.inr (s.1,s.2.1))
def B3v (a0:PaShow):Option (List Int × List Int × Int) :=
 (A1j a0).bind fun x1 =>
 if (x1.1 == 0) = true then
  (C2p (C0l a0 x1.2) A8q).bind fun few =>
  (C0l a0 x1.2 Met Unit (D7v few.1) []).bind fun o =>
  match o with
  | .inl m=>(loop (C92 a0.Figures m) ([],[],0)).bind fun y=>some (y.1,y.2,0)
  | .inr _=>none
 else some ([],[],x1.1)
theorem D7c {H:A1} {l:List AO} {j n:Nat} (h:Nat.ble (j + 1) l.length = true):(AV.asl (H.length + j) n).bd (H++l).length = true:= by rw [List.length_append]; exact A0x h
def A33 (H:A1) (t:PaShow) (X:AO) (days:List Int) (few:pawn_found) (l1 l2:List Int) (m:Met):List AO :=
 [.cells (B2 t),.arr 1 false (l1.map cI),.arr 1 false (l2.map cI),.cells (B2 t),X,.cells (A2l t days),.cells (C2 few),.cells [.ptr (H.length + 5) 0],.map (C3m m),.cells [.mp (H.length + 8)],.cells [.ptr (H.length + 5) 0]]
theorem C1s {c:Sc} {H:A1} (hscv:R0 c H = true) {a0:PaShow} {r:List Int × List Int × Int} (h:B3v a0 = some r) :
  E0 tab c H (.fn (.func 29) [] []) [.agg (B2 a0)] [.fresh 1 (r.1.map cI),.fresh 1 (r.2.1.map cI),.i r.2.2]:= by
 unfold B3v at h
 refine oB h fun x1 hx1 h=>?_
 refine cE rfl rfl<|sg 0 rfl<|A0 (E7 (cs:=B2 a0) rfl rfl rfl) rfl<|A0 A5r rfl<|A0 A5r rfl<|qm rfl<|es (ra3 rfl rfl rfl)<|s0<|A0 (D4 rfl rfl rfl) rfl ?_
 by_cases hc2:(x1.1 == 0) = true
 ·rw [if_pos hc2] at h
  refine oB h fun few hfew h=>oB h fun o ho h=>?_
  obtain ⟨X,hX⟩:=A1u hx1 hc2
  refine O5 (A3g hX rfl rfl (A2 (D0 rfl) B7) rfl) rfl<|qm rfl<|A0 (A9 rfl rfl) rfl<|A0 (A9 rfl rfl) rfl<|qm rfl<|qm rfl<|es (ra5 rfl rfl rfl rfl rfl)<|C4<|s0<|qm rfl<|A0 (J4 rfl rfl) rfl<|es (ra6 rfl rfl rfl rfl rfl rfl)<|P4 rfl rfl<|C3<|sg 6 rfl<|qm rfl<|A4m (as2:=[(.ptr (H.length + 5) 0)]) (H1:=H++[.cells (B2 a0),.arr 1 false [],.arr 1 false [],.cells (B2 a0),X,.cells (A2l a0 x1.2),.dead]) rfl rfl (A2 rfl B7) rfl rfl rfl (A9j rfl)<|sg 7 rfl<|A0 (E7 (cs:=[.ptr (H.length + 5) 0]) rfl rfl rfl) rfl<|qm rfl<|es (ra1 rfl)<|s0<|A0 (A2w rfl rfl) rfl<|qm rfl<|es (ra1 rfl)<|C5<|InlQ.mk trivial ⟨_,_,_,[(.fn (.func 106) [] [(.ptr (H.length + 7) 0)])],_,(A6 rfl B6),(A4 rfl B5),(A9g (T2 (B22 (T2 (A5k rfl)))) (A9f rfl B3b)),?_⟩
  refine B8 (rs:=[(.agg (C2 few.1)),.b few.2]) rfl rfl (A2 rfl (A2 rfl B7)) (C04 (C50 (t:=a0) (days:=x1.2) (bS:=H.length + 7) (b:=H.length + 5)) (fun h=>(B7b h).frz) (And.intro (D8 rfl) (D8 rfl)) (B73 hscv) hfew)<|qm rfl<|A0 (A9 rfl rfl) rfl<|A0 (A9 rfl rfl) rfl<|A0 I2 rfl<|O4 (F1 (ds:=(C2 few.1)) rfl rfl rfl rfl (E3 rfl) rfl) rfl<|qm rfl<|es (ra5 rfl rfl rfl rfl rfl) ?_
  refine sg 8 rfl<|A0 D3v rfl<|A0 I2 rfl<|O4 (F1 (ds:=[.mp (H.length + 8)]) rfl rfl rfl rfl (A0l (Nat.le_add_right _ _)) rfl) rfl<|es (ra6 rfl rfl rfl rfl rfl rfl)<|C4<|s0<|qm rfl<|A4m (as2:=[(.ptr (H.length + 5) 0)]) (H1:=H++[.cells (B2 a0),.arr 1 false [],.arr 1 false [],.cells (B2 a0),X,.cells (A2l a0 x1.2),.cells (C2 few.1),.cells [.ptr (H.length + 5) 0],.map [],.cells [.mp (H.length + 8)]]) rfl rfl (A2 rfl B7) rfl rfl rfl (A9j rfl)<|sg 10 rfl<|A0 (E7 (cs:=[.ptr (H.length + 5) 0]) rfl rfl rfl) rfl<|qm rfl<|es (ra1 rfl)<|s0<|A0 (A2w rfl rfl) rfl<|qm rfl<|es (ra1 rfl)<|C5<|InlQ.mk trivial ⟨_,_,_,[(.fn (.func 106) [] [(.ptr (H.length + 10) 0)])],_,(A6 rfl B6),(A4 rfl B5),(A9g (T2 (B22 (T2 (A5k rfl)))) (A9f rfl B3b)),?_⟩
  refine es (ra6 rfl rfl rfl rfl rfl rfl)<|C6 ?_
  have hl11:∀m,(H++A33 H a0 X x1.2 few.1 [] [] m).length = H.length + 11:=fun m=>by rw [List.length_append]; rfl
  refine B2v (it:=C0l a0 x1.2) (sh:=shF) (pre:=B3y a0 x1.2 (H.length + 10) (H.length + 5)) C50 (K:=H.length + 11) [(6,.ptr (H.length + 6) 0),(8,.ptr (H.length + 9) 0)] (fun m=>H++A33 H a0 X x1.2 few.1 [] [] m) (fun (_:Unit)=>H++A33 H a0 X x1.2 few.1 [] [] []) (fun _=>.ret) ho (fun _=>rfl) rfl (fun S hS=>O0 (live:=[6,8]) rfl (by decide) (Sub.trans (su2 rfl rfl) hS)) rfl (fun _=>hl11 _) (fun _=>hl11 _) ⟨fun _ _=>B3y.app ⟨D8 rfl,D8 rfl⟩,fun _ _=>B3y.app ⟨D8 rfl,D8 rfl⟩⟩ (B73 hscv) (fun c' x m o' L v hsc hgr hv hbo y0 y1 hy0 hy1=>?_) ?_
  ·obtain rfl:v = .agg (C2 x):=hv
   have hGl:∀m z,(H++A33 H a0 X x1.2 few.1 [] [] m++z :: L).length = H.length + 11 + 1 + L.length:=fun m z=>by rw [List.length_append,hl11]; simp; omega
   refine T9<|rg 0 rfl<|A0 I2 rfl<|O4 (F1 (ds:=C2 x) rfl rfl rfl rfl (A0l (by rw [hGl]; exact Nat.le_add_right _ _)) rfl) rfl<|en (ra3 rfl rfl rfl) ⟨rfl,L++[.cells (C2 x)],by simp,?_⟩
   refine B47 (show _ = H++(A33 H a0 X x1.2 few.1 [] [] m++(y1 :: (L++[AO.cells (C2 x)]))) by simp) ?_
   rw [show (AV.ptr ((H++A33 H a0 X x1.2 few.1 [] [] m++y0 :: L).length + (0 + 0)) 0) = .ptr (H.length + 11 + 1 + L.length) 0 by rw [hGl]; rfl]
   have q9:∀m,hcells (H++(A33 H a0 X x1.2 few.1 [] [] m++(y1 :: (L++[AO.cells (C2 x)])))) (H.length + 11 + 1 + L.length) = some (C2 x):=fun m=>by
    rw [show H++(A33 H a0 X x1.2 few.1 [] [] m++(y1 :: (L++[AO.cells (C2 x)]))) = (H++A33 H a0 X x1.2 few.1 [] [] m++y1 :: L)++[AO.cells (C2 x)] by simp,← hGl m y1]
    exact D8 (j:=0) rfl
   have htk:∀m,(H++(A33 H a0 X x1.2 few.1 [] [] m++(y1 :: (L++[AO.cells (C2 x)])))).take (H.length + 11 + 1 + L.length) = H++A33 H a0 X x1.2 few.1 [] [] m++y1 :: L:=fun m=>by
    rw [show H++(A33 H a0 X x1.2 few.1 [] [] m++(y1 :: (L++[AO.cells (C2 x)]))) = (H++A33 H a0 X x1.2 few.1 [] [] m++y1 :: L)++[AO.cells (C2 x)] by simp,← hGl m y1]
    exact List.take_left
   unfold D7v at hbo
   refine oB hbo fun g hg hbo=>?_
   refine C6<|s0<|A0 (B1 (x:=.mp (H.length + 8)) rfl rfl rfl) rfl<|A0 (B9 rfl) rfl<|A0 (A6n (ds:=C2r cI x.had_) rfl (q9 m) rfl rfl) rfl<|A0 (D3q (k:=x.had_) (es:=m) (gv:=fun n=>.i n) (z:=0) C7e rfl (A8d rfl) rfl rfl) rfl<|qm rfl<|A0 (A9 rfl rfl) rfl<|A0 (A9 rfl rfl) rfl<|qm rfl<|qm rfl<|es (ra5 rfl rfl rfl rfl rfl)<|s0<|A0 (B9 rfl) rfl<|A0 (A39 (x:=.i x.without_) rfl (q9 m) rfl) rfl<|A0 (B9 rfl) rfl<|A0 (B1 (x:=.i few.1.without_) rfl rfl rfl) rfl<|A0 (G2 rfl rfl) rfl<|qm rfl<|gp 9 54 (.b g) 45 rfl rfl (fun hc1=>?_) (fun hc1=>?_) ?_
   ·refine oB (bt hg hc1) fun w hw hg=>?_
    obtain rfl:=os hg
    refine gT rfl hc1<|qm rfl<|gT rfl hc1<|A0 (C3t rfl rfl) rfl<|gT rfl hc1<|qm rfl<|gq 5 53 (.b w) 48 rfl rfl (fun hc3=>?_) (fun hc3=>?_) ?_
    ·obtain rfl:=os (bt hw hc3)
     exact nF rfl hc3 rfl<|nF rfl hc3 rfl<|nF rfl hc3 rfl<|nF rfl hc3 rfl<|gT rfl hc1<|A0 (C8 rfl hc3 rfl) rfl<|ge 5 rfl rfl rfl
    ·obtain rfl:=os (bf hw hc3)
     exact gF rfl hc3<|A0 (B9 rfl) rfl<|gF rfl hc3<|A0 (A39 (x:=.i x.cost_) rfl (q9 m) rfl) rfl<|gF rfl hc3<|qm rfl<|gF rfl hc3<|A0 (J1 rfl rfl) rfl<|gT rfl hc1<|A0 (C7 rfl hc3 rfl) rfl<|ge 5 rfl rfl rfl
    ·exact A0 (C8 rfl hc1 rfl) rfl<|ge 5 rfl rfl rfl
   ·obtain rfl:=os (bf hg hc1)
    exact nT rfl hc1 rfl<|nT rfl hc1 rfl<|nT rfl hc1 rfl<|nX rfl rfl<|nX rfl rfl<|nX rfl rfl<|nX rfl rfl<|nT rfl hc1 rfl<|A0 (C7 rfl hc1 rfl) rfl<|ge 9 rfl rfl rfl
   ·refine es (ra3 rfl rfl rfl)<|wi hbo rfl (fun hc4 hbo=>?_) fun hc4 hbo=>?_
    ·cases hbo
     refine r0<|A0 (B1 (x:=.mp (H.length + 8)) rfl rfl rfl) rfl<|A0 (B9 rfl) rfl<|A0 (A6n (ds:=C2r cI x.had_) rfl (q9 m) rfl rfl) rfl<|A0 (B9 rfl) rfl<|A0 (A39 (x:=.i x.cost_) rfl (q9 m) rfl) rfl<|O4 (D3r (k:=x.had_) (v:=x.cost_) (es:=m) (gv:=fun n=>.i n) C7e rfl rfl rfl rfl rfl) rfl<|en .n ⟨rfl,htk _⟩
    ·cases hbo
     exact C3 ⟨rfl,htk _⟩
  ·rcases o with m | m
   ·refine oB h fun y hy h=>?_
    obtain rfl:=os h
    refine B47 (show _ = H++(A33 H a0 X x1.2 few.1 [] [] m++[.dead]) by simp) ?_
    refine C4<|s0<|A0 (B9 rfl) rfl<|A0 (B1 rfl rfl rfl) rfl<|A0 (F9 (f:=B3) rfl) rfl<|qm rfl<|es (ra5 rfl rfl rfl rfl rfl)<|C6<|wl (fun s=>[(2,.asl (H.length + 1) s.1.length),(3,.asl (H.length + 2) s.2.1.length),(8,.ptr (H.length + 9) 0),(62,.i a0.Figures.length),(63,.i s.2.2)]) (fun (_:Unit) s=>A33 H a0 X x1.2 few.1 s.1 s.2.1 m++[.dead]) 12 (fun r e s' H'=>PX 2 [(2,.asl (H.length + 1) r.1.length),(3,.asl (H.length + 2) r.2.length)] (H++(A33 H a0 X x1.2 few.1 r.1 r.2 m++[.dead])) e s' H') () hy rfl rfl (fun _ _=>rfl) (fun _=>rfl) rfl (fun _=>bdc (A0x rfl) (bdc (A0x rfl) (bdc (M2 rfl) (bdc A5 (bdc A5 bdn))))) (fun _ s o hs=>?_) ?_
    ·obtain ⟨l1,l2,i⟩:=s
     unfold C92 at hs
     refine s0<|A0 (J1 rfl rfl) rfl<|es (ra6 rfl rfl rfl rfl rfl rfl)<|C4<|wi hs rfl (fun hc hs=>?_) fun hc hs=>?_
     ·refine oB hs fun n hn hs=>oB hs fun k1 hl1 hs=>oB hs fun k2 hl2 hs=>?_
      simp only at hn hl1 hl2 hs
      refine C3<|C4<|C6<|s0<|qm rfl<|qm rfl<|es (ra6 rfl rfl rfl rfl rfl rfl)<|s0<|qm rfl<|es (ra7 rfl rfl rfl rfl rfl rfl rfl)<|C4<|sg 12 rfl<|A0 (B1 (x:=.mp (H.length + 8)) rfl rfl rfl) rfl<|O5 (D1i rfl (A8d rfl)) rfl<|es (ra8 rfl rfl rfl rfl rfl rfl rfl rfl)<|C6<|A0v (C5a (l:=H.length + 12) (m:=H.length + 8) (met:=m) (f:=i) (r:=n) (by rw [R9]; show some (AO.mit _ (C3m m).length []) = _; rw [C3m,List.length_map]) (A8d rfl) (by omega) hn (D7c rfl) (D7c rfl) (by rw [List.length_append]; exact M2 rfl) A5 A5) ?_
      rintro e s' H' ⟨rfl,rfl,rfl⟩
      rw [F6]
      refine C4<|s0<|qm rfl<|A0 (G2 rfl rfl) rfl<|es (ra8 rfl rfl rfl rfl rfl rfl rfl rfl)<|wi hl1 rfl (fun hc5 hl1=>?_) fun hc5 hl1=>?_
      ·refine oB hl1 fun l1' hl1' hl1=>?_
       obtain rfl:=os hl1
       refine r0<|qm rfl<|qm rfl<|A0 (J2 (rows:=List.map cI [i]) rfl rfl (E4 (fun _=>rfl) _)) rfl<|O5 (A53 (f:=cI) (j:=1) rfl rfl rfl rfl A6a (fun _=>rfl) hl1') rfl<|qm rfl<|en (ra7 rfl rfl rfl rfl rfl rfl rfl) ?_
       refine s0<|qm rfl<|A0 (B1 (x:=.mp (H.length + 8)) rfl rfl rfl) rfl<|A0 (D1g (es:=m) rfl (A8d rfl)) rfl<|A0 (J1 rfl rfl) rfl<|es (ra7 rfl rfl rfl rfl rfl rfl rfl)<|wi hl2 rfl (fun hc6 hl2=>?_) fun hc6 hl2=>?_
       ·refine oB hl2 fun l2' hl2' hl2=>?_
        obtain rfl:=os hl2
        refine r0<|qm rfl<|qm rfl<|A0 (J2 (rows:=List.map cI [i]) rfl rfl (E4 (fun _=>rfl) _)) rfl<|O5 (A53 (f:=cI) (j:=2) rfl rfl rfl rfl A6a (fun _=>rfl) hl2') rfl<|qm rfl<|en (ra5 rfl rfl rfl rfl rfl) ?_
        obtain rfl:=os hs
        refine r0<|A0 (F4 rfl rfl) rfl<|qm rfl<|en (ra5 rfl rfl rfl rfl rfl) ?_
        exact lnT () rfl (su5 rfl rfl rfl rfl rfl)
       ·obtain rfl:=os hl2
        obtain rfl:=os hs
        refine C3<|r0<|A0 (F4 rfl rfl) rfl<|qm rfl<|en (ra5 rfl rfl rfl rfl rfl) ?_
        exact lnT () rfl (su5 rfl rfl rfl rfl rfl)
      ·obtain rfl:=os hl1
       refine C3 ?_
       refine s0<|qm rfl<|A0 (B1 (x:=.mp (H.length + 8)) rfl rfl rfl) rfl<|A0 (D1g (es:=m) rfl (A8d rfl)) rfl<|A0 (J1 rfl rfl) rfl<|es (ra7 rfl rfl rfl rfl rfl rfl rfl)<|wi hl2 rfl (fun hc6 hl2=>?_) fun hc6 hl2=>?_
       ·refine oB hl2 fun l2' hl2' hl2=>?_
        obtain rfl:=os hl2
        refine r0<|qm rfl<|qm rfl<|A0 (J2 (rows:=List.map cI [i]) rfl rfl (E4 (fun _=>rfl) _)) rfl<|O5 (A53 (f:=cI) (j:=2) rfl rfl rfl rfl A6a (fun _=>rfl) hl2') rfl<|qm rfl<|en (ra5 rfl rfl rfl rfl rfl) ?_
        obtain rfl:=os hs
        refine r0<|A0 (F4 rfl rfl) rfl<|qm rfl<|en (ra5 rfl rfl rfl rfl rfl) ?_
        exact lnT () rfl (su5 rfl rfl rfl rfl rfl)
       ·obtain rfl:=os hl2
        obtain rfl:=os hs
        refine C3<|r0<|A0 (F4 rfl rfl) rfl<|qm rfl<|en (ra5 rfl rfl rfl rfl rfl) ?_
        exact lnT () rfl (su5 rfl rfl rfl rfl rfl)
     ·refine G9 ?_
      obtain rfl:=os hs
      exact lx rfl px (su2 rfl rfl)
    ·rintro e s' H' - ⟨rfl,rfl,rfl⟩
     refine s0<|qm rfl<|qm rfl<|qm rfl<|qm rfl<|qm rfl<|es (ra3 rfl rfl rfl)<|C5 ?_
     exact retq trivial (A6 rfl (A6 rfl (A6 rfl B6))) (A4 (A43 rfl (List.length_map _)) (A4 (A43 rfl (List.length_map _)) (A4 rfl B5))) (A3 W9 (A3 W9 (A3 A5 A7)))
   ·cases h
 ·rw [if_neg hc2] at h
  obtain rfl:=os h
  refine O5 (Q2 (rs:=[.lit (.pointer none),.i x1.1]) rfl rfl (A2 (D0 rfl) B7) (A2n hx1 (by simpa using hc2)) rfl) rfl<|qm rfl<|A0 (A9 rfl rfl) rfl<|A0 (A9 rfl rfl) rfl<|qm rfl<|qm rfl<|es (ra5 rfl rfl rfl rfl rfl)<|C4<|s0<|qm rfl<|A0 (J4 rfl rfl) rfl<|es (ra6 rfl rfl rfl rfl rfl rfl)<|N6 rfl (nef hc2)<|sg 3 rfl<|qm rfl<|A0 A5r rfl<|A0 A5r rfl<|qm rfl<|es (ra3 rfl rfl rfl)<|C5 ?_
  exact retq trivial (A6 rfl (A6 rfl (A6 rfl B6))) (A4 (A43 rfl rfl) (A4 (A43 rfl rfl) (A4 rfl B5))) (A3 W9 (A3 W9 (A3 A5 A7)))
def A3m :Option Bool :=
 (A7e false).bind fun x1 =>
 (A7e true).bind fun x2 =>
 (A1z x1 0 10).bind fun x3 =>
 (Z7 x1 2 2).bind fun x4 =>
 (Z7 x1 2 1).bind fun x5 =>
 (A22 x1 1).bind fun x6 =>
 (A2r).bind fun x7 =>
 (A21 x1 x7 45).bind fun x8 =>
 (A2r).bind fun x9 =>
 (A1m x1 x9).bind fun x10 =>
 (A2r).bind fun x11 =>
 (A1m x2 x11).bind fun x12 =>
 (A9q x1).bind fun x13 =>
 (A9q x2).bind fun x14 =>
 (B3v x2).bind fun x15 =>
 (B3w x2).bind fun x16 =>
 (A2r).bind fun x17 =>
 (A4n x1 x17).bind fun x18 =>
 (if ((((((((((((((x3.2 == 0) && (x4.2 == 0)) && (x6.2 == 0)) && (x8.2 == 0)) && (x12.2 == 0)) && (x13.2.2.2 == 0)) && (x14.2.2.2 == 0)) && (x15.2.2 == 0)) && (x16.2 == 0)) && (x18.2 == 0)) && (x5.2 == 9)) && (x10.2 == 4)) && (x3.1 == 110)) && (x4.1 == 48)) = true then
  (U4 x6.1 [0,1,2]).bind fun x33 =>
  some x33
 else
  some false).bind fun x34 =>
 (if ((x34 && (x8.1 == 102)) && (x12.1 == 0)) = true then
  (A1x 0 2 0).bind fun x38 =>
  (A1x 1 0 0).bind fun x39 =>
  (A1x 2 2 0).bind fun x40 =>
  (B05 x13.1 [x38,x39,x40]).bind fun x41 =>
  some x41
 else
  some false).bind fun x42 =>
 (if (((x42 && (x13.2.1 == 0)) && (x13.2.2.1 == 78)) && (x14.2.1 == 2)) = true then
  (U4 x15.1 [0,2]).bind fun x47 =>
  some x47
 else
  some false).bind fun x48 =>
 (if x48 = true then
  (U4 x15.2.1 [0,2]).bind fun x50 =>
  some x50
 else
  some false).bind fun x51 =>
 (if (x51 && (x16.1 == 58)) = true then
  (U4 x18.1 [2]).bind fun x54 =>
  some x54
 else
  some false).bind fun x55 =>
 some x55
theorem A8k {c:Sc} {H:A1} (hscv:R0 c H = true)  {r:Bool} (h:A3m  = some r) :
  E0 tab c H (.fn (.func 19) [] []) [] [.b r]:= by
 unfold A3m at h
 refine cE rfl rfl<|s0<|qm rfl<|es .n<|sg 0 rfl<|oB h fun x1 hx1 h=>oB h fun x2 hx2 h=>B8 (rs:=[(.agg (B2 x1))]) rfl rfl (A2 rfl B7) ((A98 hx1).frz)<|B8 (rs:=[(.agg (B2 x2))]) rfl rfl (A2 rfl B7) ((A98 hx2).frz)<|A0 I2 rfl<|A0 I2 rfl<|O4 (F1 (ds:=(B2 x1)) rfl rfl rfl rfl (E3 rfl) rfl) rfl<|O4 (F1 (ds:=(B2 x2)) rfl rfl rfl rfl (E3 rfl) rfl) rfl<|es (ra2 rfl rfl)<|s0<|oB h fun x3 hx3 h=>A0 (D4 rfl rfl rfl) rfl<|B8 (rs:=[.i x3.1,.i x3.2]) rfl rfl (A2 (D0 rfl) (A2 rfl (A2 rfl B7))) ((A8l hx3).frz)<|qm rfl<|A0 (A9 rfl rfl) rfl<|A0 (A9 rfl rfl) rfl<|qm rfl<|qm rfl<|es (ra4 rfl rfl rfl rfl)<|s0<|oB h fun x4 hx4 h=>A0 (D4 rfl rfl rfl) rfl<|B8 (rs:=[.i x4.1,.i x4.2]) rfl rfl (A2 (D0 rfl) (A2 rfl (A2 rfl B7))) ((A40 hx4).frz)<|qm rfl<|A0 (A9 rfl rfl) rfl<|A0 (A9 rfl rfl) rfl<|qm rfl<|qm rfl<|es (ra6 rfl rfl rfl rfl rfl rfl)<|s0<|oB h fun x5 hx5 h=>A0 (D4 rfl rfl rfl) rfl<|B8 (rs:=[.i x5.1,.i x5.2]) rfl rfl (A2 (D0 rfl) (A2 rfl (A2 rfl B7))) ((A40 hx5).frz)<|qm rfl<|A0 (A9 rfl rfl) rfl<|A0 (A9 rfl rfl) rfl<|qm rfl<|qm rfl<|es (ra7 rfl rfl rfl rfl rfl rfl rfl)<|s0<|oB h fun x6 hx6 h=>A0 (D4 rfl rfl rfl) rfl<|B8 (rs:=[(.seq 1 (List.map cI x6.1)),.i x6.2]) rfl rfl (A2 (D0 rfl) (A2 rfl B7)) ((B0b hx6).frz)<|qm rfl<|A0 (A9 rfl rfl) rfl<|A0 (A9 rfl rfl) rfl<|qm rfl<|qm rfl<|es (ra9 rfl rfl rfl rfl rfl rfl rfl rfl rfl)<|s0<|oB h fun x7 hx7 h=>oB h fun x8 hx8 h=>A0 (D4 rfl rfl rfl) rfl<|V3 (rs:=[(.seq 3 (List.map A8 x7))]) rfl rfl A20 B7 ((A3f hx7).frz)<|B8 (rs:=[.i x8.1,.i x8.2]) rfl rfl (A2 (D0 rfl) (A2 rfl (A2 rfl B7))) ((B0a hx8).frz)<|qm rfl ?_
 refine A0 (A9 rfl rfl) rfl<|A0 (A9 rfl rfl) rfl<|qm rfl<|qm rfl<|es (ra11 rfl rfl rfl rfl rfl rfl rfl rfl rfl rfl rfl)<|s0<|oB h fun x9 hx9 h=>oB h fun x10 hx10 h=>A0 (D4 rfl rfl rfl) rfl<|V3 (rs:=[(.seq 3 (List.map A8 x9))]) rfl rfl A20 B7 ((A3f hx9).frz)<|B8 (rs:=[.i x10.1,.i x10.2]) rfl rfl (A2 (D0 rfl) (A2 rfl B7)) ((A56 hx10).frz)<|qm rfl<|A0 (A9 rfl rfl) rfl<|A0 (A9 rfl rfl) rfl<|qm rfl<|qm rfl<|es (ra12 rfl rfl rfl rfl rfl rfl rfl rfl rfl rfl rfl rfl)<|s0<|oB h fun x11 hx11 h=>oB h fun x12 hx12 h=>A0 (D4 rfl rfl rfl) rfl<|V3 (rs:=[(.seq 3 (List.map A8 x11))]) rfl rfl A20 B7 ((A3f hx11).frz)<|B8 (rs:=[.i x12.1,.i x12.2]) rfl rfl (A2 (D0 rfl) (A2 rfl B7)) ((A56 hx12).frz)<|qm rfl<|A0 (A9 rfl rfl) rfl<|A0 (A9 rfl rfl) rfl<|qm rfl<|qm rfl<|es (ra14 rfl rfl rfl rfl rfl rfl rfl rfl rfl rfl rfl rfl rfl rfl)<|s0<|oB h fun x13 hx13 h=>A0 (D4 rfl rfl rfl) rfl<|B8 (rs:=[(.seq 3 (List.map A8 x13.1)),.i x13.2.1,.i x13.2.2.1,.i x13.2.2.2]) rfl rfl (A2 (D0 rfl) B7) ((B17 (B73 hscv) hx13).frz)<|qm rfl<|A0 (A9 rfl rfl) rfl<|A0 (A9 rfl rfl) rfl<|A0 (A9 rfl rfl) rfl<|A0 (A9 rfl rfl) rfl<|qm rfl<|qm rfl<|qm rfl<|qm rfl<|es (.k rfl (.k rfl (.k rfl (.k rfl (.k rfl (.k rfl (.k rfl (.k rfl (.k rfl (.k rfl (.k rfl (.k rfl (.k rfl (.k rfl (.k rfl (.k rfl (.k rfl (.k rfl .n))))))))))))))))))<|s0<|oB h fun x14 hx14 h=>A0 (D4 rfl rfl rfl) rfl<|B8 (rs:=[(.seq 3 (List.map A8 x14.1)),.i x14.2.1,.i x14.2.2.1,.i x14.2.2.2]) rfl rfl (A2 (D0 rfl) B7) ((B17 (B73 hscv) hx14).frz)<|qm rfl<|A0 (A9 rfl rfl) rfl<|A0 (A9 rfl rfl) rfl<|A0 (A9 rfl rfl) rfl<|A0 (A9 rfl rfl) rfl<|qm rfl<|qm rfl<|qm rfl<|qm rfl<|es (.k rfl (.k rfl (.k rfl (.k rfl (.k rfl (.k rfl (.k rfl (.k rfl (.k rfl (.k rfl (.k rfl (.k rfl (.k rfl (.k rfl (.k rfl (.k rfl (.k rfl (.k rfl (.k rfl (.k rfl .n))))))))))))))))))))<|s0<|oB h fun x15 hx15 h=>A0 (D4 rfl rfl rfl) rfl<|B8 (rs:=[(.seq 1 (List.map cI x15.1)),(.seq 1 (List.map cI x15.2.1)),.i x15.2.2]) rfl rfl (A2 (D0 rfl) B7) ((C1s (B73 hscv) hx15).frz) ?_
 refine qm rfl<|A0 (A9 rfl rfl) rfl<|A0 (A9 rfl rfl) rfl<|A0 (A9 rfl rfl) rfl<|qm rfl<|qm rfl<|qm rfl<|es (.k rfl (.k rfl (.k rfl (.k rfl (.k rfl (.k rfl (.k rfl (.k rfl (.k rfl (.k rfl (.k rfl (.k rfl (.k rfl (.k rfl (.k rfl (.k rfl (.k rfl (.k rfl (.k rfl (.k rfl (.k rfl (.k rfl (.k rfl .n)))))))))))))))))))))))<|s0<|oB h fun x16 hx16 h=>A0 (D4 rfl rfl rfl) rfl<|B8 (rs:=[.i x16.1,.i x16.2]) rfl rfl (A2 (D0 rfl) B7) ((C1t (B73 hscv) hx16).frz)<|qm rfl<|A0 (A9 rfl rfl) rfl<|A0 (A9 rfl rfl) rfl<|qm rfl<|qm rfl<|es (.k rfl (.k rfl (.k rfl (.k rfl (.k rfl (.k rfl (.k rfl (.k rfl (.k rfl (.k rfl (.k rfl (.k rfl (.k rfl (.k rfl (.k rfl (.k rfl (.k rfl (.k rfl (.k rfl (.k rfl (.k rfl (.k rfl (.k rfl (.k rfl .n))))))))))))))))))))))))<|s0<|oB h fun x17 hx17 h=>oB h fun x18 hx18 h=>A0 (D4 rfl rfl rfl) rfl<|V3 (rs:=[(.seq 3 (List.map A8 x17))]) rfl rfl A20 B7 ((A3f hx17).frz)<|B8 (rs:=[(.seq 1 (List.map cI x18.1)),.i x18.2]) rfl rfl (A2 (D0 rfl) (A2 rfl B7)) ((B18 hx18).frz)<|qm rfl<|A0 (A9 rfl rfl) rfl<|A0 (A9 rfl rfl) rfl<|qm rfl<|qm rfl<|es (.k rfl (.k rfl (.k rfl (.k rfl (.k rfl (.k rfl (.k rfl (.k rfl (.k rfl (.k rfl (.k rfl (.k rfl (.k rfl (.k rfl (.k rfl (.k rfl (.k rfl (.k rfl (.k rfl (.k rfl (.k rfl (.k rfl (.k rfl (.k rfl (.k rfl .n)))))))))))))))))))))))))<|s0<|oB h fun x34 hx34 h=>oB h fun x42 hx42 h=>oB h fun x48 hx48 h=>oB h fun x51 hx51 h=>oB h fun x55 hx55 h=>qm rfl<|A0 (G2 rfl rfl) rfl<|qm rfl<|gp 3 108 (.b ((x3.2 == 0) && (x4.2 == 0))) 105 rfl rfl (fun hg19=>?_) (fun hg19=>?_) ?_
 ·exact gT rfl hg19<|qm rfl<|gT rfl hg19<|A0 (G2 rfl rfl) rfl<|A0 (C8 rfl hg19 rfl) rfl<|ge 3 (by rw [hg19]; rfl) rfl rfl
 ·exact nT rfl hg19 rfl<|nT rfl hg19 rfl<|A0 (C7 rfl hg19 rfl) rfl<|ge 3 (by rw [hg19]; rfl) rfl rfl
 refine qm rfl<|gp 3 112 (.b (((x3.2 == 0) && (x4.2 == 0)) && (x6.2 == 0))) 109 rfl rfl (fun hg20=>?_) (fun hg20=>?_) ?_
 ·exact gT rfl hg20<|qm rfl<|gT rfl hg20<|A0 (G2 rfl rfl) rfl<|A0 (C8 rfl hg20 rfl) rfl<|ge 3 (by rw [hg20]; rfl) rfl rfl
 ·exact nT rfl hg20 rfl<|nT rfl hg20 rfl<|A0 (C7 rfl hg20 rfl) rfl<|ge 3 (by rw [hg20]; rfl) rfl rfl
 refine qm rfl<|gp 3 116 (.b ((((x3.2 == 0) && (x4.2 == 0)) && (x6.2 == 0)) && (x8.2 == 0))) 113 rfl rfl (fun hg21=>?_) (fun hg21=>?_) ?_
 ·exact gT rfl hg21<|qm rfl<|gT rfl hg21<|A0 (G2 rfl rfl) rfl<|A0 (C8 rfl hg21 rfl) rfl<|ge 3 (by rw [hg21]; rfl) rfl rfl
 ·exact nT rfl hg21 rfl<|nT rfl hg21 rfl<|A0 (C7 rfl hg21 rfl) rfl<|ge 3 (by rw [hg21]; rfl) rfl rfl
 refine qm rfl<|gp 3 120 (.b (((((x3.2 == 0) && (x4.2 == 0)) && (x6.2 == 0)) && (x8.2 == 0)) && (x12.2 == 0))) 117 rfl rfl (fun hg22=>?_) (fun hg22=>?_) ?_
 ·exact gT rfl hg22<|qm rfl<|gT rfl hg22<|A0 (G2 rfl rfl) rfl<|A0 (C8 rfl hg22 rfl) rfl<|ge 3 (by rw [hg22]; rfl) rfl rfl
 ·exact nT rfl hg22 rfl<|nT rfl hg22 rfl<|A0 (C7 rfl hg22 rfl) rfl<|ge 3 (by rw [hg22]; rfl) rfl rfl
 refine qm rfl<|gp 3 124 (.b ((((((x3.2 == 0) && (x4.2 == 0)) && (x6.2 == 0)) && (x8.2 == 0)) && (x12.2 == 0)) && (x13.2.2.2 == 0))) 121 rfl rfl (fun hg23=>?_) (fun hg23=>?_) ?_
 ·exact gT rfl hg23<|qm rfl<|gT rfl hg23<|A0 (G2 rfl rfl) rfl<|A0 (C8 rfl hg23 rfl) rfl<|ge 3 (by rw [hg23]; rfl) rfl rfl
 ·exact nT rfl hg23 rfl<|nT rfl hg23 rfl<|A0 (C7 rfl hg23 rfl) rfl<|ge 3 (by rw [hg23]; rfl) rfl rfl
 refine qm rfl<|gp 3 128 (.b (((((((x3.2 == 0) && (x4.2 == 0)) && (x6.2 == 0)) && (x8.2 == 0)) && (x12.2 == 0)) && (x13.2.2.2 == 0)) && (x14.2.2.2 == 0))) 125 rfl rfl (fun hg24=>?_) (fun hg24=>?_) ?_
 ·exact gT rfl hg24<|qm rfl<|gT rfl hg24<|A0 (G2 rfl rfl) rfl<|A0 (C8 rfl hg24 rfl) rfl<|ge 3 (by rw [hg24]; rfl) rfl rfl
 ·exact nT rfl hg24 rfl<|nT rfl hg24 rfl<|A0 (C7 rfl hg24 rfl) rfl<|ge 3 (by rw [hg24]; rfl) rfl rfl
 refine qm rfl<|gp 3 132 (.b ((((((((x3.2 == 0) && (x4.2 == 0)) && (x6.2 == 0)) && (x8.2 == 0)) && (x12.2 == 0)) && (x13.2.2.2 == 0)) && (x14.2.2.2 == 0)) && (x15.2.2 == 0))) 129 rfl rfl (fun hg25=>?_) (fun hg25=>?_) ?_
 ·exact gT rfl hg25<|qm rfl<|gT rfl hg25<|A0 (G2 rfl rfl) rfl<|A0 (C8 rfl hg25 rfl) rfl<|ge 3 (by rw [hg25]; rfl) rfl rfl
 ·exact nT rfl hg25 rfl<|nT rfl hg25 rfl<|A0 (C7 rfl hg25 rfl) rfl<|ge 3 (by rw [hg25]; rfl) rfl rfl
 refine qm rfl<|gp 3 136 (.b (((((((((x3.2 == 0) && (x4.2 == 0)) && (x6.2 == 0)) && (x8.2 == 0)) && (x12.2 == 0)) && (x13.2.2.2 == 0)) && (x14.2.2.2 == 0)) && (x15.2.2 == 0)) && (x16.2 == 0))) 133 rfl rfl (fun hg26=>?_) (fun hg26=>?_) ?_
 ·exact gT rfl hg26<|qm rfl<|gT rfl hg26<|A0 (G2 rfl rfl) rfl<|A0 (C8 rfl hg26 rfl) rfl<|ge 3 (by rw [hg26]; rfl) rfl rfl
 ·exact nT rfl hg26 rfl<|nT rfl hg26 rfl<|A0 (C7 rfl hg26 rfl) rfl<|ge 3 (by rw [hg26]; rfl) rfl rfl
 refine qm rfl<|gp 3 140 (.b ((((((((((x3.2 == 0) && (x4.2 == 0)) && (x6.2 == 0)) && (x8.2 == 0)) && (x12.2 == 0)) && (x13.2.2.2 == 0)) && (x14.2.2.2 == 0)) && (x15.2.2 == 0)) && (x16.2 == 0)) && (x18.2 == 0))) 137 rfl rfl (fun hg27=>?_) (fun hg27=>?_) ?_
 ·exact gT rfl hg27<|qm rfl<|gT rfl hg27<|A0 (G2 rfl rfl) rfl<|A0 (C8 rfl hg27 rfl) rfl<|ge 3 (by rw [hg27]; rfl) rfl rfl
 ·exact nT rfl hg27 rfl<|nT rfl hg27 rfl<|A0 (C7 rfl hg27 rfl) rfl<|ge 3 (by rw [hg27]; rfl) rfl rfl
 refine qm rfl<|gp 3 144 (.b (((((((((((x3.2 == 0) && (x4.2 == 0)) && (x6.2 == 0)) && (x8.2 == 0)) && (x12.2 == 0)) && (x13.2.2.2 == 0)) && (x14.2.2.2 == 0)) && (x15.2.2 == 0)) && (x16.2 == 0)) && (x18.2 == 0)) && (x5.2 == 9))) 141 rfl rfl (fun hg28=>?_) (fun hg28=>?_) ?_
 ·exact gT rfl hg28<|qm rfl<|gT rfl hg28<|A0 (G2 rfl rfl) rfl<|A0 (C8 rfl hg28 rfl) rfl<|ge 3 (by rw [hg28]; rfl) rfl rfl
 ·exact nT rfl hg28 rfl<|nT rfl hg28 rfl<|A0 (C7 rfl hg28 rfl) rfl<|ge 3 (by rw [hg28]; rfl) rfl rfl
 refine qm rfl<|gp 3 148 (.b ((((((((((((x3.2 == 0) && (x4.2 == 0)) && (x6.2 == 0)) && (x8.2 == 0)) && (x12.2 == 0)) && (x13.2.2.2 == 0)) && (x14.2.2.2 == 0)) && (x15.2.2 == 0)) && (x16.2 == 0)) && (x18.2 == 0)) && (x5.2 == 9)) && (x10.2 == 4))) 145 rfl rfl (fun hg29=>?_) (fun hg29=>?_) ?_
 ·exact gT rfl hg29<|qm rfl<|gT rfl hg29<|A0 (G2 rfl rfl) rfl<|A0 (C8 rfl hg29 rfl) rfl<|ge 3 (by rw [hg29]; rfl) rfl rfl
 ·exact nT rfl hg29 rfl<|nT rfl hg29 rfl<|A0 (C7 rfl hg29 rfl) rfl<|ge 3 (by rw [hg29]; rfl) rfl rfl
 refine qm rfl<|gp 3 152 (.b (((((((((((((x3.2 == 0) && (x4.2 == 0)) && (x6.2 == 0)) && (x8.2 == 0)) && (x12.2 == 0)) && (x13.2.2.2 == 0)) && (x14.2.2.2 == 0)) && (x15.2.2 == 0)) && (x16.2 == 0)) && (x18.2 == 0)) && (x5.2 == 9)) && (x10.2 == 4)) && (x3.1 == 110))) 149 rfl rfl (fun hg30=>?_) (fun hg30=>?_) ?_
 ·exact gT rfl hg30<|qm rfl<|gT rfl hg30<|A0 (G2 rfl rfl) rfl<|A0 (C8 rfl hg30 rfl) rfl<|ge 3 (by rw [hg30]; rfl) rfl rfl
 ·exact nT rfl hg30 rfl<|nT rfl hg30 rfl<|A0 (C7 rfl hg30 rfl) rfl<|ge 3 (by rw [hg30]; rfl) rfl rfl
 refine qm rfl<|gp 3 156 (.b ((((((((((((((x3.2 == 0) && (x4.2 == 0)) && (x6.2 == 0)) && (x8.2 == 0)) && (x12.2 == 0)) && (x13.2.2.2 == 0)) && (x14.2.2.2 == 0)) && (x15.2.2 == 0)) && (x16.2 == 0)) && (x18.2 == 0)) && (x5.2 == 9)) && (x10.2 == 4)) && (x3.1 == 110)) && (x4.1 == 48))) 153 rfl rfl (fun hg31=>?_) (fun hg31=>?_) ?_
 ·exact gT rfl hg31<|qm rfl<|gT rfl hg31<|A0 (G2 rfl rfl) rfl<|A0 (C8 rfl hg31 rfl) rfl<|ge 3 (by rw [hg31]; rfl) rfl rfl
 ·exact nT rfl hg31 rfl<|nT rfl hg31 rfl<|A0 (C7 rfl hg31 rfl) rfl<|ge 3 (by rw [hg31]; rfl) rfl rfl
 refine qm rfl<|gp 4 161 (.b x34) 157 rfl rfl (fun hg32=>?_) (fun hg32=>?_) ?_
 ·refine oB (bt hx34 hg32) fun x33 hx33 hx34=>?_
  obtain rfl:=os hx34
  exact gT rfl hg32<|qm rfl<|gT rfl hg32<|A0 (J2 (rows:=List.map cI [0,1,2]) rfl rfl (E4 (fun _=>rfl) _)) rfl<|gT rfl hg32<|B8 (rs:=[.b x33]) rfl rfl (A2 rfl (A2 rfl B7)) ((Y1 hx33).frz)<|A0 (C8 rfl hg32 rfl) rfl<|ge 4 rfl rfl rfl
 ·obtain rfl:=os (bf hx34 hg32)
  exact nT rfl hg32 rfl<|nT rfl hg32 rfl<|I1 (E2 rfl (by rw [hg32]; rfl)) rfl<|A0 (C7 rfl hg32 rfl) rfl<|ge 4 rfl rfl rfl
 refine qm rfl<|gp 3 165 (.b (x34 && (x8.1 == 102))) 162 rfl rfl (fun hg35=>?_) (fun hg35=>?_) ?_
 ·exact gT rfl hg35<|qm rfl<|gT rfl hg35<|A0 (G2 rfl rfl) rfl<|A0 (C8 rfl hg35 rfl) rfl<|ge 3 (by rw [hg35]; rfl) rfl rfl
 ·exact nT rfl hg35 rfl<|nT rfl hg35 rfl<|A0 (C7 rfl hg35 rfl) rfl<|ge 3 (by rw [hg35]; rfl) rfl rfl
 refine qm rfl<|gp 3 169 (.b ((x34 && (x8.1 == 102)) && (x12.1 == 0))) 166 rfl rfl (fun hg36=>?_) (fun hg36=>?_) ?_
 ·exact gT rfl hg36<|qm rfl<|gT rfl hg36<|A0 (G2 rfl rfl) rfl<|A0 (C8 rfl hg36 rfl) rfl<|ge 3 (by rw [hg36]; rfl) rfl rfl
 ·exact nT rfl hg36 rfl<|nT rfl hg36 rfl<|A0 (C7 rfl hg36 rfl) rfl<|ge 3 (by rw [hg36]; rfl) rfl rfl
 refine qm rfl<|gp 7 177 (.b x42) 170 rfl rfl (fun hg37=>?_) (fun hg37=>?_) ?_
 ·refine oB (bt hx42 hg37) fun x38 hx38 hx42=>oB hx42 fun x39 hx39 hx42=>oB hx42 fun x40 hx40 hx42=>oB hx42 fun x41 hx41 hx42=>?_
  obtain rfl:=os hx42
  exact gT rfl hg37<|qm rfl<|gT rfl hg37<|B8 (rs:=[(.agg (A8 x38))]) rfl rfl (A2 rfl (A2 rfl (A2 rfl B7))) ((A0m hx38).frz)<|gT rfl hg37<|B8 (rs:=[(.agg (A8 x39))]) rfl rfl (A2 rfl (A2 rfl (A2 rfl B7))) ((A0m hx39).frz)<|gT rfl hg37<|B8 (rs:=[(.agg (A8 x40))]) rfl rfl (A2 rfl (A2 rfl (A2 rfl B7))) ((A0m hx40).frz)<|gT rfl hg37<|A0 (J2 (rows:=List.map A8 [x38,x39,x40]) rfl rfl (E4 (fun _=>rfl) _)) rfl<|gT rfl hg37<|B8 (rs:=[.b x41]) rfl rfl (A2 rfl (A2 rfl B7)) ((B80 hx41).frz)<|A0 (C8 rfl hg37 rfl) rfl<|ge 7 rfl rfl rfl
 ·obtain rfl:=os (bf hx42 hg37)
  exact nT rfl hg37 rfl<|I1 (E2 rfl (by rw [hg37]; rfl)) rfl<|I1 (E2 rfl (by rw [hg37]; rfl)) rfl<|I1 (E2 rfl (by rw [hg37]; rfl)) rfl<|nT rfl hg37 rfl<|I1 (E2 rfl (by rw [hg37]; rfl)) rfl<|A0 (C7 rfl hg37 rfl) rfl<|ge 7 rfl rfl rfl
 refine qm rfl<|gp 3 181 (.b (x42 && (x13.2.1 == 0))) 178 rfl rfl (fun hg43=>?_) (fun hg43=>?_) ?_
 ·exact gT rfl hg43<|qm rfl<|gT rfl hg43<|A0 (G2 rfl rfl) rfl<|A0 (C8 rfl hg43 rfl) rfl<|ge 3 (by rw [hg43]; rfl) rfl rfl
 ·exact nT rfl hg43 rfl<|nT rfl hg43 rfl<|A0 (C7 rfl hg43 rfl) rfl<|ge 3 (by rw [hg43]; rfl) rfl rfl
 refine qm rfl<|gp 3 185 (.b ((x42 && (x13.2.1 == 0)) && (x13.2.2.1 == 78))) 182 rfl rfl (fun hg44=>?_) (fun hg44=>?_) ?_
 ·exact gT rfl hg44<|qm rfl<|gT rfl hg44<|A0 (G2 rfl rfl) rfl<|A0 (C8 rfl hg44 rfl) rfl<|ge 3 (by rw [hg44]; rfl) rfl rfl
 ·exact nT rfl hg44 rfl<|nT rfl hg44 rfl<|A0 (C7 rfl hg44 rfl) rfl<|ge 3 (by rw [hg44]; rfl) rfl rfl
 refine qm rfl<|gp 3 189 (.b (((x42 && (x13.2.1 == 0)) && (x13.2.2.1 == 78)) && (x14.2.1 == 2))) 186 rfl rfl (fun hg45=>?_) (fun hg45=>?_) ?_
 ·exact gT rfl hg45<|qm rfl<|gT rfl hg45<|A0 (G2 rfl rfl) rfl<|A0 (C8 rfl hg45 rfl) rfl<|ge 3 (by rw [hg45]; rfl) rfl rfl
 ·exact nT rfl hg45 rfl<|nT rfl hg45 rfl<|A0 (C7 rfl hg45 rfl) rfl<|ge 3 (by rw [hg45]; rfl) rfl rfl
 refine qm rfl<|gp 4 194 (.b x48) 190 rfl rfl (fun hg46=>?_) (fun hg46=>?_) ?_
 ·refine oB (bt hx48 hg46) fun x47 hx47 hx48=>?_
  obtain rfl:=os hx48
  exact gT rfl hg46<|qm rfl<|gT rfl hg46<|A0 (J2 (rows:=List.map cI [0,2]) rfl rfl (E4 (fun _=>rfl) _)) rfl<|gT rfl hg46<|B8 (rs:=[.b x47]) rfl rfl (A2 rfl (A2 rfl B7)) ((Y1 hx47).frz)<|A0 (C8 rfl hg46 rfl) rfl<|ge 4 rfl rfl rfl
 ·obtain rfl:=os (bf hx48 hg46)
  exact nT rfl hg46 rfl<|nT rfl hg46 rfl<|I1 (E2 rfl (by rw [hg46]; rfl)) rfl<|A0 (C7 rfl hg46 rfl) rfl<|ge 4 rfl rfl rfl
 refine qm rfl<|gp 4 199 (.b x51) 195 rfl rfl (fun hg49=>?_) (fun hg49=>?_) ?_
 ·refine oB (bt hx51 hg49) fun x50 hx50 hx51=>?_
  obtain rfl:=os hx51
  exact gT rfl hg49<|qm rfl<|gT rfl hg49<|A0 (J2 (rows:=List.map cI [0,2]) rfl rfl (E4 (fun _=>rfl) _)) rfl<|gT rfl hg49<|B8 (rs:=[.b x50]) rfl rfl (A2 rfl (A2 rfl B7)) ((Y1 hx50).frz)<|A0 (C8 rfl hg49 rfl) rfl<|ge 4 rfl rfl rfl
 ·obtain rfl:=os (bf hx51 hg49)
  exact nT rfl hg49 rfl<|nT rfl hg49 rfl<|I1 (E2 rfl (by rw [hg49]; rfl)) rfl<|A0 (C7 rfl hg49 rfl) rfl<|ge 4 rfl rfl rfl
 refine qm rfl<|gp 3 203 (.b (x51 && (x16.1 == 58))) 200 rfl rfl (fun hg52=>?_) (fun hg52=>?_) ?_
 ·exact gT rfl hg52<|qm rfl<|gT rfl hg52<|A0 (G2 rfl rfl) rfl<|A0 (C8 rfl hg52 rfl) rfl<|ge 3 (by rw [hg52]; rfl) rfl rfl
 ·exact nT rfl hg52 rfl<|nT rfl hg52 rfl<|A0 (C7 rfl hg52 rfl) rfl<|ge 3 (by rw [hg52]; rfl) rfl rfl
 refine qm rfl<|gp 4 208 (.b x55) 204 rfl rfl (fun hg53=>?_) (fun hg53=>?_) ?_
 ·refine oB (bt hx55 hg53) fun x54 hx54 hx55=>?_
  obtain rfl:=os hx55
  exact gT rfl hg53<|qm rfl<|gT rfl hg53<|A0 (J2 (rows:=List.map cI [2]) rfl rfl (E4 (fun _=>rfl) _)) rfl<|gT rfl hg53<|B8 (rs:=[.b x54]) rfl rfl (A2 rfl (A2 rfl B7)) ((Y1 hx54).frz)<|A0 (C8 rfl hg53 rfl) rfl<|ge 4 rfl rfl rfl
 ·obtain rfl:=os (bf hx55 hg53)
  exact nT rfl hg53 rfl<|nT rfl hg53 rfl<|I1 (E2 rfl (by rw [hg53]; rfl)) rfl<|A0 (C7 rfl hg53 rfl) rfl<|ge 4 rfl rfl rfl
 refine qm rfl<|es (ra1 rfl)<|C5 ?_
 obtain rfl:=os h
 exact retq trivial (A6 rfl B6) (A4 rfl B5) (A3 A5 A7)
end Pw
end
section
set_option maxRecDepth 100000
namespace Pw
theorem awake:A3m = some true:= by decide +kernel
end Pw
end
section
set_option maxRecDepth 10000
namespace Pw
open Go Am
theorem C8p:∀l n:Fin 16,A3q ⟨ByteArray.empty,(l.val:Int),false,0,0,0,0,0⟩ ⟨ByteArray.empty,0,0,(n.val:Int)⟩ = some (A0g (n.val:Int) (l.val:Int) == 0):= by decide +kernel
theorem C1z {g:PaGown} (hg:GwOk g) {y:PaFigure} (hy:FgOk y):A3q g y = some (B11 g y):= by
 have h1:=hg.looks
 have h2:=hy.needs
 have:=C8p ⟨g.Looks.toNat,by omega⟩ ⟨y.Needs.toNat,by omega⟩
 simp only at this
 rw [Int.toNat_of_nonneg h1.1,Int.toNat_of_nonneg h2.1] at this
 exact this
theorem C4b (g:PaGown) (x:PaUse):A48 g x = some (A7s g x):= by
 unfold A48 A7s
 cases g.Pawn
 ·simp
 ·simp only [A2q,Option.bind_some]
  generalize out 0 364 x.Day = b
  cases b <;> cases x.How == 2 && x.Day == 0 <;> cases x.How == 1 <;> rfl
theorem B7x {s:PaShow} (hs:ShOk s) {f:Int} (hf:0≤f∧f < s.Figures.length) (x:PaUse):A4p s f x = some (A3c s.Gowns s.Figures[f.toNat]! x):= by
 have hG:=hs.gowns
 unfold A4p A3c
 by_cases hx:x.Gown = -1
 ·rw [if_pos (by simp [hx]),if_pos hx]
  by_cases hb:x.How = 0∧x.Day = 0
  ·rw [if_pos hb,if_neg (by simp [hb.1,hb.2])]
  ·rw [if_neg hb,if_pos (by simp; omega)]
 ·rw [if_neg (by simp [hx]),if_neg hx,H9 (by omega),A2q]
  simp only [Option.bind_some,Bool.not_not]
  cases ho:out 0 ((s.Gowns.length:Int) - 1) x.Gown with
  | true=>rfl
  | false =>
   have hg:=N7.mp ho
   simp only [Bool.false_eq_true,if_false]
   rw [Y5 (l:=s.Gowns) hg.1 (by omega),Y5 (l:=s.Figures) hf.1 hf.2]
   have hok:=hs.gown _ (N4 (l:=s.Gowns) (i:=x.Gown.toNat) (by omega))
   have hok2:=hs.figure _ (N4 (l:=s.Figures) (i:=f.toNat) (by omega))
   generalize s.Gowns[x.Gown.toNat]! = g at hok
   generalize s.Figures[f.toNat]! = y at hok2
   simp only [Option.bind_some]
   rw [C4b,C1z hok hok2]
   simp only [Option.bind_some]
   unfold B4k
   cases A7s g x
   ·rfl
   ·cases ((x.How == 1 && (decide (x.Day > g.Last) || decide (x.Day > y.Day))) || (x.How == 2 && decide (y.Until > g.Last)))
    ·cases B11 g y <;> rfl
    ·rfl
theorem B2m {g:PaGown} (h:GwOk g) {day:Int} (hd:0≤day∧day≤364):A11 g day = some (price g day):= by
 have:=B0u h ⟨ByteArray.empty,0,0,0⟩ hd
 rw [← this]
 unfold A11 W4
 rw [Int.add_comm (w64 (Int.tdiv (w64 (g.Ago + day)) 30)) 1]
theorem B7w {g:PaGown} (h:GwOk g) {f:PaFigure} (hf:FgOk f):A6r g f = some (B6j g f):=B6c h hf 0
theorem B96 (l:List Int) (hl:l.length < 9223372036854775807):U4 l l = some true:= by
 unfold U4
 rw [show ((l.length:Int) == (l.length:Int)) = true by simp]
 rw [show ((true,0):Bool × Int) = (true,((0:Nat):Int)) from rfl,A2b (b:=A07 l l) (fun i=>(true,(i:Int))) l.length (r:=true) (by omega) (fun i hi=>by
  unfold A07
  simp only []
  rw [if_pos (by simpa using hi),K4 hi,H9 (by omega)]
  simp) (by
  unfold A07
  rw [if_neg (by simp)])]
 rfl
end Pw
end
section
set_option maxRecDepth 100000
set_option maxHeartbeats 0
namespace Pw
open Go Am Go.Proofs.YtjpjdglddmhplaaGreat.Cd
def A0f (a0:(List PaUse)) (a1:Int) (s1:Int):Option (Int ⊕ (Bool ⊕ Unit)) :=
 if (decide (s1 < a1)) = true then
  (idx a0 a1).bind fun x4 =>
  (if (x4.Gown != (-1)) = true then
  (idx a0 s1).bind fun x6 =>
  (idx a0 a1).bind fun x7 =>
  some (x6.Gown == x7.Gown)
  else
  some false).bind fun x8 =>
  if x8 = true then
  some (.inr (.inl true))
  else
  some (.inl (w64 (s1 + 1)))
 else
  some (.inr (.inr ()))
def A3u (a0:(List PaUse)) (a1:Int):Option Bool :=
 (loop (A0f a0 a1) 0).bind fun (o10:(Bool ⊕ Unit)) =>
 match o10 with
 | (.inl vo10_0) =>
  some vo10_0
 | (.inr vo10_1) =>
  some false
theorem B7k {c:Sc} {H:A1} {a0:(List PaUse)} {a1:Int} {r:Bool} (h:A3u a0 a1 = some r) :
  E0 tab c H (.fn (.func 77) [] []) [(.seq 3 (List.map A8 a0)),.i a1] [.b r]:= by
 unfold A3u at h
 refine cE rfl rfl<|s0<|qm rfl<|es (ra2 rfl rfl)<|C4<|s0<|qm rfl<|es (ra3 rfl rfl rfl)<|C6<|oB h fun o10 ho10 h=>wl (fun s1=>[(0,(.seq 3 (List.map A8 a0))),(1,.i a1),(5,.i s1)]) (fun (q2:Unit) s1=>[]) 0 (fun r e s' H'=>(match r with | (.inl v)=>e = .ret∧RetQ H [.tmp 4] [.b v] e s' H' | (.inr v)=>PX 0 [] (H++[]) e s' H':Prop)) () ho10 rfl rfl (fun _ _=>rfl) (fun _=>rfl) rfl (fun s1=>(bdc K1 (bdc A5 (bdc A5 bdn)))) (fun q2 s1 ys1 hs1=>?_) ?_
 ·unfold A0f at hs1
  refine C4<|s0<|qm rfl<|qm rfl<|A0 (J1 rfl rfl) rfl<|es (ra4 rfl rfl rfl rfl)<|wi hs1 rfl (fun hc3 hs1=>?_) fun hc3 hs1=>?_
  ·refine C3<|C4<|C6<|s0<|oB hs1 fun x4 hx4 hs1=>oB hs1 fun x8 hx8 hs1=>qm rfl<|qm rfl<|A0 (E8 (f:=A8) rfl rfl hx4) rfl<|A0 (Y6 (ds:=(A8 x4)) rfl rfl) rfl<|A0 (K6 rfl rfl) rfl<|A0 (J4 rfl rfl) rfl<|qm rfl<|gp 12 29 (.b x8) 17 rfl rfl (fun hg5=>?_) (fun hg5=>?_) ?_
   ·refine oB (bt hx8 hg5) fun x6 hx6 hx8=>oB hx8 fun x7 hx7 hx8=>?_
    obtain rfl:=os hx8
    exact gT rfl hg5<|qm rfl<|gT rfl hg5<|qm rfl<|gT rfl hg5<|A0 (E8 (f:=A8) rfl rfl hx6) rfl<|gT rfl hg5<|A0 (Y6 (ds:=(A8 x6)) rfl rfl) rfl<|gT rfl hg5<|A0 (K6 rfl rfl) rfl<|gT rfl hg5<|qm rfl<|gT rfl hg5<|qm rfl<|gT rfl hg5<|A0 (E8 (f:=A8) rfl rfl hx7) rfl<|gT rfl hg5<|A0 (Y6 (ds:=(A8 x7)) rfl rfl) rfl<|gT rfl hg5<|A0 (K6 rfl rfl) rfl<|gT rfl hg5<|A0 (G2 rfl rfl) rfl<|A0 (C8 rfl hg5 rfl) rfl<|ge 12 rfl rfl rfl
   ·obtain rfl:=os (bf hx8 hg5)
    exact nT rfl hg5 rfl<|nT rfl hg5 rfl<|nT rfl hg5 rfl<|nT rfl hg5 rfl<|nT rfl hg5 rfl<|nT rfl hg5 rfl<|nT rfl hg5 rfl<|nT rfl hg5 rfl<|nT rfl hg5 rfl<|nT rfl hg5 rfl<|nT rfl hg5 rfl<|A0 (C7 rfl hg5 rfl) rfl<|ge 12 rfl rfl rfl
   refine es (ra4 rfl rfl rfl rfl)<|wi hs1 rfl (fun hc9 hs1=>?_) fun hc9 hs1=>?_
   ·refine s0<|qm rfl<|es (ra1 rfl)<|C5 ?_
    obtain rfl:=os hs1
    exact lx rfl (And.intro rfl (retq trivial (A6 rfl B6) (A4 rfl B5) (A3 A5 A7))) (Sub.refl _)
   ·refine C3<|r0<|qm rfl<|A0 (F4 rfl rfl) rfl<|qm rfl<|en (ra3 rfl rfl rfl) ?_
    cases hs1
    exact lnT () rfl (su3 rfl rfl rfl)
  ·refine G9 ?_
   obtain rfl:=os hs1
   exact lx rfl px (.nil _)
 ·rcases o10 with vo10_0 | vo10_1
  ·rintro e s' H' - ⟨rfl,hret⟩
   cases h
   exact hret
  ·rintro e s' H' - ⟨rfl,rfl,rfl⟩
   refine s0<|qm rfl<|es (ra1 rfl)<|C5 ?_
   obtain rfl:=os h
   exact retq trivial (A6 rfl B6) (A4 rfl B5) (A3 A5 A7)
def A1c (a0:PaShow) (a1:(List PaUse)) (s2:Int):Option (Int ⊕ (Int ⊕ Unit)) :=
 if (decide (s2 < (List.length a1:Int))) = true then
  (idx a1 s2).bind fun x5 =>
  (A4p a0 s2 x5).bind fun x6 =>
  (if (x6 != 4) = true then
  (A3u a1 s2).bind fun x8 =>
  some x8
  else
  some false).bind fun x9 =>
  if x9 = true then
  some (.inr (.inl 5))
  else
  if (x6 != 0) = true then
   some (.inr (.inl x6))
  else
   some (.inl (w64 (s2 + 1)))
 else
  some (.inr (.inr ()))
def A47 (a0:PaShow) (a1:(List PaUse)):Option Int :=
 if ((List.length a1:Int) != (List.length a0.Figures:Int)) = true then
  some 3
 else
  (loop (A1c a0 a1) 0).bind fun (o12:(Int ⊕ Unit)) =>
  match o12 with
  | (.inl vo12_0) =>
  some vo12_0
  | (.inr vo12_1) =>
  some 0
theorem B8z {c:Sc} {H:A1} {a0:PaShow} {a1:(List PaUse)} {r:Int} (h:A47 a0 a1 = some r) :
  E0 tab c H (.fn (.func 34) [] []) [(.agg (B2 a0)),(.seq 3 (List.map A8 a1))] [.i r]:= by
 unfold A47 at h
 refine cE rfl rfl<|sg 0 rfl<|A0 (E7 (cs:=B2 a0) rfl rfl rfl) rfl<|qm rfl<|es (ra2 rfl rfl)<|C4<|s0<|qm rfl<|A0 (F9 (f:=A8) rfl) rfl<|A0 (B9 rfl) rfl<|A0 (B1 rfl rfl rfl) rfl<|A0 (F9 (f:=B3) rfl) rfl<|A0 (J4 rfl rfl) rfl<|es (ra3 rfl rfl rfl)<|wi h rfl (fun hc1 h=>?_) fun hc1 h=>?_
 ·refine s0<|qm rfl<|es (ra1 rfl)<|C5 ?_
  obtain rfl:=os h
  exact retq trivial (A6 rfl B6) (A4 rfl B5) (A3 A5 A7)
 ·refine C3<|C4<|s0<|qm rfl<|es (ra3 rfl rfl rfl)<|C6<|oB h fun o12 ho12 h=>wl (fun s2=>[(1,(.seq 3 (List.map A8 a1))),(2,(.ptr (H.length + 0) 0)),(5,.i s2)]) (fun (q3:Unit) s2=>[(.cells (B2 a0))]) 1 (fun r e s' H'=>(match r with | (.inl v)=>e = .ret∧RetQ H [.tmp 4] [.i v] e s' H' | (.inr v)=>PX 0 [] (H++[(.cells (B2 a0))]) e s' H':Prop)) () ho12 rfl rfl (fun _ _=>rfl) (fun _=>rfl) rfl (fun s2=>(bdc K1 (bdc (M2 rfl) (bdc A5 bdn)))) (fun q3 s2 ys2 hs2=>?_) ?_
  ·unfold A1c at hs2
   refine C4<|s0<|qm rfl<|qm rfl<|A0 (F9 (f:=A8) rfl) rfl<|A0 (J1 rfl rfl) rfl<|es (ra4 rfl rfl rfl rfl)<|wi hs2 rfl (fun hc4 hs2=>?_) fun hc4 hs2=>?_
   ·refine C3<|C4<|C6<|s0<|oB hs2 fun x5 hx5 hs2=>oB hs2 fun x6 hx6 hs2=>A0 (D4 rfl rfl rfl) rfl<|qm rfl<|qm rfl<|qm rfl<|A0 (E8 (f:=A8) rfl rfl hx5) rfl<|A0 (F8 rfl rfl) rfl<|B8 (rs:=[.i x6]) rfl rfl (A2 (D0 rfl) (A2 rfl (A2 (D0 rfl) B7))) ((B2c hx6).frz)<|qm rfl<|es (ra4 rfl rfl rfl rfl)<|C4<|s0<|oB hs2 fun x9 hx9 hs2=>qm rfl<|A0 (J4 rfl rfl) rfl<|qm rfl<|gp 4 32 (.b x9) 28 rfl rfl (fun hg7=>?_) (fun hg7=>?_) ?_
    ·refine oB (bt hx9 hg7) fun x8 hx8 hx9=>?_
     obtain rfl:=os hx9
     exact gT rfl hg7<|qm rfl<|gT rfl hg7<|qm rfl<|gT rfl hg7<|B8 (rs:=[.b x8]) rfl rfl (A2 rfl (A2 rfl B7)) ((B7k hx8).frz)<|A0 (C8 rfl hg7 rfl) rfl<|ge 4 rfl rfl rfl
    ·obtain rfl:=os (bf hx9 hg7)
     exact nT rfl hg7 rfl<|nT rfl hg7 rfl<|I1 (E2 rfl (by rw [hg7]; rfl)) rfl<|A0 (C7 rfl hg7 rfl) rfl<|ge 4 rfl rfl rfl
    refine es (ra5 rfl rfl rfl rfl rfl)<|wi hs2 rfl (fun hc10 hs2=>?_) fun hc10 hs2=>?_
    ·refine r0<|qm rfl<|en (ra4 rfl rfl rfl rfl)<|s0<|qm rfl<|A0 (P6 (v:=(.b true)) rfl rfl rfl) rfl<|es (ra5 rfl rfl rfl rfl rfl)<|N6 rfl rfl<|s0<|qm rfl<|qm rfl<|es (ra1 rfl)<|C5 ?_
     obtain rfl:=os hs2
     exact lx rfl (And.intro rfl (retq trivial (A6 rfl B6) (A4 rfl B5) (A3 A5 A7))) (Sub.refl _)
    ·refine C3<|s0<|qm rfl<|A0 (J4 rfl rfl) rfl<|es (ra5 rfl rfl rfl rfl rfl)<|wi hs2 rfl (fun hc11 hs2=>?_) fun hc11 hs2=>?_
     ·refine s0<|qm rfl<|qm rfl<|es (ra1 rfl)<|C5 ?_
      obtain rfl:=os hs2
      exact lx rfl (And.intro rfl (retq trivial (A6 rfl B6) (A4 rfl B5) (A3 A5 A7))) (Sub.refl _)
     ·refine C3<|r0<|qm rfl<|A0 (F4 rfl rfl) rfl<|qm rfl<|en (ra3 rfl rfl rfl) ?_
      cases hs2
      exact lnT () rfl (su3 rfl rfl rfl)
   ·refine G9 ?_
    obtain rfl:=os hs2
    exact lx rfl px (.nil _)
  ·rcases o12 with vo12_0 | vo12_1
   ·rintro e s' H' - ⟨rfl,hret⟩
    cases h
    exact hret
   ·rintro e s' H' - ⟨rfl,rfl,rfl⟩
    refine s0<|qm rfl<|es (ra1 rfl)<|C5 ?_
    obtain rfl:=os h
    exact retq trivial (A6 rfl B6) (A4 rfl B5) (A3 A5 A7)
def U5 (a0:PaShow) (a1:(List PaUse)):Option Int :=
 (T6 a0).bind fun x1 =>
 if (x1.2.2 == 0) = true then
  (A47 a0 a1).bind fun x3 =>
  some x3
 else
  some x1.2.2
theorem A2y {c:Sc} {H:A1} {a0:PaShow} {a1:(List PaUse)} {r:Int} (h:U5 a0 a1 = some r) :
  E0 tab c H (.fn (.func 64) [] []) [(.agg (B2 a0)),(.seq 3 (List.map A8 a1))] [.i r]:= by
 unfold U5 at h
 refine cE rfl rfl<|sg 0 rfl<|A0 (E7 (cs:=B2 a0) rfl rfl rfl) rfl<|qm rfl<|es (ra2 rfl rfl)<|s0<|oB h fun x1 hx1 h=>A0 (D4 rfl rfl rfl) rfl<|B8 (rs:=[.i x1.1,.i x1.2.1,.i x1.2.2]) rfl rfl (A2 (D0 rfl) B7) ((Z6 hx1).frz)<|qm rfl<|A0 (A9 rfl rfl) rfl<|A0 (A9 rfl rfl) rfl<|A0 (A9 rfl rfl) rfl<|qm rfl<|qm rfl<|qm rfl<|es (ra3 rfl rfl rfl)<|C4<|s0<|qm rfl<|A0 (G2 rfl rfl) rfl<|es (ra4 rfl rfl rfl rfl)<|wi h rfl (fun hc2 h=>?_) fun hc2 h=>?_
 ·refine r0<|oB h fun x3 hx3 h=>A0 (D4 rfl rfl rfl) rfl<|qm rfl<|B8 (rs:=[.i x3]) rfl rfl (A2 (D0 rfl) (A2 rfl B7)) ((B8z hx3).frz)<|qm rfl<|en (ra1 rfl)<|s0<|qm rfl<|qm rfl<|es (ra1 rfl)<|C5 ?_
  obtain rfl:=os h
  exact retq trivial (A6 rfl B6) (A4 rfl B5) (A3 A5 A7)
 ·refine C3<|s0<|qm rfl<|qm rfl<|es (ra1 rfl)<|C5 ?_
  obtain rfl:=os h
  exact retq trivial (A6 rfl B6) (A4 rfl B5) (A3 A5 A7)
def A27 (a0:PaShow) (a1:Int) (a2:PaUse):Option (Int × Int) :=
 if (a2.Gown == (-1)) = true then
  some (0,0)
 else
  if (a2.How == 1) = true then
  (idx a0.Gowns a2.Gown).bind fun x3 =>
  (A11 x3 a2.Day).bind fun x4 =>
  some (x4,a2.Day)
  else
  if (a2.How == 2) = true then
   (idx a0.Gowns a2.Gown).bind fun x6 =>
   (idx a0.Figures a1).bind fun x7 =>
   (A6r x6 x7).bind fun x8 =>
   (idx a0.Figures a1).bind fun x9 =>
   some (x8,x9.Day)
  else
   some (0,0)
theorem B0d {c:Sc} {H:A1} {a0:PaShow} {a1:Int} {a2:PaUse} {r:(Int × Int)} (h:A27 a0 a1 a2 = some r) :
  E0 tab c H (.fn (.func 78) [] []) [(.agg (B2 a0)),.i a1,(.agg (A8 a2))] [.i r.1,.i r.2]:= by
 unfold A27 at h
 refine cE rfl rfl<|sg 0 rfl<|A0 (E7 (cs:=B2 a0) rfl rfl rfl) rfl<|A0 (E7 (cs:=A8 a2) rfl rfl rfl) rfl<|qm rfl<|qm rfl<|es (ra3 rfl rfl rfl)<|C4<|C6<|s0<|A0 (B9 rfl) rfl<|A0 (B1 rfl rfl rfl) rfl<|A0 (G2 rfl rfl) rfl<|qm rfl<|es (ra4 rfl rfl rfl rfl)<|wi h rfl (fun hc1 h=>?_) fun hc1 h=>?_
 ·refine s0<|qm rfl<|qm rfl<|es (ra2 rfl rfl)<|C5 ?_
  obtain rfl:=os h
  exact retq trivial (A6 rfl (A6 rfl B6)) (A4 rfl (A4 rfl B5)) (A3 A5 (A3 A5 A7))
 ·refine s0<|A0 (B9 rfl) rfl<|A0 (B1 rfl rfl rfl) rfl<|A0 (G2 rfl rfl) rfl<|qm rfl<|es (ra4 rfl rfl rfl rfl)<|wi h rfl (fun hc2 h=>?_) fun hc2 h=>?_
  ·refine s0<|oB h fun x3 hx3 h=>oB h fun x4 hx4 h=>A0 (B9 rfl) rfl<|A0 (B1 rfl rfl rfl) rfl<|A0 (B9 rfl) rfl<|A0 (B1 rfl rfl rfl) rfl<|A0 (E8 (f:=C1) rfl rfl hx3) rfl<|A0 (F8 rfl rfl) rfl<|A0 (B9 rfl) rfl<|A0 (B1 rfl rfl rfl) rfl<|V3 (rs:=[.i x4]) rfl rfl (A4c rfl (A4c rfl A20)) (A2 (D0 rfl) (A2 rfl B7)) ((A8n hx4).frz)<|A0 (B9 rfl) rfl<|A0 (B1 rfl rfl rfl) rfl<|qm rfl<|qm rfl<|es (ra2 rfl rfl)<|C5 ?_
   obtain rfl:=os h
   exact retq trivial (A6 rfl (A6 rfl B6)) (A4 rfl (A4 rfl B5)) (A3 A5 (A3 A5 A7))
  ·refine s0<|A0 (B9 rfl) rfl<|A0 (B1 rfl rfl rfl) rfl<|A0 (G2 rfl rfl) rfl<|qm rfl<|es (ra4 rfl rfl rfl rfl)<|wi h rfl (fun hc5 h=>?_) fun hc5 h=>?_
   ·refine s0<|oB h fun x6 hx6 h=>oB h fun x7 hx7 h=>oB h fun x8 hx8 h=>oB h fun x9 hx9 h=>A0 (B9 rfl) rfl<|A0 (B1 rfl rfl rfl) rfl<|A0 (B9 rfl) rfl<|A0 (B1 rfl rfl rfl) rfl<|A0 (E8 (f:=C1) rfl rfl hx6) rfl<|A0 (F8 rfl rfl) rfl<|A0 (B9 rfl) rfl<|A0 (B1 rfl rfl rfl) rfl<|qm rfl<|A0 (E8 (f:=B3) rfl rfl hx7) rfl<|A0 (F8 rfl rfl) rfl<|V3 (rs:=[.i x8]) rfl rfl (A4c rfl (A4c rfl A20)) (A2 (D0 rfl) (A2 (D0 rfl) B7)) ((B2b hx8).frz)<|A0 (B9 rfl) rfl<|A0 (B1 rfl rfl rfl) rfl<|qm rfl<|A0 (E8 (f:=B3) rfl rfl hx9) rfl<|A0 (Y6 (ds:=(List.drop 1 (B3 x9))) rfl rfl) rfl<|A0 (K6 rfl rfl) rfl<|qm rfl<|qm rfl<|es (ra2 rfl rfl)<|C5 ?_
    obtain rfl:=os h
    exact retq trivial (A6 rfl (A6 rfl B6)) (A4 rfl (A4 rfl B5)) (A3 A5 (A3 A5 A7))
   ·refine C3<|s0<|qm rfl<|qm rfl<|es (ra2 rfl rfl)<|C5 ?_
    obtain rfl:=os h
    exact retq trivial (A6 rfl (A6 rfl B6)) (A4 rfl (A4 rfl B5)) (A3 A5 (A3 A5 A7))
def A09 (a0:PaShow) (a2:Int) (s1:(Int × Int)):Option ((Int × Int) ⊕ Int) :=
 if (decide (s1.2 < (List.length a0.Incomes:Int))) = true then
  (idx a0.Incomes s1.2).bind fun x4 =>
  if (decide (x4.Day≤a2)) = true then
  (idx a0.Incomes s1.2).bind fun x6 =>
  some (.inl ((w64 (s1.1 + x6.Pence)),(w64 (s1.2 + 1))))
  else
  some (.inl (s1.1,(w64 (s1.2 + 1))))
 else
  some (.inr s1.1)
def A1a (a0:PaShow) (a1:(List PaUse)) (a2:Int) (s8:(Int × Int)):Option ((Int × Int) ⊕ Int) :=
 if (decide (s8.2 < (List.length a1:Int))) = true then
  (idx a1 s8.2).bind fun x11 =>
  (A27 a0 s8.2 x11).bind fun x12 =>
  if (decide (x12.2≤a2)) = true then
  some (.inl ((w64 (s8.1 - x12.1)),(w64 (s8.2 + 1))))
  else
  some (.inl (s8.1,(w64 (s8.2 + 1))))
 else
  some (.inr s8.1)
def A1p (a0:PaShow) (a1:(List PaUse)) (a2:Int):Option Int :=
 (loop (A09 a0 a2) (a0.Purse,0)).bind fun (o7:Int) =>
 (loop (A1a a0 a1 a2) (o7,0)).bind fun (o14:Int) =>
 some o14
theorem A58 {c:Sc} {H:A1} {a0:PaShow} {a1:(List PaUse)} {a2:Int} {r:Int} (h:A1p a0 a1 a2 = some r) :
  E0 tab c H (.fn (.func 65) [] []) [(.agg (B2 a0)),(.seq 3 (List.map A8 a1)),.i a2] [.i r]:= by
 unfold A1p at h
 refine cE rfl rfl<|sg 0 rfl<|A0 (E7 (cs:=B2 a0) rfl rfl rfl) rfl<|qm rfl<|es (ra3 rfl rfl rfl)<|s0<|A0 (B9 rfl) rfl<|A0 (B1 rfl rfl rfl) rfl<|qm rfl<|es (ra4 rfl rfl rfl rfl)<|C4<|s0<|qm rfl<|es (ra5 rfl rfl rfl rfl rfl)<|C6<|oB h fun o7 ho7 h=>wl (fun s1=>[(1,(.seq 3 (List.map A8 a1))),(2,.i a2),(3,(.ptr (H.length + 0) 0)),(7,.i s1.1),(8,.i s1.2)]) (fun (q2:Unit) s1=>[(.cells (B2 a0))]) 1 (fun r e s' H'=>PX 0 [(1,(.seq 3 (List.map A8 a1))),(2,.i a2),(3,(.ptr (H.length + 0) 0)),(7,.i r)] (H++[(.cells (B2 a0))]) e s' H') () ho7 rfl rfl (fun _ _=>rfl) (fun _=>rfl) rfl (fun s1=>(bdc K1 (bdc A5 (bdc (M2 rfl) (bdc A5 (bdc A5 bdn)))))) (fun q2 s1 ys1 hs1=>?_) ?_
 ·unfold A09 at hs1
  refine C4<|s0<|qm rfl<|A0 (B9 rfl) rfl<|A0 (B1 rfl rfl rfl) rfl<|A0 (F9 (f:=D2) rfl) rfl<|A0 (J1 rfl rfl) rfl<|es (ra6 rfl rfl rfl rfl rfl rfl)<|wi hs1 rfl (fun hc3 hs1=>?_) fun hc3 hs1=>?_
  ·refine C3<|C4<|C6<|s0<|oB hs1 fun x4 hx4 hs1=>A0 (B9 rfl) rfl<|A0 (B1 rfl rfl rfl) rfl<|qm rfl<|A0 (E8 (f:=D2) rfl rfl hx4) rfl<|A0 (Y6 (ds:=(D2 x4)) rfl rfl) rfl<|A0 (K6 rfl rfl) rfl<|qm rfl<|A0 (A32 rfl rfl) rfl<|es (ra6 rfl rfl rfl rfl rfl rfl)<|wi hs1 rfl (fun hc5 hs1=>?_) fun hc5 hs1=>?_
   ·refine r0<|oB hs1 fun x6 hx6 hs1=>qm rfl<|A0 (B9 rfl) rfl<|A0 (B1 rfl rfl rfl) rfl<|qm rfl<|A0 (E8 (f:=D2) rfl rfl hx6) rfl<|A0 (Y6 (ds:=(List.drop 1 (D2 x6))) rfl rfl) rfl<|A0 (K6 rfl rfl) rfl<|A0 (F4 rfl rfl) rfl<|qm rfl<|en (ra5 rfl rfl rfl rfl rfl)<|r0<|qm rfl<|A0 (F4 rfl rfl) rfl<|qm rfl<|en (ra5 rfl rfl rfl rfl rfl) ?_
    cases hs1
    exact lnT () rfl (su5 rfl rfl rfl rfl rfl)
   ·refine C3<|r0<|qm rfl<|A0 (F4 rfl rfl) rfl<|qm rfl<|en (ra5 rfl rfl rfl rfl rfl) ?_
    cases hs1
    exact lnT () rfl (su5 rfl rfl rfl rfl rfl)
  ·refine G9 ?_
   obtain rfl:=os hs1
   exact lx rfl px (su4 rfl rfl rfl rfl)
 ·rintro e s' H' - ⟨rfl,rfl,rfl⟩
  refine C4<|s0<|qm rfl<|es (ra5 rfl rfl rfl rfl rfl)<|C6<|oB h fun o14 ho14 h=>wl (fun s8=>[(1,(.seq 3 (List.map A8 a1))),(2,.i a2),(3,(.ptr (H.length + 0) 0)),(7,.i s8.1),(9,.i s8.2)]) (fun (q9:Unit) s8=>[(.cells (B2 a0))]) 1 (fun r e s' H'=>PX 2 [(7,.i r)] (H++[(.cells (B2 a0))]) e s' H') () ho14 rfl rfl (fun _ _=>rfl) (fun _=>rfl) rfl (fun s8=>(bdc K1 (bdc A5 (bdc (M2 rfl) (bdc A5 (bdc A5 bdn)))))) (fun q9 s8 ys8 hs8=>?_) ?_
  ·unfold A1a at hs8
   refine C4<|s0<|qm rfl<|qm rfl<|A0 (F9 (f:=A8) rfl) rfl<|A0 (J1 rfl rfl) rfl<|es (ra6 rfl rfl rfl rfl rfl rfl)<|wi hs8 rfl (fun hc10 hs8=>?_) fun hc10 hs8=>?_
   ·refine C3<|C4<|C6<|s0<|oB hs8 fun x11 hx11 hs8=>oB hs8 fun x12 hx12 hs8=>A0 (D4 rfl rfl rfl) rfl<|qm rfl<|qm rfl<|qm rfl<|A0 (E8 (f:=A8) rfl rfl hx11) rfl<|A0 (F8 rfl rfl) rfl<|B8 (rs:=[.i x12.1,.i x12.2]) rfl rfl (A2 (D0 rfl) (A2 rfl (A2 (D0 rfl) B7))) ((B0d hx12).frz)<|qm rfl<|A0 (A9 rfl rfl) rfl<|A0 (A9 rfl rfl) rfl<|qm rfl<|qm rfl<|es (ra7 rfl rfl rfl rfl rfl rfl rfl)<|s0<|qm rfl<|qm rfl<|A0 (A32 rfl rfl) rfl<|es (ra7 rfl rfl rfl rfl rfl rfl rfl)<|wi hs8 rfl (fun hc13 hs8=>?_) fun hc13 hs8=>?_
    ·refine r0<|qm rfl<|qm rfl<|A0 (V7 rfl rfl) rfl<|qm rfl<|en (ra5 rfl rfl rfl rfl rfl)<|r0<|qm rfl<|A0 (F4 rfl rfl) rfl<|qm rfl<|en (ra5 rfl rfl rfl rfl rfl) ?_
     cases hs8
     exact lnT () rfl (su5 rfl rfl rfl rfl rfl)
    ·refine C3<|r0<|qm rfl<|A0 (F4 rfl rfl) rfl<|qm rfl<|en (ra5 rfl rfl rfl rfl rfl) ?_
     cases hs8
     exact lnT () rfl (su5 rfl rfl rfl rfl rfl)
   ·refine G9 ?_
    obtain rfl:=os hs8
    exact lx rfl px (su1 rfl)
  ·rintro e s' H' - ⟨rfl,rfl,rfl⟩
   refine s0<|qm rfl<|qm rfl<|es (ra1 rfl)<|C5 ?_
   obtain rfl:=os h
   exact retq trivial (A6 rfl B6) (A4 rfl B5) (A3 A5 A7)
def A0d (a0:PaShow) (a1:(List PaUse)) (s4:(Int × Int × Int)):Option ((Int × Int × Int) ⊕ (Int × Int)) :=
 if (decide (s4.2.2 < (List.length a1:Int))) = true then
  (idx a1 s4.2.2).bind fun x7 =>
  (A27 a0 s4.2.2 x7).bind fun x8 =>
  (A1p a0 a1 x8.2).bind fun x9 =>
  if ((decide (x9 < 0)) && ((decide (s4.2.1 < 0)) || (decide (x8.2 < s4.2.1)))) = true then
  some (.inl ((A6m s4.1 x9),x8.2,(w64 (s4.2.2 + 1))))
  else
  some (.inl ((A6m s4.1 x9),s4.2.1,(w64 (s4.2.2 + 1))))
 else
  some (.inr (s4.1,s4.2.1))
def A3p (a0:PaShow) (a1:(List PaUse)):Option (Int × Int) :=
 (A1p a0 a1 0).bind fun x1 =>
 (if (decide (x1 < 0)) = true then
  some 0
  else
  some (-1)).bind fun (p2:Int) =>
 (loop (A0d a0 a1) (x1,p2,0)).bind fun (o13:(Int × Int)) =>
 some (o13.1,o13.2)
theorem B7f {c:Sc} {H:A1} {a0:PaShow} {a1:(List PaUse)} {r:(Int × Int)} (h:A3p a0 a1 = some r) :
  E0 tab c H (.fn (.func 67) [] []) [(.agg (B2 a0)),(.seq 3 (List.map A8 a1))] [.i r.1,.i r.2]:= by
 unfold A3p at h
 refine cE rfl rfl<|sg 0 rfl<|A0 (E7 (cs:=B2 a0) rfl rfl rfl) rfl<|qm rfl<|qm rfl<|es (ra2 rfl rfl)<|s0<|oB h fun x1 hx1 h=>A0 (D4 rfl rfl rfl) rfl<|qm rfl<|B8 (rs:=[.i x1]) rfl rfl (A2 (D0 rfl) (A2 rfl (A2 rfl B7))) ((A58 hx1).frz)<|qm rfl<|qm rfl<|es (ra4 rfl rfl rfl rfl)<|C4<|s0<|qm rfl<|A0 (J1 rfl rfl) rfl<|es (ra5 rfl rfl rfl rfl rfl)<|oB h fun p2 hp2 h=>A7p (Q1:=fun e s' H'=>e = .normal∧s' = [(1,(.seq 3 (List.map A8 a1))),(2,(.ptr (H.length + 0) 0)),(6,.i x1),(7,.i p2)]∧H' = (H++[(.cells (B2 a0))])) ?_ ?_
 ·refine wi hp2 rfl (fun hc3 hp2=>?_) fun hc3 hp2=>?_
  ·refine r0<|qm rfl<|en (ra4 rfl rfl rfl rfl) ?_
   obtain rfl:=os hp2
   exact me (And.intro rfl (And.intro rfl rfl)) (su4 rfl rfl rfl rfl)
  ·refine C3 ?_
   obtain rfl:=os hp2
   exact me (And.intro rfl (And.intro rfl rfl)) (su4 rfl rfl rfl rfl)
 ·rintro e s' H' ⟨rfl,rfl,rfl⟩
  refine C4<|s0<|qm rfl<|es (ra5 rfl rfl rfl rfl rfl)<|C6<|oB h fun o13 ho13 h=>wl (fun s4=>[(1,(.seq 3 (List.map A8 a1))),(2,(.ptr (H.length + 0) 0)),(6,.i s4.1),(7,.i s4.2.1),(8,.i s4.2.2)]) (fun (q5:Unit) s4=>[(.cells (B2 a0))]) 1 (fun r e s' H'=>PX 0 [(6,.i r.1),(7,.i r.2)] (H++[(.cells (B2 a0))]) e s' H') () ho13 rfl rfl (fun _ _=>rfl) (fun _=>rfl) rfl (fun s4=>(bdc K1 (bdc (M2 rfl) (bdc A5 (bdc A5 (bdc A5 bdn)))))) (fun q5 s4 ys4 hs4=>?_) ?_
  ·unfold A0d at hs4
   refine C4<|s0<|qm rfl<|qm rfl<|A0 (F9 (f:=A8) rfl) rfl<|A0 (J1 rfl rfl) rfl<|es (ra6 rfl rfl rfl rfl rfl rfl)<|wi hs4 rfl (fun hc6 hs4=>?_) fun hc6 hs4=>?_
   ·refine C3<|C4<|C6<|s0<|oB hs4 fun x7 hx7 hs4=>oB hs4 fun x8 hx8 hs4=>A0 (D4 rfl rfl rfl) rfl<|qm rfl<|qm rfl<|qm rfl<|A0 (E8 (f:=A8) rfl rfl hx7) rfl<|A0 (F8 rfl rfl) rfl<|B8 (rs:=[.i x8.1,.i x8.2]) rfl rfl (A2 (D0 rfl) (A2 rfl (A2 (D0 rfl) B7))) ((B0d hx8).frz)<|qm rfl<|A0 (A9 rfl rfl) rfl<|A0 (A9 rfl rfl) rfl<|qm rfl<|qm rfl<|es (ra6 rfl rfl rfl rfl rfl rfl)<|s0<|oB hs4 fun x9 hx9 hs4=>A0 (D4 rfl rfl rfl) rfl<|qm rfl<|qm rfl<|B8 (rs:=[.i x9]) rfl rfl (A2 (D0 rfl) (A2 rfl (A2 rfl B7))) ((A58 hx9).frz)<|qm rfl<|es (ra7 rfl rfl rfl rfl rfl rfl rfl)<|s0<|qm rfl<|qm rfl<|A0 (C8u rfl rfl) rfl<|qm rfl<|es (ra7 rfl rfl rfl rfl rfl rfl rfl)<|s0<|qm rfl<|A0 (J1 rfl rfl) rfl<|qm rfl<|gp 8 50 (.b ((decide (x9 < 0)) && ((decide (s4.2.1 < 0)) || (decide (x8.2 < s4.2.1))))) 42 rfl rfl (fun hg10=>?_) (fun hg10=>?_) ?_
    ·refine gT rfl hg10<|qm rfl<|gT rfl hg10<|A0 (J1 rfl rfl) rfl<|gT rfl hg10<|qm rfl<|gq 4 49 (.b ((decide (s4.2.1 < 0)) || (decide (x8.2 < s4.2.1)))) 45 rfl rfl (fun hg11=>?_) (fun hg11=>?_) ?_
     ·exact nF rfl hg11 rfl<|nF rfl hg11 rfl<|nF rfl hg11 rfl<|gT rfl hg10<|A0 (C8 rfl hg11 rfl) rfl<|ge 4 (by rw [hg11]; rfl) rfl rfl
     ·exact gF rfl hg11<|qm rfl<|gF rfl hg11<|qm rfl<|gF rfl hg11<|A0 (J1 rfl rfl) rfl<|gT rfl hg10<|A0 (C7 rfl hg11 rfl) rfl<|ge 4 (by rw [hg11]; rfl) rfl rfl
     exact A0 (C8 rfl hg10 rfl) rfl<|ge 5 (by rw [hg10]; rfl) rfl rfl
    ·exact nT rfl hg10 rfl<|nT rfl hg10 rfl<|nT rfl hg10 rfl<|nX rfl rfl<|nX rfl rfl<|nX rfl rfl<|nT rfl hg10 rfl<|A0 (C7 rfl hg10 rfl) rfl<|ge 8 (by rw [hg10]; rfl) rfl rfl
    refine es (ra7 rfl rfl rfl rfl rfl rfl rfl)<|wi hs4 rfl (fun hc12 hs4=>?_) fun hc12 hs4=>?_
    ·refine r0<|qm rfl<|qm rfl<|en (ra5 rfl rfl rfl rfl rfl)<|r0<|qm rfl<|A0 (F4 rfl rfl) rfl<|qm rfl<|en (ra5 rfl rfl rfl rfl rfl) ?_
     cases hs4
     exact lnT () rfl (su5 rfl rfl rfl rfl rfl)
    ·refine C3<|r0<|qm rfl<|A0 (F4 rfl rfl) rfl<|qm rfl<|en (ra5 rfl rfl rfl rfl rfl) ?_
     cases hs4
     exact lnT () rfl (su5 rfl rfl rfl rfl rfl)
   ·refine G9 ?_
    obtain rfl:=os hs4
    exact lx rfl px (su2 rfl rfl)
  ·rintro e s' H' - ⟨rfl,rfl,rfl⟩
   refine s0<|qm rfl<|qm rfl<|qm rfl<|qm rfl<|es (ra2 rfl rfl)<|C5 ?_
   obtain rfl:=os h
   exact retq trivial (A6 rfl (A6 rfl B6)) (A4 rfl (A4 rfl B5)) (A3 A5 (A3 A5 A7))
def A3r (a0:PaShow) (a1:(List PaUse)) (a2:Int):Option (Int × Int) :=
 (U5 a0 a1).bind fun x1 =>
 (if (x1 == 0) = true then
  (L9 a2 0 364).bind fun x3 =>
  some (!x3)
 else
  some false).bind fun x4 =>
 (if x4 = true then
  some 7
  else
  some x1).bind fun (p5:Int) =>
 if (p5 != 0) = true then
  some (0,p5)
 else
  (A1p a0 a1 a2).bind fun x8 =>
  some (x8,0)
theorem B7h {c:Sc} {H:A1} {a0:PaShow} {a1:(List PaUse)} {a2:Int} {r:(Int × Int)} (h:A3r a0 a1 a2 = some r) :
  E0 tab c H (.fn (.func 21) [] []) [(.agg (B2 a0)),(.seq 3 (List.map A8 a1)),.i a2] [.i r.1,.i r.2]:= by
 unfold A3r at h
 refine cE rfl rfl<|sg 0 rfl<|A0 (E7 (cs:=B2 a0) rfl rfl rfl) rfl<|qm rfl<|qm rfl<|es (ra3 rfl rfl rfl)<|s0<|oB h fun x1 hx1 h=>A0 (D4 rfl rfl rfl) rfl<|qm rfl<|B8 (rs:=[.i x1]) rfl rfl (A2 (D0 rfl) (A2 rfl B7)) ((A2y hx1).frz)<|qm rfl<|es (ra4 rfl rfl rfl rfl)<|C4<|s0<|oB h fun x4 hx4 h=>qm rfl<|A0 (G2 rfl rfl) rfl<|qm rfl<|gp 4 18 (.b x4) 14 rfl rfl (fun hg2=>?_) (fun hg2=>?_) ?_
 ·refine oB (bt hx4 hg2) fun x3 hx3 hx4=>?_
  obtain rfl:=os hx4
  exact gT rfl hg2<|qm rfl<|gT rfl hg2<|B8 (rs:=[.b x3]) rfl rfl (A2 rfl (A2 rfl (A2 rfl B7))) ((I6 hx3).frz)<|gT rfl hg2<|A0 (P8 rfl) rfl<|A0 (C8 rfl hg2 rfl) rfl<|ge 4 rfl rfl rfl
 ·obtain rfl:=os (bf hx4 hg2)
  exact nT rfl hg2 rfl<|I1 (E2 rfl (by rw [hg2]; rfl)) rfl<|nT rfl hg2 rfl<|A0 (C7 rfl hg2 rfl) rfl<|ge 4 rfl rfl rfl
 refine es (ra5 rfl rfl rfl rfl rfl)<|oB h fun p5 hp5 h=>A7p (Q1:=fun e s' H'=>e = .normal∧s' = [(1,(.seq 3 (List.map A8 a1))),(2,.i a2),(3,(.ptr (H.length + 0) 0)),(8,.i p5)]∧H' = (H++[(.cells (B2 a0))])) ?_ ?_
 ·refine wi hp5 rfl (fun hc6 hp5=>?_) fun hc6 hp5=>?_
  ·refine r0<|qm rfl<|en (ra4 rfl rfl rfl rfl) ?_
   obtain rfl:=os hp5
   exact me (And.intro rfl (And.intro rfl rfl)) (su4 rfl rfl rfl rfl)
  ·refine C3 ?_
   obtain rfl:=os hp5
   exact me (And.intro rfl (And.intro rfl rfl)) (su4 rfl rfl rfl rfl)
 ·rintro e s' H' ⟨rfl,rfl,rfl⟩
  refine C4<|s0<|qm rfl<|A0 (J4 rfl rfl) rfl<|es (ra5 rfl rfl rfl rfl rfl)<|wi h rfl (fun hc7 h=>?_) fun hc7 h=>?_
  ·refine s0<|qm rfl<|qm rfl<|qm rfl<|es (ra2 rfl rfl)<|C5 ?_
   obtain rfl:=os h
   exact retq trivial (A6 rfl (A6 rfl B6)) (A4 rfl (A4 rfl B5)) (A3 A5 (A3 A5 A7))
  ·refine C3<|s0<|oB h fun x8 hx8 h=>A0 (D4 rfl rfl rfl) rfl<|qm rfl<|qm rfl<|B8 (rs:=[.i x8]) rfl rfl (A2 (D0 rfl) (A2 rfl (A2 rfl B7))) ((A58 hx8).frz)<|qm rfl<|qm rfl<|es (ra2 rfl rfl)<|C5 ?_
   obtain rfl:=os h
   exact retq trivial (A6 rfl (A6 rfl B6)) (A4 rfl (A4 rfl B5)) (A3 A5 (A3 A5 A7))
def A3s (a0:PaShow) (a1:(List PaUse)):Option (Int × Int) :=
 (U5 a0 a1).bind fun x1 =>
 if (x1 != 0) = true then
  some (0,x1)
 else
  (A3p a0 a1).bind fun x3 =>
  if (decide (x3.2 < 0)) = true then
  some (0,4)
  else
  some (x3.2,0)
theorem B7i {c:Sc} {H:A1} {a0:PaShow} {a1:(List PaUse)} {r:(Int × Int)} (h:A3s a0 a1 = some r) :
  E0 tab c H (.fn (.func 23) [] []) [(.agg (B2 a0)),(.seq 3 (List.map A8 a1))] [.i r.1,.i r.2]:= by
 unfold A3s at h
 refine cE rfl rfl<|sg 0 rfl<|A0 (E7 (cs:=B2 a0) rfl rfl rfl) rfl<|qm rfl<|qm rfl<|es (ra2 rfl rfl)<|s0<|oB h fun x1 hx1 h=>A0 (D4 rfl rfl rfl) rfl<|qm rfl<|B8 (rs:=[.i x1]) rfl rfl (A2 (D0 rfl) (A2 rfl B7)) ((A2y hx1).frz)<|qm rfl<|es (ra3 rfl rfl rfl)<|C4<|s0<|qm rfl<|A0 (J4 rfl rfl) rfl<|es (ra4 rfl rfl rfl rfl)<|wi h rfl (fun hc2 h=>?_) fun hc2 h=>?_
 ·refine s0<|qm rfl<|qm rfl<|qm rfl<|es (ra2 rfl rfl)<|C5 ?_
  obtain rfl:=os h
  exact retq trivial (A6 rfl (A6 rfl B6)) (A4 rfl (A4 rfl B5)) (A3 A5 (A3 A5 A7))
 ·refine C3<|s0<|oB h fun x3 hx3 h=>A0 (D4 rfl rfl rfl) rfl<|qm rfl<|B8 (rs:=[.i x3.1,.i x3.2]) rfl rfl (A2 (D0 rfl) (A2 rfl B7)) ((B7f hx3).frz)<|qm rfl<|A0 (A9 rfl rfl) rfl<|A0 (A9 rfl rfl) rfl<|qm rfl<|qm rfl<|es (ra1 rfl)<|C4<|s0<|qm rfl<|A0 (J1 rfl rfl) rfl<|es (ra2 rfl rfl)<|wi h rfl (fun hc4 h=>?_) fun hc4 h=>?_
  ·refine s0<|qm rfl<|qm rfl<|es (ra2 rfl rfl)<|C5 ?_
   obtain rfl:=os h
   exact retq trivial (A6 rfl (A6 rfl B6)) (A4 rfl (A4 rfl B5)) (A3 A5 (A3 A5 A7))
  ·refine C3<|s0<|qm rfl<|qm rfl<|qm rfl<|es (ra2 rfl rfl)<|C5 ?_
   obtain rfl:=os h
   exact retq trivial (A6 rfl (A6 rfl B6)) (A4 rfl (A4 rfl B5)) (A3 A5 (A3 A5 A7))
end Pw
end
section
namespace Pw
open Go Am
theorem C9x {α:Type} [Inhabited α] (l:List α) (p:α→Bool) {b:Int→Option (Int ⊕ (Bool ⊕ Unit))} (hl:l.length < 9223372036854775808)
  (hb:∀i:Nat,i < l.length→b i = some (if p l[i]! then .inr (.inl true) else .inl (w64 ((i:Int) + 1)))) (he:b l.length = some (.inr (.inr ()))) :
  ∃ o,loop b 0 = some o∧(match o with | .inl v=>v = true∧l.any p = true | .inr _=>l.any p = false):= by
 have h:=A9l (b:=b) l.length (fun i=>if p l[i]! then some (.inl true) else none) (.inr ()) hl (fun i hi _=>by
  rw [hb i hi]; cases p l[i]! <;> rfl) he
 refine ⟨_,h,?_⟩
 have ha:=B9e l p
 cases hf:first (fun i=>if p l[i]! then some (Sum.inl true:Bool ⊕ Unit) else none) l.length with
 | none =>
  have h0:=J0.mp hf
  rw [J0.mpr fun i hi=>by
   have:=h0 i hi
   cases hp:p l[i]! with
   | false=>rfl
   | true=>rw [hp] at this; exact absurd this (by simp)] at ha
  simpa using ha.symm
 | some r =>
  obtain ⟨i,hi,h1,h2⟩:=R8 hf
  cases hp:p l[i]! with
  | false=>rw [hp] at h1; exact absurd h1 (by simp)
  | true =>
   rw [hp] at h1
   have h1:some (Sum.inl true) = some r:=h1
   obtain rfl:=Option.some.inj h1
   refine ⟨rfl,?_⟩
   rw [A6h (r:=(i:Int)) hi (by rw [hp]; rfl) fun j hj=>by
    have:=h2 j hj
    cases hq:p l[j]! with
    | false=>rfl
    | true=>rw [hq] at this; exact absurd this (by simp)] at ha
   exact ha.symm
theorem C14 {p:List PaUse} {i:Nat} (hi:i < p.length) (hl:p.length≤100):A3u p (i:Int) = some (twP p i):= by
 unfold A3u twP
 have hlen:(p.take i).length = i:= by rw [List.length_take]; omega
 obtain ⟨o,ho,hc⟩:=C9x (p.take i) (fun x=>(p[i]!.Gown != -1) && (x.Gown == p[i]!.Gown)) (b:=A0f p (i:Int)) (by omega) (fun k hk=>by
  rw [hlen] at hk
  have hkp:k < p.length:= by omega
  have e:(p.take i)[k]! = p[k]!:= by
   rw [getElem!_pos (p.take i) k (by rw [hlen]; exact hk),getElem!_pos p k hkp,List.getElem_take]
  unfold A0f
  rw [if_pos (by simpa using hk),K4 hi,K4 hkp,e]
  simp only [Option.bind_some]
  cases p[i]!.Gown != -1
  ·rfl
  ·cases p[k]!.Gown == p[i]!.Gown <;> rfl) (by
  rw [hlen]
  unfold A0f
  rw [if_neg (by simp)])
 rw [ho]
 have hany:(p.take i).any (fun x=>(p[i]!.Gown != -1) && (x.Gown == p[i]!.Gown)) = ((p[i]!.Gown != -1) && (p.take i).any fun x=>x.Gown == p[i]!.Gown):= by
  cases p[i]!.Gown != -1
  ·simp
  ·simp
 rw [hany] at hc
 rcases o with v | u
 ·rw [hc.2,hc.1]; rfl
 ·rw [hc]; rfl
theorem C4a {s:PaShow} (hs:ShOk s) (p:List PaUse):A47 s p = some (C0m s p):= by
 have hle2:=hs.figures
 unfold A47 C0m
 by_cases hl:p.length = s.Figures.length
 ·rw [if_neg (by simp [hl]),if_neg (by simp [hl])]
  rw [A2t (b:=A1c s p) p.length (ucode s p) (fun x=>.inl x.2) (.inr ()) (by omega) (fun i hi=>by
   unfold A1c
   rw [if_pos (by simpa using hi),K4 hi]
   simp only [Option.bind_some]
   rw [B7x hs (f:=(i:Int)) (by omega),Int.toNat_natCast]
   simp only [Option.bind_some]
   rw [C14 hi (by omega)]
   unfold ucode
   generalize A3c s.Gowns s.Figures[i]! p[i]! = e
   by_cases h4:e = 4
   ·subst h4; rfl
   ·have e1:(e != 4) = true:= by simpa using h4
    rw [e1]
    cases twP p i
    ·simp only [if_true,Option.bind_some,Bool.false_eq_true,if_false,and_false]
     by_cases h0:e = 0
     ·subst h0; rfl
     ·have e2:(e != 0) = true:= by simpa using h0
      have e3:(e == 0) = false:= by simpa using h0
      simp [e2,e3]
    ·simp [h4]) (by
   unfold A1c
   rw [if_neg (by simp)])]
  cases hw:wrong (ucode s p) p.length with
  | some x=>rfl
  | none=>rfl
 ·rw [if_pos (by simp; omega),if_pos hl]
theorem A5a (s:PaShow) (p:List PaUse):U5 s p = some (L8 s p):= by
 unfold U5 L8
 rw [A0r]
 simp only [Option.bind_some]
 by_cases h:(chk s).2.2 = 0
 ·rw [if_pos (by simpa using h),if_neg (by simpa using h),C4a ((A14 s).mp h)]
  rfl
 ·rw [if_neg (by simpa using h),if_pos h]
theorem B4x {s:PaShow} (hs:ShOk s) {f:Int} (hf:0≤f∧f < s.Figures.length) {x:PaUse} (h:A3c s.Gowns s.Figures[f.toNat]! x = 0):A27 s f x = some (A90 s.Gowns s.Figures[f.toNat]! x):= by
 have hy:=hs.figure _ (N4 (l:=s.Figures) (i:=f.toNat) (by omega))
 unfold A27
 rcases B8g.mp h with rfl | h
 ·rfl
 ·have h1:=h.lo
  have h2:=h.hi
  have hg:=hs.gown _ (N4 (l:=s.Gowns) (i:=x.Gown.toNat) (by omega))
  have hfm:=h.form
  rw [if_neg (by simp; omega),Y5 (l:=s.Gowns) h1 h2,Y5 (l:=s.Figures) hf.1 hf.2]
  unfold A90
  have hne:¬ x.Gown = -1:= by omega
  simp only [hne,if_false]
  generalize s.Figures[f.toNat]! = y at hy
  generalize s.Gowns[x.Gown.toNat]! = g at hg hfm
  rcases form1 hfm with ⟨_,hh,hd⟩ | ⟨_,⟨hh,hd⟩ | ⟨hh,hd⟩⟩
  ·rw [hh]; rfl
  ·rw [hh]
   simp only [Option.bind_some]
   rw [B7w hg hy]
   rfl
  ·rw [hh]
   simp only [Option.bind_some]
   rw [B2m hg hd]
   rfl
theorem B6n:∀(l:List (Int × Int)) (d t:Int),l.foldl (fun a (x:Int × Int)=>a - if x.2≤d then x.1 else 0) t = t - A1r l d
 | [],d,t=>by simp [A1r,sm]
 | x :: l,d,t=>by rw [List.foldl_cons,B6n l]; simp only [A1r,List.map_cons,sm]; omega
theorem C7z {s:PaShow} (hs:ShOk s) (d:Int) (i:Nat):0≤A1r ((incs s).take i) d∧A1r ((incs s).take i) d≤300000:= by
 have:=A7o (l:=(incs s).take i) (fun x hx=>(A9h hs x (List.mem_of_mem_take hx)).1) d
 rw [List.length_take,X2] at this
 have:=hs.incomes
 omega
theorem D4j {s:PaShow} (hs:ShOk s) {p:List PaUse} (h:PlU s p) (d:Int) (i:Nat):0≤A1r ((pays s p).take i) d∧A1r ((pays s p).take i) d≤300000:= by
 have:=A7o (l:=(pays s p).take i) (fun x hx=>(A5t hs h x (List.mem_of_mem_take hx)).1) d
 rw [List.length_take,N9 h] at this
 have:=hs.figures
 have:=h.len
 omega
theorem A8y {s:PaShow} (hs:ShOk s) {p:List PaUse} (h:PlU s p) (d:Int):A1p s p d = some (L6 s p d):= by
 have hin:=hs.incomes
 have hfl:=hs.figures
 have hlen:=h.len
 have hpu:=hs.purse
 unfold A1p
 have e1:loop (A09 s d) (s.Purse,0) = some (s.Purse + A1r (incs s) d):= by
  refine A2s (incs s) (fun a (x:Int × Int)=>a + if x.2≤d then x.1 else 0) s.Purse (fun i t=>(t,(i:Int))) (by rw [X2]; omega) (fun i hi=>?_) ?_
  ·rw [X2] at hi
   have hx:=(A9h hs _ (N4 (l:=incs s) (i:=i) (by rw [X2]; exact hi))).1
   rw [C3f hi] at hx ⊢
   rw [C0u]
   have:=C7z hs d i
   unfold A09
   rw [if_pos (by simpa using hi),K4 hi]
   simp only [Option.bind_some]
   rw [H9 (n:=(i:Int) + 1) (by omega)]
   by_cases hd:s.Incomes[i]!.Day≤d
   ·rw [if_pos (decide_eq_true hd),if_pos hd,H9 (by omega)]; rfl
   ·rw [if_neg (by simpa using hd),if_neg hd,Int.add_zero]; rfl
  ·rw [B1o,X2]
   unfold A09
   rw [if_neg (by simp)]
   rfl
 rw [e1]
 simp only [Option.bind_some]
 have hI:=C7z hs d (incs s).length
 rw [List.take_length] at hI
 have e2:loop (A1a s p d) (s.Purse + A1r (incs s) d,0) = some (L6 s p d):= by
  refine A2s (pays s p) (fun a (x:Int × Int)=>a - if x.2≤d then x.1 else 0) (s.Purse + A1r (incs s) d) (fun i t=>(t,(i:Int))) (by rw [N9 h]; omega) (fun i hi=>?_) ?_
  ·rw [N9 h] at hi
   have hx:=(A5t hs h _ (N4 (l:=pays s p) (i:=i) (by rw [N9 h]; exact hi))).1
   rw [B6n,A8t h hi] at *
   have:=D4j hs h d i
   unfold A1a
   simp only []
   rw [if_pos (by simpa using hi),K4 hi]
   simp only [Option.bind_some]
   rw [B4x hs (f:=(i:Int)) (by omega) (by rw [Int.toNat_natCast]; exact h.use i hi),Int.toNat_natCast]
   simp only [Option.bind_some]
   rw [H9 (n:=(i:Int) + 1) (by omega)]
   generalize A90 s.Gowns s.Figures[i]! p[i]! = z at hx
   by_cases hd:z.2≤d
   ·rw [if_pos (decide_eq_true hd),if_pos hd,H9 (by omega)]; rfl
   ·rw [if_neg (by simpa using hd),if_neg hd,Int.sub_zero]; rfl
  ·unfold A1a
   simp only []
   rw [N9 h,if_neg (by simp),B6n]; rfl
 rw [e2]; rfl
abbrev lsF (F:Int→Int) (a:Int × Int) (x:Int × Int):Int × Int:=(A6m a.1 (F x.2),if F x.2 < 0∧(a.2 < 0∨x.2 < a.2) then x.2 else a.2)
theorem C7i (F:Int→Int):∀(l:List (Int × Int)) (t:Int × Int),(∀ x ∈ l,0≤x.2)→∀ r,r = l.foldl (lsF F) t →
  r.1≤t.1∧(∀ x ∈ l,r.1≤F x.2)∧(r.1 = t.1∨∃ x ∈ l,F x.2 = r.1) ∧
  ((r.2 < 0∧t.2 < 0∧∀ x ∈ l,0≤F x.2)∨(0≤r.2∧(r.2 = t.2∨∃ x ∈ l,F x.2 < 0∧x.2 = r.2)∧(∀ x ∈ l,F x.2 < 0→r.2≤x.2)∧(t.2 < 0∨r.2≤t.2)))
 | [],t,_,r,h=>by
  rw [List.foldl_nil] at h
  rw [h]
  refine ⟨Int.le_refl _,by simp,.inl rfl,?_⟩
  by_cases ht:t.2 < 0
  ·exact .inl ⟨ht,ht,by simp⟩
  ·exact .inr ⟨by omega,.inl rfl,by simp,.inr (Int.le_refl _)⟩
 | x :: l,t,hd,r,h=>by
  rw [List.foldl_cons] at h
  obtain ⟨h1,h2,h3,h4⟩:=C7i F l _ (fun y hy=>hd y (List.mem_cons_of_mem _ hy)) r h
  have hx0:=hd x (List.mem_cons_self ..)
  simp only [lsF] at h1 h3 h4
  have m1:A6m t.1 (F x.2)≤t.1∧A6m t.1 (F x.2)≤F x.2∧(A6m t.1 (F x.2) = t.1∨A6m t.1 (F x.2) = F x.2):= by unfold A6m; split <;> omega
  refine ⟨by omega,?_,?_,?_⟩
  ·intro y hy
   rcases List.mem_cons.mp hy with rfl | hy
   ·omega
   ·exact h2 y hy
  ·rcases h3 with h3 | ⟨y,hy,e⟩
   ·rcases m1.2.2 with e | e
    ·left; omega
    ·exact .inr ⟨x,List.mem_cons_self ..,by omega⟩
   ·exact .inr ⟨y,List.mem_cons_of_mem _ hy,e⟩
  ·by_cases hc:F x.2 < 0∧(t.2 < 0∨x.2 < t.2)
   ·rw [if_pos hc] at h4
    rcases h4 with ⟨_,h5,_⟩ | ⟨h5,h6,h7,h8⟩
    ·omega
    ·refine .inr ⟨h5,?_,?_,by omega⟩
     ·rcases h6 with e | ⟨y,hy,hf,e⟩
      ·exact .inr ⟨x,List.mem_cons_self ..,hc.1,e.symm⟩
      ·exact .inr ⟨y,List.mem_cons_of_mem _ hy,hf,e⟩
     ·intro y hy hf
      rcases List.mem_cons.mp hy with rfl | hy
      ·omega
      ·exact h7 y hy hf
   ·rw [if_neg hc] at h4
    rcases h4 with ⟨h5,h6,h7⟩ | ⟨h5,h6,h7,h8⟩
    ·refine .inl ⟨h5,h6,fun y hy=>?_⟩
     rcases List.mem_cons.mp hy with rfl | hy
     ·omega
     ·exact h7 y hy
    ·refine .inr ⟨h5,?_,?_,h8⟩
     ·rcases h6 with e | ⟨y,hy,hf,e⟩
      ·exact .inl e
      ·exact .inr ⟨y,List.mem_cons_of_mem _ hy,hf,e⟩
     ·intro y hy hf
      rcases List.mem_cons.mp hy with rfl | hy
      ·by_cases ht:t.2 < 0
       ·exact absurd ⟨hf,.inl ht⟩ hc
       ·have:t.2≤y.2:= by
         by_cases hlt:y.2 < t.2
         ·exact absurd ⟨hf,.inr hlt⟩ hc
         ·omega
        exact Int.le_trans (h8.resolve_left ht) this
      ·exact h7 y hy hf
def A2a (s:PaShow) (p:List PaUse):Int × Int:=(pays s p).foldl (lsF (L6 s p)) (L6 s p 0,if L6 s p 0 < 0 then 0 else -1)
theorem C1y {s:PaShow} (hs:ShOk s) {p:List PaUse} (h:PlU s p):A3p s p = some (A2a s p):= by
 have hfl:=hs.figures
 have hlen:=h.len
 unfold A3p
 rw [A8y hs h]
 simp only [Option.bind_some]
 have e0:(if decide (L6 s p 0 < 0) = true then some 0 else some (-1):Option Int) = some (if L6 s p 0 < 0 then 0 else -1):= by
  by_cases hc:L6 s p 0 < 0
  ·rw [if_pos (decide_eq_true hc),if_pos hc]
  ·rw [if_neg (by simpa using hc),if_neg hc]
 rw [e0]
 simp only [Option.bind_some]
 have e1:loop (A0d s p) (L6 s p 0,(if L6 s p 0 < 0 then 0 else -1),0) = some (A2a s p):= by
  refine A2s (pays s p) (lsF (L6 s p)) (L6 s p 0,if L6 s p 0 < 0 then 0 else -1) (fun i t=>(t.1,t.2,(i:Int))) (by rw [N9 h]; omega) (fun i hi=>?_) ?_
  ·rw [N9 h] at hi
   rw [A8t h hi]
   generalize ((pays s p).take i).foldl (lsF (L6 s p)) (L6 s p 0,if L6 s p 0 < 0 then 0 else -1) = t
   unfold A0d
   simp only []
   rw [if_pos (by simpa using hi),K4 hi]
   simp only [Option.bind_some]
   rw [B4x hs (f:=(i:Int)) (by omega) (by rw [Int.toNat_natCast]; exact h.use i hi),Int.toNat_natCast]
   simp only [Option.bind_some]
   rw [A8y hs h]
   simp only [Option.bind_some]
   rw [H9 (n:=(i:Int) + 1) (by omega)]
   generalize A90 s.Gowns s.Figures[i]! p[i]! = z
   by_cases hd:L6 s p z.2 < 0∧(t.2 < 0∨z.2 < t.2)
   ·rw [if_pos (by simpa using hd),if_pos hd]; rfl
   ·rw [if_neg (by simpa using hd),if_neg hd]; rfl
  ·rw [N9 h]
   unfold A0d
   simp only []
   rw [if_neg (by simp)]
   rfl
 rw [e1]; rfl
theorem left0 {s:PaShow} (hs:ShOk s) {p:List PaUse} (h:PlU s p) (hl:L6 s p 0 < 0):∃x ∈ pays s p,x.2 = 0:= by
 refine Classical.byContradiction fun hn=>?_
 have h0:A1r (pays s p) 0 = 0:= by
  unfold A1r
  refine D4e fun x hx=>?_
  have h1:=(A5t hs h x hx).2
  have h2:¬ x.2≤0:=fun hc=>hn ⟨x,hx,by omega⟩
  rw [if_neg h2]
 have h1:=A7o (fun x hx=>(A9h hs x hx).1) 0
 have h2:=hs.purse
 unfold L6 at hl
 omega
theorem C4o {s:PaShow} (hs:ShOk s) {p:List PaUse} (h:PlU s p):((T0 s p).1 = 0↔(A2a s p).2 < 0)∧((A2a s p).2 < 0∨(T0 s p).2 = (A2a s p).2)∧((T0 s p).1 = 0↔0≤(A2a s p).1)∧((A2a s p).1 < 0→(T0 s p).1 = -(A2a s p).1):= by
 obtain ⟨a1,a2,a3,a4,a5,a6⟩:=C6b s p
 obtain ⟨b1,b2,b3,b4⟩:=C7i (L6 s p) (pays s p) _ (fun x hx=>(A5t hs h x hx).2.1) _ rfl
 rw [show (pays s p).foldl (lsF (L6 s p)) (L6 s p 0,if L6 s p 0 < 0 then 0 else -1) = A2a s p from rfl] at b1 b2 b3 b4
 simp only at b1 b3 b4
 rcases b4 with ⟨c1,c2,c3⟩ | ⟨c1,c2,c3,c4⟩
 ·have hz:(T0 s p).1 = 0:= by
   rcases a3 with e | ⟨x,hx,hf,_⟩
   ·exact e
   ·have:=c3 x hx; omega
  have hl0:0≤L6 s p 0:= by
   by_cases hc:L6 s p 0 < 0
   ·rw [if_pos hc] at c2; omega
   ·omega
  have hm:0≤(A2a s p).1:= by
   rcases b3 with e | ⟨x,hx,e⟩
   ·omega
   ·have:=c3 x hx; omega
  exact ⟨⟨fun _=>c1,fun _=>hz⟩,.inl c1,⟨fun _=>hm,fun _=>hz⟩,fun hc=>by omega⟩
 ·have hx:∃x ∈ pays s p,L6 s p x.2 < 0∧x.2 = (A2a s p).2:= by
   rcases c2 with e | hx
   ·by_cases hc:L6 s p 0 < 0
    ·rw [if_pos hc] at e
     obtain ⟨x,hx,hx0⟩:=left0 hs h hc
     exact ⟨x,hx,by rw [hx0]; exact hc,by omega⟩
    ·rw [if_neg hc] at e; omega
   ·exact hx
  obtain ⟨x,hx,hf,e⟩:=hx
  have g1:=a2 x hx hf
  have g2:=a5 x hx hf
  have g3:=(A5t hs h x hx).2
  have hm:=b2 x hx
  have hday:(T0 s p).2 = (A2a s p).2:= by
   rcases a6 with e6 | ⟨y,hy,hfy,ey⟩
   ·omega
   ·have:=c3 y hy hfy; omega
  refine ⟨⟨fun _=>by omega,fun _=>by omega⟩,.inr hday,⟨fun _=>by omega,fun _=>by omega⟩,fun hneg=>?_⟩
  have hle:-(A2a s p).1≤(T0 s p).1:= by
   rcases b3 with eb | ⟨y,hy,eb⟩
   ·have hc:L6 s p 0 < 0:= by omega
    obtain ⟨z,hz,hz0⟩:=left0 hs h hc
    have:=a2 z hz (by rw [hz0]; exact hc)
    rw [hz0] at this; omega
   ·have:=a2 y hy (by omega); omega
  rcases a3 with e3 | ⟨y,hy,hfy,ey⟩
  ·omega
  ·have:=b2 y hy; omega
def B3z (s:PaShow) (p:List PaUse) (d:Int):Int:=if L8 s p ≠ 0 then L8 s p else if out 0 364 d then 7 else 0
theorem A1n {s:PaShow} {p:List PaUse} (h:L8 s p = 0):ShOk s∧PlOk s p:= by
 unfold L8 at h
 split at h
 ·next h2=>exact absurd h h2
 ·next h2=>exact ⟨(A14 s).mp (by simpa using h2),C52.mp h⟩
theorem C9q (s:PaShow) (hb:NB s) (p:List PaUse) (d:Int):A21 s p d = some (if B3z s p d = 0 then L6 s p d else 0,B3z s p d):= by
 unfold A21
 rw [B04 s hb]
 simp only [Option.bind_some]
 unfold B3z
 by_cases h:L8 s p = 0
 ·obtain ⟨hs,hp⟩:=A1n h
  simp only [h,if_true,ne_eq,not_true,if_false,BEq.rfl,out1,Option.bind_some]
  cases out 0 364 d with
  | true=>rfl
  | false =>
   rw [show (pawn_show.mk s (Ar3.mk (pawn_way.mk ) (pawn_way.mk ) (pawn_way.mk )) (A2i s)) = shw s (A2i s) from rfl,C7f hs _ hp.u]
   rfl
 ·rw [if_neg (by simpa using h),if_pos h,if_neg h]
theorem C10 (s:PaShow) (p:List PaUse) (d:Int):A3r s p d = some (if B3z s p d = 0 then L6 s p d else 0,B3z s p d):= by
 unfold A3r
 rw [A5a]
 simp only [Option.bind_some]
 unfold B3z
 by_cases h:L8 s p = 0
 ·obtain ⟨hs,hp⟩:=A1n h
  simp only [h,if_true,ne_eq,not_true,if_false,BEq.rfl,A2q,Option.bind_some,Bool.not_not]
  cases out 0 364 d with
  | true=>rfl
  | false =>
   rw [A8y hs hp.u]
   rfl
 ·have h':(L8 s p == 0) = false:= by simpa using h
  simp only [h',Bool.false_eq_true,if_false,Option.bind_some]
  rw [if_pos (by simpa using h),if_pos h,if_neg h]
def B33 (s:PaShow) (p:List PaUse):Int:=if L8 s p ≠ 0 then L8 s p else if (T0 s p).1 = 0 then 4 else 0
theorem C9r (s:PaShow) (hb:NB s) (p:List PaUse):A1m s p = some (if B33 s p = 0 then (T0 s p).2 else 0,B33 s p):= by
 unfold A1m
 rw [B04 s hb]
 simp only [Option.bind_some]
 unfold B33
 by_cases h:L8 s p = 0
 ·obtain ⟨hs,hp⟩:=A1n h
  simp only [h,if_true,ne_eq,not_true,if_false,BEq.rfl]
  rw [show (pawn_show.mk s (Ar3.mk (pawn_way.mk ) (pawn_way.mk ) (pawn_way.mk )) (A2i s)) = shw s (A2i s) from rfl,D2b hs _ hp.u]
  simp only [Option.bind_some]
  by_cases hz:(T0 s p).1 = 0
  ·rw [if_pos (by simpa using hz),if_pos hz]; rfl
  ·rw [if_neg (by simpa using hz),if_neg hz]; rfl
 ·rw [if_neg (by simpa using h),if_pos h,if_neg h]
theorem C11 (s:PaShow) (p:List PaUse):A3s s p = some (if B33 s p = 0 then (T0 s p).2 else 0,B33 s p):= by
 unfold A3s
 rw [A5a]
 simp only [Option.bind_some]
 unfold B33
 by_cases h:L8 s p = 0
 ·obtain ⟨hs,hp⟩:=A1n h
  obtain ⟨g1,g2,_⟩:=C4o hs hp.u
  simp only [h,ne_eq,not_true,if_false]
  rw [if_neg (by decide),C1y hs hp.u]
  simp only [Option.bind_some]
  by_cases hz:(T0 s p).1 = 0
  ·rw [if_pos (decide_eq_true (g1.mp hz)),if_pos hz]; rfl
  ·have hn:¬ (A2a s p).2 < 0:=fun hc=>hz (g1.mpr hc)
   rw [if_neg (by simpa using hn),if_neg hz,g2.resolve_left hn]; rfl
 ·rw [if_pos (by simpa using h),if_pos h,if_neg h]
end Pw
end
section
set_option maxRecDepth 100000
set_option maxHeartbeats 0
namespace Pw
open Go Am Go.Proofs.YtjpjdglddmhplaaGreat.Cd
def A1b (a1:(List PaUse)) (s3:(Int × (List Int))) (s10:(Bool × Int)):Option ((Bool × Int) ⊕ Bool) :=
 if (decide (s10.2 < (List.length a1:Int))) = true then
  (if s10.1 = true then
  some true
  else
  (idx a1 s10.2).bind fun x14 =>
  (if (x14.Gown == s3.1) = true then
   (idx a1 s10.2).bind fun x16 =>
   some (x16.How == 1)
  else
   some false).bind fun x17 =>
  some x17).bind fun x18 =>
  some (.inl (x18,(w64 (s10.2 + 1))))
 else
  some (.inr s10.1)
def A3i (a0:PaShow) (a1:(List PaUse)) (s3:(Int × (List Int))):Option ((Int × (List Int)) ⊕ (List Int)) :=
 if (decide (s3.1 < (List.length a0.Gowns:Int))) = true then
  (idx a0.Gowns s3.1).bind fun x6 =>
  (if (!x6.Pawn) = true then
  some true
  else
  (idx a0.Gowns s3.1).bind fun x8 =>
  some (decide (x8.Last ≥ 364))).bind fun x9 =>
  (loop (A1b a1 s3) (x9,0)).bind fun (o19:Bool) =>
  if (!o19) = true then
  (app 8 s3.2 [s3.1]).bind fun x21 =>
  some (.inl ((w64 (s3.1 + 1)),x21))
  else
  some (.inl ((w64 (s3.1 + 1)),s3.2))
 else
  some (.inr s3.2)
def A46 (a0:PaShow) (a1:(List PaUse)):Option ((List Int) × Int) :=
 (U5 a0 a1).bind fun x1 =>
 if (x1 != 0) = true then
  some (([]:List Int),x1)
 else
  (loop (A3i a0 a1) (0,([]:List Int))).bind fun (o22:(List Int)) =>
  some (o22,0)
theorem B8y {c:Sc} {H:A1} {a0:PaShow} {a1:(List PaUse)} {r:((List Int) × Int)} (h:A46 a0 a1 = some r) :
  V1 tab c H (.fn (.func 25) [] []) [(.agg (B2 a0)),(.seq 3 (List.map A8 a1))] [(.seq 1 (List.map cI r.1)),.i r.2]:= by
 unfold A46 at h
 refine cF rfl rfl<|sg 0 rfl<|A0 (E7 (cs:=B2 a0) rfl rfl rfl) rfl<|qm rfl<|qm rfl<|es (ra2 rfl rfl)<|s0<|oB h fun x1 hx1 h=>A0 (D4 rfl rfl rfl) rfl<|qm rfl<|B8 (rs:=[.i x1]) rfl rfl (A2 (D0 rfl) (A2 rfl B7)) ((A2y hx1).frz)<|qm rfl<|es (ra3 rfl rfl rfl)<|C4<|s0<|qm rfl<|A0 (J4 rfl rfl) rfl<|es (ra4 rfl rfl rfl rfl)<|wi h rfl (fun hc2 h=>?_) fun hc2 h=>?_
 ·refine s0<|qm rfl<|qm rfl<|qm rfl<|es (ra2 rfl rfl)<|C5 ?_
  obtain rfl:=os h
  refine Exists.intro [(.seq 1 (List.map cI ([]:List Int))),.i x1] (And.intro ?_ rfl)
  exact retq trivial (A6 rfl (A6 rfl B6)) (A4 rfl (A4 rfl B5)) (A3 K1 (A3 A5 A7))
 ·refine C3<|sg 1 rfl<|A0 A5r rfl<|es (ra3 rfl rfl rfl)<|C4<|s0<|qm rfl<|es (ra4 rfl rfl rfl rfl)<|C6<|oB h fun o22 ho22 h=>wl (fun s3=>[(1,(.seq 3 (List.map A8 a1))),(2,(.ptr (H.length + 0) 0)),(7,(.asl (H.length + 1) (List.length s3.2))),(8,.i s3.1)]) (fun (q4:Unit) s3=>[(.cells (B2 a0)),(.arr 1 false (List.map cI s3.2))]) 2 (fun r e s' H'=>PX 0 [(7,(.asl (H.length + 1) (List.length r)))] (H++[(.cells (B2 a0)),(.arr 1 false (List.map cI r))]) e s' H') () ho22 rfl rfl (fun _ _=>rfl) (fun _=>rfl) rfl (fun s3=>(bdc K1 (bdc (M2 rfl) (bdc (A0x rfl) (bdc A5 bdn))))) (fun q4 s3 ys3 hs3=>?_) ?_
  ·unfold A3i at hs3
   refine C4<|s0<|qm rfl<|A0 (B9 rfl) rfl<|A0 (B1 rfl rfl rfl) rfl<|A0 (F9 (f:=C1) rfl) rfl<|A0 (J1 rfl rfl) rfl<|es (ra5 rfl rfl rfl rfl rfl)<|wi hs3 rfl (fun hc5 hs3=>?_) fun hc5 hs3=>?_
   ·refine C3<|C4<|C6<|s0<|oB hs3 fun x6 hx6 hs3=>oB hs3 fun x9 hx9 hs3=>A0 (B9 rfl) rfl<|A0 (B1 rfl rfl rfl) rfl<|qm rfl<|A0 (E8 (f:=C1) rfl rfl hx6) rfl<|A0 (Y6 (ds:=(List.drop 2 (C1 x6))) rfl rfl) rfl<|A0 (K6 rfl rfl) rfl<|A0 (P8 rfl) rfl<|qm rfl<|gp 8 39 (.b x9) 31 rfl rfl (fun hg7=>?_) (fun hg7=>?_) ?_
    ·obtain rfl:=os (bt hx9 hg7)
     exact nF rfl hg7 rfl<|nF rfl hg7 rfl<|nF rfl hg7 rfl<|nF rfl hg7 rfl<|nF rfl hg7 rfl<|nF rfl hg7 rfl<|nF rfl hg7 rfl<|A0 (C8 rfl hg7 rfl) rfl<|ge 8 rfl rfl rfl
    ·refine oB (bf hx9 hg7) fun x8 hx8 hx9=>?_
     obtain rfl:=os hx9
     exact gF rfl hg7<|A0 (B9 rfl) rfl<|gF rfl hg7<|A0 (B1 rfl rfl rfl) rfl<|gF rfl hg7<|qm rfl<|gF rfl hg7<|A0 (E8 (f:=C1) rfl rfl hx8) rfl<|gF rfl hg7<|A0 (Y6 (ds:=(List.drop 7 (C1 x8))) rfl rfl) rfl<|gF rfl hg7<|A0 (K6 rfl rfl) rfl<|gF rfl hg7<|A0 (A7q rfl rfl) rfl<|A0 (C7 rfl hg7 rfl) rfl<|ge 8 rfl rfl rfl
    refine qm rfl<|es (ra5 rfl rfl rfl rfl rfl)<|C4<|s0<|qm rfl<|es (ra6 rfl rfl rfl rfl rfl rfl)<|C6<|oB hs3 fun o19 ho19 hs3=>wl (fun s10=>[(1,(.seq 3 (List.map A8 a1))),(2,(.ptr (H.length + 0) 0)),(7,(.asl (H.length + 1) (List.length s3.2))),(8,.i s3.1),(9,.b s10.1),(10,.i s10.2)]) (fun (q11:Unit) s10=>[(.cells (B2 a0)),(.arr 1 false (List.map cI s3.2))]) 2 (fun r e s' H'=>PX 2 [(1,(.seq 3 (List.map A8 a1))),(2,(.ptr (H.length + 0) 0)),(7,(.asl (H.length + 1) (List.length s3.2))),(8,.i s3.1),(9,.b r)] (H++[(.cells (B2 a0)),(.arr 1 false (List.map cI s3.2))]) e s' H') () ho19 rfl rfl (fun _ _=>rfl) (fun _=>rfl) rfl (fun s10=>(bdc K1 (bdc (M2 rfl) (bdc (A0x rfl) (bdc A5 (bdc A5 (bdc A5 bdn))))))) (fun q11 s10 ys10 hs10=>?_) ?_
    ·unfold A1b at hs10
     refine C4<|s0<|qm rfl<|qm rfl<|A0 (F9 (f:=A8) rfl) rfl<|A0 (J1 rfl rfl) rfl<|es (ra7 rfl rfl rfl rfl rfl rfl rfl)<|wi hs10 rfl (fun hc12 hs10=>?_) fun hc12 hs10=>?_
     ·refine C3<|C4<|C6<|r0<|oB hs10 fun x18 hx18 hs10=>qm rfl<|qm rfl<|gp 16 63 (.b x18) 47 rfl rfl (fun hg13=>?_) (fun hg13=>?_) ?_
      ·obtain rfl:=os (bt hx18 hg13)
       exact nF rfl hg13 rfl<|nF rfl hg13 rfl<|nF rfl hg13 rfl<|nF rfl hg13 rfl<|nF rfl hg13 rfl<|nF rfl hg13 rfl<|nF rfl hg13 rfl<|nF rfl hg13 rfl<|nX rfl rfl<|nX rfl rfl<|nX rfl rfl<|nX rfl rfl<|nX rfl rfl<|nX rfl rfl<|nF rfl hg13 rfl<|A0 (C8 rfl hg13 rfl) rfl<|ge 16 rfl rfl rfl
      ·refine oB (bf hx18 hg13) fun x14 hx14 hx18=>oB hx18 fun x17 hx17 hx18=>?_
       obtain rfl:=os hx18
       refine gF rfl hg13<|qm rfl<|gF rfl hg13<|qm rfl<|gF rfl hg13<|A0 (E8 (f:=A8) rfl rfl hx14) rfl<|gF rfl hg13<|A0 (Y6 (ds:=(A8 x14)) rfl rfl) rfl<|gF rfl hg13<|A0 (K6 rfl rfl) rfl<|gF rfl hg13<|qm rfl<|gF rfl hg13<|A0 (G2 rfl rfl) rfl<|gF rfl hg13<|qm rfl<|gq 7 62 (.b x17) 55 rfl rfl (fun hg15=>?_) (fun hg15=>?_) ?_
       ·refine oB (bt hx17 hg15) fun x16 hx16 hx17=>?_
        obtain rfl:=os hx17
        exact gT rfl hg15<|qm rfl<|gT rfl hg15<|qm rfl<|gT rfl hg15<|A0 (E8 (f:=A8) rfl rfl hx16) rfl<|gT rfl hg15<|A0 (Y6 (ds:=(List.drop 1 (A8 x16))) rfl rfl) rfl<|gT rfl hg15<|A0 (K6 rfl rfl) rfl<|gT rfl hg15<|A0 (G2 rfl rfl) rfl<|gF rfl hg13<|A0 (C8 rfl hg15 rfl) rfl<|ge 7 rfl rfl rfl
       ·obtain rfl:=os (bf hx17 hg15)
        exact nT rfl hg15 rfl<|nT rfl hg15 rfl<|nT rfl hg15 rfl<|nT rfl hg15 rfl<|nT rfl hg15 rfl<|nT rfl hg15 rfl<|gF rfl hg13<|A0 (C7 rfl hg15 rfl) rfl<|ge 7 rfl rfl rfl
       exact A0 (C7 rfl hg13 rfl) rfl<|ge 10 rfl rfl rfl
      refine qm rfl<|en (ra6 rfl rfl rfl rfl rfl rfl)<|r0<|qm rfl<|A0 (F4 rfl rfl) rfl<|qm rfl<|en (ra6 rfl rfl rfl rfl rfl rfl) ?_
      cases hs10
      exact lnT () rfl (su6 rfl rfl rfl rfl rfl rfl)
     ·refine G9 ?_
      obtain rfl:=os hs10
      exact lx rfl px (su5 rfl rfl rfl rfl rfl)
    ·rintro e s' H' - ⟨rfl,rfl,rfl⟩
     refine s0<|qm rfl<|A0 (P8 rfl) rfl<|es (ra5 rfl rfl rfl rfl rfl)<|wi hs3 rfl (fun hc20 hs3=>?_) fun hc20 hs3=>?_
     ·refine r0<|oB hs3 fun x21 hx21 hs3=>qm rfl<|qm rfl<|A0 (J2 (rows:=List.map cI [s3.1]) rfl rfl (E4 (fun _=>rfl) _)) rfl<|O5 (A53 (f:=cI) rfl rfl rfl rfl A6a (fun _=>rfl) hx21) rfl<|qm rfl<|en (ra4 rfl rfl rfl rfl)<|r0<|qm rfl<|A0 (F4 rfl rfl) rfl<|qm rfl<|en (ra4 rfl rfl rfl rfl) ?_
      cases hs3
      exact lnT () rfl (su4 rfl rfl rfl rfl)
     ·refine C3<|r0<|qm rfl<|A0 (F4 rfl rfl) rfl<|qm rfl<|en (ra4 rfl rfl rfl rfl) ?_
      cases hs3
      exact lnT () rfl (su4 rfl rfl rfl rfl)
   ·refine G9 ?_
    obtain rfl:=os hs3
    exact lx rfl px (su1 rfl)
  ·rintro e s' H' - ⟨rfl,rfl,rfl⟩
   refine s0<|qm rfl<|qm rfl<|qm rfl<|es (ra2 rfl rfl)<|C5 ?_
   obtain rfl:=os h
   refine Exists.intro [(.fresh 1 (List.map cI o22)),.i 0] (And.intro ?_ rfl)
   exact retq trivial (A6 rfl (A6 rfl B6)) (A4 (A43 rfl (List.length_map _)) (A4 rfl B5)) (A3 W9 (A3 A5 A7))
def A0k (a0:PaShow) (a1:(List PaUse)) (a2:Int):Option Bool :=
 (A21 a0 a1 a2).bind fun x1 =>
 (A3r a0 a1 a2).bind fun x2 =>
 if ((x1.1 != x2.1) || (x1.2 != x2.2)) = true then
  some false
 else
  (A1m a0 a1).bind fun x5 =>
  (A3s a0 a1).bind fun x6 =>
  if ((x5.1 != x6.1) || (x5.2 != x6.2)) = true then
  some false
  else
  (A4n a0 a1).bind fun x9 =>
  (A46 a0 a1).bind fun x10 =>
  (U4 x9.1 x10.1).bind fun x11 =>
  (if (x11 && (x9.2 == x10.2)) = true then
   (A3m).bind fun x14 =>
   some x14
  else
   some false).bind fun x15 =>
  some x15
theorem A9y {c:Sc} {H:A1} (hscv:R0 c H = true) {a0:PaShow} {a1:(List PaUse)} {a2:Int} {r:Bool} (h:A0k a0 a1 a2 = some r) :
  E0 tab c H (.fn (.func 4) [] []) [(.agg (B2 a0)),(.seq 3 (List.map A8 a1)),.i a2] [.b r]:= by
 unfold A0k at h
 refine cE rfl rfl<|sg 0 rfl<|A0 (E7 (cs:=B2 a0) rfl rfl rfl) rfl<|qm rfl<|es (ra3 rfl rfl rfl)<|s0<|oB h fun x1 hx1 h=>A0 (D4 rfl rfl rfl) rfl<|qm rfl<|qm rfl<|B8 (rs:=[.i x1.1,.i x1.2]) rfl rfl (A2 (D0 rfl) (A2 rfl (A2 rfl B7))) ((B0a hx1).frz)<|qm rfl<|A0 (A9 rfl rfl) rfl<|A0 (A9 rfl rfl) rfl<|qm rfl<|qm rfl<|es (ra5 rfl rfl rfl rfl rfl)<|s0<|oB h fun x2 hx2 h=>A0 (D4 rfl rfl rfl) rfl<|qm rfl<|qm rfl<|B8 (rs:=[.i x2.1,.i x2.2]) rfl rfl (A2 (D0 rfl) (A2 rfl (A2 rfl B7))) ((B7h hx2).frz)<|qm rfl<|A0 (A9 rfl rfl) rfl<|A0 (A9 rfl rfl) rfl<|qm rfl<|qm rfl<|es (ra6 rfl rfl rfl rfl rfl rfl)<|C4<|s0<|qm rfl<|qm rfl<|A0 (J4 rfl rfl) rfl<|qm rfl<|gp 4 34 (.b ((x1.1 != x2.1) || (x1.2 != x2.2))) 30 rfl rfl (fun hg3=>?_) (fun hg3=>?_) ?_
 ·exact nF rfl hg3 rfl<|nF rfl hg3 rfl<|nF rfl hg3 rfl<|A0 (C8 rfl hg3 rfl) rfl<|ge 4 (by rw [hg3]; rfl) rfl rfl
 ·exact gF rfl hg3<|qm rfl<|gF rfl hg3<|qm rfl<|gF rfl hg3<|A0 (J4 rfl rfl) rfl<|A0 (C7 rfl hg3 rfl) rfl<|ge 4 (by rw [hg3]; rfl) rfl rfl
 refine es (ra3 rfl rfl rfl)<|wi h rfl (fun hc4 h=>?_) fun hc4 h=>?_
 ·refine s0<|qm rfl<|es (ra1 rfl)<|C5 ?_
  obtain rfl:=os h
  exact retq trivial (A6 rfl B6) (A4 rfl B5) (A3 A5 A7)
 ·refine C3<|s0<|oB h fun x5 hx5 h=>A0 (D4 rfl rfl rfl) rfl<|qm rfl<|B8 (rs:=[.i x5.1,.i x5.2]) rfl rfl (A2 (D0 rfl) (A2 rfl B7)) ((A56 hx5).frz)<|qm rfl<|A0 (A9 rfl rfl) rfl<|A0 (A9 rfl rfl) rfl<|qm rfl<|qm rfl<|es (ra4 rfl rfl rfl rfl)<|s0<|oB h fun x6 hx6 h=>A0 (D4 rfl rfl rfl) rfl<|qm rfl<|B8 (rs:=[.i x6.1,.i x6.2]) rfl rfl (A2 (D0 rfl) (A2 rfl B7)) ((B7i hx6).frz)<|qm rfl<|A0 (A9 rfl rfl) rfl<|A0 (A9 rfl rfl) rfl<|qm rfl<|qm rfl<|es (ra6 rfl rfl rfl rfl rfl rfl)<|C4<|s0<|qm rfl<|qm rfl<|A0 (J4 rfl rfl) rfl<|qm rfl<|gp 4 54 (.b ((x5.1 != x6.1) || (x5.2 != x6.2))) 50 rfl rfl (fun hg7=>?_) (fun hg7=>?_) ?_
  ·exact nF rfl hg7 rfl<|nF rfl hg7 rfl<|nF rfl hg7 rfl<|A0 (C8 rfl hg7 rfl) rfl<|ge 4 (by rw [hg7]; rfl) rfl rfl
  ·exact gF rfl hg7<|qm rfl<|gF rfl hg7<|qm rfl<|gF rfl hg7<|A0 (J4 rfl rfl) rfl<|A0 (C7 rfl hg7 rfl) rfl<|ge 4 (by rw [hg7]; rfl) rfl rfl
  refine es (ra3 rfl rfl rfl)<|wi h rfl (fun hc8 h=>?_) fun hc8 h=>?_
  ·refine s0<|qm rfl<|es (ra1 rfl)<|C5 ?_
   obtain rfl:=os h
   exact retq trivial (A6 rfl B6) (A4 rfl B5) (A3 A5 A7)
  ·refine C3<|s0<|oB h fun x9 hx9 h=>A0 (D4 rfl rfl rfl) rfl<|qm rfl<|B8 (rs:=[(.seq 1 (List.map cI x9.1)),.i x9.2]) rfl rfl (A2 (D0 rfl) (A2 rfl B7)) ((B18 hx9).frz)<|qm rfl<|A0 (A9 rfl rfl) rfl<|A0 (A9 rfl rfl) rfl<|qm rfl<|qm rfl<|es (ra4 rfl rfl rfl rfl)<|s0<|oB h fun x10 hx10 h=>A0 (D4 rfl rfl rfl) rfl<|qm rfl<|B8 (rs:=[(.seq 1 (List.map cI x10.1)),.i x10.2]) rfl rfl (A2 (D0 rfl) (A2 rfl B7)) (B8y hx10)<|qm rfl<|A0 (A9 rfl rfl) rfl<|A0 (A9 rfl rfl) rfl<|qm rfl<|qm rfl<|es (ra4 rfl rfl rfl rfl)<|s0<|oB h fun x11 hx11 h=>oB h fun x15 hx15 h=>qm rfl<|qm rfl<|B8 (rs:=[.b x11]) rfl rfl (A2 rfl (A2 rfl B7)) ((Y1 hx11).frz)<|qm rfl<|gp 4 74 (.b (x11 && (x9.2 == x10.2))) 70 rfl rfl (fun hg12=>?_) (fun hg12=>?_) ?_
   ·exact gT rfl hg12<|qm rfl<|gT rfl hg12<|qm rfl<|gT rfl hg12<|A0 (G2 rfl rfl) rfl<|A0 (C8 rfl hg12 rfl) rfl<|ge 4 (by rw [hg12]; rfl) rfl rfl
   ·exact nT rfl hg12 rfl<|nT rfl hg12 rfl<|nT rfl hg12 rfl<|A0 (C7 rfl hg12 rfl) rfl<|ge 4 (by rw [hg12]; rfl) rfl rfl
   refine qm rfl<|gp 2 77 (.b x15) 75 rfl rfl (fun hg13=>?_) (fun hg13=>?_) ?_
   ·refine oB (bt hx15 hg13) fun x14 hx14 hx15=>?_
    obtain rfl:=os hx15
    exact gT rfl hg13<|B8 (rs:=[.b x14]) rfl rfl B7 ((A8k (B73 hscv) hx14).frz)<|A0 (C8 rfl hg13 rfl) rfl<|ge 2 rfl rfl rfl
   ·obtain rfl:=os (bf hx15 hg13)
    exact I1 (E2 rfl (by rw [hg13]; rfl)) rfl<|A0 (C7 rfl hg13 rfl) rfl<|ge 2 rfl rfl rfl
   refine qm rfl<|es (ra1 rfl)<|C5 ?_
   obtain rfl:=os h
   exact retq trivial (A6 rfl B6) (A4 rfl B5) (A3 A5 A7)
end Pw
end
section
namespace Pw
open Go Am
def D01 (s:PaShow) (p:List PaUse) (g:Nat):Bool:=(s.Gowns[g]!.Pawn && decide (s.Gowns[g]!.Last < 364)) && !p.any fun x=>x.Gown == (g:Int) && x.How == 1
def A34 (s:PaShow) (p:List PaUse):Nat→List Int
 | 0=>[]
 | n + 1=>if D01 s p n then A34 s p n++[(n:Int)] else A34 s p n
theorem B62 (s:PaShow) (p:List PaUse) (n:Nat):A34 s p (n + 1) = if D01 s p n then A34 s p n++[(n:Int)] else A34 s p n:=rfl
theorem C3j (s:PaShow) (p:List PaUse) (g:Nat):D01 s p g = ((s.Gowns[g]!.Pawn && decide (s.Gowns[g]!.Last < 364)) && !p.any fun x=>x.Gown == (g:Int) && x.How == 1):=rfl
theorem A9m (s:PaShow) (p:List PaUse):∀n,(A34 s p n).length≤n
 | 0=>Nat.le_refl _
 | n + 1=>by
  have:=A9m s p n
  unfold A34
  split
  ·simp; omega
  ·omega
theorem D19 (s:PaShow) (days:List Int) (p:List PaUse) (hl:p.length≤100) (g:Int):X6 (shw s days) p g = some (p.any fun x=>x.Gown == g && x.How == 1):= by
 unfold X6
 rw [B1h p (fun y=>T5 y g) (fun x=>x.Gown == g && x.How == 1) (by omega) (fun x _=>rfl)]
 rfl
theorem D2r (s:PaShow) (hb:NB s) (p:List PaUse):A4n s p = some (if L8 s p = 0 then A34 s p s.Gowns.length else [],L8 s p):= by
 unfold A4n
 rw [B04 s hb]
 simp only [Option.bind_some]
 by_cases h:L8 s p = 0
 ·obtain ⟨hs,hp⟩:=A1n h
  have hle:=hs.gowns
  have hle2:=hs.figures
  have hlen:=hp.u.len
  simp only [h,if_true,BEq.rfl]
  rw [show ((0:Int),([]:List Int)) = (((0:Nat):Int),A34 s p 0) from rfl]
  rw [A2b (fun i=>((i:Int),A34 s p i)) s.Gowns.length (r:=A34 s p s.Gowns.length) (by omega) (fun i hi=>by
   have hll:=A9m s p i
   unfold A4e
   rw [if_pos (by simpa using hi),K4 hi,H9 (by simp only; omega)]
   rw [show (pawn_show.mk s (Ar3.mk (pawn_way.mk ) (pawn_way.mk ) (pawn_way.mk )) (0,A2i s).2) = shw s (A2i s) from rfl,D19 _ _ _ (by omega),B0k (by omega) (by simp; omega)]
   simp only [Option.bind_some]
   rw [B62,C3j]
   cases s.Gowns[i]!.Pawn && decide (s.Gowns[i]!.Last < 364)
   ·rfl
   ·cases p.any fun x=>x.Gown == (i:Int) && x.How == 1 <;> rfl) (by
   unfold A4e
   rw [if_neg (by simp)])]
  rfl
 ·rw [if_neg (by simpa using h),if_neg h]
theorem C6w (q:PaUse→Bool):∀(l:List PaUse) (t:Bool),l.foldl (fun a x=>a || q x) t = (t || l.any q)
 | [],t=>by simp
 | x :: l,t=>by rw [List.foldl_cons,C6w q l,List.any_cons,Bool.or_assoc]
theorem C4d {p:List PaUse} (hl:p.length≤100) (g:Nat) (acc:List Int) (k:Bool):loop (A1b p ((g:Int),acc)) (k,0) = some (k || p.any fun x=>x.Gown == (g:Int) && x.How == 1):= by
 refine A2s p (fun a x=>a || (x.Gown == (g:Int) && x.How == 1)) k (fun i t=>(t,(i:Int))) (by omega) (fun i hi=>?_) ?_
 ·generalize (p.take i).foldl (fun a x=>a || (x.Gown == (g:Int) && x.How == 1)) k = t
  unfold A1b
  simp only []
  rw [if_pos (by simpa using hi),K4 hi,H9 (n:=(i:Int) + 1) (by omega)]
  cases t
  ·simp only [Option.bind_some,Bool.false_eq_true,if_false]
   cases p[i]!.Gown == (g:Int)
   ·rfl
   ·rfl
  ·rfl
 ·unfold A1b
  simp only []
  rw [if_neg (by simp),C6w]
theorem C39 (s:PaShow) (p:List PaUse):A46 s p = some (if L8 s p = 0 then A34 s p s.Gowns.length else [],L8 s p):= by
 unfold A46
 rw [A5a]
 simp only [Option.bind_some]
 by_cases h:L8 s p = 0
 ·obtain ⟨hs,hp⟩:=A1n h
  have hle:=hs.gowns
  have hle2:=hs.figures
  have hlen:=hp.u.len
  rw [if_neg (by simpa using h),if_pos h]
  rw [show ((0:Int),([]:List Int)) = (((0:Nat):Int),A34 s p 0) from rfl]
  rw [A2b (fun i=>((i:Int),A34 s p i)) s.Gowns.length (r:=A34 s p s.Gowns.length) (by omega) (fun i hi=>by
   have hll:=A9m s p i
   unfold A3i
   simp only []
   rw [if_pos (by simpa using hi),K4 hi,H9 (n:=(i:Int) + 1) (by omega)]
   simp only [Option.bind_some]
   have e:(if (!s.Gowns[i]!.Pawn) = true then some true else some (decide (s.Gowns[i]!.Last ≥ 364)):Option Bool) = some (!(s.Gowns[i]!.Pawn && decide (s.Gowns[i]!.Last < 364))):= by
    have e2:decide (s.Gowns[i]!.Last ≥ 364) = !decide (s.Gowns[i]!.Last < 364):= by rw [Bool.eq_iff_iff]; simp
    rw [e2]
    cases s.Gowns[i]!.Pawn <;> cases decide (s.Gowns[i]!.Last < 364) <;> rfl
   rw [e]
   simp only [Option.bind_some]
   rw [C4d (by omega),B0k (by omega) (by simp; omega)]
   simp only [Option.bind_some]
   rw [B62,C3j]
   cases s.Gowns[i]!.Pawn && decide (s.Gowns[i]!.Last < 364)
   ·rfl
   ·cases p.any fun x=>x.Gown == (i:Int) && x.How == 1 <;> rfl) (by
   unfold A3i
   rw [if_neg (by simp)])]
  simp [h]
 ·rw [if_pos (by simpa using h),if_neg h]
theorem B5l {s:PaShow} {p:List PaUse} {d:Int} (hb:NB s) (_:p.length < 9223372036854775808) (_:True):A0k s p d = some true:= by
 unfold A0k
 rw [C9q s hb,C10,C9r s hb,C11,D2r s hb,C39,awake]
 have hlen:(if L8 s p = 0 then A34 s p s.Gowns.length else []).length < 9223372036854775807:= by
  split
  ·next h =>
   have:=A9m s p s.Gowns.length
   have:=(A1n h).1.gowns
   omega
  ·simp
 simp only [Option.bind_some]
 rw [B96 _ hlen]
 simp
end Pw
end
