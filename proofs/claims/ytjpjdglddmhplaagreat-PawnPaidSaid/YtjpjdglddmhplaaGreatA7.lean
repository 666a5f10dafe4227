/- Texts that the claim stands on, one behind another. -/
import Derived.Test.YtjpjdglddmhplaaGreatA6
set_option linter.unusedVariables false
set_option linter.unusedSimpArgs false
set_option linter.unnecessarySimpa false
section
set_option maxRecDepth 100000
set_option maxHeartbeats 0
namespace Pw
open Go Am Go.Proofs.YtjpjdglddmhplaaGreat.Cd
structure Fd where
 w:Int
 c:Int
 h:Ar3 Int
def C7b (t:PaShow) (days:List Int) (p:List PaUse) (x:Fd × Int):Option ((Fd × Int) ⊕ Fd) :=
 if (decide (x.2 < (List.length p:Int))) = true then
  (idx p x.2).bind fun u=>(S8 (shw t days) x.2 u).bind fun y=>(idx x.1.h.l x.2).bind fun _=>(A2a).bind fun bb =>
  if ((u.Gown == bb.Gown) && ((u.How == bb.How) && ((u.Day == bb.Day) && true))) = true then
   some (.inl (⟨w64 (x.1.w + 1),w64 (x.1.c + y.1),x.1.h.set x.2 (w64 (u.Gown + 1))⟩,w64 (x.2 + 1)))
  else some (.inl (⟨x.1.w,w64 (x.1.c + y.1),x.1.h.set x.2 (w64 (u.Gown + 1))⟩,w64 (x.2 + 1)))
 else some (.inr x.1)
def C1n (t:PaShow) (days:List Int) (p:List PaUse):Option pawn_found :=
 (C30 24 (List.length p:Int) (PaUse.mk 0 0 0)).bind fun _ =>
 (loop (C7b t days p) (⟨0,0,⟨0,0,0⟩⟩,0)).bind fun x =>
 (O3 (shw t days) p).bind fun y=>some ⟨p,x.w,x.c,y.1,x.h⟩
def C2y (t:PaShow) (days:List Int) (σ ρ:Type) (body:pawn_found→σ→Option (σ ⊕ ρ)) (s:σ):Option (σ ⊕ ρ) :=
 B6c t days σ ρ (fun p s=>(C1n t days p).bind fun x=>body x s) s
def shF (_:Nat) (_:A1) (x:pawn_found) (v:AV):Prop:=v = .agg (C4 x)
theorem D5u {α:Type} {d m:List α} (h:d.length = m.length):cpy d m = m:= by
 unfold cpy; rw [h,Nat.min_self,List.take_length,List.drop_of_length_le (by omega),List.append_nil]
theorem D61 {H:A1} {b:Nat} {p:Bool} {l:List PaUse} (h:harr H b = some (3,p,l.map A7)):rd H (.asl b l.length) 3 (l.map A7):=⟨by simp only [V8,h,List.length_map,Nat.beq_refl,if_true],by simp only [kOf,h]⟩
def fnC (q:AV) (x:Fd) (s:Int):List AV:=[q,.i x.w,.i x.c,.i s,.i x.h.x0,.i x.h.x1,.i x.h.x2]
section
variable {σ ρ:Type} {t:PaShow} {days:List Int} {b bS:Nat}
theorem D0d {G:A1} {c:Sc} {v:AV} {bY:Nat} {y:AV} {p:List PaUse} {x:pawn_found} {ok:Bool} {GE:A1} (hv:∃bp pb,v = .asl bp p.length∧harr G bp = some (3,pb,p.map A7)) (h1:hcells G bS = some [.ptr b 0]) (h2:hcells G b = some (A2y t days)) (hY:hcells G bY = some [y]) (hc:c.cur≤G.length)
  (hx:C1n t days p = some x) (hcall:∀(c':Sc) (l:List AO),(∀ o ∈ l,o.anc = [])→R4 c (G++l) = true→c' = c→J1 tab c' (G++l) y [.agg (C4 x)] [.b ok] (GE++l)) (hsc:R4 c G = true) :
  WP tab (.block 1 (.s 3 [M 0 12 3,LE 1 13 12,q 2 14 (.mkslice 3 24 [.lit (.int .i64 0),.lit (.int .i64 0),.lit (.int .i64 0)] 13 13 0),q 3 15 (.build [.seq 3 [],.lit (.int .i64 0),.lit (.int .i64 0),.lit (.int .i64 0),.lit (.int .i64 0),.lit (.int .i64 0),.lit (.int .i64 0)] [(0,1,14)]),q 4 4 (.alloc [.nils 3,.lit (.int .i64 0),.lit (.int .i64 0),.lit (.int .i64 0),.lit (.int .i64 0),.lit (.int .i64 0),.lit (.int .i64 0)] [(0,1,3)] 2),ST 5 7 4 15] [1,2,3,4] (.s 0 [FA 0 16 0 4,L 1 17 16,M 2 18 3,q 3 19 (.copy 3 17 18)] [1,2,3,4] (.seq (.s 0 [M 0 20 3,LE 1 21 20,M 2 22 (.i 0)] [1,2,3,4,20,21,22] (.block 2 (.loop true [1,2,3,4,20,21,22] (.s 0 [B 0 23 .lss 22 21] [1,2,3,4,20,21,22,23] (.seq (.cond 23 .skip (.exit 2)) (.seq (.block 3 (.s 1 [M 0 24 22,IX 1 25 3 20 22,LK 2 26 3 25,q 3 6 (.alloc [.lit (.int .i64 0),.lit (.int .i64 0),.lit (.int .i64 0)] [] 0),M 4 5 24,ST 5 3 6 26] [1,2,3,4,5,6,20,21,22] (.s 0 [L 0 28 1,M 1 29 5,LK 2 30 3 6,CL 3 31 103 [28,29,30],M 4 27 31,EX 5 32 27 0,EX 6 33 27 1,M 7 7 32,M 8 8 33] [1,2,3,4,5,6,7,20,21,22] (.s 0 [FA 0 34 2 4,L 1 35 34,M 2 36 7,B 3 37 .add 35 36,FA 4 38 2 4,ST 5 1 38 37] [1,2,3,4,5,6,20,21,22] (.s 0 [M 0 39 5,FA 1 40 0 6,L 2 41 40,B 3 42 .add 41 (.i 1),FA 4 43 4 4,q 5 44 (.idxA 1 3 43 39),ST 6 1 44 42] [1,2,3,4,6,20,21,22] (.sd 0 [LK 0 45 3 6,CP 1 46 99 [],q 2 47 (.cmp false [0,0,0] 45 46)]
 [1,2,3,4,20,21,22,47] (.cond 47 (.g 0 [FA 0 48 1 4,L 1 49 48,B 2 50 .add 49 (.i 1),FA 3 51 1 4,ST 4 1 51 50] [1,2,3,4,20,21,22]) .skip))))))) (.g 0 [B 0 52 .add 22 (.i 1),M 1 22 52] [1,2,3,4,20,21,22]))))))) (.s 0 [L 0 54 1,M 1 55 3,q 2 56 (.call (.f 66) [54,55] [[],[],[],[],[],[],[],[],[]] false),M 3 53 56,EX 4 57 53 0,EX 5 58 53 1,FA 6 59 3 4,ST 7 1 59 57] [2,4] (.s 0 [L 0 60 2,LK 1 61 7 4,q 2 62 (.call 60 [61] [] false),q 3 63 (.un .not 62)] [63] (.cond 63 .ret .skip)))))))
   [(1,.ptr bS 0),(2,.ptr bY 0),(3,v)] G c (fun e _ H'=>e = (if ok then .normal else .ret)∧∃ l,H' = GE++l):= by
 obtain ⟨bp,pb,rfl,hbp⟩:=hv
 have hGv:SlV G (.asl bp p.length) p:=.asl bp pb p hbp
 unfold C1n at hx
 refine oB hx fun p0 hp0 hx=>oB hx fun z hz hx=>oB hx fun sh hsh hx=>?_
 obtain rfl:=os hx
 have hlp:p0.length = p.length:= by obtain ⟨_,rfl⟩:=C0k hp0; simp
 have hcp:=D5u hlp
 refine U5<|C6<|sg 0 rfl<|qm rfl<|A0 (B3w hGv rfl) rfl<|A0 (C0o (f:=A7) (zt:=PaUse.mk 0 0 0) rfl rfl rfl hp0) rfl<|A0 (Q4 (cs:=[.asl (G.length + 0) p0.length,.i 0,.i 0,.i 0,.i 0,.i 0,.i 0]) rfl rfl) rfl<|A0 C31 rfl<|N9 (E8 (ds:=fnC (.asl (G.length + 0) p0.length) ⟨0,0,⟨0,0,0⟩⟩ 0) rfl rfl rfl rfl (A0u (Nat.le_trans hc (Nat.le_add_right _ _))) rfl) rfl<|es (ra4 rfl rfl rfl rfl)<|s0<|A0 (B9 rfl) rfl<|A0 (B2 (x:=.asl (G.length + 0) p0.length) rfl rfl rfl) rfl<|qm rfl<|O4 (D38 (f:=A7) (d:=p0) (m:=p) rfl rfl rfl rfl (D61 (Z9 hbp)) (fun _=>rfl)) rfl ?_
 rw [hcp]
 refine es (ra4 rfl rfl rfl rfl)<|C2<|s0<|qm rfl<|A0 (B3w hGv rfl) rfl<|qm rfl<|es (ra7 rfl rfl rfl rfl rfl rfl rfl)<|C6<|wl (fun x=>[(1,.ptr bS 0),(2,.ptr bY 0),(3,.asl bp p.length),(4,.ptr (G.length + 2) 0),(20,.asl bp p.length),(21,.i p.length),(22,.i x.2)]) (fun (_:Unit) x=>[.arr 3 false (p.map A7),.arr 3 false [],.cells (fnC (.asl (G.length + 0) p0.length) x.1 0)]) 3 (fun r e s' H'=>PX 2 [(1,.ptr bS 0),(2,.ptr bY 0),(3,.asl bp p.length),(4,.ptr (G.length + 2) 0)] (G++[.arr 3 false (p.map A7),.arr 3 false [],.cells (fnC (.asl (G.length + 0) p0.length) r 0)]) e s' H') () hz rfl rfl (fun _ _=>rfl) (fun _=>rfl) rfl (fun _=>bdc (A5o h1) (bdc (A5o hY) (bdc hGv.bd (bdc (K8 rfl) (bdc hGv.bd (bdc A4 (bdc A4 bdn))))))) (fun _ x o hs=>?_) ?_
 ·obtain ⟨⟨w,cc,hd⟩,i⟩:=x
  unfold C7b at hs
  refine s0<|A0 (I0 rfl rfl) rfl<|es (ra8 rfl rfl rfl rfl rfl rfl rfl rfl)<|C2<|wi hs rfl (fun hc1 hs=>?_) fun hc1 hs=>?_
  ·refine oB hs fun u hu hs=>oB hs fun pd hpd hs=>oB hs fun ow how hs=>oB hs fun bb hbb hs=>?_
   refine C3<|C2<|C6<|sg 3 rfl<|qm rfl<|A0 (B3v hGv hu rfl rfl) rfl<|A0 (B59 hGv hu rfl) rfl<|A0 I3 rfl<|qm rfl<|N9 (E8 (ds:=A7 u) rfl rfl rfl rfl (E2 rfl) rfl) rfl<|es (ra9 rfl rfl rfl rfl rfl rfl rfl rfl rfl)<|s0<|A0 (F7 rfl h1 rfl) rfl<|qm rfl<|A0 (D2 rfl rfl rfl) rfl<|B8 (rs:=[.i pd.1,.i pd.2]) rfl rfl (A2 rfl (A2 rfl (A2 (D0 rfl) B7))) ((U0 (a0:=shw t days) (D6 h2 _) hpd).frz)<|qm rfl<|A0 (A9 rfl rfl) rfl<|A0 (A9 rfl rfl) rfl<|qm rfl<|qm rfl<|es (ra10 rfl rfl rfl rfl rfl rfl rfl rfl rfl rfl)<|s0<|A0 (B9 rfl) rfl<|A0 (B2 (x:=.i cc) rfl rfl rfl) rfl<|qm rfl<|A0 (F2 rfl rfl) rfl<|A0 (B9 rfl) rfl<|N9 (E8 (ds:=fnC (.asl (G.length + 0) p0.length) ⟨w,w64 (cc + pd.1),hd⟩ 0) rfl rfl rfl rfl (E2 rfl) rfl) rfl<|es (ra9 rfl rfl rfl rfl rfl rfl rfl rfl rfl)<|s0<|qm rfl<|A0 (B9 rfl) rfl<|A0 (B2 (x:=.i u.Gown) rfl rfl rfl) rfl<|A0 (F2 rfl rfl) rfl<|A0 (B9 rfl) rfl<|A0 (D1x (e:=Ar3.l hd) rfl rfl rfl how) rfl<|N9 (D12 (f:=cI) (e:=Ar3.l hd) (e2:=Ar3.l (hd.set i (w64 (u.Gown + 1)))) (z:=w64 (u.Gown + 1)) (ds:=fnC (.asl (G.length + 0) p0.length) ⟨w,w64 (cc + pd.1),hd.set i (w64 (u.Gown + 1))⟩ 0) rfl rfl rfl rfl rfl rfl (fun _=>rfl) how (Ar3.set_l how) rfl (E2 rfl)) rfl<|es (ra8 rfl rfl rfl rfl rfl rfl rfl rfl)<|s0<|A0 (D2 rfl rfl rfl) rfl<|U1 (rs:=[(.agg (A7 bb))]) rfl rfl A0e B7 ((A4h hbb).frz)<|A0 (C6a (a:=A7 u) (b:=A7 bb) rfl rfl rfl rfl (V5 (V5 (V5 B1t)))) rfl<|es (ra8 rfl rfl rfl rfl rfl rfl rfl rfl)<|wi hs rfl (fun hc2 hs=>?_) fun hc2 hs=>?_
   ·refine r0<|A0 (B9 rfl) rfl<|A0 (B2 (x:=.i w) rfl rfl rfl) rfl<|A0 (F2 rfl rfl) rfl<|A0 (B9 rfl) rfl<|N9 (E8 (ds:=fnC (.asl (G.length + 0) p0.length) ⟨w64 (w + 1),w64 (cc + pd.1),hd.set i (w64 (u.Gown + 1))⟩ 0) rfl rfl rfl rfl (E2 rfl) rfl) rfl<|en (ra7 rfl rfl rfl rfl rfl rfl rfl)<|r0<|A0 (F2 rfl rfl) rfl<|qm rfl<|en (ra7 rfl rfl rfl rfl rfl rfl rfl) ?_
    cases hs
    exact lnT () rfl (su7 rfl rfl rfl rfl rfl rfl rfl)
   ·refine C3<|r0<|A0 (F2 rfl rfl) rfl<|qm rfl<|en (ra7 rfl rfl rfl rfl rfl rfl rfl) ?_
    cases hs
    exact lnT () rfl (su7 rfl rfl rfl rfl rfl rfl rfl)
  ·refine G6 ?_
   obtain rfl:=os hs
   exact lx rfl px (su4 rfl rfl rfl rfl)
 ·rintro e s' H' - ⟨rfl,rfl,rfl⟩
  have hcl:=hcall c [.arr 3 true (p.map A7),.arr 3 false [],.cells (fnC (.asl (G.length + 0) p0.length) z sh.1)] (by intro o ho; simp at ho; rcases ho with rfl | rfl | rfl <;> rfl) (C2j hsc (by simp)) rfl
  refine s0<|A0 (F7 rfl h1 rfl) rfl<|qm rfl<|O4 (U8 (rs:=[.i sh.1,.i sh.2]) rfl rfl ((A98 (a0:=shw t days) (D6 h2 _) hGv.app hsh).frz)) rfl<|qm rfl<|A0 (A9 rfl rfl) rfl<|A0 (A9 rfl rfl) rfl<|A0 (B9 rfl) rfl<|N9 (E8 (ds:=fnC (.asl (G.length + 0) p0.length) z sh.1) rfl rfl rfl rfl (E2 rfl) rfl) rfl<|es (ra2 rfl rfl)<|s0<|A0 (F7 rfl hY rfl) rfl<|A0 (A3m (ds:=fnC (.asl (G.length + 0) p0.length) z sh.1) rfl rfl rfl rfl) rfl<|O4 (Q5 (rs:=[.b ok]) rfl rfl (A2 (D3l (A7h (D5y rfl (by rw [List.length_map]; exact hlp.symm)) (A7h rfl (A7h rfl (A7h rfl (A7h rfl (A7h rfl (A7h rfl D5w)))))))) B7) hcl rfl) rfl<|A0 (C37 rfl rfl) rfl<|es (ra1 rfl) ?_
  cases ok with
  | true=>exact P7 rfl rfl<|C3 ⟨rfl,_,rfl⟩
  | false=>exact N6 rfl rfl<|C5 ⟨rfl,_,rfl⟩
end
theorem D3o {N:Nat} {l:A1} (h:∀o ∈ l,o.anc = []):grL N l = true:= by
 unfold grL
 rw [List.all_eq_true]
 intro o ho
 rw [h o ho]; rfl
def B4a (t:PaShow) (days:List Int) (bS b:Nat) (H:A1):Prop:=hcells H bS = some [.ptr b 0]∧hcells H b = some (A2y t days)
theorem B4a.app {t:PaShow} {days:List Int} {bS b:Nat} {H L:A1} (h:B4a t days bS b H):B4a t days bS b (H++L):=⟨D6 h.1 _,D6 h.2 _⟩
theorem D0e {t:PaShow} {days:List Int} {bS b:Nat}:B6f tab 108 [.ptr bS 0] shF (B4a t days bS b) (C2y t days):= by
 intro σ ρ Hm N hN hpre y hyb hyc body hy a0 o ho c hc
 unfold C2y at ho
 have h1:∀x,hcells (Hm x) bS = some [.ptr b 0]:=fun x=>(hpre x).1
 have ht:∀x,hcells (Hm x) b = some (A2y t days):=fun x=>(hpre x).2
 have e:=hN (.inl a0)
 have q0:∀z L,hcells (Hm z++(AO.cells [y] :: L)) (N + 0) = some [y]:=fun z L=>by rw [← hN z]; exact D8 rfl
 have q1:∀z L,hcells (Hm z++(AO.cells [y] :: .cells [.ptr b 0] :: L)) (N + 1) = some [.ptr b 0]:=fun z L=>by rw [← hN z]; exact D8 rfl
 have htk:∀z L,(Hm z++L).take N = Hm z:=fun z L=>by rw [← hN z]; exact List.take_left
 have hl2:∀z,(Hm z++[AO.cells [y],.cells [.ptr b 0]]).length = N + 2:=fun z=>by rw [List.length_append,hN]; rfl
 have key:WP tab c108 [(0,y),(1,.ptr bS 0)] (Hm (.inl a0)++[]) ⟨(Hm (.inl a0)).length,c.cur :: c.outer⟩ (A79 (Hm (.inl a0)) (Hm o) [] []):= by
  refine sg 0 rfl<|A0 (E5 rfl hyc rfl) rfl<|es (ra2 rfl rfl)<|s0<|A0 (F7 rfl (h1 _) rfl) rfl<|A4r (as2:=[.ptr b 0]) (H1:=Hm (.inl a0)++[.cells [y]]) rfl rfl (A2 rfl B7) rfl rfl rfl (A9u rfl)<|sg 1 rfl<|A0 (E5 (cs:=[.ptr b 0]) rfl rfl rfl) rfl<|qm rfl<|es (ra1 rfl)<|s0<|A0 (A28 rfl rfl) rfl<|qm rfl<|es (ra1 rfl)<|C5<|InlQ.mk trivial ⟨_,_,_,[(.fn (.func 119) [] [(.ptr ((Hm (.inl a0)).length + 1) 0)])],_,(A6 rfl B6),(A5 rfl B5),(A9s (T6 (B3c (T6 (A5p rfl)))) (A9r rfl B3l)),?_⟩
  refine es (ra3 rfl rfl rfl)<|C6 ?_
  refine B25 (it:=B6c t days) (sh:=shP) (pre:=B4a t days ((Hm (.inl a0)).length + 1) b) (D2o (t:=t) (days:=days) (bS:=(Hm (.inl a0)).length + 1) (b:=b)) (K:=N + 2) [(1,.ptr bS 0),(2,.ptr ((Hm (.inl a0)).length + 0) 0)] (fun z=>Hm (.inl z)++[.cells [y],.cells [.ptr b 0]]) (fun r=>Hm (.inr r)++[.cells [y],.cells [.ptr b 0]]) (fun _=>.ret) ho (fun _=>rfl) rfl (fun S hS=>O1 (live:=[1,2]) rfl (by decide) (Sub.trans (su2 rfl rfl) hS)) rfl (fun x=>hl2 _) (fun x=>hl2 _) ?_ ?_ ?_ ?_
  ·rw [e]
   exact ⟨fun x z=>⟨D6 (q1 _ _) _,D6 (D6 (ht _) _) _⟩,fun x z=>⟨D6 (q1 _ _) _,D6 (D6 (ht _) _) _⟩⟩
  ·exact A9c hc (by simp) (by simp)
  ·intro c' p s o' L v hsc hgr hv hbo y0 y1 hy0 hy1
   obtain ⟨j,rfl,hj⟩:=hv
   refine oB hbo fun x hx hbo=>?_
   have hGl:(Hm (.inl s)++[AO.cells [y],.cells [.ptr b 0]]++y1 :: L).length = N + 2 + 1 + L.length:= by rw [List.length_append,hl2]; simp; omega
   have e4:∀z (l:List AO),Hm z++[AO.cells [y],.cells [.ptr b 0]]++y1 :: L++l = Hm z++(AO.cells [y] :: .cells [.ptr b 0] :: y1 :: (L++l)):=fun z l=>by simp
   refine r0<|qm rfl<|en (ra3 rfl rfl rfl) ⟨rfl,L,rfl,?_⟩
   have hharr:harr (Hm (.inl s)++[AO.cells [y],.cells [.ptr b 0]]++y1 :: L) (N + 2 + 1 + j) = some (3,false,p.map A7):= by
    have h3:(Hm (.inl s)++[AO.cells [y],.cells [.ptr b 0]]++[y1]).length = N + 2 + 1:= by rw [List.length_append,hl2]; rfl
    rw [show Hm (.inl s)++[AO.cells [y],.cells [.ptr b 0]]++y1 :: L = (Hm (.inl s)++[AO.cells [y],.cells [.ptr b 0]]++[y1])++L by simp,← h3]
    exact N2 hj
   refine A03 (D0d (t:=t) (days:=days) (x:=x) (ok:=o'.isLeft) (GE:=Hm o'++[AO.cells [y],.cells [.ptr b 0]]++y1 :: L) (y:=y) ⟨_,_,rfl,hharr⟩ (D6 (D6 (h1 _) _) _) (D6 (D6 (ht _) _) _) (by rw [e]; exact D6 (q0 _ _) _) (by rw [hGl]; exact Nat.le_refl _) hx (fun c2 l hl hs2 hc2=>?_) (C2j hsc (by rw [hGl]; simp [hN]; omega))) ?_
   ·have hsc3:R4 c2 (Hm (.inl s)++(AO.cells [y] :: .cells [.ptr b 0] :: y1 :: (L++l))) = true:= by rw [hc2,← e4]; exact hs2
    rw [e4,e4]
    exact hy hsc3 (A6q rfl (A6q rfl (A6q hy1 (B55 (C3n (by omega) hgr) (D3o hl))))) rfl hbo
   ·rintro e1 s1 H1 ⟨he,l,rfl⟩
    have htk2:∀z,(Hm z++[AO.cells [y],.cells [.ptr b 0]]++y1 :: L++l).take (N + 2 + 1 + L.length) = Hm z++[AO.cells [y],.cells [.ptr b 0]]++y1 :: L:=fun z=>by
     have:(Hm z++[AO.cells [y],.cells [.ptr b 0]]++y1 :: L).length = N + 2 + 1 + L.length:= by rw [List.length_append,hl2]; simp; omega
     rw [← this]; exact List.take_left
    cases o' with
    | inl s'=>exact ⟨he,htk2 _⟩
    | inr r=>exact ⟨he,htk2 _⟩
  ·rw [e]
   cases o with
   | inl s' =>
    show A79 _ _ _ _ .normal _ _
    refine B8d trivial rfl rfl rfl ?_
    rw [List.append_assoc,e]; exact htk _ _
   | inr r =>
    show A79 _ _ _ _ .ret _ _
    refine B8d trivial rfl rfl rfl ?_
    rw [List.append_assoc,e]; exact htk _ _
 rw [List.append_nil] at key
 exact Z7 (aq:=[y,.ptr bS 0]) rfl rfl rfl key
def C0w (t:PaShow) (days:List Int) (σ ρ:Type) (body:pawn_found→σ→Option (σ ⊕ ρ)) (s:σ):Option (σ ⊕ ρ) :=
 C2y t days σ ρ (fun x s=>if (decide (x.short_ > 0)) = true then some (.inl s) else body x s) s
theorem C6g {t:PaShow} {days:List Int} {bS b:Nat}:B6f tab 106 [.ptr bS 0] shF (B4a t days bS b) (C0w t days):= by
 intro σ ρ Hm N hN hpre y hyb hyc body hy a0 o ho c hc
 unfold C0w at ho
 have h1:∀x,hcells (Hm x) bS = some [.ptr b 0]:=fun x=>(hpre x).1
 have ht:∀x,hcells (Hm x) b = some (A2y t days):=fun x=>(hpre x).2
 have e:=hN (.inl a0)
 have q0:∀z L,hcells (Hm z++(AO.cells [y] :: L)) (N + 0) = some [y]:=fun z L=>by rw [← hN z]; exact D8 rfl
 have q1:∀z L,hcells (Hm z++(AO.cells [y] :: .cells [.ptr b 0] :: L)) (N + 1) = some [.ptr b 0]:=fun z L=>by rw [← hN z]; exact D8 rfl
 have htk:∀z L,(Hm z++L).take N = Hm z:=fun z L=>by rw [← hN z]; exact List.take_left
 have hl2:∀z,(Hm z++[AO.cells [y],.cells [.ptr b 0]]).length = N + 2:=fun z=>by rw [List.length_append,hN]; rfl
 have key:WP tab c106 [(0,y),(1,.ptr bS 0)] (Hm (.inl a0)++[]) ⟨(Hm (.inl a0)).length,c.cur :: c.outer⟩ (A79 (Hm (.inl a0)) (Hm o) [] []):= by
  refine sg 0 rfl<|A0 (E5 rfl hyc rfl) rfl<|es (ra2 rfl rfl)<|C8i<|C2<|C3<|s0<|A0 (F7 rfl (h1 _) rfl) rfl<|A4r (as2:=[.ptr b 0]) (H1:=Hm (.inl a0)++[.cells [y]]) rfl rfl (A2 rfl B7) rfl rfl rfl (A9u rfl)<|sg 1 rfl<|A0 (E5 (cs:=[.ptr b 0]) rfl rfl rfl) rfl<|qm rfl<|es (ra1 rfl)<|s0<|A0 (A28 rfl rfl) rfl<|qm rfl<|es (ra1 rfl)<|C5<|InlQ.mk trivial ⟨_,_,_,[(.fn (.func 108) [] [(.ptr ((Hm (.inl a0)).length + 1) 0)])],_,(A6 rfl B6),(A5 rfl B5),(A9s (T6 (B3c (T6 (A5p rfl)))) (A9r rfl B3l)),?_⟩
  refine es (ra2 rfl rfl)<|C6 ?_
  refine B25 (it:=C2y t days) (sh:=shF) (pre:=B4a t days ((Hm (.inl a0)).length + 1) b) (D0e (t:=t) (days:=days) (bS:=(Hm (.inl a0)).length + 1) (b:=b)) (K:=N + 2) [(2,.ptr ((Hm (.inl a0)).length + 0) 0)] (fun z=>Hm (.inl z)++[.cells [y],.cells [.ptr b 0]]) (fun r=>Hm (.inr r)++[.cells [y],.cells [.ptr b 0]]) (fun _=>.ret) ho (fun _=>rfl) rfl (fun S hS=>O1 (live:=[2]) rfl (by decide) (Sub.trans (su1 rfl) hS)) rfl (fun x=>hl2 _) (fun x=>hl2 _) ?_ ?_ ?_ ?_
  ·rw [e]
   exact ⟨fun x z=>⟨D6 (q1 _ _) _,D6 (D6 (ht _) _) _⟩,fun x z=>⟨D6 (q1 _ _) _,D6 (D6 (ht _) _) _⟩⟩
  ·exact A9c hc (by simp) (by simp)
  ·intro c' x s o' L v hsc hgr hv hbo y0 y1 hy0 hy1
   obtain rfl:v = .agg (C4 x):=hv
   have hGl:∀z z1,(Hm z++[AO.cells [y],.cells [.ptr b 0]]++z1 :: L).length = N + 2 + 1 + L.length:=fun z z1=>by rw [List.length_append,hl2]; simp; omega
   have e4:∀z (l:List AO),Hm z++[AO.cells [y],.cells [.ptr b 0]]++y1 :: L++l = Hm z++(AO.cells [y] :: .cells [.ptr b 0] :: y1 :: (L++l)):=fun z l=>by simp
   have htk2:∀z l,(Hm z++[AO.cells [y],.cells [.ptr b 0]]++y1 :: L++l).take (N + 2 + 1 + L.length) = Hm z++[AO.cells [y],.cells [.ptr b 0]]++y1 :: L:=fun z l=>by
    rw [← hGl z y1]; exact List.take_left
   refine U5<|rg 0 rfl<|A0 I3 rfl<|N9 (E8 (ds:=C4 x) rfl rfl rfl rfl (A0u (by rw [hGl]; exact Nat.le_add_right _ _)) rfl) rfl<|en (ra2 rfl rfl) ⟨rfl,L++[.cells (C4 x)],by simp,?_⟩
   refine B5j (show _ = (Hm (.inl s)++[AO.cells [y],.cells [.ptr b 0]]++y1 :: L)++[.cells (C4 x)] by simp) ?_
   have q8:ev [(2,AV.ptr ((Hm (.inl a0)).length + 0) 0),(3,.ptr ((Hm (.inl s)++[AO.cells [y],.cells [.ptr b 0]]++y0 :: L).length + (0 + 0)) 0)] (.t 3) = some (.ptr ((Hm (.inl s)++[AO.cells [y],.cells [.ptr b 0]]++y1 :: L).length + 0) 0):= by
    show some _ = some _
    rw [hGl,hGl]
   rw [show (AV.ptr ((Hm (.inl s)++[AO.cells [y],.cells [.ptr b 0]]++y0 :: L).length + (0 + 0)) 0) = .ptr ((Hm (.inl s)++[AO.cells [y],.cells [.ptr b 0]]++y1 :: L).length + 0) 0 by rw [hGl,hGl]]
   refine C6<|C2<|s0<|A0 (B9 rfl) rfl<|A0 (B2 (x:=.i x.short_) rfl rfl rfl) rfl<|A0 (Y8 rfl rfl) rfl<|es (ra3 rfl rfl rfl)<|wi hbo rfl (fun hc2 hbo=>?_) fun hc2 hbo=>?_
   ·cases hbo
    exact G6 ⟨rfl,htk2 _ _⟩
   ·have hcl:J1 tab ⟨N + 2 + 1 + L.length,c'⟩ (Hm (.inl s)++[AO.cells [y],.cells [.ptr b 0]]++y1 :: L++[.cells (C4 x)]) y [.agg (C4 x)] [.b o'.isLeft] (Hm o'++[AO.cells [y],.cells [.ptr b 0]]++y1 :: L++[.cells (C4 x)]):= by
     have hsc3:R4 ⟨N + 2 + 1 + L.length,c'⟩ (Hm (.inl s)++(AO.cells [y] :: .cells [.ptr b 0] :: y1 :: (L++[.cells (C4 x)]))) = true:= by
      rw [← e4]
      exact C2j hsc (by simp only [List.length_append,List.length_cons,List.length_nil]; omega)
     rw [e4,e4]
     exact hy hsc3 (A6q rfl (A6q rfl (A6q hy1 (B55 (C3n (by omega) hgr) rfl)))) rfl hbo
    refine C3<|s0<|A0 (F7 (x:=y) rfl (by rw [e]; exact D6 (q0 _ _) _) rfl) rfl<|A0 (D2 rfl rfl rfl) rfl<|O4 (Q5 (rs:=[.b o'.isLeft]) rfl rfl (A2 (D0 rfl) B7) hcl rfl) rfl<|A0 (C37 rfl rfl) rfl<|es (ra1 rfl) ?_
    cases o' with
    | inl s'=>exact P7 rfl rfl<|C3 ⟨rfl,htk2 _ _⟩
    | inr r=>exact N6 rfl rfl<|C5 ⟨rfl,htk2 _ _⟩
  ·rw [e]
   cases o with
   | inl s' =>
    show A79 _ _ _ _ .normal _ _
    refine B8d trivial rfl rfl rfl ?_
    rw [List.append_assoc,e]; exact htk _ _
   | inr r =>
    show A79 _ _ _ _ .ret _ _
    refine B8d trivial rfl rfl rfl ?_
    rw [List.append_assoc,e]; exact htk _ _
 rw [List.append_nil] at key
 exact Z7 (aq:=[y,.ptr bS 0]) rfl rfl rfl key
end Pw
end
section
set_option maxRecDepth 100000
set_option maxHeartbeats 0
namespace Pw
open Go Am Go.Proofs.YtjpjdglddmhplaaGreat.Cd
def fnd0:pawn_found:=⟨[],0,0,0,⟨0,0,0⟩⟩
def D49 (g:pawn_found→pawn_found→Option Int) (x:pawn_found) (s:pawn_found × Bool):Option ((pawn_found × Bool) ⊕ Unit) :=
 (if (!s.2) = true then some true else (g x s.1).bind fun r=>some (decide (r < 0))).bind fun z =>
 if z = true then some (.inl (x,true)) else some (.inl s)
abbrev It:=∀ (σ ρ:Type),(pawn_found→σ→Option (σ ⊕ ρ))→σ→Option (σ ⊕ ρ)
def C22 (it:It) (g:pawn_found→pawn_found→Option Int):Option (pawn_found × Bool) :=
 (it (pawn_found × Bool) Unit (D49 g) (fnd0,false)).bind fun o=>match o with
  | .inl s=>some s
  | .inr _=>none
def bM (ig:Nat) (s:pawn_found × Bool):List AO:=[.cells [.fn (.func ig) [] []],.cells (C4 s.1),.cells [.b s.2]]
theorem C1f {c:Sc} {H:A1} {i ig bS b:Nat} {t:PaShow} {days:List Int} {it:It} {g:pawn_found→pawn_found→Option Int} {r:pawn_found × Bool} (hit:B6f tab i [.ptr bS 0] shF (B4a t days bS b) it)
  (hg:∀{c:Sc} {H:A1} {x y:pawn_found} {r:Int},g x y = some r→W0 tab c H (.fn (.func ig) [] []) [.agg (C4 x),.agg (C4 y)] [.i r]) (hpre:B4a t days bS b H) (hscv:R4 c H = true) (h:C22 it g = some r) :
  W0 tab c H (.fn (.func 69) [] []) [.fn (.func i) [] [.ptr bS 0],.fn (.func ig) [] []] [.agg (C4 r.1),.b r.2]:= by
 unfold C22 at h
 refine oB h fun o ho h=>?_
 have hl3:∀s,(H++bM ig s).length = H.length + 3:=fun s=>by rw [List.length_append]; rfl
 refine cF rfl rfl<|sg 0 rfl<|A0 (E5 (cs:=[.fn (.func ig) [] []]) rfl rfl rfl) rfl<|A0 I3 rfl<|A0 I3 rfl<|es (ra4 rfl rfl rfl rfl)<|C2<|s0<|qm rfl<|es (ra4 rfl rfl rfl rfl)<|C6 ?_
 refine B25 (it:=it) (sh:=shF) (pre:=B4a t days bS b) hit (K:=H.length + 3) [(3,.ptr (H.length + 0) 0),(4,.ptr (H.length + 1) 0),(5,.ptr (H.length + 2) 0)] (fun s=>H++bM ig s) (fun (_:Unit)=>H++bM ig (fnd0,false)) (fun _=>.ret) ho (fun _=>rfl) rfl (fun S hS=>O1 (live:=[3,4,5]) rfl (by decide) (Sub.trans (su3 rfl rfl rfl) hS)) rfl (fun _=>hl3 _) (fun _=>hl3 _) ⟨fun _ _=>by rw [List.append_assoc]; exact hpre.app,fun _ _=>by rw [List.append_assoc]; exact hpre.app⟩ (B4d hscv) (fun c' x s o' L v hsc hgr hv hbo y0 y1 hy0 hy1=>?_) ?_
 ·obtain rfl:v = .agg (C4 x):=hv
  have hGl:∀s z,(H++bM ig s++z :: L).length = H.length + 3 + 1 + L.length:=fun s z=>by rw [List.length_append,hl3]; simp; omega
  refine U5<|rg 0 rfl<|A0 I3 rfl<|N9 (E8 (ds:=C4 x) rfl rfl rfl rfl (A0u (by rw [hGl]; exact Nat.le_add_right _ _)) rfl) rfl<|en (ra4 rfl rfl rfl rfl) ⟨rfl,L++[.cells (C4 x)],by simp,?_⟩
  refine B5j (show _ = H++(.cells [.fn (.func ig) [] []] :: .cells (C4 s.1) :: .cells [.b s.2] :: y1 :: (L++[AO.cells (C4 x)])) by simp [bM]) ?_
  rw [show (AV.ptr ((H++bM ig s++y0 :: L).length + (0 + 0)) 0) = .ptr (H.length + 3 + 1 + L.length) 0 by rw [hGl]; rfl]
  have q6:∀s':pawn_found × Bool,hcells (H++(.cells [.fn (.func ig) [] []] :: .cells (C4 s'.1) :: .cells [.b s'.2] :: y1 :: (L++[AO.cells (C4 x)]))) (H.length + 3 + 1 + L.length) = some (C4 x):=fun s'=>by
   rw [show H++(.cells [.fn (.func ig) [] []] :: .cells (C4 s'.1) :: .cells [.b s'.2] :: y1 :: (L++[AO.cells (C4 x)])) = (H++bM ig s'++y1 :: L)++[AO.cells (C4 x)] by simp [bM],← hGl s' y1]
   exact D8 (j:=0) rfl
  have htk:∀(s':pawn_found × Bool),(H++(.cells [.fn (.func ig) [] []] :: .cells (C4 s'.1) :: .cells [.b s'.2] :: y1 :: (L++[AO.cells (C4 x)]))).take (H.length + 3 + 1 + L.length) = H++bM ig s'++y1 :: L:=fun s'=>by
   rw [show H++(.cells [.fn (.func ig) [] []] :: .cells (C4 s'.1) :: .cells [.b s'.2] :: y1 :: (L++[AO.cells (C4 x)])) = (H++bM ig s'++y1 :: L)++[AO.cells (C4 x)] by simp [bM],← hGl s' y1]
   exact List.take_left
  unfold D49 at hbo
  refine oB hbo fun z hz hbo=>?_
  refine C6<|s0<|A0 (B2 (x:=.b s.2) rfl rfl rfl) rfl<|A0 (C37 rfl rfl) rfl<|qm rfl<|gp 6 17 (.b z) 11 rfl rfl (fun hc1=>?_) (fun hc1=>?_) ?_
  ·obtain rfl:=os (bt hz hc1)
   exact nF rfl hc1 rfl<|nF rfl hc1 rfl<|nF rfl hc1 rfl<|H6 (E0 rfl (by rw [hc1]; rfl)) rfl<|nF rfl hc1 rfl<|A0 (C8 rfl hc1 rfl) rfl<|ge 6 rfl rfl rfl
  ·refine oB (bf hz hc1) fun q hq hz=>?_
   obtain rfl:=os hz
   exact gF rfl hc1<|A0 (B2 (x:=.fn (.func ig) [] []) rfl rfl rfl) rfl<|gF rfl hc1<|A0 (A6v (ds:=C4 x) rfl (q6 s) rfl rfl) rfl<|gF rfl hc1<|A0 (A3m (ds:=C4 s.1) rfl rfl rfl rfl) rfl<|gF rfl hc1<|B8 (rs:=[.i q]) rfl rfl (A2 (D0 rfl) (A2 (D0 rfl) B7)) (hg hq)<|gF rfl hc1<|A0 (I0 rfl rfl) rfl<|A0 (C7 rfl hc1 rfl) rfl<|ge 6 rfl rfl rfl
  ·refine es (ra4 rfl rfl rfl rfl)<|wi hbo rfl (fun hc2 hbo=>?_) fun hc2 hbo=>?_
   ·cases hbo
    refine r0<|A0 (A6v (ds:=C4 x) rfl (q6 s) rfl rfl) rfl<|N9 (E8 (j:=1) (ds:=C4 x) rfl rfl rfl rfl (E2 rfl) rfl) rfl<|N9 (E8 (j:=2) (ds:=[.b true]) rfl rfl rfl rfl (E2 rfl) rfl) rfl<|en .n ⟨rfl,htk (x,true)⟩
   ·cases hbo
    exact C3 ⟨rfl,htk s⟩
 ·rcases o with s | s
  ·obtain rfl:=os h
   refine B5j (show _ = H++[.cells [.fn (.func ig) [] []],.cells (C4 s.1),.cells [.b s.2],.dead] by simp [bM]) ?_
   refine s0<|A0 (A3m (ds:=C4 s.1) rfl rfl rfl rfl) rfl<|C2a [2] [.cells [.fn (.func ig) [] []],.cells (C4 s.1),.cells [.b s.2],.dead] (O6 [] rfl (B4m rfl B0w G4) rfl rfl) (seen0 rfl) (E8 (j:=1) (ds:=C4 s.1) rfl rfl rfl rfl (E2 rfl) rfl) rfl rfl rfl<|I9 [] (O6 [] rfl G4 rfl rfl) (C2k (b:=H.length + 2) rfl (B4e (A7e _ rfl) B8f)) (B2 (x:=.b s.2) rfl rfl rfl) rfl<|N9 (E8 (j:=2) (ds:=[.b s.2]) rfl rfl rfl rfl (E2 rfl) rfl) rfl<|es (ra2 rfl rfl)<|C5 ?_
   exact ⟨_,retq trivial (A93 (A3m (ds:=C4 s.1) rfl rfl rfl rfl) (A93 (B2 (x:=.b s.2) rfl rfl rfl) B6)) (A5 (B32 rfl) (A5 rfl B5)) (A3 (B3b rfl) (A3 A4 A8)),rfl⟩
  ·cases h
end Pw
namespace Am
open Go
theorem B6f.it {α:Type} {T:Tab} {i:Nat} {fc:List AV} {ea:α→AV} {pre:A1→Prop} {it:∀(σ ρ:Type),(α→σ→Option (σ ⊕ ρ))→σ→Option (σ ⊕ ρ)} (h:B6f T i fc (fun _ _ x v=>v = ea x) pre it):D7q T i fc ea pre it :=
 fun Hm N h1 h2 y hb hc body hy _ _ ho _ hs=>h Hm N h1 h2 y hb hc body (fun a b d e=>by subst d; exact hy a b e) ho hs
end Am
end
section
set_option maxRecDepth 100000
set_option maxHeartbeats 0
namespace Pw
open Go Am Go.Proofs.YtjpjdglddmhplaaGreat.Cd
def A90 (a0:PaShow):Option ((List PaUse) × Int × Int × Int) :=
 (A1u a0).bind fun x1 =>
 if (x1.1 == 0) = true then
  (C22 (C0w a0 x1.2) A81).bind fun x4 =>
  some (x4.1.plan_,x4.1.without_,x4.1.cost_,0)
 else
  some (([]:List PaUse),0,0,x1.1)
theorem B2g {c:Sc} {H:A1} (hscv:R4 c H = true) {a0:PaShow} {r:((List PaUse) × Int × Int × Int)} (h:A90 a0 = some r) :
  E1 tab c H (.fn (.func 26) [] []) [(.agg (B1 a0))] [(.seq 3 (List.map A7 r.1)),.i r.2.1,.i r.2.2.1,.i r.2.2.2]:= by
 unfold A90 at h
 refine cE rfl rfl<|sg 0 rfl<|A0 (E5 (cs:=B1 a0) rfl rfl rfl) rfl<|qm rfl<|qm rfl<|qm rfl<|qm rfl<|es (ra1 rfl)<|s0<|oB h fun x1 hx1 h=>A0 (D2 rfl rfl rfl) rfl ?_
 by_cases hc2:(x1.1 == 0) = true
 ·rw [if_pos hc2] at h
  obtain ⟨X3,hX3⟩:=A15 hx1 hc2
  refine O4 (A3o hX3 rfl rfl (A2 (D0 rfl) B7) rfl) rfl<|qm rfl<|A0 (A9 rfl rfl) rfl<|A0 (A9 rfl rfl) rfl<|qm rfl<|qm rfl<|es (ra2 rfl rfl)<|C2<|s0<|qm rfl<|A0 (O8 (v:=(.b false)) rfl rfl rfl) rfl<|es (ra3 rfl rfl rfl)<|P7 rfl rfl<|C3<|sg 4 rfl<|qm rfl<|A4r (as2:=[(.ptr (H.length + 3) 0)]) (H1:=(H++[(.cells (B1 a0)),(.cells (B1 a0)),X3,(.cells [(.seq 8 (List.map C1 a0.Gowns)),(.seq 4 (List.map B3 a0.Figures)),.i a0.Purse,(.seq 2 (List.map D1 a0.Incomes)),(.fn (.func 90) [] []),(.fn (.func 91) [] []),(.fn (.func 92) [] []),(.fn (.func 52) [] []),(.fn (.func 93) [] []),(.fn (.func 94) [] []),(.fn (.func 55) [] []),(.fn (.func 95) [] []),(.fn (.func 96) [] []),(.seq 1 (List.map cI x1.2))]),.dead])) rfl rfl (A2 rfl B7) rfl rfl rfl (A9u rfl)<|sg 5 rfl<|A0 (E5 (cs:=[(.ptr (H.length + 3) 0)]) rfl rfl rfl) rfl<|qm rfl<|es (ra1 rfl)<|s0<|A0 (A28 rfl rfl) rfl<|qm rfl<|es (ra1 rfl)<|C5<|InlQ.mk trivial ⟨_,_,_,[(.fn (.func 106) [] [(.ptr (H.length + 5) 0)])],_,(A6 rfl B6),(A5 rfl B5),(A9s (T6 (B3c (T6 (A5p rfl)))) (A9r rfl B3l)),?_⟩
  refine oB h fun x4 hx4 h=>B8 (rs:=[(.agg (C4 x4.1)),.b x4.2]) rfl rfl (A2 rfl (A2 rfl B7)) (C1f (C6g (t:=a0) (days:=x1.2) (bS:=H.length + 5) (b:=H.length + 3)) (fun h=>(B7o h).frz) (And.intro (D8 rfl) (D8 rfl)) (B4d hscv) hx4)<|qm rfl<|A0 (A9 rfl rfl) rfl<|A0 (A9 rfl rfl) rfl<|A0 I3 rfl<|N9 (E8 (ds:=(C4 x4.1)) rfl rfl rfl rfl (E2 rfl) rfl) rfl<|qm rfl<|es (ra1 rfl)<|s0<|A0 (B9 rfl) rfl<|A0 (B2 rfl rfl rfl) rfl<|A0 (B9 rfl) rfl<|A0 (B2 rfl rfl rfl) rfl<|A0 (B9 rfl) rfl<|A0 (B2 rfl rfl rfl) rfl<|qm rfl<|qm rfl<|qm rfl<|qm rfl<|es (ra4 rfl rfl rfl rfl)<|C5 ?_
  obtain rfl:=os h
  exact retq trivial (A6 rfl (A6 rfl (A6 rfl (A6 rfl B6)))) (A5 rfl (A5 rfl (A5 rfl (A5 rfl B5)))) (A3 K0 (A3 A4 (A3 A4 (A3 A4 A8))))
 ·rw [if_neg hc2] at h
  refine O4 (Q5 (rs:=[.lit (.pointer none),.i x1.1]) rfl rfl (A2 (D0 rfl) B7) (A20 hx1 (by simpa using hc2)) rfl) rfl<|qm rfl<|A0 (A9 rfl rfl) rfl<|A0 (A9 rfl rfl) rfl<|qm rfl<|qm rfl<|es (ra2 rfl rfl)<|C2<|s0<|qm rfl<|A0 (J5 rfl rfl) rfl<|es (ra3 rfl rfl rfl)<|N6 rfl (nef hc2)<|s0<|qm rfl<|qm rfl<|qm rfl<|qm rfl<|qm rfl<|es (ra4 rfl rfl rfl rfl)<|C5 ?_
  obtain rfl:=os h
  exact retq trivial (A6 rfl (A6 rfl (A6 rfl (A6 rfl B6)))) (A5 rfl (A5 rfl (A5 rfl (A5 rfl B5)))) (A3 K0 (A3 A4 (A3 A4 (A3 A4 A8))))
def Z2 (a0:PaUse) (a1:Int):Option Bool :=
 some ((a0.Gown == a1) && (a0.How == 1))
theorem A8w {c:Sc} {H:A1} {a0:PaUse} {a1:Int} {b1:Nat} (hb1:hcells H b1 = some (cI a1)) {r:Bool} (h:Z2 a0 a1 = some r) :
  E1 tab c H (.fn (.func 105) [] []) [(.agg (A7 a0)),.ptr b1 0] [.b r]:= by
 unfold Z2 at h
 refine cE rfl rfl<|sg 0 rfl<|A0 (E5 (cs:=A7 a0) rfl rfl rfl) rfl<|qm rfl<|es (ra2 rfl rfl)<|s0<|A0 (B9 rfl) rfl<|A0 (B2 rfl rfl rfl) rfl<|A0 (F7 rfl hb1 rfl) rfl<|A0 (G0 rfl rfl) rfl<|qm rfl<|gp 4 12 (.b ((a0.Gown == a1) && (a0.How == 1))) 8 rfl rfl (fun hg1=>?_) (fun hg1=>?_) ?_
 ·exact gT rfl hg1<|A0 (B9 rfl) rfl<|gT rfl hg1<|A0 (B2 rfl rfl rfl) rfl<|gT rfl hg1<|A0 (G0 rfl rfl) rfl<|A0 (C8 rfl hg1 rfl) rfl<|ge 4 (by rw [hg1]; rfl) rfl rfl
 ·exact nT rfl hg1 rfl<|nT rfl hg1 rfl<|nT rfl hg1 rfl<|A0 (C7 rfl hg1 rfl) rfl<|ge 4 (by rw [hg1]; rfl) rfl rfl
 refine qm rfl<|es (ra1 rfl)<|C5 ?_
 obtain rfl:=os h
 exact retq trivial (A6 rfl B6) (A5 rfl B5) (A3 A4 A8)
def A38 (a0:pawn_show) (a1:(List PaUse)) (a2:Int):Option Bool :=
 (E7 a1 (fun (y:PaUse)=>Z2 y a2)).bind fun x1 =>
 some x1
theorem B06 {c:Sc} {H:A1} {a0:pawn_show} {b0:Nat} (hb0:hcells H b0 = some [(.seq 8 (List.map C1 a0.PaShow.Gowns)),(.seq 4 (List.map B3 a0.PaShow.Figures)),.i a0.PaShow.Purse,(.seq 2 (List.map D1 a0.PaShow.Incomes)),(.fn (.func 90) [] []),(.fn (.func 91) [] []),(.fn (.func 92) [] []),(.fn (.func 52) [] []),(.fn (.func 93) [] []),(.fn (.func 94) [] []),(.fn (.func 55) [] []),(.fn (.func 95) [] []),(.fn (.func 96) [] []),(.seq 1 (List.map cI a0.days_))]) {a1:(List PaUse)} {a2:Int} {r:Bool} (h:A38 a0 a1 a2 = some r) :
  E1 tab c H (.fn (.func 68) [] []) [.ptr b0 0,(.seq 3 (List.map A7 a1)),.i a2] [.b r]:= by
 unfold A38 at h
 refine cE rfl rfl<|sg 0 rfl<|A0 (E5 (cs:=cI a2) rfl rfl rfl) rfl<|qm rfl<|es (ra2 rfl rfl)<|s0<|oB h fun x1 hx1 h=>qm rfl<|A0 (A28 rfl rfl) rfl<|B8 (rs:=[.b x1]) rfl rfl (A2 rfl (A2 rfl B7)) ((W6 (show Impl _ _ 105 [] [(.ptr (H.length + 0) 0)] (fun (y:PaUse)=>Z2 y a2) (fun (y:PaUse)=>[(.agg (A7 y))]) (fun (y:Bool)=>[.b y]) from ⟨⟨A8,(by rw [List.length_append]; exact (A3 (K8 rfl) A8))⟩,fun H' hle hag c y r hr=>(A2z (A8w (hag _ _ (D8 rfl)) hr)).frz⟩) hx1).frz)<|qm rfl<|es (ra1 rfl)<|C5 ?_
 obtain rfl:=os h
 exact retq trivial (A6 rfl B6) (A5 rfl B5) (A3 A4 A8)
def B2l (a0:PaShow) (a1:(List PaUse)) (x1:(Int × (List Int))) (s4:(Int × (List Int))):Option ((Int × (List Int)) ⊕ (List Int)) :=
 if (decide (s4.1 < (List.length a0.Gowns:Int))) = true then
  (idx a0.Gowns s4.1).bind fun x7 =>
  (if (x7.Pawn && (decide (x7.Last < 364))) = true then
  (A38 (pawn_show.mk a0 (Ar3.mk (pawn_way.mk ) (pawn_way.mk ) (pawn_way.mk )) x1.2) a1 s4.1).bind fun x10 =>
  some (!x10)
  else
  some false).bind fun x11 =>
  if x11 = true then
  (app 8 s4.2 [s4.1]).bind fun x13 =>
  some (.inl ((w64 (s4.1 + 1)),x13))
  else
  some (.inl ((w64 (s4.1 + 1)),s4.2))
 else
  some (.inr s4.2)
def B37 (a0:PaShow) (a1:(List PaUse)):Option ((List Int) × Int) :=
 (A2p a0 a1).bind fun x1 =>
 if (x1.1 == 0) = true then
  (loop (B2l a0 a1 x1) (0,([]:List Int))).bind fun (o14:(List Int)) =>
  some (o14,0)
 else
  some (([]:List Int),x1.1)
theorem C17 {c:Sc} {H:A1} {a0:PaShow} {a1:(List PaUse)} {r:((List Int) × Int)} (h:B37 a0 a1 = some r) :
  E1 tab c H (.fn (.func 24) [] []) [(.agg (B1 a0)),(.seq 3 (List.map A7 a1))] [(.fresh 1 (List.map cI r.1)),.i r.2]:= by
 unfold B37 at h
 refine cE rfl rfl<|sg 0 rfl<|A0 (E5 (cs:=B1 a0) rfl rfl rfl) rfl<|A0 A5w rfl<|qm rfl<|es (ra3 rfl rfl rfl)<|s0<|oB h fun x1 hx1 h=>A0 (D2 rfl rfl rfl) rfl<|qm rfl ?_
 by_cases hc2:(x1.1 == 0) = true
 ·rw [if_pos hc2] at h
  obtain ⟨X3,hX3⟩:=A84 hx1 hc2
  refine O4 (A3o hX3 rfl rfl (A2 (D0 rfl) (A2 rfl B7)) rfl) rfl<|qm rfl<|A0 (A9 rfl rfl) rfl<|A0 (A9 rfl rfl) rfl<|qm rfl<|qm rfl<|es (ra5 rfl rfl rfl rfl rfl)<|C2<|s0<|qm rfl<|A0 (O8 (v:=(.b false)) rfl rfl rfl) rfl<|es (ra6 rfl rfl rfl rfl rfl rfl)<|P7 rfl rfl<|C3<|s0<|qm rfl<|A0 (A28 rfl rfl) rfl<|qm rfl<|es (ra4 rfl rfl rfl rfl)<|C2<|s0<|A0 (B9 rfl) rfl<|A0 (B2 rfl rfl rfl) rfl<|A0 (F6 (f:=C1) rfl) rfl<|qm rfl<|es (ra6 rfl rfl rfl rfl rfl rfl)<|C6<|oB h fun o14 ho14 h=>wl (fun s4=>[(1,(.seq 3 (List.map A7 a1))),(4,(.asl (H.length + 1) (List.length s4.2))),(7,(.fn (.func 68) [(.ptr (H.length + 5) 0)] [])),(22,(.seq 8 (List.map C1 a0.Gowns))),(23,(.i (List.length a0.Gowns:Int))),(24,.i s4.1)]) (fun (q5:Unit) s4=>[(.cells (B1 a0)),(.arr 1 false (List.map cI s4.2)),(.cells (B1 a0)),(.cells (B1 a0)),X3,(.cells [(.seq 8 (List.map C1 a0.Gowns)),(.seq 4 (List.map B3 a0.Figures)),.i a0.Purse,(.seq 2 (List.map D1 a0.Incomes)),(.fn (.func 90) [] []),(.fn (.func 91) [] []),(.fn (.func 92) [] []),(.fn (.func 52) [] []),(.fn (.func 93) [] []),(.fn (.func 94) [] []),(.fn (.func 55) [] []),(.fn (.func 95) [] []),(.fn (.func 96) [] []),(.seq 1 (List.map cI x1.2))])]) 6 (fun r e s' H'=>PX 0 [(4,(.asl (H.length + 1) (List.length r)))] (H++[(.cells (B1 a0)),(.arr 1 false (List.map cI r)),(.cells (B1 a0)),(.cells (B1 a0)),X3,(.cells [(.seq 8 (List.map C1 a0.Gowns)),(.seq 4 (List.map B3 a0.Figures)),.i a0.Purse,(.seq 2 (List.map D1 a0.Incomes)),(.fn (.func 90) [] []),(.fn (.func 91) [] []),(.fn (.func 92) [] []),(.fn (.func 52) [] []),(.fn (.func 93) [] []),(.fn (.func 94) [] []),(.fn (.func 55) [] []),(.fn (.func 95) [] []),(.fn (.func 96) [] []),(.seq 1 (List.map cI x1.2))])]) e s' H') () ho14 rfl rfl (fun _ _=>rfl) (fun _=>rfl) rfl (fun s4=>(bdc K0 (bdc (A05 rfl) (bdc (D5p (A3 (K8 rfl) A8) A8) (bdc K0 (bdc A4 (bdc A4 bdn))))))) (fun q5 s4 ys4 hs4=>?_) ?_
  ·unfold B2l at hs4
   refine s0<|A0 (I0 rfl rfl) rfl<|es (ra7 rfl rfl rfl rfl rfl rfl rfl)<|C2<|wi hs4 rfl (fun hc6 hs4=>?_) fun hc6 hs4=>?_
   ·refine C3<|C2<|C6<|sg 6 rfl<|oB hs4 fun x7 hx7 hs4=>qm rfl<|A0 (E9 (f:=C1) rfl rfl hx7) rfl<|A0 (F5 rfl rfl) rfl<|A0 I3 rfl<|qm rfl<|N9 (E8 (ds:=(C1 x7)) rfl rfl rfl rfl (E2 rfl) rfl) rfl<|es (ra8 rfl rfl rfl rfl rfl rfl rfl rfl)<|s0<|oB hs4 fun x11 hx11 hs4=>A0 (B9 rfl) rfl<|A0 (B2 rfl rfl rfl) rfl<|qm rfl<|gp 4 35 (.b (x7.Pawn && (decide (x7.Last < 364)))) 31 rfl rfl (fun hg8=>?_) (fun hg8=>?_) ?_
    ·exact gT rfl hg8<|A0 (B9 rfl) rfl<|gT rfl hg8<|A0 (B2 rfl rfl rfl) rfl<|gT rfl hg8<|A0 (I0 rfl rfl) rfl<|A0 (C8 rfl hg8 rfl) rfl<|ge 4 (by rw [hg8]; rfl) rfl rfl
    ·exact nT rfl hg8 rfl<|nT rfl hg8 rfl<|nT rfl hg8 rfl<|A0 (C7 rfl hg8 rfl) rfl<|ge 4 (by rw [hg8]; rfl) rfl rfl
    refine qm rfl<|gp 6 42 (.b x11) 36 rfl rfl (fun hg9=>?_) (fun hg9=>?_) ?_
    ·refine oB (bt hx11 hg9) fun x10 hx10 hx11=>?_
     obtain rfl:=os hx11
     exact gT rfl hg9<|qm rfl<|gT rfl hg9<|qm rfl<|gT rfl hg9<|qm rfl<|gT rfl hg9<|B8 (rs:=[.b x10]) rfl rfl (A2 rfl (A2 rfl B7)) ((A2z (B06 (D8 rfl) hx10)).frz)<|gT rfl hg9<|A0 (Q8 rfl) rfl<|A0 (C8 rfl hg9 rfl) rfl<|ge 6 rfl rfl rfl
    ·obtain rfl:=os (bf hx11 hg9)
     exact nT rfl hg9 rfl<|nT rfl hg9 rfl<|nT rfl hg9 rfl<|H6 (E0 rfl (by rw [hg9]; rfl)) rfl<|nT rfl hg9 rfl<|A0 (C7 rfl hg9 rfl) rfl<|ge 6 rfl rfl rfl
    refine es (ra8 rfl rfl rfl rfl rfl rfl rfl rfl)<|wi hs4 rfl (fun hc12 hs4=>?_) fun hc12 hs4=>?_
    ·refine r0<|oB hs4 fun x13 hx13 hs4=>qm rfl<|qm rfl<|A0 (J4 (rows:=List.map cI [s4.1]) rfl rfl (E4 (fun _=>rfl) _)) rfl<|O4 (A44 (f:=cI) rfl rfl rfl rfl A5b (fun _=>rfl) hx13) rfl<|qm rfl<|en (ra6 rfl rfl rfl rfl rfl rfl)<|r0<|A0 (F2 rfl rfl) rfl<|qm rfl<|en (ra6 rfl rfl rfl rfl rfl rfl) ?_
     cases hs4
     exact lnT () rfl (su6 rfl rfl rfl rfl rfl rfl)
    ·refine C3<|r0<|A0 (F2 rfl rfl) rfl<|qm rfl<|en (ra6 rfl rfl rfl rfl rfl rfl) ?_
     cases hs4
     exact lnT () rfl (su6 rfl rfl rfl rfl rfl rfl)
   ·refine G6 ?_
    obtain rfl:=os hs4
    exact lx rfl px (su1 rfl)
  ·rintro e s' H' - ⟨rfl,rfl,rfl⟩
   refine s0<|qm rfl<|qm rfl<|qm rfl<|es (ra2 rfl rfl)<|C5 ?_
   obtain rfl:=os h
   exact retq trivial (A6 rfl (A6 rfl B6)) (A5 (A49 rfl (List.length_map _)) (A5 rfl B5)) (A3 X7 (A3 A4 A8))
 ·rw [if_neg hc2] at h
  refine O4 (Q5 (rs:=[.lit (.pointer none),.i x1.1]) rfl rfl (A2 (D0 rfl) (A2 rfl B7)) (A83 hx1 (by simpa using hc2)) rfl) rfl<|qm rfl<|A0 (A9 rfl rfl) rfl<|A0 (A9 rfl rfl) rfl<|qm rfl<|qm rfl<|es (ra5 rfl rfl rfl rfl rfl)<|C2<|s0<|qm rfl<|A0 (J5 rfl rfl) rfl<|es (ra6 rfl rfl rfl rfl rfl rfl)<|N6 rfl (nef hc2)<|sg 2 rfl<|qm rfl<|A0 A5w rfl<|qm rfl<|es (ra2 rfl rfl)<|C5 ?_
  obtain rfl:=os h
  exact retq trivial (A6 rfl (A6 rfl B6)) (A5 (A49 rfl (List.length_map _)) (A5 rfl B5)) (A3 X7 (A3 A4 A8))
def A82 (a0:pawn_found) (a1:pawn_found):Option Int :=
 (A7d [(w64 (a0.without_ - a1.without_)),(w64 (a0.short_ - a1.short_))]).bind fun x1 =>
 some x1
theorem B7p {c:Sc} {H:A1} {a0:pawn_found} {a1:pawn_found} {r:Int} (h:A82 a0 a1 = some r) :
  E1 tab c H (.fn (.func 76) [] []) [(.agg (C4 a0)),(.agg (C4 a1))] [.i r]:= by
 unfold A82 at h
 refine cE rfl rfl<|sg 0 rfl<|A0 (E5 (cs:=C4 a0) rfl rfl rfl) rfl<|A0 (E5 (cs:=C4 a1) rfl rfl rfl) rfl<|qm rfl<|es (ra2 rfl rfl)<|s0<|oB h fun x1 hx1 h=>A0 (B9 rfl) rfl<|A0 (B2 rfl rfl rfl) rfl<|A0 (B9 rfl) rfl<|A0 (B2 rfl rfl rfl) rfl<|A0 (T5 rfl rfl) rfl<|A0 (B9 rfl) rfl<|A0 (B2 rfl rfl rfl) rfl<|A0 (B9 rfl) rfl<|A0 (B2 rfl rfl rfl) rfl<|A0 (T5 rfl rfl) rfl<|A0 (J4 (rows:=List.map cI [(w64 (a0.without_ - a1.without_)),(w64 (a0.short_ - a1.short_))]) rfl rfl (E4 (fun _=>rfl) _)) rfl<|B8 (rs:=[.i x1]) rfl rfl (A2 rfl B7) ((B0h hx1).frz)<|qm rfl<|es (ra1 rfl)<|C5 ?_
 obtain rfl:=os h
 exact retq trivial (A6 rfl B6) (A5 rfl B5) (A3 A4 A8)
def B38 (a0:PaShow):Option (Int × Int) :=
 (A1u a0).bind fun x1 =>
 if (x1.1 == 0) = true then
  (C22 (C2y a0 x1.2) A82).bind fun x4 =>
  if (((!x4.2) || (decide (x4.1.without_ > 0))) || (decide (x4.1.short_ > 10000))) = true then
  some (0,9)
  else
  if (x4.1.short_ == 0) = true then
   some (0,4)
  else
   some (x4.1.short_,0)
 else
  some (0,x1.1)
theorem C18 {c:Sc} {H:A1} (hscv:R4 c H = true) {a0:PaShow} {r:(Int × Int)} (h:B38 a0 = some r) :
  E1 tab c H (.fn (.func 31) [] []) [(.agg (B1 a0))] [.i r.1,.i r.2]:= by
 unfold B38 at h
 refine cE rfl rfl<|sg 0 rfl<|A0 (E5 (cs:=B1 a0) rfl rfl rfl) rfl<|qm rfl<|qm rfl<|es (ra1 rfl)<|s0<|oB h fun x1 hx1 h=>A0 (D2 rfl rfl rfl) rfl ?_
 by_cases hc2:(x1.1 == 0) = true
 ·rw [if_pos hc2] at h
  obtain ⟨X3,hX3⟩:=A15 hx1 hc2
  refine O4 (A3o hX3 rfl rfl (A2 (D0 rfl) B7) rfl) rfl<|qm rfl<|A0 (A9 rfl rfl) rfl<|A0 (A9 rfl rfl) rfl<|qm rfl<|qm rfl<|es (ra2 rfl rfl)<|C2<|s0<|qm rfl<|A0 (O8 (v:=(.b false)) rfl rfl rfl) rfl<|es (ra3 rfl rfl rfl)<|P7 rfl rfl<|C3<|sg 4 rfl<|qm rfl<|A4r (as2:=[(.ptr (H.length + 3) 0)]) (H1:=(H++[(.cells (B1 a0)),(.cells (B1 a0)),X3,(.cells [(.seq 8 (List.map C1 a0.Gowns)),(.seq 4 (List.map B3 a0.Figures)),.i a0.Purse,(.seq 2 (List.map D1 a0.Incomes)),(.fn (.func 90) [] []),(.fn (.func 91) [] []),(.fn (.func 92) [] []),(.fn (.func 52) [] []),(.fn (.func 93) [] []),(.fn (.func 94) [] []),(.fn (.func 55) [] []),(.fn (.func 95) [] []),(.fn (.func 96) [] []),(.seq 1 (List.map cI x1.2))]),.dead])) rfl rfl (A2 rfl B7) rfl rfl rfl (A9u rfl)<|sg 5 rfl<|A0 (E5 (cs:=[(.ptr (H.length + 3) 0)]) rfl rfl rfl) rfl<|qm rfl<|es (ra1 rfl)<|s0<|A0 (A28 rfl rfl) rfl<|qm rfl<|es (ra1 rfl)<|C5<|InlQ.mk trivial ⟨_,_,_,[(.fn (.func 108) [] [(.ptr (H.length + 5) 0)])],_,(A6 rfl B6),(A5 rfl B5),(A9s (T6 (B3c (T6 (A5p rfl)))) (A9r rfl B3l)),?_⟩
  refine oB h fun x4 hx4 h=>B8 (rs:=[(.agg (C4 x4.1)),.b x4.2]) rfl rfl (A2 rfl (A2 rfl B7)) (C1f (D0e (t:=a0) (days:=x1.2) (bS:=H.length + 5) (b:=H.length + 3)) (fun h=>(B7p h).frz) (And.intro (D8 rfl) (D8 rfl)) (B4d hscv) hx4)<|qm rfl<|A0 (A9 rfl rfl) rfl<|A0 (A9 rfl rfl) rfl<|A0 I3 rfl<|N9 (E8 (ds:=(C4 x4.1)) rfl rfl rfl rfl (E2 rfl) rfl) rfl<|qm rfl<|es (ra2 rfl rfl)<|C2<|C6<|s0<|qm rfl<|A0 (Q8 rfl) rfl<|qm rfl<|gp 4 29 (.b ((!x4.2) || (decide (x4.1.without_ > 0)))) 25 rfl rfl (fun hg5=>?_) (fun hg5=>?_) ?_
  ·exact nF rfl hg5 rfl<|nF rfl hg5 rfl<|nF rfl hg5 rfl<|A0 (C8 rfl hg5 rfl) rfl<|ge 4 (by rw [hg5]; rfl) rfl rfl
  ·exact gF rfl hg5<|A0 (B9 rfl) rfl<|gF rfl hg5<|A0 (B2 rfl rfl rfl) rfl<|gF rfl hg5<|A0 (Y8 rfl rfl) rfl<|A0 (C7 rfl hg5 rfl) rfl<|ge 4 (by rw [hg5]; rfl) rfl rfl
  refine qm rfl<|gp 4 34 (.b (((!x4.2) || (decide (x4.1.without_ > 0))) || (decide (x4.1.short_ > 10000)))) 30 rfl rfl (fun hg6=>?_) (fun hg6=>?_) ?_
  ·exact nF rfl hg6 rfl<|nF rfl hg6 rfl<|nF rfl hg6 rfl<|A0 (C8 rfl hg6 rfl) rfl<|ge 4 (by rw [hg6]; rfl) rfl rfl
  ·exact gF rfl hg6<|A0 (B9 rfl) rfl<|gF rfl hg6<|A0 (B2 rfl rfl rfl) rfl<|gF rfl hg6<|A0 (Y8 rfl rfl) rfl<|A0 (C7 rfl hg6 rfl) rfl<|ge 4 (by rw [hg6]; rfl) rfl rfl
  refine qm rfl<|es (ra2 rfl rfl)<|wi h rfl (fun hc7 h=>?_) fun hc7 h=>?_
  ·refine s0<|qm rfl<|qm rfl<|es (ra2 rfl rfl)<|C5 ?_
   obtain rfl:=os h
   exact retq trivial (A6 rfl (A6 rfl B6)) (A5 rfl (A5 rfl B5)) (A3 A4 (A3 A4 A8))
  ·refine s0<|A0 (B9 rfl) rfl<|A0 (B2 rfl rfl rfl) rfl<|A0 (G0 rfl rfl) rfl<|qm rfl<|es (ra2 rfl rfl)<|wi h rfl (fun hc8 h=>?_) fun hc8 h=>?_
   ·refine s0<|qm rfl<|qm rfl<|es (ra2 rfl rfl)<|C5 ?_
    obtain rfl:=os h
    exact retq trivial (A6 rfl (A6 rfl B6)) (A5 rfl (A5 rfl B5)) (A3 A4 (A3 A4 A8))
   ·refine C3<|s0<|A0 (B9 rfl) rfl<|A0 (B2 rfl rfl rfl) rfl<|qm rfl<|qm rfl<|es (ra2 rfl rfl)<|C5 ?_
    obtain rfl:=os h
    exact retq trivial (A6 rfl (A6 rfl B6)) (A5 rfl (A5 rfl B5)) (A3 A4 (A3 A4 A8))
 ·rw [if_neg hc2] at h
  refine O4 (Q5 (rs:=[.lit (.pointer none),.i x1.1]) rfl rfl (A2 (D0 rfl) B7) (A20 hx1 (by simpa using hc2)) rfl) rfl<|qm rfl<|A0 (A9 rfl rfl) rfl<|A0 (A9 rfl rfl) rfl<|qm rfl<|qm rfl<|es (ra2 rfl rfl)<|C2<|s0<|qm rfl<|A0 (J5 rfl rfl) rfl<|es (ra3 rfl rfl rfl)<|N6 rfl (nef hc2)<|s0<|qm rfl<|qm rfl<|qm rfl<|es (ra2 rfl rfl)<|C5 ?_
  obtain rfl:=os h
  exact retq trivial (A6 rfl (A6 rfl B6)) (A5 rfl (A5 rfl B5)) (A3 A4 (A3 A4 A8))
def W8 (a0:PaShow) (a1:(List PaUse)) (a2:Int):Option (Int × Int) :=
 (A2p a0 a1).bind fun x1 =>
 if (x1.1 == 0) = true then
  (E3 0 364 [a2]).bind fun x4 =>
  if x4 = true then
  some (0,7)
  else
  (P9 (pawn_show.mk a0 (Ar3.mk (pawn_way.mk ) (pawn_way.mk ) (pawn_way.mk )) x1.2) a1 a2).bind fun x6 =>
  some (x6,0)
 else
  some (0,x1.1)
theorem A1b {c:Sc} {H:A1} {a0:PaShow} {a1:(List PaUse)} {a2:Int} {r:(Int × Int)} (h:W8 a0 a1 a2 = some r) :
  E1 tab c H (.fn (.func 20) [] []) [(.agg (B1 a0)),(.seq 3 (List.map A7 a1)),.i a2] [.i r.1,.i r.2]:= by
 unfold W8 at h
 refine cE rfl rfl<|sg 0 rfl<|A0 (E5 (cs:=B1 a0) rfl rfl rfl) rfl<|qm rfl<|qm rfl<|es (ra3 rfl rfl rfl)<|s0<|oB h fun x1 hx1 h=>A0 (D2 rfl rfl rfl) rfl<|qm rfl ?_
 by_cases hc2:(x1.1 == 0) = true
 ·rw [if_pos hc2] at h
  obtain ⟨X3,hX3⟩:=A84 hx1 hc2
  refine O4 (A3o hX3 rfl rfl (A2 (D0 rfl) (A2 rfl B7)) rfl) rfl<|qm rfl<|A0 (A9 rfl rfl) rfl<|A0 (A9 rfl rfl) rfl<|qm rfl<|qm rfl<|es (ra4 rfl rfl rfl rfl)<|C2<|C6<|s0<|qm rfl<|A0 (O8 (v:=(.b false)) rfl rfl rfl) rfl<|qm rfl<|es (ra5 rfl rfl rfl rfl rfl)<|P7 rfl rfl<|s0<|oB h fun x4 hx4 h=>qm rfl<|A0 (J4 (rows:=List.map cI [a2]) rfl rfl (E4 (fun _=>rfl) _)) rfl<|B8 (rs:=[.b x4]) rfl rfl (A2 rfl (A2 rfl (A2 rfl B7))) ((F1 hx4).frz)<|qm rfl<|es (ra4 rfl rfl rfl rfl)<|wi h rfl (fun hc5 h=>?_) fun hc5 h=>?_
  ·refine s0<|qm rfl<|qm rfl<|es (ra2 rfl rfl)<|C5 ?_
   obtain rfl:=os h
   exact retq trivial (A6 rfl (A6 rfl B6)) (A5 rfl (A5 rfl B5)) (A3 A4 (A3 A4 A8))
  ·refine C3<|s0<|oB h fun x6 hx6 h=>qm rfl<|qm rfl<|qm rfl<|O4 (U8 (rs:=[.i x6]) rfl rfl ((A5x (D8 rfl) hx6).frz)) rfl<|qm rfl<|qm rfl<|es (ra2 rfl rfl)<|C5 ?_
   obtain rfl:=os h
   exact retq trivial (A6 rfl (A6 rfl B6)) (A5 rfl (A5 rfl B5)) (A3 A4 (A3 A4 A8))
 ·rw [if_neg hc2] at h
  refine O4 (Q5 (rs:=[.lit (.pointer none),.i x1.1]) rfl rfl (A2 (D0 rfl) (A2 rfl B7)) (A83 hx1 (by simpa using hc2)) rfl) rfl<|qm rfl<|A0 (A9 rfl rfl) rfl<|A0 (A9 rfl rfl) rfl<|qm rfl<|qm rfl<|es (ra4 rfl rfl rfl rfl)<|C2<|C6<|s0<|qm rfl<|A0 (J5 rfl rfl) rfl<|qm rfl<|es (ra5 rfl rfl rfl rfl rfl)<|N6 rfl (nef hc2)<|s0<|qm rfl<|qm rfl<|qm rfl<|es (ra2 rfl rfl)<|C5 ?_
  obtain rfl:=os h
  exact retq trivial (A6 rfl (A6 rfl B6)) (A5 rfl (A5 rfl B5)) (A3 A4 (A3 A4 A8))
def A1y (a0:PaShow) (a1:(List PaUse)):Option (Int × Int) :=
 (A2p a0 a1).bind fun x1 =>
 if (x1.1 == 0) = true then
  (O3 (pawn_show.mk a0 (Ar3.mk (pawn_way.mk ) (pawn_way.mk ) (pawn_way.mk )) x1.2) a1).bind fun x4 =>
  if (x4.1 == 0) = true then
  some (0,4)
  else
  some (x4.2,0)
 else
  some (0,x1.1)
theorem A6b {c:Sc} {H:A1} {a0:PaShow} {a1:(List PaUse)} {r:(Int × Int)} (h:A1y a0 a1 = some r) :
  E1 tab c H (.fn (.func 22) [] []) [(.agg (B1 a0)),(.seq 3 (List.map A7 a1))] [.i r.1,.i r.2]:= by
 unfold A1y at h
 refine cE rfl rfl<|sg 0 rfl<|A0 (E5 (cs:=B1 a0) rfl rfl rfl) rfl<|qm rfl<|qm rfl<|es (ra2 rfl rfl)<|s0<|oB h fun x1 hx1 h=>A0 (D2 rfl rfl rfl) rfl<|qm rfl ?_
 by_cases hc2:(x1.1 == 0) = true
 ·rw [if_pos hc2] at h
  obtain ⟨X3,hX3⟩:=A84 hx1 hc2
  refine O4 (A3o hX3 rfl rfl (A2 (D0 rfl) (A2 rfl B7)) rfl) rfl<|qm rfl<|A0 (A9 rfl rfl) rfl<|A0 (A9 rfl rfl) rfl<|qm rfl<|qm rfl<|es (ra3 rfl rfl rfl)<|C2<|s0<|qm rfl<|A0 (O8 (v:=(.b false)) rfl rfl rfl) rfl<|es (ra4 rfl rfl rfl rfl)<|P7 rfl rfl<|C3<|s0<|oB h fun x4 hx4 h=>qm rfl<|qm rfl<|O4 (U8 (rs:=[.i x4.1,.i x4.2]) rfl rfl ((B07 (D8 rfl) hx4).frz)) rfl<|qm rfl<|A0 (A9 rfl rfl) rfl<|A0 (A9 rfl rfl) rfl<|qm rfl<|qm rfl<|es (ra2 rfl rfl)<|C2<|s0<|qm rfl<|A0 (G0 rfl rfl) rfl<|es (ra2 rfl rfl)<|wi h rfl (fun hc5 h=>?_) fun hc5 h=>?_
  ·refine s0<|qm rfl<|qm rfl<|es (ra2 rfl rfl)<|C5 ?_
   obtain rfl:=os h
   exact retq trivial (A6 rfl (A6 rfl B6)) (A5 rfl (A5 rfl B5)) (A3 A4 (A3 A4 A8))
  ·refine C3<|s0<|qm rfl<|qm rfl<|qm rfl<|es (ra2 rfl rfl)<|C5 ?_
   obtain rfl:=os h
   exact retq trivial (A6 rfl (A6 rfl B6)) (A5 rfl (A5 rfl B5)) (A3 A4 (A3 A4 A8))
 ·rw [if_neg hc2] at h
  refine O4 (Q5 (rs:=[.lit (.pointer none),.i x1.1]) rfl rfl (A2 (D0 rfl) (A2 rfl B7)) (A83 hx1 (by simpa using hc2)) rfl) rfl<|qm rfl<|A0 (A9 rfl rfl) rfl<|A0 (A9 rfl rfl) rfl<|qm rfl<|qm rfl<|es (ra3 rfl rfl rfl)<|C2<|s0<|qm rfl<|A0 (J5 rfl rfl) rfl<|es (ra4 rfl rfl rfl rfl)<|N6 rfl (nef hc2)<|s0<|qm rfl<|qm rfl<|qm rfl<|es (ra2 rfl rfl)<|C5 ?_
  obtain rfl:=os h
  exact retq trivial (A6 rfl (A6 rfl B6)) (A5 rfl (A5 rfl B5)) (A3 A4 (A3 A4 A8))
def B0n (a0:(List PaUse)) (a1:(List PaUse)) (s2:Int):Option (Int ⊕ (Bool ⊕ Unit)) :=
 if (decide (s2 < (List.length a0:Int))) = true then
  (idx a0 s2).bind fun x5 =>
  (idx a1 s2).bind fun x6 =>
  if (!((x5.Gown == x6.Gown) && ((x5.How == x6.How) && ((x5.Day == x6.Day) && true)))) = true then
  some (.inr (.inl false))
  else
  some (.inl (w64 (s2 + 1)))
 else
  some (.inr (.inr ()))
def B1d (a0:(List PaUse)) (a1:(List PaUse)):Option Bool :=
 if ((List.length a0:Int) != (List.length a1:Int)) = true then
  some false
 else
  (loop (B0n a0 a1) 0).bind fun (o8:(Bool ⊕ Unit)) =>
  match o8 with
  | (.inl vo8_0) =>
  some vo8_0
  | (.inr vo8_1) =>
  some true
theorem B9b {c:Sc} {H:A1} {a0:(List PaUse)} {a1:(List PaUse)} {r:Bool} (h:B1d a0 a1 = some r) :
  E1 tab c H (.fn (.func 28) [] []) [(.seq 3 (List.map A7 a0)),(.seq 3 (List.map A7 a1))] [.b r]:= by
 unfold B1d at h
 refine cE rfl rfl<|s0<|qm rfl<|es (ra2 rfl rfl)<|C2<|s0<|qm rfl<|A0 (F6 (f:=A7) rfl) rfl<|qm rfl<|A0 (F6 (f:=A7) rfl) rfl<|A0 (J5 rfl rfl) rfl<|es (ra3 rfl rfl rfl)<|wi h rfl (fun hc1 h=>?_) fun hc1 h=>?_
 ·refine s0<|qm rfl<|es (ra1 rfl)<|C5 ?_
  obtain rfl:=os h
  exact retq trivial (A6 rfl B6) (A5 rfl B5) (A3 A4 A8)
 ·refine C3<|C2<|s0<|qm rfl<|es (ra3 rfl rfl rfl)<|C6<|oB h fun o8 ho8 h=>wl (fun s2=>[(0,(.seq 3 (List.map A7 a0))),(1,(.seq 3 (List.map A7 a1))),(5,.i s2)]) (fun (q3:Unit) s2=>[]) 0 (fun r e s' H'=>(match r with | (.inl v)=>e = .ret∧RetQ H [.tmp 4] [.b v] e s' H' | (.inr v)=>PX 0 [] (H++[]) e s' H':Prop)) () ho8 rfl rfl (fun _ _=>rfl) (fun _=>rfl) rfl (fun s2=>(bdc K0 (bdc K0 (bdc A4 bdn)))) (fun q3 s2 ys2 hs2=>?_) ?_
  ·unfold B0n at hs2
   refine C2<|s0<|qm rfl<|qm rfl<|A0 (F6 (f:=A7) rfl) rfl<|A0 (I0 rfl rfl) rfl<|es (ra4 rfl rfl rfl rfl)<|wi hs2 rfl (fun hc4 hs2=>?_) fun hc4 hs2=>?_
   ·refine C3<|C2<|C6<|s0<|oB hs2 fun x5 hx5 hs2=>oB hs2 fun x6 hx6 hs2=>qm rfl<|qm rfl<|A0 (E9 (f:=A7) rfl rfl hx5) rfl<|A0 (F5 rfl rfl) rfl<|qm rfl<|qm rfl<|A0 (E9 (f:=A7) rfl rfl hx6) rfl<|A0 (F5 rfl rfl) rfl<|A0 (D1w (a:=A7 x5) (b:=A7 x6) rfl rfl rfl rfl (V5 (V5 (V5 B1t)))) rfl<|es (ra4 rfl rfl rfl rfl)<|wi hs2 rfl (fun hc7 hs2=>?_) fun hc7 hs2=>?_
    ·refine s0<|qm rfl<|es (ra1 rfl)<|C5 ?_
     obtain rfl:=os hs2
     exact lx rfl (And.intro rfl (retq trivial (A6 rfl B6) (A5 rfl B5) (A3 A4 A8))) (Sub.refl _)
    ·refine C3<|r0<|qm rfl<|A0 (F2 rfl rfl) rfl<|qm rfl<|en (ra3 rfl rfl rfl) ?_
     cases hs2
     exact lnT () rfl (su3 rfl rfl rfl)
   ·refine G6 ?_
    obtain rfl:=os hs2
    exact lx rfl px (.nil _)
  ·rcases o8 with vo8_0 | vo8_1
   ·rintro e s' H' - ⟨rfl,hret⟩
    cases h
    exact hret
   ·rintro e s' H' - ⟨rfl,rfl,rfl⟩
    refine s0<|qm rfl<|es (ra1 rfl)<|C5 ?_
    obtain rfl:=os h
    exact retq trivial (A6 rfl B6) (A5 rfl B5) (A3 A4 A8)
end Pw
end
section
set_option maxRecDepth 100000
set_option maxHeartbeats 0
namespace Am
open Go
section
variable {T:Tab} {s:B4} {H0 H:A1} {l:List AO} {c:Sc} {n0 k0:Nat}
theorem D10 {x:Opd} {b r:Nat} {es:List (AV × AV)} (hx:ev s x = some (.mp b)) (hm:hmap (H0++l) b = some es):One T c (H0.length + k0) s (H0++l) (.rangeM x r) (.itr (H0.length + (k0 + r))) (H0++l.set (k0 + r) (.mit b es.length [])) :=
 ⟨0,by simp only [core,prim,hx,hm,Nat.add_assoc,F8]⟩
theorem C9a {H L:A1} {b m n:Nat} {seen:List Nat} {e:AV × AV} {es:List (AV × AV)} (hg:hget H b = some (.mit m n seen)) (hm:hmap H m = some es) (h:A74 H b = some e):A74 (H++L) b = some e:= by
 have h1:hget (H++L) b = some (.mit m n seen):=C81 hg L
 have h2:hmap (H++L) m = some es:= by
  have:m < H.length:= by
   unfold hmap hget at hm
   cases e:H[m]? with
   | none=>rw [e] at hm; cases hm
   | some o=>exact (List.getElem?_eq_some_iff.1 e).1
  unfold hmap hget at hm ⊢
  rw [List.getElem?_append_left this]; exact hm
 unfold A74 at h ⊢
 rw [h1]
 rw [hg] at h
 simp only [h2,hm] at h ⊢
 exact h
theorem D39 {x:Opd} {b:Nat} {e:AV × AV} (hx:ev s x = some (.itr b)) (hm:A74 H b = some e):One T c n0 s H (.entry x) (.tup [e.1,e.2]) H:=⟨0,by simp only [core,prim,hx,hm]⟩
end
end Am
namespace Pw
open Go Am Go.Proofs.YtjpjdglddmhplaaGreat.Cd
abbrev Had:=Ar3 Int
theorem C7t:KeyOk (κ:=Had) true [0,0,0] (fun x=>.agg (C24 cI x)) (fun x=>C24 cI x):=⟨fun _=>rfl,fun _=>rfl,fun a b=>by
 obtain ⟨a1,a2,a3⟩:=a
 obtain ⟨b1,b2,b3⟩:=b
 show F3 [.lit (.int .i64 a1),.lit (.int .i64 a2),.lit (.int .i64 a3)] [.lit (.int .i64 b1),.lit (.int .i64 b2),.lit (.int .i64 b3)] = _
 simp only [C5t,Ar3.mk.injEq]
 by_cases h1:a1 = b1 <;> by_cases h2:a2 = b2 <;> by_cases h3:a3 = b3 <;> simp [h1,h2,h3,F3]⟩
abbrev Met:=List (Had × Int)
def C3z (m:Met):List (AV × AV):=m.map (kE (fun x=>.agg (C24 cI x)) (fun n=>.i n))
def D2p (h:Had) (f:Int):Option Bool :=
 if (!((h.x0 == 0) && ((h.x1 == 0) && ((h.x2 == 0) && true)))) = true then (idx h.l f).bind fun v=>some (decide (v > 0)) else some false
def C77 (f:Int):Met→Option (List Bool)
 | []=>some []
 | e :: l=>(D2p e.1 f).bind fun b=>(C77 f l).bind fun r=>some (b :: r)
def cnt (bs:List Bool) (seen:List Nat):Int:=((seen.filter fun i=>bs.getD i false).length:Int)
def C5p (m:Met) (f:Int):Option Int :=
 if m.length < 4611686018427387904 then (C77 f m).bind fun bs=>some ((bs.filter fun b=>b).length:Int) else none
theorem C0y {f:Int}:∀{m:Met} {bs:List Bool},C77 f m = some bs→bs.length = m.length∧∀ (i:Nat) (e:Had × Int),m[i]? = some e→D2p e.1 f = some (bs.getD i false)
 | [],bs,h=>by cases h; exact ⟨rfl,fun i e he=>by simp at he⟩
 | x :: m,bs,h=>by
  unfold C77 at h
  refine oB h fun b hb h=>oB h fun r hr h=>?_
  obtain rfl:=os h
  obtain ⟨h1,h2⟩:=C0y hr
  refine ⟨by simp [h1],fun i e he=>?_⟩
  cases i with
  | zero=>simp at he; subst he; simpa using hb
  | succ i=>simp at he; simpa using h2 i e he
theorem B1v:∀(bs:List Bool),((List.range bs.length).filter fun i=>bs.getD i false).length = (bs.filter fun b=>b).length
 | []=>rfl
 | b :: bs=>by
  rw [List.length_cons,List.range_succ_eq_map,List.filter_cons,List.filter_map,List.filter_cons]
  have ih:=B1v bs
  have e:(fun i=>(b :: bs).getD i false)∘Nat.succ = fun i=>bs.getD i false:= by funext i; simp
  rw [e]
  cases b <;> simp at ih ⊢ <;> exact ih
theorem D3g {bs:List Bool} {seen:List Nat} (hn:seen.Nodup) (hm:∀j,j ∈ seen↔j < bs.length):cnt bs seen = ((bs.filter fun b=>b).length:Int):= by
 have hp:seen.Perm (List.range bs.length):=(List.perm_ext_iff_of_nodup hn List.nodup_range).mpr fun j=>by rw [hm,List.mem_range]
 unfold cnt
 rw [(hp.filter _).length_eq,B1v]
theorem D5t (bs:List Bool) (seen:List Nat):cnt bs seen≤seen.length:= by
 unfold cnt
 have:=List.length_filter_le (fun i=>bs.getD i false) seen
 omega
theorem D0s (bs:List Bool) (seen:List Nat) (i:Nat):cnt bs (seen++[i]) = cnt bs seen + (if bs.getD i false = true then 1 else 0):= by
 unfold cnt
 rw [List.filter_append,List.length_append,List.filter_cons]
 by_cases h:bs.getD i false = true
 ·rw [if_pos h,if_pos h]; rfl
 ·rw [if_neg h,if_neg h]; simp
theorem C0m:∀(n:Nat) (l:List Nat),l.Nodup→(∀ x ∈ l,x < n)→l.length≤n
 | 0,l,_,h=>by
  cases l with
  | nil=>simp
  | cons x l=>exact absurd (h x (List.mem_cons_self ..)) (Nat.not_lt_zero x)
 | n + 1,l,hd,h=>by
  have h1:=C0m n (l.filter fun x=>x != n) (hd.filter _) fun x hx=>by
   have:=List.mem_filter.mp hx
   have h2:=h x this.1
   have h3:x ≠ n:= by simpa using this.2
   omega
  have h2:(l.filter fun x=>!(x != n)).length≤1:= by
   have hn:(l.filter fun x=>!(x != n)).Nodup:=hd.filter _
   cases hl:l.filter fun x=>!(x != n) with
   | nil=>simp
   | cons a t =>
    cases t with
    | nil=>simp
    | cons b t =>
     rw [hl] at hn
     have ha:a ∈ l.filter fun x=>!(x != n):= by rw [hl]; simp
     have hb:b ∈ l.filter fun x=>!(x != n):= by rw [hl]; simp
     have ea:a = n:= by simpa using (List.mem_filter.mp ha).2
     have eb:b = n:= by simpa using (List.mem_filter.mp hb).2
     subst ea; subst eb
     simp at hn
  have h3:l.length = (l.filter fun x=>x != n).length + (l.filter fun x=>!(x != n)).length:= by
   clear h1 h2 hd h
   induction l with
   | nil=>rfl
   | cons x l ih =>
    rw [List.filter_cons,List.filter_cons]
    cases x != n <;> simp [ih] <;> omega
  omega
theorem D2t {n:Nat} {seen:List Nat} (hn:seen.Nodup) (hm:∀j ∈ seen,j < n):seen.length≤n:=C0m n seen hn hm
def C65:ACode:=(.seq (.cond 69 .skip (.exit 4)) (.block 5 (.s 1 [q 0 70 (.entry 67),EX 1 71 70 0,q 2 14 (.alloc [.lit (.int .i64 0),.lit (.int .i64 0),.lit (.int .i64 0)] [] 0),ST 3 3 14 71] [2,3,8,12,13,14,62,63,67] (.s 0 [LK 0 72 3 14,q 1 73 (.build [.lit (.int .i64 0),.lit (.int .i64 0),.lit (.int .i64 0)] []),q 2 74 (.cmp true [0,0,0] 72 73),M 3 75 74,G 4 76 75 true (.mv 12),G 5 77 75 true (.idxA 1 3 14 76),G 6 78 75 true (.load none 77),G 7 79 75 true (.bin .gtr 78 (.i 0)),q 8 80 (.pick 75 79 (.b false))] [2,3,8,12,13,62,63,67,80] (.cond 80 (.g 0 [M 0 81 13,B 1 82 .add 81 (.i 1),M 2 13 82] [2,3,8,12,13,62,63,67]) .skip)))))
theorem C5q {c:Sc} {Hh:A1} {l m:Nat} {met:Met} {f r:Int} {a2 a3 a8 a62 a63:AV} (hl:hget Hh l = some (.mit m met.length [])) (hm:hmap Hh m = some (C3z met)) (hlm:l ≠ m) (h:C5p met f = some r)
  (hb2:a2.bd Hh.length = true) (hb3:a3.bd Hh.length = true) (hb8:a8.bd Hh.length = true) (hb62:a62.bd Hh.length = true) (hb63:a63.bd Hh.length = true) :
  WP tab (.loopM 67 68 69 [2,3,8,12,13,62,63,67] [2,3,8,12,13,62,63,67] [2,3,8,12,13,62,63] C65) [(2,a2),(3,a3),(8,a8),(12,.i f),(13,.i 0),(62,a62),(63,a63),(67,.itr l)] Hh c
   (fun e s' H'=>e = .exit 4∧s' = [(2,a2),(3,a3),(8,a8),(12,.i f),(13,.i r),(62,a62),(63,a63)]∧H' = hset Hh l .dead):= by
 unfold C5p at h
 split at h
 ·next hlen =>
  refine oB h fun bs hbs h=>?_
  obtain rfl:=os h
  obtain ⟨hbl,hbg⟩:=C0y hbs
  have hlt:l < Hh.length:= by unfold hget at hl; exact (List.getElem?_eq_some_iff.1 hl).1
  have hset0:hset Hh l (.mit m met.length []) = Hh:= by
   unfold hset
   unfold hget at hl
   obtain ⟨h1,h2⟩:=List.getElem?_eq_some_iff.1 hl
   rw [← h2]; exact List.set_getElem_self h1
  have hmm:∀o,hmap (hset Hh l o) m = some (C3z met):=fun o=>by
   rw [← hm]; unfold hmap hget hset; rw [List.getElem?_set_ne hlm]
  have hss:∀o o',hset (hset Hh l o) l o' = hset Hh l o':=fun o o'=>by unfold hset; rw [List.set_set]
  have hgl:∀o,hget (hset Hh l o) l = some o:=fun o=>by unfold hget hset; rw [List.getElem?_set_self hlt]
  have hle:∀o,(hset Hh l o).length = Hh.length:=fun o=>F4 _ _ _
  have key:=C94 (T:=tab) (c:=c) (x:=67) (nx:=68) (ok:=69) (l:=l) (m:=m) (n:=met.length) (live0:=[2,3,8,12,13,62,63,67]) (live:=[2,3,8,12,13,62,63,67]) (liveX:=[2,3,8,12,13,62,63]) (rest:=C65) (es:=C3z met) (e0:=.exit 4)
   (fun seen=>[(2,a2),(3,a3),(8,a8),(12,.i f),(13,.i (cnt bs seen)),(62,a62),(63,a63),(67,.itr l)]) (fun seen=>hset Hh l (.mit m met.length seen)) [(2,a2),(3,a3),(8,a8),(12,.i f),(13,.i ((bs.filter fun b=>b).length:Int)),(62,a62),(63,a63)] (hset Hh l .dead)
   (fun _=>rfl) (by decide) rfl (by decide) (fun _=>rfl) (fun _=>hgl _) (fun _=>hmm _) (by rw [C3z,List.length_map,decide_eq_true rfl]; rfl) ?_ ?_ ?_
  ·refine A03 (B5j hset0.symm key) ?_
   rintro e s' H' ⟨h1,h2,h3⟩
   exact ⟨h1,h2,h3⟩
  ·intro seen i hnd hsl hi hni
   rw [hss,hle]
   obtain ⟨e,he⟩:∃e,met[i]? = some e:=⟨_,List.getElem?_eq_getElem hi⟩
   have hpo:=hbg i e he
   have hent:A74 (hset Hh l (.mit m met.length (seen++[i]))) l = some (.agg (C24 cI e.1),.i e.2):= by
    unfold A74
    simp only [hgl,hmm,C3z,List.length_map,if_true,List.getLast?_append,List.getLast?_singleton,Option.some_or,Option.bind_some,List.getElem?_map,he,Option.map_some,kE]
   have hw:w64 (cnt bs seen + 1) = cnt bs seen + 1:= by
    have h1:=D5t bs seen
    have h2:=D2t hnd hsl
    have h3:0≤cnt bs seen:=Int.natCast_nonneg _
    unfold w64 IntKind.wrap
    simp [IntKind.bits,IntKind.signed]
    omega
   have hsn:=D0s bs seen i
   have htk:∀Y:List AO,(hset Hh l (.mit m met.length (seen++[i]))++Y).take Hh.length = hset Hh l (.mit m met.length (seen++[i])):=fun Y=>by
    rw [← hle (.mit m met.length (seen++[i]))]; exact List.take_left
   unfold D2p at hpo
   refine U5<|C2<|N6 rfl rfl<|C3<|C6<|sg 0 rfl<|O4 (D39 rfl (C9a (hgl _) (hmm _) hent)) rfl<|A0 (A9 rfl rfl) rfl<|A0 I3 rfl<|N9 (E8 (ds:=C24 cI e.1) rfl rfl rfl rfl (E2 rfl) rfl) rfl<|es (ra9 rfl rfl rfl rfl rfl rfl rfl rfl rfl)<|s0<|A0 (D2 rfl rfl rfl) rfl<|A0 (Q4 (cs:=[.i 0,.i 0,.i 0]) rfl rfl) rfl<|A0 (D1w (a:=C24 cI e.1) (b:=[.i 0,.i 0,.i 0]) rfl rfl rfl rfl (V5 (V5 (V5 B1t)))) rfl<|qm rfl<|gp 5 80 (.b (bs.getD i false)) 75 rfl rfl (fun hc1=>?_) (fun hc1=>?_) ?_
   ·refine oB (bt hpo hc1) fun v hv hpo=>?_
    have hz:=os hpo
    rw [← hz]
    exact gT rfl hc1<|qm rfl<|gT rfl hc1<|A0 (D1x (e:=Ar3.l e.1) rfl rfl rfl hv) rfl<|gT rfl hc1<|A0 (D1z (f:=cI) (g:=fun n=>.i n) (e:=Ar3.l e.1) (fun _=>rfl) rfl (D8 rfl) rfl hv) rfl<|gT rfl hc1<|A0 (Y8 rfl rfl) rfl<|A0 (C8 rfl hc1 rfl) rfl<|ge 5 rfl rfl rfl
   ·have hz:=os (bf hpo hc1)
    rw [← hz]
    exact nT rfl hc1 rfl<|nT rfl hc1 rfl<|nT rfl hc1 rfl<|nT rfl hc1 rfl<|A0 (C7 rfl hc1 rfl) rfl<|ge 5 rfl rfl rfl
   ·refine es (ra9 rfl rfl rfl rfl rfl rfl rfl rfl rfl) ?_
    rw [hsn]
    by_cases hbi:bs.getD i false = true
    ·rw [if_pos hbi,← hw]
     refine N6 rfl hbi<|r0<|qm rfl<|A0 (F2 rfl rfl) rfl<|qm rfl<|en (ra8 rfl rfl rfl rfl rfl rfl rfl rfl) ?_
     exact ⟨rfl,su8 rfl rfl rfl rfl rfl rfl rfl rfl,htk _⟩
    ·rw [if_neg hbi,Int.add_zero]
     refine P7 rfl (by simpa using hbi)<|C3 ?_
     exact ⟨rfl,su8 rfl rfl rfl rfl rfl rfl rfl rfl,htk _⟩
  ·intro seen i
   simp only [hle]
   have hbl':(AV.itr l).bd Hh.length = true:= by simp only [AV.bd]; exact Nat.ble_eq_true_of_le hlt
   exact bdc hb2 (bdc hb3 (bdc hb8 (bdc A4 (bdc A4 (bdc hb62 (bdc hb63 (bdc hbl' bdn)))))))
  ·intro seen hnd hall
   refine C2<|P7 rfl rfl<|G6 ?_
   refine ⟨rfl,rfl,?_,⟨_,_,_,hgl _⟩,hss _ _⟩
   rw [← D3g hnd (by rw [hbl]; exact hall)]
   exact su7 rfl rfl rfl rfl rfl rfl rfl
 ·cases h
end Pw
end
section
set_option maxRecDepth 100000
set_option maxHeartbeats 0
namespace Pw
open Go Am Go.Proofs.YtjpjdglddmhplaaGreat.Cd
def A80 (a0:pawn_found) (a1:pawn_found):Option Int :=
 some (w64 (a0.without_ - a1.without_))
theorem B7n {c:Sc} {H:A1} {a0:pawn_found} {a1:pawn_found} {r:Int} (h:A80 a0 a1 = some r) :
  E1 tab c H (.fn (.func 74) [] []) [(.agg (C4 a0)),(.agg (C4 a1))] [.i r]:= by
 unfold A80 at h
 refine cE rfl rfl<|sg 0 rfl<|A0 (E5 (cs:=C4 a0) rfl rfl rfl) rfl<|A0 (E5 (cs:=C4 a1) rfl rfl rfl) rfl<|qm rfl<|es (ra2 rfl rfl)<|s0<|A0 (B9 rfl) rfl<|A0 (B2 rfl rfl rfl) rfl<|A0 (B9 rfl) rfl<|A0 (B2 rfl rfl rfl) rfl<|A0 (T5 rfl rfl) rfl<|qm rfl<|es (ra1 rfl)<|C5 ?_
 obtain rfl:=os h
 exact retq trivial (A6 rfl B6) (A5 rfl B5) (A3 A4 A8)
def D8c (few:pawn_found) (x:pawn_found) (m:Met):Option (Met ⊕ Unit) :=
 (if (x.without_ == few.without_) = true then
  (if (!(kget m x.had_).isSome) = true then some true else some (decide (x.cost_ < (kget m x.had_).getD 0))).bind fun w=>some w
 else some false).bind fun g =>
 if g = true then some (.inl (kset m x.had_ x.cost_)) else some (.inl m)
def D0k (figs:List PaFigure) (m:Met) (s:List Int × List Int × Int):Option ((List Int × List Int × Int) ⊕ (List Int × List Int)) :=
 if (decide (s.2.2 < (List.length figs:Int))) = true then
  (C5p m s.2.2).bind fun n =>
  (if (n == 0) = true then (app 8 s.1 [s.2.2]).bind fun l=>some l else some s.1).bind fun l1 =>
  (if (decide (n < (List.length m:Int))) = true then (app 8 s.2.1 [s.2.2]).bind fun l=>some l else some s.2.1).bind fun l2 =>
  some (.inl (l1,l2,w64 (s.2.2 + 1)))
 else some (.inr (s.1,s.2.1))
def B36 (a0:PaShow):Option (List Int × List Int × Int) :=
 (A1u a0).bind fun x1 =>
 if (x1.1 == 0) = true then
  (C22 (C0w a0 x1.2) A80).bind fun few =>
  (C0w a0 x1.2 Met Unit (D8c few.1) []).bind fun o =>
  match o with
  | .inl m=>(loop (D0k a0.Figures m) ([],[],0)).bind fun y=>some (y.1,y.2,0)
  | .inr _=>none
 else some ([],[],x1.1)
theorem D7u {H:A1} {l:List AO} {j n:Nat} (h:Nat.ble (j + 1) l.length = true):(AV.asl (H.length + j) n).bd (H++l).length = true:= by rw [List.length_append]; exact A05 h
def A4b (H:A1) (t:PaShow) (X:AO) (days:List Int) (few:pawn_found) (l1 l2:List Int) (m:Met):List AO :=
 [.cells (B1 t),.arr 1 false (l1.map cI),.arr 1 false (l2.map cI),.cells (B1 t),X,.cells (A2y t days),.cells (C4 few),.cells [.ptr (H.length + 5) 0],.map (C3z m),.cells [.mp (H.length + 8)],.cells [.ptr (H.length + 5) 0]]
theorem C16 {c:Sc} {H:A1} (hscv:R4 c H = true) {a0:PaShow} {r:List Int × List Int × Int} (h:B36 a0 = some r) :
  E1 tab c H (.fn (.func 29) [] []) [.agg (B1 a0)] [.fresh 1 (r.1.map cI),.fresh 1 (r.2.1.map cI),.i r.2.2]:= by
 unfold B36 at h
 refine oB h fun x1 hx1 h=>?_
 refine cE rfl rfl<|sg 0 rfl<|A0 (E5 (cs:=B1 a0) rfl rfl rfl) rfl<|A0 A5w rfl<|A0 A5w rfl<|qm rfl<|es (ra3 rfl rfl rfl)<|s0<|A0 (D2 rfl rfl rfl) rfl ?_
 by_cases hc2:(x1.1 == 0) = true
 ·rw [if_pos hc2] at h
  refine oB h fun few hfew h=>oB h fun o ho h=>?_
  obtain ⟨X,hX⟩:=A15 hx1 hc2
  refine O4 (A3o hX rfl rfl (A2 (D0 rfl) B7) rfl) rfl<|qm rfl<|A0 (A9 rfl rfl) rfl<|A0 (A9 rfl rfl) rfl<|qm rfl<|qm rfl<|es (ra5 rfl rfl rfl rfl rfl)<|C2<|s0<|qm rfl<|A0 (J5 rfl rfl) rfl<|es (ra6 rfl rfl rfl rfl rfl rfl)<|P7 rfl rfl<|C3<|sg 6 rfl<|qm rfl<|A4r (as2:=[(.ptr (H.length + 5) 0)]) (H1:=H++[.cells (B1 a0),.arr 1 false [],.arr 1 false [],.cells (B1 a0),X,.cells (A2y a0 x1.2),.dead]) rfl rfl (A2 rfl B7) rfl rfl rfl (A9u rfl)<|sg 7 rfl<|A0 (E5 (cs:=[.ptr (H.length + 5) 0]) rfl rfl rfl) rfl<|qm rfl<|es (ra1 rfl)<|s0<|A0 (A28 rfl rfl) rfl<|qm rfl<|es (ra1 rfl)<|C5<|InlQ.mk trivial ⟨_,_,_,[(.fn (.func 106) [] [(.ptr (H.length + 7) 0)])],_,(A6 rfl B6),(A5 rfl B5),(A9s (T6 (B3c (T6 (A5p rfl)))) (A9r rfl B3l)),?_⟩
  refine B8 (rs:=[(.agg (C4 few.1)),.b few.2]) rfl rfl (A2 rfl (A2 rfl B7)) (C1f (C6g (t:=a0) (days:=x1.2) (bS:=H.length + 7) (b:=H.length + 5)) (fun h=>(B7n h).frz) (And.intro (D8 rfl) (D8 rfl)) (B4d hscv) hfew)<|qm rfl<|A0 (A9 rfl rfl) rfl<|A0 (A9 rfl rfl) rfl<|A0 I3 rfl<|N9 (E8 (ds:=(C4 few.1)) rfl rfl rfl rfl (E2 rfl) rfl) rfl<|qm rfl<|es (ra5 rfl rfl rfl rfl rfl) ?_
  refine sg 8 rfl<|A0 D4f rfl<|A0 I3 rfl<|N9 (E8 (ds:=[.mp (H.length + 8)]) rfl rfl rfl rfl (A0u (Nat.le_add_right _ _)) rfl) rfl<|es (ra6 rfl rfl rfl rfl rfl rfl)<|C2<|s0<|qm rfl<|A4r (as2:=[(.ptr (H.length + 5) 0)]) (H1:=H++[.cells (B1 a0),.arr 1 false [],.arr 1 false [],.cells (B1 a0),X,.cells (A2y a0 x1.2),.cells (C4 few.1),.cells [.ptr (H.length + 5) 0],.map [],.cells [.mp (H.length + 8)]]) rfl rfl (A2 rfl B7) rfl rfl rfl (A9u rfl)<|sg 10 rfl<|A0 (E5 (cs:=[.ptr (H.length + 5) 0]) rfl rfl rfl) rfl<|qm rfl<|es (ra1 rfl)<|s0<|A0 (A28 rfl rfl) rfl<|qm rfl<|es (ra1 rfl)<|C5<|InlQ.mk trivial ⟨_,_,_,[(.fn (.func 106) [] [(.ptr (H.length + 10) 0)])],_,(A6 rfl B6),(A5 rfl B5),(A9s (T6 (B3c (T6 (A5p rfl)))) (A9r rfl B3l)),?_⟩
  refine es (ra6 rfl rfl rfl rfl rfl rfl)<|C6 ?_
  have hl11:∀m,(H++A4b H a0 X x1.2 few.1 [] [] m).length = H.length + 11:=fun m=>by rw [List.length_append]; rfl
  refine B25 (it:=C0w a0 x1.2) (sh:=shF) (pre:=B4a a0 x1.2 (H.length + 10) (H.length + 5)) C6g (K:=H.length + 11) [(6,.ptr (H.length + 6) 0),(8,.ptr (H.length + 9) 0)] (fun m=>H++A4b H a0 X x1.2 few.1 [] [] m) (fun (_:Unit)=>H++A4b H a0 X x1.2 few.1 [] [] []) (fun _=>.ret) ho (fun _=>rfl) rfl (fun S hS=>O1 (live:=[6,8]) rfl (by decide) (Sub.trans (su2 rfl rfl) hS)) rfl (fun _=>hl11 _) (fun _=>hl11 _) ⟨fun _ _=>B4a.app ⟨D8 rfl,D8 rfl⟩,fun _ _=>B4a.app ⟨D8 rfl,D8 rfl⟩⟩ (B4d hscv) (fun c' x m o' L v hsc hgr hv hbo y0 y1 hy0 hy1=>?_) ?_
  ·obtain rfl:v = .agg (C4 x):=hv
   have hGl:∀m z,(H++A4b H a0 X x1.2 few.1 [] [] m++z :: L).length = H.length + 11 + 1 + L.length:=fun m z=>by rw [List.length_append,hl11]; simp; omega
   refine U5<|rg 0 rfl<|A0 I3 rfl<|N9 (E8 (ds:=C4 x) rfl rfl rfl rfl (A0u (by rw [hGl]; exact Nat.le_add_right _ _)) rfl) rfl<|en (ra3 rfl rfl rfl) ⟨rfl,L++[.cells (C4 x)],by simp,?_⟩
   refine B5j (show _ = H++(A4b H a0 X x1.2 few.1 [] [] m++(y1 :: (L++[AO.cells (C4 x)]))) by simp) ?_
   rw [show (AV.ptr ((H++A4b H a0 X x1.2 few.1 [] [] m++y0 :: L).length + (0 + 0)) 0) = .ptr (H.length + 11 + 1 + L.length) 0 by rw [hGl]; rfl]
   have q9:∀m,hcells (H++(A4b H a0 X x1.2 few.1 [] [] m++(y1 :: (L++[AO.cells (C4 x)])))) (H.length + 11 + 1 + L.length) = some (C4 x):=fun m=>by
    rw [show H++(A4b H a0 X x1.2 few.1 [] [] m++(y1 :: (L++[AO.cells (C4 x)]))) = (H++A4b H a0 X x1.2 few.1 [] [] m++y1 :: L)++[AO.cells (C4 x)] by simp,← hGl m y1]
    exact D8 (j:=0) rfl
   have htk:∀m,(H++(A4b H a0 X x1.2 few.1 [] [] m++(y1 :: (L++[AO.cells (C4 x)])))).take (H.length + 11 + 1 + L.length) = H++A4b H a0 X x1.2 few.1 [] [] m++y1 :: L:=fun m=>by
    rw [show H++(A4b H a0 X x1.2 few.1 [] [] m++(y1 :: (L++[AO.cells (C4 x)]))) = (H++A4b H a0 X x1.2 few.1 [] [] m++y1 :: L)++[AO.cells (C4 x)] by simp,← hGl m y1]
    exact List.take_left
   unfold D8c at hbo
   refine oB hbo fun g hg hbo=>?_
   refine C6<|s0<|A0 (B2 (x:=.mp (H.length + 8)) rfl rfl rfl) rfl<|A0 (B9 rfl) rfl<|A0 (A6v (ds:=C24 cI x.had_) rfl (q9 m) rfl rfl) rfl<|A0 (D4a (k:=x.had_) (es:=m) (gv:=fun n=>.i n) (z:=0) C7t rfl (A8o rfl) rfl rfl) rfl<|qm rfl<|A0 (A9 rfl rfl) rfl<|A0 (A9 rfl rfl) rfl<|qm rfl<|qm rfl<|es (ra5 rfl rfl rfl rfl rfl)<|s0<|A0 (B9 rfl) rfl<|A0 (A4g (x:=.i x.without_) rfl (q9 m) rfl) rfl<|A0 (B9 rfl) rfl<|A0 (B2 (x:=.i few.1.without_) rfl rfl rfl) rfl<|A0 (G0 rfl rfl) rfl<|qm rfl<|gp 9 54 (.b g) 45 rfl rfl (fun hc1=>?_) (fun hc1=>?_) ?_
   ·refine oB (bt hg hc1) fun w hw hg=>?_
    obtain rfl:=os hg
    refine gT rfl hc1<|qm rfl<|gT rfl hc1<|A0 (C37 rfl rfl) rfl<|gT rfl hc1<|qm rfl<|gq 5 53 (.b w) 48 rfl rfl (fun hc3=>?_) (fun hc3=>?_) ?_
    ·obtain rfl:=os (bt hw hc3)
     exact nF rfl hc3 rfl<|nF rfl hc3 rfl<|nF rfl hc3 rfl<|nF rfl hc3 rfl<|gT rfl hc1<|A0 (C8 rfl hc3 rfl) rfl<|ge 5 rfl rfl rfl
    ·obtain rfl:=os (bf hw hc3)
     exact gF rfl hc3<|A0 (B9 rfl) rfl<|gF rfl hc3<|A0 (A4g (x:=.i x.cost_) rfl (q9 m) rfl) rfl<|gF rfl hc3<|qm rfl<|gF rfl hc3<|A0 (I0 rfl rfl) rfl<|gT rfl hc1<|A0 (C7 rfl hc3 rfl) rfl<|ge 5 rfl rfl rfl
    ·exact A0 (C8 rfl hc1 rfl) rfl<|ge 5 rfl rfl rfl
   ·obtain rfl:=os (bf hg hc1)
    exact nT rfl hc1 rfl<|nT rfl hc1 rfl<|nT rfl hc1 rfl<|nX rfl rfl<|nX rfl rfl<|nX rfl rfl<|nX rfl rfl<|nT rfl hc1 rfl<|A0 (C7 rfl hc1 rfl) rfl<|ge 9 rfl rfl rfl
   ·refine es (ra3 rfl rfl rfl)<|wi hbo rfl (fun hc4 hbo=>?_) fun hc4 hbo=>?_
    ·cases hbo
     refine r0<|A0 (B2 (x:=.mp (H.length + 8)) rfl rfl rfl) rfl<|A0 (B9 rfl) rfl<|A0 (A6v (ds:=C24 cI x.had_) rfl (q9 m) rfl rfl) rfl<|A0 (B9 rfl) rfl<|A0 (A4g (x:=.i x.cost_) rfl (q9 m) rfl) rfl<|N9 (D4b (k:=x.had_) (v:=x.cost_) (es:=m) (gv:=fun n=>.i n) C7t rfl rfl rfl rfl rfl) rfl<|en .n ⟨rfl,htk _⟩
    ·cases hbo
     exact C3 ⟨rfl,htk _⟩
  ·rcases o with m | m
   ·refine oB h fun y hy h=>?_
    obtain rfl:=os h
    refine B5j (show _ = H++(A4b H a0 X x1.2 few.1 [] [] m++[.dead]) by simp) ?_
    refine C2<|s0<|A0 (B9 rfl) rfl<|A0 (B2 rfl rfl rfl) rfl<|A0 (F6 (f:=B3) rfl) rfl<|qm rfl<|es (ra5 rfl rfl rfl rfl rfl)<|C6<|wl (fun s=>[(2,.asl (H.length + 1) s.1.length),(3,.asl (H.length + 2) s.2.1.length),(8,.ptr (H.length + 9) 0),(62,.i a0.Figures.length),(63,.i s.2.2)]) (fun (_:Unit) s=>A4b H a0 X x1.2 few.1 s.1 s.2.1 m++[.dead]) 12 (fun r e s' H'=>PX 2 [(2,.asl (H.length + 1) r.1.length),(3,.asl (H.length + 2) r.2.length)] (H++(A4b H a0 X x1.2 few.1 r.1 r.2 m++[.dead])) e s' H') () hy rfl rfl (fun _ _=>rfl) (fun _=>rfl) rfl (fun _=>bdc (A05 rfl) (bdc (A05 rfl) (bdc (K8 rfl) (bdc A4 (bdc A4 bdn))))) (fun _ s o hs=>?_) ?_
    ·obtain ⟨l1,l2,i⟩:=s
     unfold D0k at hs
     refine s0<|A0 (I0 rfl rfl) rfl<|es (ra6 rfl rfl rfl rfl rfl rfl)<|C2<|wi hs rfl (fun hc hs=>?_) fun hc hs=>?_
     ·refine oB hs fun n hn hs=>oB hs fun k1 hl1 hs=>oB hs fun k2 hl2 hs=>?_
      simp only at hn hl1 hl2 hs
      refine C3<|C2<|C6<|s0<|qm rfl<|qm rfl<|es (ra6 rfl rfl rfl rfl rfl rfl)<|s0<|qm rfl<|es (ra7 rfl rfl rfl rfl rfl rfl rfl)<|C2<|sg 12 rfl<|A0 (B2 (x:=.mp (H.length + 8)) rfl rfl rfl) rfl<|O4 (D10 rfl (A8o rfl)) rfl<|es (ra8 rfl rfl rfl rfl rfl rfl rfl rfl)<|C6<|A03 (C5q (l:=H.length + 12) (m:=H.length + 8) (met:=m) (f:=i) (r:=n) (by rw [S4]; show some (AO.mit _ (C3z m).length []) = _; rw [C3z,List.length_map]) (A8o rfl) (by omega) hn (D7u rfl) (D7u rfl) (by rw [List.length_append]; exact K8 rfl) A4 A4) ?_
      rintro e s' H' ⟨rfl,rfl,rfl⟩
      rw [F8]
      refine C2<|s0<|qm rfl<|A0 (G0 rfl rfl) rfl<|es (ra8 rfl rfl rfl rfl rfl rfl rfl rfl)<|wi hl1 rfl (fun hc5 hl1=>?_) fun hc5 hl1=>?_
      ·refine oB hl1 fun l1' hl1' hl1=>?_
       obtain rfl:=os hl1
       refine r0<|qm rfl<|qm rfl<|A0 (J4 (rows:=List.map cI [i]) rfl rfl (E4 (fun _=>rfl) _)) rfl<|O4 (A44 (f:=cI) (j:=1) rfl rfl rfl rfl A5b (fun _=>rfl) hl1') rfl<|qm rfl<|en (ra7 rfl rfl rfl rfl rfl rfl rfl) ?_
       refine s0<|qm rfl<|A0 (B2 (x:=.mp (H.length + 8)) rfl rfl rfl) rfl<|A0 (D1y (es:=m) rfl (A8o rfl)) rfl<|A0 (I0 rfl rfl) rfl<|es (ra7 rfl rfl rfl rfl rfl rfl rfl)<|wi hl2 rfl (fun hc6 hl2=>?_) fun hc6 hl2=>?_
       ·refine oB hl2 fun l2' hl2' hl2=>?_
        obtain rfl:=os hl2
        refine r0<|qm rfl<|qm rfl<|A0 (J4 (rows:=List.map cI [i]) rfl rfl (E4 (fun _=>rfl) _)) rfl<|O4 (A44 (f:=cI) (j:=2) rfl rfl rfl rfl A5b (fun _=>rfl) hl2') rfl<|qm rfl<|en (ra5 rfl rfl rfl rfl rfl) ?_
        obtain rfl:=os hs
        refine r0<|A0 (F2 rfl rfl) rfl<|qm rfl<|en (ra5 rfl rfl rfl rfl rfl) ?_
        exact lnT () rfl (su5 rfl rfl rfl rfl rfl)
       ·obtain rfl:=os hl2
        obtain rfl:=os hs
        refine C3<|r0<|A0 (F2 rfl rfl) rfl<|qm rfl<|en (ra5 rfl rfl rfl rfl rfl) ?_
        exact lnT () rfl (su5 rfl rfl rfl rfl rfl)
      ·obtain rfl:=os hl1
       refine C3 ?_
       refine s0<|qm rfl<|A0 (B2 (x:=.mp (H.length + 8)) rfl rfl rfl) rfl<|A0 (D1y (es:=m) rfl (A8o rfl)) rfl<|A0 (I0 rfl rfl) rfl<|es (ra7 rfl rfl rfl rfl rfl rfl rfl)<|wi hl2 rfl (fun hc6 hl2=>?_) fun hc6 hl2=>?_
       ·refine oB hl2 fun l2' hl2' hl2=>?_
        obtain rfl:=os hl2
        refine r0<|qm rfl<|qm rfl<|A0 (J4 (rows:=List.map cI [i]) rfl rfl (E4 (fun _=>rfl) _)) rfl<|O4 (A44 (f:=cI) (j:=2) rfl rfl rfl rfl A5b (fun _=>rfl) hl2') rfl<|qm rfl<|en (ra5 rfl rfl rfl rfl rfl) ?_
        obtain rfl:=os hs
        refine r0<|A0 (F2 rfl rfl) rfl<|qm rfl<|en (ra5 rfl rfl rfl rfl rfl) ?_
        exact lnT () rfl (su5 rfl rfl rfl rfl rfl)
       ·obtain rfl:=os hl2
        obtain rfl:=os hs
        refine C3<|r0<|A0 (F2 rfl rfl) rfl<|qm rfl<|en (ra5 rfl rfl rfl rfl rfl) ?_
        exact lnT () rfl (su5 rfl rfl rfl rfl rfl)
     ·refine G6 ?_
      obtain rfl:=os hs
      exact lx rfl px (su2 rfl rfl)
    ·rintro e s' H' - ⟨rfl,rfl,rfl⟩
     refine s0<|qm rfl<|qm rfl<|qm rfl<|qm rfl<|qm rfl<|es (ra3 rfl rfl rfl)<|C5 ?_
     exact retq trivial (A6 rfl (A6 rfl (A6 rfl B6))) (A5 (A49 rfl (List.length_map _)) (A5 (A49 rfl (List.length_map _)) (A5 rfl B5))) (A3 X7 (A3 X7 (A3 A4 A8)))
   ·cases h
 ·rw [if_neg hc2] at h
  obtain rfl:=os h
  refine O4 (Q5 (rs:=[.lit (.pointer none),.i x1.1]) rfl rfl (A2 (D0 rfl) B7) (A20 hx1 (by simpa using hc2)) rfl) rfl<|qm rfl<|A0 (A9 rfl rfl) rfl<|A0 (A9 rfl rfl) rfl<|qm rfl<|qm rfl<|es (ra5 rfl rfl rfl rfl rfl)<|C2<|s0<|qm rfl<|A0 (J5 rfl rfl) rfl<|es (ra6 rfl rfl rfl rfl rfl rfl)<|N6 rfl (nef hc2)<|sg 3 rfl<|qm rfl<|A0 A5w rfl<|A0 A5w rfl<|qm rfl<|es (ra3 rfl rfl rfl)<|C5 ?_
  exact retq trivial (A6 rfl (A6 rfl (A6 rfl B6))) (A5 (A49 rfl rfl) (A5 (A49 rfl rfl) (A5 rfl B5))) (A3 X7 (A3 X7 (A3 A4 A8)))
def A0c :Option Bool :=
 (A7o false).bind fun x1 =>
 (A7o true).bind fun x2 =>
 (A19 x1 0 10).bind fun x3 =>
 (A0f x1 2 2).bind fun x4 =>
 (A0f x1 2 1).bind fun x5 =>
 (A3b x1 1).bind fun x6 =>
 (A24).bind fun x7 =>
 (W8 x1 x7 45).bind fun x8 =>
 (A24).bind fun x9 =>
 (A1y x1 x9).bind fun x10 =>
 (A24).bind fun x11 =>
 (A1y x2 x11).bind fun x12 =>
 (A90 x1).bind fun x13 =>
 (A90 x2).bind fun x14 =>
 (B36 x2).bind fun x15 =>
 (B38 x2).bind fun x16 =>
 (A24).bind fun x17 =>
 (B37 x1 x17).bind fun x18 =>
 (if ((((((((((((((x3.2 == 0) && (x4.2 == 0)) && (x6.2 == 0)) && (x8.2 == 0)) && (x12.2 == 0)) && (x13.2.2.2 == 0)) && (x14.2.2.2 == 0)) && (x15.2.2 == 0)) && (x16.2 == 0)) && (x18.2 == 0)) && (x5.2 == 9)) && (x10.2 == 4)) && (x3.1 == 110)) && (x4.1 == 48)) = true then
  (X4 x6.1 [0,1,2]).bind fun x33 =>
  some x33
 else
  some false).bind fun x34 =>
 (if ((x34 && (x8.1 == 102)) && (x12.1 == 0)) = true then
  (Q2 0 2 0).bind fun x38 =>
  (Q2 1 0 0).bind fun x39 =>
  (Q2 2 2 0).bind fun x40 =>
  (B1d x13.1 [x38,x39,x40]).bind fun x41 =>
  some x41
 else
  some false).bind fun x42 =>
 (if (((x42 && (x13.2.1 == 0)) && (x13.2.2.1 == 78)) && (x14.2.1 == 2)) = true then
  (X4 x15.1 [0,2]).bind fun x47 =>
  some x47
 else
  some false).bind fun x48 =>
 (if x48 = true then
  (X4 x15.2.1 [0,2]).bind fun x50 =>
  some x50
 else
  some false).bind fun x51 =>
 (if (x51 && (x16.1 == 58)) = true then
  (X4 x18.1 [2]).bind fun x54 =>
  some x54
 else
  some false).bind fun x55 =>
 some x55
theorem A2o {c:Sc} {H:A1} (hscv:R4 c H = true)  {r:Bool} (h:A0c  = some r) :
  E1 tab c H (.fn (.func 19) [] []) [] [.b r]:= by
 unfold A0c at h
 refine cE rfl rfl<|s0<|qm rfl<|es .n<|sg 0 rfl<|oB h fun x1 hx1 h=>oB h fun x2 hx2 h=>B8 (rs:=[(.agg (B1 x1))]) rfl rfl (A2 rfl B7) ((B0i hx1).frz)<|B8 (rs:=[(.agg (B1 x2))]) rfl rfl (A2 rfl B7) ((B0i hx2).frz)<|A0 I3 rfl<|A0 I3 rfl<|N9 (E8 (ds:=(B1 x1)) rfl rfl rfl rfl (E2 rfl) rfl) rfl<|N9 (E8 (ds:=(B1 x2)) rfl rfl rfl rfl (E2 rfl) rfl) rfl<|es (ra2 rfl rfl)<|s0<|oB h fun x3 hx3 h=>A0 (D2 rfl rfl rfl) rfl<|B8 (rs:=[.i x3.1,.i x3.2]) rfl rfl (A2 (D0 rfl) (A2 rfl (A2 rfl B7))) ((A8v hx3).frz)<|qm rfl<|A0 (A9 rfl rfl) rfl<|A0 (A9 rfl rfl) rfl<|qm rfl<|qm rfl<|es (ra4 rfl rfl rfl rfl)<|s0<|oB h fun x4 hx4 h=>A0 (D2 rfl rfl rfl) rfl<|B8 (rs:=[.i x4.1,.i x4.2]) rfl rfl (A2 (D0 rfl) (A2 rfl (A2 rfl B7))) ((A46 hx4).frz)<|qm rfl<|A0 (A9 rfl rfl) rfl<|A0 (A9 rfl rfl) rfl<|qm rfl<|qm rfl<|es (ra6 rfl rfl rfl rfl rfl rfl)<|s0<|oB h fun x5 hx5 h=>A0 (D2 rfl rfl rfl) rfl<|B8 (rs:=[.i x5.1,.i x5.2]) rfl rfl (A2 (D0 rfl) (A2 rfl (A2 rfl B7))) ((A46 hx5).frz)<|qm rfl<|A0 (A9 rfl rfl) rfl<|A0 (A9 rfl rfl) rfl<|qm rfl<|qm rfl<|es (ra7 rfl rfl rfl rfl rfl rfl rfl)<|s0<|oB h fun x6 hx6 h=>A0 (D2 rfl rfl rfl) rfl<|B8 (rs:=[(.seq 1 (List.map cI x6.1)),.i x6.2]) rfl rfl (A2 (D0 rfl) (A2 rfl B7)) ((B0k hx6).frz)<|qm rfl<|A0 (A9 rfl rfl) rfl<|A0 (A9 rfl rfl) rfl<|qm rfl<|qm rfl<|es (ra9 rfl rfl rfl rfl rfl rfl rfl rfl rfl)<|s0<|oB h fun x7 hx7 h=>oB h fun x8 hx8 h=>A0 (D2 rfl rfl rfl) rfl<|U1 (rs:=[(.seq 3 (List.map A7 x7))]) rfl rfl A0e B7 ((A3n hx7).frz)<|B8 (rs:=[.i x8.1,.i x8.2]) rfl rfl (A2 (D0 rfl) (A2 rfl (A2 rfl B7))) ((A1b hx8).frz)<|qm rfl ?_
 refine A0 (A9 rfl rfl) rfl<|A0 (A9 rfl rfl) rfl<|qm rfl<|qm rfl<|es (ra11 rfl rfl rfl rfl rfl rfl rfl rfl rfl rfl rfl)<|s0<|oB h fun x9 hx9 h=>oB h fun x10 hx10 h=>A0 (D2 rfl rfl rfl) rfl<|U1 (rs:=[(.seq 3 (List.map A7 x9))]) rfl rfl A0e B7 ((A3n hx9).frz)<|B8 (rs:=[.i x10.1,.i x10.2]) rfl rfl (A2 (D0 rfl) (A2 rfl B7)) ((A6b hx10).frz)<|qm rfl<|A0 (A9 rfl rfl) rfl<|A0 (A9 rfl rfl) rfl<|qm rfl<|qm rfl<|es (ra12 rfl rfl rfl rfl rfl rfl rfl rfl rfl rfl rfl rfl)<|s0<|oB h fun x11 hx11 h=>oB h fun x12 hx12 h=>A0 (D2 rfl rfl rfl) rfl<|U1 (rs:=[(.seq 3 (List.map A7 x11))]) rfl rfl A0e B7 ((A3n hx11).frz)<|B8 (rs:=[.i x12.1,.i x12.2]) rfl rfl (A2 (D0 rfl) (A2 rfl B7)) ((A6b hx12).frz)<|qm rfl<|A0 (A9 rfl rfl) rfl<|A0 (A9 rfl rfl) rfl<|qm rfl<|qm rfl<|es (ra14 rfl rfl rfl rfl rfl rfl rfl rfl rfl rfl rfl rfl rfl rfl)<|s0<|oB h fun x13 hx13 h=>A0 (D2 rfl rfl rfl) rfl<|B8 (rs:=[(.seq 3 (List.map A7 x13.1)),.i x13.2.1,.i x13.2.2.1,.i x13.2.2.2]) rfl rfl (A2 (D0 rfl) B7) ((B2g (B4d hscv) hx13).frz)<|qm rfl<|A0 (A9 rfl rfl) rfl<|A0 (A9 rfl rfl) rfl<|A0 (A9 rfl rfl) rfl<|A0 (A9 rfl rfl) rfl<|qm rfl<|qm rfl<|qm rfl<|qm rfl<|es (.k rfl (.k rfl (.k rfl (.k rfl (.k rfl (.k rfl (.k rfl (.k rfl (.k rfl (.k rfl (.k rfl (.k rfl (.k rfl (.k rfl (.k rfl (.k rfl (.k rfl (.k rfl .n))))))))))))))))))<|s0<|oB h fun x14 hx14 h=>A0 (D2 rfl rfl rfl) rfl<|B8 (rs:=[(.seq 3 (List.map A7 x14.1)),.i x14.2.1,.i x14.2.2.1,.i x14.2.2.2]) rfl rfl (A2 (D0 rfl) B7) ((B2g (B4d hscv) hx14).frz)<|qm rfl<|A0 (A9 rfl rfl) rfl<|A0 (A9 rfl rfl) rfl<|A0 (A9 rfl rfl) rfl<|A0 (A9 rfl rfl) rfl<|qm rfl<|qm rfl<|qm rfl<|qm rfl<|es (.k rfl (.k rfl (.k rfl (.k rfl (.k rfl (.k rfl (.k rfl (.k rfl (.k rfl (.k rfl (.k rfl (.k rfl (.k rfl (.k rfl (.k rfl (.k rfl (.k rfl (.k rfl (.k rfl (.k rfl .n))))))))))))))))))))<|s0<|oB h fun x15 hx15 h=>A0 (D2 rfl rfl rfl) rfl<|B8 (rs:=[(.seq 1 (List.map cI x15.1)),(.seq 1 (List.map cI x15.2.1)),.i x15.2.2]) rfl rfl (A2 (D0 rfl) B7) ((C16 (B4d hscv) hx15).frz) ?_
 refine qm rfl<|A0 (A9 rfl rfl) rfl<|A0 (A9 rfl rfl) rfl<|A0 (A9 rfl rfl) rfl<|qm rfl<|qm rfl<|qm rfl<|es (.k rfl (.k rfl (.k rfl (.k rfl (.k rfl (.k rfl (.k rfl (.k rfl (.k rfl (.k rfl (.k rfl (.k rfl (.k rfl (.k rfl (.k rfl (.k rfl (.k rfl (.k rfl (.k rfl (.k rfl (.k rfl (.k rfl (.k rfl .n)))))))))))))))))))))))<|s0<|oB h fun x16 hx16 h=>A0 (D2 rfl rfl rfl) rfl<|B8 (rs:=[.i x16.1,.i x16.2]) rfl rfl (A2 (D0 rfl) B7) ((C18 (B4d hscv) hx16).frz)<|qm rfl<|A0 (A9 rfl rfl) rfl<|A0 (A9 rfl rfl) rfl<|qm rfl<|qm rfl<|es (.k rfl (.k rfl (.k rfl (.k rfl (.k rfl (.k rfl (.k rfl (.k rfl (.k rfl (.k rfl (.k rfl (.k rfl (.k rfl (.k rfl (.k rfl (.k rfl (.k rfl (.k rfl (.k rfl (.k rfl (.k rfl (.k rfl (.k rfl (.k rfl .n))))))))))))))))))))))))<|s0<|oB h fun x17 hx17 h=>oB h fun x18 hx18 h=>A0 (D2 rfl rfl rfl) rfl<|U1 (rs:=[(.seq 3 (List.map A7 x17))]) rfl rfl A0e B7 ((A3n hx17).frz)<|B8 (rs:=[(.seq 1 (List.map cI x18.1)),.i x18.2]) rfl rfl (A2 (D0 rfl) (A2 rfl B7)) ((C17 hx18).frz)<|qm rfl<|A0 (A9 rfl rfl) rfl<|A0 (A9 rfl rfl) rfl<|qm rfl<|qm rfl<|es (.k rfl (.k rfl (.k rfl (.k rfl (.k rfl (.k rfl (.k rfl (.k rfl (.k rfl (.k rfl (.k rfl (.k rfl (.k rfl (.k rfl (.k rfl (.k rfl (.k rfl (.k rfl (.k rfl (.k rfl (.k rfl (.k rfl (.k rfl (.k rfl (.k rfl .n)))))))))))))))))))))))))<|s0<|oB h fun x34 hx34 h=>oB h fun x42 hx42 h=>oB h fun x48 hx48 h=>oB h fun x51 hx51 h=>oB h fun x55 hx55 h=>qm rfl<|A0 (G0 rfl rfl) rfl<|qm rfl<|gp 3 108 (.b ((x3.2 == 0) && (x4.2 == 0))) 105 rfl rfl (fun hg19=>?_) (fun hg19=>?_) ?_
 ·exact gT rfl hg19<|qm rfl<|gT rfl hg19<|A0 (G0 rfl rfl) rfl<|A0 (C8 rfl hg19 rfl) rfl<|ge 3 (by rw [hg19]; rfl) rfl rfl
 ·exact nT rfl hg19 rfl<|nT rfl hg19 rfl<|A0 (C7 rfl hg19 rfl) rfl<|ge 3 (by rw [hg19]; rfl) rfl rfl
 refine qm rfl<|gp 3 112 (.b (((x3.2 == 0) && (x4.2 == 0)) && (x6.2 == 0))) 109 rfl rfl (fun hg20=>?_) (fun hg20=>?_) ?_
 ·exact gT rfl hg20<|qm rfl<|gT rfl hg20<|A0 (G0 rfl rfl) rfl<|A0 (C8 rfl hg20 rfl) rfl<|ge 3 (by rw [hg20]; rfl) rfl rfl
 ·exact nT rfl hg20 rfl<|nT rfl hg20 rfl<|A0 (C7 rfl hg20 rfl) rfl<|ge 3 (by rw [hg20]; rfl) rfl rfl
 refine qm rfl<|gp 3 116 (.b ((((x3.2 == 0) && (x4.2 == 0)) && (x6.2 == 0)) && (x8.2 == 0))) 113 rfl rfl (fun hg21=>?_) (fun hg21=>?_) ?_
 ·exact gT rfl hg21<|qm rfl<|gT rfl hg21<|A0 (G0 rfl rfl) rfl<|A0 (C8 rfl hg21 rfl) rfl<|ge 3 (by rw [hg21]; rfl) rfl rfl
 ·exact nT rfl hg21 rfl<|nT rfl hg21 rfl<|A0 (C7 rfl hg21 rfl) rfl<|ge 3 (by rw [hg21]; rfl) rfl rfl
 refine qm rfl<|gp 3 120 (.b (((((x3.2 == 0) && (x4.2 == 0)) && (x6.2 == 0)) && (x8.2 == 0)) && (x12.2 == 0))) 117 rfl rfl (fun hg22=>?_) (fun hg22=>?_) ?_
 ·exact gT rfl hg22<|qm rfl<|gT rfl hg22<|A0 (G0 rfl rfl) rfl<|A0 (C8 rfl hg22 rfl) rfl<|ge 3 (by rw [hg22]; rfl) rfl rfl
 ·exact nT rfl hg22 rfl<|nT rfl hg22 rfl<|A0 (C7 rfl hg22 rfl) rfl<|ge 3 (by rw [hg22]; rfl) rfl rfl
 refine qm rfl<|gp 3 124 (.b ((((((x3.2 == 0) && (x4.2 == 0)) && (x6.2 == 0)) && (x8.2 == 0)) && (x12.2 == 0)) && (x13.2.2.2 == 0))) 121 rfl rfl (fun hg23=>?_) (fun hg23=>?_) ?_
 ·exact gT rfl hg23<|qm rfl<|gT rfl hg23<|A0 (G0 rfl rfl) rfl<|A0 (C8 rfl hg23 rfl) rfl<|ge 3 (by rw [hg23]; rfl) rfl rfl
 ·exact nT rfl hg23 rfl<|nT rfl hg23 rfl<|A0 (C7 rfl hg23 rfl) rfl<|ge 3 (by rw [hg23]; rfl) rfl rfl
 refine qm rfl<|gp 3 128 (.b (((((((x3.2 == 0) && (x4.2 == 0)) && (x6.2 == 0)) && (x8.2 == 0)) && (x12.2 == 0)) && (x13.2.2.2 == 0)) && (x14.2.2.2 == 0))) 125 rfl rfl (fun hg24=>?_) (fun hg24=>?_) ?_
 ·exact gT rfl hg24<|qm rfl<|gT rfl hg24<|A0 (G0 rfl rfl) rfl<|A0 (C8 rfl hg24 rfl) rfl<|ge 3 (by rw [hg24]; rfl) rfl rfl
 ·exact nT rfl hg24 rfl<|nT rfl hg24 rfl<|A0 (C7 rfl hg24 rfl) rfl<|ge 3 (by rw [hg24]; rfl) rfl rfl
 refine qm rfl<|gp 3 132 (.b ((((((((x3.2 == 0) && (x4.2 == 0)) && (x6.2 == 0)) && (x8.2 == 0)) && (x12.2 == 0)) && (x13.2.2.2 == 0)) && (x14.2.2.2 == 0)) && (x15.2.2 == 0))) 129 rfl rfl (fun hg25=>?_) (fun hg25=>?_) ?_
 ·exact gT rfl hg25<|qm rfl<|gT rfl hg25<|A0 (G0 rfl rfl) rfl<|A0 (C8 rfl hg25 rfl) rfl<|ge 3 (by rw [hg25]; rfl) rfl rfl
 ·exact nT rfl hg25 rfl<|nT rfl hg25 rfl<|A0 (C7 rfl hg25 rfl) rfl<|ge 3 (by rw [hg25]; rfl) rfl rfl
 refine qm rfl<|gp 3 136 (.b (((((((((x3.2 == 0) && (x4.2 == 0)) && (x6.2 == 0)) && (x8.2 == 0)) && (x12.2 == 0)) && (x13.2.2.2 == 0)) && (x14.2.2.2 == 0)) && (x15.2.2 == 0)) && (x16.2 == 0))) 133 rfl rfl (fun hg26=>?_) (fun hg26=>?_) ?_
 ·exact gT rfl hg26<|qm rfl<|gT rfl hg26<|A0 (G0 rfl rfl) rfl<|A0 (C8 rfl hg26 rfl) rfl<|ge 3 (by rw [hg26]; rfl) rfl rfl
 ·exact nT rfl hg26 rfl<|nT rfl hg26 rfl<|A0 (C7 rfl hg26 rfl) rfl<|ge 3 (by rw [hg26]; rfl) rfl rfl
 refine qm rfl<|gp 3 140 (.b ((((((((((x3.2 == 0) && (x4.2 == 0)) && (x6.2 == 0)) && (x8.2 == 0)) && (x12.2 == 0)) && (x13.2.2.2 == 0)) && (x14.2.2.2 == 0)) && (x15.2.2 == 0)) && (x16.2 == 0)) && (x18.2 == 0))) 137 rfl rfl (fun hg27=>?_) (fun hg27=>?_) ?_
 ·exact gT rfl hg27<|qm rfl<|gT rfl hg27<|A0 (G0 rfl rfl) rfl<|A0 (C8 rfl hg27 rfl) rfl<|ge 3 (by rw [hg27]; rfl) rfl rfl
 ·exact nT rfl hg27 rfl<|nT rfl hg27 rfl<|A0 (C7 rfl hg27 rfl) rfl<|ge 3 (by rw [hg27]; rfl) rfl rfl
 refine qm rfl<|gp 3 144 (.b (((((((((((x3.2 == 0) && (x4.2 == 0)) && (x6.2 == 0)) && (x8.2 == 0)) && (x12.2 == 0)) && (x13.2.2.2 == 0)) && (x14.2.2.2 == 0)) && (x15.2.2 == 0)) && (x16.2 == 0)) && (x18.2 == 0)) && (x5.2 == 9))) 141 rfl rfl (fun hg28=>?_) (fun hg28=>?_) ?_
 ·exact gT rfl hg28<|qm rfl<|gT rfl hg28<|A0 (G0 rfl rfl) rfl<|A0 (C8 rfl hg28 rfl) rfl<|ge 3 (by rw [hg28]; rfl) rfl rfl
 ·exact nT rfl hg28 rfl<|nT rfl hg28 rfl<|A0 (C7 rfl hg28 rfl) rfl<|ge 3 (by rw [hg28]; rfl) rfl rfl
 refine qm rfl<|gp 3 148 (.b ((((((((((((x3.2 == 0) && (x4.2 == 0)) && (x6.2 == 0)) && (x8.2 == 0)) && (x12.2 == 0)) && (x13.2.2.2 == 0)) && (x14.2.2.2 == 0)) && (x15.2.2 == 0)) && (x16.2 == 0)) && (x18.2 == 0)) && (x5.2 == 9)) && (x10.2 == 4))) 145 rfl rfl (fun hg29=>?_) (fun hg29=>?_) ?_
 ·exact gT rfl hg29<|qm rfl<|gT rfl hg29<|A0 (G0 rfl rfl) rfl<|A0 (C8 rfl hg29 rfl) rfl<|ge 3 (by rw [hg29]; rfl) rfl rfl
 ·exact nT rfl hg29 rfl<|nT rfl hg29 rfl<|A0 (C7 rfl hg29 rfl) rfl<|ge 3 (by rw [hg29]; rfl) rfl rfl
 refine qm rfl<|gp 3 152 (.b (((((((((((((x3.2 == 0) && (x4.2 == 0)) && (x6.2 == 0)) && (x8.2 == 0)) && (x12.2 == 0)) && (x13.2.2.2 == 0)) && (x14.2.2.2 == 0)) && (x15.2.2 == 0)) && (x16.2 == 0)) && (x18.2 == 0)) && (x5.2 == 9)) && (x10.2 == 4)) && (x3.1 == 110))) 149 rfl rfl (fun hg30=>?_) (fun hg30=>?_) ?_
 ·exact gT rfl hg30<|qm rfl<|gT rfl hg30<|A0 (G0 rfl rfl) rfl<|A0 (C8 rfl hg30 rfl) rfl<|ge 3 (by rw [hg30]; rfl) rfl rfl
 ·exact nT rfl hg30 rfl<|nT rfl hg30 rfl<|A0 (C7 rfl hg30 rfl) rfl<|ge 3 (by rw [hg30]; rfl) rfl rfl
 refine qm rfl<|gp 3 156 (.b ((((((((((((((x3.2 == 0) && (x4.2 == 0)) && (x6.2 == 0)) && (x8.2 == 0)) && (x12.2 == 0)) && (x13.2.2.2 == 0)) && (x14.2.2.2 == 0)) && (x15.2.2 == 0)) && (x16.2 == 0)) && (x18.2 == 0)) && (x5.2 == 9)) && (x10.2 == 4)) && (x3.1 == 110)) && (x4.1 == 48))) 153 rfl rfl (fun hg31=>?_) (fun hg31=>?_) ?_
 ·exact gT rfl hg31<|qm rfl<|gT rfl hg31<|A0 (G0 rfl rfl) rfl<|A0 (C8 rfl hg31 rfl) rfl<|ge 3 (by rw [hg31]; rfl) rfl rfl
 ·exact nT rfl hg31 rfl<|nT rfl hg31 rfl<|A0 (C7 rfl hg31 rfl) rfl<|ge 3 (by rw [hg31]; rfl) rfl rfl
 refine qm rfl<|gp 4 161 (.b x34) 157 rfl rfl (fun hg32=>?_) (fun hg32=>?_) ?_
 ·refine oB (bt hx34 hg32) fun x33 hx33 hx34=>?_
  obtain rfl:=os hx34
  exact gT rfl hg32<|qm rfl<|gT rfl hg32<|A0 (J4 (rows:=List.map cI [0,1,2]) rfl rfl (E4 (fun _=>rfl) _)) rfl<|gT rfl hg32<|B8 (rs:=[.b x33]) rfl rfl (A2 rfl (A2 rfl B7)) ((A1c hx33).frz)<|A0 (C8 rfl hg32 rfl) rfl<|ge 4 rfl rfl rfl
 ·obtain rfl:=os (bf hx34 hg32)
  exact nT rfl hg32 rfl<|nT rfl hg32 rfl<|H6 (E0 rfl (by rw [hg32]; rfl)) rfl<|A0 (C7 rfl hg32 rfl) rfl<|ge 4 rfl rfl rfl
 refine qm rfl<|gp 3 165 (.b (x34 && (x8.1 == 102))) 162 rfl rfl (fun hg35=>?_) (fun hg35=>?_) ?_
 ·exact gT rfl hg35<|qm rfl<|gT rfl hg35<|A0 (G0 rfl rfl) rfl<|A0 (C8 rfl hg35 rfl) rfl<|ge 3 (by rw [hg35]; rfl) rfl rfl
 ·exact nT rfl hg35 rfl<|nT rfl hg35 rfl<|A0 (C7 rfl hg35 rfl) rfl<|ge 3 (by rw [hg35]; rfl) rfl rfl
 refine qm rfl<|gp 3 169 (.b ((x34 && (x8.1 == 102)) && (x12.1 == 0))) 166 rfl rfl (fun hg36=>?_) (fun hg36=>?_) ?_
 ·exact gT rfl hg36<|qm rfl<|gT rfl hg36<|A0 (G0 rfl rfl) rfl<|A0 (C8 rfl hg36 rfl) rfl<|ge 3 (by rw [hg36]; rfl) rfl rfl
 ·exact nT rfl hg36 rfl<|nT rfl hg36 rfl<|A0 (C7 rfl hg36 rfl) rfl<|ge 3 (by rw [hg36]; rfl) rfl rfl
 refine qm rfl<|gp 7 177 (.b x42) 170 rfl rfl (fun hg37=>?_) (fun hg37=>?_) ?_
 ·refine oB (bt hx42 hg37) fun x38 hx38 hx42=>oB hx42 fun x39 hx39 hx42=>oB hx42 fun x40 hx40 hx42=>oB hx42 fun x41 hx41 hx42=>?_
  obtain rfl:=os hx42
  exact gT rfl hg37<|qm rfl<|gT rfl hg37<|B8 (rs:=[(.agg (A7 x38))]) rfl rfl (A2 rfl (A2 rfl (A2 rfl B7))) ((T9 hx38).frz)<|gT rfl hg37<|B8 (rs:=[(.agg (A7 x39))]) rfl rfl (A2 rfl (A2 rfl (A2 rfl B7))) ((T9 hx39).frz)<|gT rfl hg37<|B8 (rs:=[(.agg (A7 x40))]) rfl rfl (A2 rfl (A2 rfl (A2 rfl B7))) ((T9 hx40).frz)<|gT rfl hg37<|A0 (J4 (rows:=List.map A7 [x38,x39,x40]) rfl rfl (E4 (fun _=>rfl) _)) rfl<|gT rfl hg37<|B8 (rs:=[.b x41]) rfl rfl (A2 rfl (A2 rfl B7)) ((B9b hx41).frz)<|A0 (C8 rfl hg37 rfl) rfl<|ge 7 rfl rfl rfl
 ·obtain rfl:=os (bf hx42 hg37)
  exact nT rfl hg37 rfl<|H6 (E0 rfl (by rw [hg37]; rfl)) rfl<|H6 (E0 rfl (by rw [hg37]; rfl)) rfl<|H6 (E0 rfl (by rw [hg37]; rfl)) rfl<|nT rfl hg37 rfl<|H6 (E0 rfl (by rw [hg37]; rfl)) rfl<|A0 (C7 rfl hg37 rfl) rfl<|ge 7 rfl rfl rfl
 refine qm rfl<|gp 3 181 (.b (x42 && (x13.2.1 == 0))) 178 rfl rfl (fun hg43=>?_) (fun hg43=>?_) ?_
 ·exact gT rfl hg43<|qm rfl<|gT rfl hg43<|A0 (G0 rfl rfl) rfl<|A0 (C8 rfl hg43 rfl) rfl<|ge 3 (by rw [hg43]; rfl) rfl rfl
 ·exact nT rfl hg43 rfl<|nT rfl hg43 rfl<|A0 (C7 rfl hg43 rfl) rfl<|ge 3 (by rw [hg43]; rfl) rfl rfl
 refine qm rfl<|gp 3 185 (.b ((x42 && (x13.2.1 == 0)) && (x13.2.2.1 == 78))) 182 rfl rfl (fun hg44=>?_) (fun hg44=>?_) ?_
 ·exact gT rfl hg44<|qm rfl<|gT rfl hg44<|A0 (G0 rfl rfl) rfl<|A0 (C8 rfl hg44 rfl) rfl<|ge 3 (by rw [hg44]; rfl) rfl rfl
 ·exact nT rfl hg44 rfl<|nT rfl hg44 rfl<|A0 (C7 rfl hg44 rfl) rfl<|ge 3 (by rw [hg44]; rfl) rfl rfl
 refine qm rfl<|gp 3 189 (.b (((x42 && (x13.2.1 == 0)) && (x13.2.2.1 == 78)) && (x14.2.1 == 2))) 186 rfl rfl (fun hg45=>?_) (fun hg45=>?_) ?_
 ·exact gT rfl hg45<|qm rfl<|gT rfl hg45<|A0 (G0 rfl rfl) rfl<|A0 (C8 rfl hg45 rfl) rfl<|ge 3 (by rw [hg45]; rfl) rfl rfl
 ·exact nT rfl hg45 rfl<|nT rfl hg45 rfl<|A0 (C7 rfl hg45 rfl) rfl<|ge 3 (by rw [hg45]; rfl) rfl rfl
 refine qm rfl<|gp 4 194 (.b x48) 190 rfl rfl (fun hg46=>?_) (fun hg46=>?_) ?_
 ·refine oB (bt hx48 hg46) fun x47 hx47 hx48=>?_
  obtain rfl:=os hx48
  exact gT rfl hg46<|qm rfl<|gT rfl hg46<|A0 (J4 (rows:=List.map cI [0,2]) rfl rfl (E4 (fun _=>rfl) _)) rfl<|gT rfl hg46<|B8 (rs:=[.b x47]) rfl rfl (A2 rfl (A2 rfl B7)) ((A1c hx47).frz)<|A0 (C8 rfl hg46 rfl) rfl<|ge 4 rfl rfl rfl
 ·obtain rfl:=os (bf hx48 hg46)
  exact nT rfl hg46 rfl<|nT rfl hg46 rfl<|H6 (E0 rfl (by rw [hg46]; rfl)) rfl<|A0 (C7 rfl hg46 rfl) rfl<|ge 4 rfl rfl rfl
 refine qm rfl<|gp 4 199 (.b x51) 195 rfl rfl (fun hg49=>?_) (fun hg49=>?_) ?_
 ·refine oB (bt hx51 hg49) fun x50 hx50 hx51=>?_
  obtain rfl:=os hx51
  exact gT rfl hg49<|qm rfl<|gT rfl hg49<|A0 (J4 (rows:=List.map cI [0,2]) rfl rfl (E4 (fun _=>rfl) _)) rfl<|gT rfl hg49<|B8 (rs:=[.b x50]) rfl rfl (A2 rfl (A2 rfl B7)) ((A1c hx50).frz)<|A0 (C8 rfl hg49 rfl) rfl<|ge 4 rfl rfl rfl
 ·obtain rfl:=os (bf hx51 hg49)
  exact nT rfl hg49 rfl<|nT rfl hg49 rfl<|H6 (E0 rfl (by rw [hg49]; rfl)) rfl<|A0 (C7 rfl hg49 rfl) rfl<|ge 4 rfl rfl rfl
 refine qm rfl<|gp 3 203 (.b (x51 && (x16.1 == 58))) 200 rfl rfl (fun hg52=>?_) (fun hg52=>?_) ?_
 ·exact gT rfl hg52<|qm rfl<|gT rfl hg52<|A0 (G0 rfl rfl) rfl<|A0 (C8 rfl hg52 rfl) rfl<|ge 3 (by rw [hg52]; rfl) rfl rfl
 ·exact nT rfl hg52 rfl<|nT rfl hg52 rfl<|A0 (C7 rfl hg52 rfl) rfl<|ge 3 (by rw [hg52]; rfl) rfl rfl
 refine qm rfl<|gp 4 208 (.b x55) 204 rfl rfl (fun hg53=>?_) (fun hg53=>?_) ?_
 ·refine oB (bt hx55 hg53) fun x54 hx54 hx55=>?_
  obtain rfl:=os hx55
  exact gT rfl hg53<|qm rfl<|gT rfl hg53<|A0 (J4 (rows:=List.map cI [2]) rfl rfl (E4 (fun _=>rfl) _)) rfl<|gT rfl hg53<|B8 (rs:=[.b x54]) rfl rfl (A2 rfl (A2 rfl B7)) ((A1c hx54).frz)<|A0 (C8 rfl hg53 rfl) rfl<|ge 4 rfl rfl rfl
 ·obtain rfl:=os (bf hx55 hg53)
  exact nT rfl hg53 rfl<|nT rfl hg53 rfl<|H6 (E0 rfl (by rw [hg53]; rfl)) rfl<|A0 (C7 rfl hg53 rfl) rfl<|ge 4 rfl rfl rfl
 refine qm rfl<|es (ra1 rfl)<|C5 ?_
 obtain rfl:=os h
 exact retq trivial (A6 rfl B6) (A5 rfl B5) (A3 A4 A8)
end Pw
end
section
set_option maxRecDepth 100000
namespace Pw
theorem awake:A0c = some true:= by decide +kernel
end Pw
end
section
set_option maxRecDepth 10000
namespace Pw
open Go Am
theorem C88:∀l n:Fin 16,A3y ⟨ByteArray.empty,(l.val:Int),false,0,0,0,0,0⟩ ⟨ByteArray.empty,0,0,(n.val:Int)⟩ = some (A0o (n.val:Int) (l.val:Int) == 0):= by decide +kernel
theorem C2e {g:PaGown} (hg:GwOk g) {y:PaFigure} (hy:FgOk y):A3y g y = some (B19 g y):= by
 have h1:=hg.looks
 have h2:=hy.needs
 have:=C88 ⟨g.Looks.toNat,by omega⟩ ⟨y.Needs.toNat,by omega⟩
 simp only at this
 rw [Int.toNat_of_nonneg h1.1,Int.toNat_of_nonneg h2.1] at this
 exact this
theorem C4p (g:PaGown) (x:PaUse):A5f g x = some (A73 g x):= by
 unfold A5f A73
 cases g.Pawn
 ·simp
 ·simp only [A23,Option.bind_some]
  generalize out 0 364 x.Day = b
  cases b <;> cases x.How == 2 && x.Day == 0 <;> cases x.How == 1 <;> rfl
theorem B1e {s:PaShow} (hs:ShOk s) {f:Int} (hf:0≤f∧f < s.Figures.length) (x:PaUse):A2c s f x = some (A2f s.Gowns s.Figures[f.toNat]! x):= by
 have hG:=hs.gowns
 unfold A2c A2f
 by_cases hx:x.Gown = -1
 ·rw [if_pos (by simp [hx]),if_pos hx]
  by_cases hb:x.How = 0∧x.Day = 0
  ·rw [if_pos hb,if_neg (by simp [hb.1,hb.2])]
  ·rw [if_neg hb,if_pos (by simp; omega)]
 ·rw [if_neg (by simp [hx]),if_neg hx,G1 (by omega),A23]
  simp only [Option.bind_some,Bool.not_not]
  cases ho:out 0 ((s.Gowns.length:Int) - 1) x.Gown with
  | true=>rfl
  | false =>
   have hg:=N7.mp ho
   simp only [Bool.false_eq_true,if_false]
   rw [W3 (l:=s.Gowns) hg.1 (by omega),W3 (l:=s.Figures) hf.1 hf.2]
   have hok:=hs.gown _ (M3 (l:=s.Gowns) (i:=x.Gown.toNat) (by omega))
   have hok2:=hs.figure _ (M3 (l:=s.Figures) (i:=f.toNat) (by omega))
   generalize s.Gowns[x.Gown.toNat]! = g at hok
   generalize s.Figures[f.toNat]! = y at hok2
   simp only [Option.bind_some]
   rw [C4p,C2e hok hok2]
   simp only [Option.bind_some]
   unfold B4w
   cases A73 g x
   ·rfl
   ·cases ((x.How == 1 && (decide (x.Day > g.Last) || decide (x.Day > y.Day))) || (x.How == 2 && decide (y.Until > g.Last)))
    ·cases B19 g y <;> rfl
    ·rfl
theorem B2v {g:PaGown} (h:GwOk g) {day:Int} (hd:0≤day∧day≤364):A2b g day = some (price g day):= by
 have:=B03 h ⟨ByteArray.empty,0,0,0⟩ hd
 rw [← this]
 unfold A2b W9
 rw [Int.add_comm (w64 (Int.tdiv (w64 (g.Ago + day)) 30)) 1]
theorem B78 {g:PaGown} (h:GwOk g) {f:PaFigure} (hf:FgOk f):A61 g f = some (B6u g f):=B6n h hf 0
end Pw
end
section
set_option maxRecDepth 100000
set_option maxHeartbeats 0
namespace Pw
open Go Am Go.Proofs.YtjpjdglddmhplaaGreat.Cd
def A11 (a0:PaShow) (a1:Int) (a2:PaUse):Option (Int × Int) :=
 if (a2.Gown == (-1)) = true then
  some (0,0)
 else
  if (a2.How == 1) = true then
  (idx a0.Gowns a2.Gown).bind fun x3 =>
  (A2b x3 a2.Day).bind fun x4 =>
  some (x4,a2.Day)
  else
  if (a2.How == 2) = true then
   (idx a0.Gowns a2.Gown).bind fun x6 =>
   (idx a0.Figures a1).bind fun x7 =>
   (A61 x6 x7).bind fun x8 =>
   (idx a0.Figures a1).bind fun x9 =>
   some (x8,x9.Day)
  else
   some (0,0)
theorem A6e {c:Sc} {H:A1} {a0:PaShow} {a1:Int} {a2:PaUse} {r:(Int × Int)} (h:A11 a0 a1 a2 = some r) :
  E1 tab c H (.fn (.func 78) [] []) [(.agg (B1 a0)),.i a1,(.agg (A7 a2))] [.i r.1,.i r.2]:= by
 unfold A11 at h
 refine cE rfl rfl<|sg 0 rfl<|A0 (E5 (cs:=B1 a0) rfl rfl rfl) rfl<|A0 (E5 (cs:=A7 a2) rfl rfl rfl) rfl<|qm rfl<|qm rfl<|es (ra3 rfl rfl rfl)<|C2<|C6<|s0<|A0 (B9 rfl) rfl<|A0 (B2 rfl rfl rfl) rfl<|A0 (G0 rfl rfl) rfl<|qm rfl<|es (ra4 rfl rfl rfl rfl)<|wi h rfl (fun hc1 h=>?_) fun hc1 h=>?_
 ·refine s0<|qm rfl<|qm rfl<|es (ra2 rfl rfl)<|C5 ?_
  obtain rfl:=os h
  exact retq trivial (A6 rfl (A6 rfl B6)) (A5 rfl (A5 rfl B5)) (A3 A4 (A3 A4 A8))
 ·refine s0<|A0 (B9 rfl) rfl<|A0 (B2 rfl rfl rfl) rfl<|A0 (G0 rfl rfl) rfl<|qm rfl<|es (ra4 rfl rfl rfl rfl)<|wi h rfl (fun hc2 h=>?_) fun hc2 h=>?_
  ·refine s0<|oB h fun x3 hx3 h=>oB h fun x4 hx4 h=>A0 (B9 rfl) rfl<|A0 (B2 rfl rfl rfl) rfl<|A0 (B9 rfl) rfl<|A0 (B2 rfl rfl rfl) rfl<|A0 (E9 (f:=C1) rfl rfl hx3) rfl<|A0 (F5 rfl rfl) rfl<|A0 (B9 rfl) rfl<|A0 (B2 rfl rfl rfl) rfl<|U1 (rs:=[.i x4]) rfl rfl (T0 rfl (T0 rfl A0e)) (A2 (D0 rfl) (A2 rfl B7)) ((A8x hx4).frz)<|A0 (B9 rfl) rfl<|A0 (B2 rfl rfl rfl) rfl<|qm rfl<|qm rfl<|es (ra2 rfl rfl)<|C5 ?_
   obtain rfl:=os h
   exact retq trivial (A6 rfl (A6 rfl B6)) (A5 rfl (A5 rfl B5)) (A3 A4 (A3 A4 A8))
  ·refine s0<|A0 (B9 rfl) rfl<|A0 (B2 rfl rfl rfl) rfl<|A0 (G0 rfl rfl) rfl<|qm rfl<|es (ra4 rfl rfl rfl rfl)<|wi h rfl (fun hc5 h=>?_) fun hc5 h=>?_
   ·refine s0<|oB h fun x6 hx6 h=>oB h fun x7 hx7 h=>oB h fun x8 hx8 h=>oB h fun x9 hx9 h=>A0 (B9 rfl) rfl<|A0 (B2 rfl rfl rfl) rfl<|A0 (B9 rfl) rfl<|A0 (B2 rfl rfl rfl) rfl<|A0 (E9 (f:=C1) rfl rfl hx6) rfl<|A0 (F5 rfl rfl) rfl<|A0 (B9 rfl) rfl<|A0 (B2 rfl rfl rfl) rfl<|qm rfl<|A0 (E9 (f:=B3) rfl rfl hx7) rfl<|A0 (F5 rfl rfl) rfl<|U1 (rs:=[.i x8]) rfl rfl (T0 rfl (T0 rfl A0e)) (A2 (D0 rfl) (A2 (D0 rfl) B7)) ((B2j hx8).frz)<|A0 (B9 rfl) rfl<|A0 (B2 rfl rfl rfl) rfl<|qm rfl<|A0 (E9 (f:=B3) rfl rfl hx9) rfl<|A0 (A04 (ds:=(List.drop 1 (B3 x9))) rfl rfl) rfl<|A0 (L2 rfl rfl) rfl<|qm rfl<|qm rfl<|es (ra2 rfl rfl)<|C5 ?_
    obtain rfl:=os h
    exact retq trivial (A6 rfl (A6 rfl B6)) (A5 rfl (A5 rfl B5)) (A3 A4 (A3 A4 A8))
   ·refine C3<|s0<|qm rfl<|qm rfl<|es (ra2 rfl rfl)<|C5 ?_
    obtain rfl:=os h
    exact retq trivial (A6 rfl (A6 rfl B6)) (A5 rfl (A5 rfl B5)) (A3 A4 (A3 A4 A8))
end Pw
end
section
namespace Pw
open Go Am
theorem A88 {s:PaShow} (hs:ShOk s) {f:Int} (hf:0≤f∧f < s.Figures.length) {x:PaUse} (h:A2f s.Gowns s.Figures[f.toNat]! x = 0):A11 s f x = some (A99 s.Gowns s.Figures[f.toNat]! x):= by
 have hy:=hs.figure _ (M3 (l:=s.Figures) (i:=f.toNat) (by omega))
 unfold A11
 rcases B24.mp h with rfl | h
 ·rfl
 ·have h1:=h.lo
  have h2:=h.hi
  have hg:=hs.gown _ (M3 (l:=s.Gowns) (i:=x.Gown.toNat) (by omega))
  have hfm:=h.form
  rw [if_neg (by simp; omega),W3 (l:=s.Gowns) h1 h2,W3 (l:=s.Figures) hf.1 hf.2]
  unfold A99
  have hne:¬ x.Gown = -1:= by omega
  simp only [hne,if_false]
  generalize s.Figures[f.toNat]! = y at hy
  generalize s.Gowns[x.Gown.toNat]! = g at hg hfm
  rcases form1 hfm with ⟨_,hh,hd⟩ | ⟨_,⟨hh,hd⟩ | ⟨hh,hd⟩⟩
  ·rw [hh]; rfl
  ·rw [hh]
   simp only [Option.bind_some]
   rw [B78 hg hy]
   rfl
  ·rw [hh]
   simp only [Option.bind_some]
   rw [B2v hg hd]
   rfl
def A6g (s:PaShow) (p:List PaUse) (d:Int):Int:=if O0 s p ≠ 0 then O0 s p else if out 0 364 d then 7 else 0
theorem A7v {s:PaShow} {p:List PaUse} (h:O0 s p = 0):ShOk s∧PlOk s p:= by
 unfold O0 at h
 split at h
 ·next h2=>exact absurd h h2
 ·next h2=>exact ⟨(A1o s).mp (by simpa using h2),B71.mp h⟩
theorem B1k (s:PaShow) (hb:NB s) (p:List PaUse) (d:Int):W8 s p d = some (if A6g s p d = 0 then H9 s p d else 0,A6g s p d):= by
 unfold W8
 rw [B72 s hb]
 simp only [Option.bind_some]
 unfold A6g
 by_cases h:O0 s p = 0
 ·obtain ⟨hs,hp⟩:=A7v h
  simp only [h,if_true,ne_eq,not_true,if_false,BEq.rfl,out1,Option.bind_some]
  cases out 0 364 d with
  | true=>rfl
  | false =>
   rw [show (pawn_show.mk s (Ar3.mk (pawn_way.mk ) (pawn_way.mk ) (pawn_way.mk )) (A4c s)) = shw s (A4c s) from rfl,C7u hs _ hp.u]
   rfl
 ·rw [if_neg (by simpa using h),if_pos h,if_neg h]
def A9f (s:PaShow) (p:List PaUse):Int:=if O0 s p ≠ 0 then O0 s p else if (Q0 s p).1 = 0 then 4 else 0
theorem C99 (s:PaShow) (hb:NB s) (p:List PaUse):A1y s p = some (if A9f s p = 0 then (Q0 s p).2 else 0,A9f s p):= by
 unfold A1y
 rw [B72 s hb]
 simp only [Option.bind_some]
 unfold A9f
 by_cases h:O0 s p = 0
 ·obtain ⟨hs,hp⟩:=A7v h
  simp only [h,if_true,ne_eq,not_true,if_false,BEq.rfl]
  rw [show (pawn_show.mk s (Ar3.mk (pawn_way.mk ) (pawn_way.mk ) (pawn_way.mk )) (A4c s)) = shw s (A4c s) from rfl,D2u hs _ hp.u]
  simp only [Option.bind_some]
  by_cases hz:(Q0 s p).1 = 0
  ·rw [if_pos (by simpa using hz),if_pos hz]; rfl
  ·rw [if_neg (by simpa using hz),if_neg hz]; rfl
 ·rw [if_neg (by simpa using h),if_pos h,if_neg h]
end Pw
end
section
set_option maxRecDepth 100000
set_option maxHeartbeats 0
namespace Pw
open Go Am Go.Proofs.YtjpjdglddmhplaaGreat.Cd
def A1w (a0:(List Int)) (a1:Int):Option Int :=
 if ((List.length a0:Int) == 0) = true then
  some 0
 else
  (B79 a1 (List.length a0:Int)).bind fun x2 =>
  (idx a0 x2).bind fun x3 =>
  some (w64 x3)
theorem A59 {c:Sc} {H:A1} {a0:(List Int)} {a1:Int} {r:Int} (h:A1w a0 a1 = some r) :
  E1 tab c H (.fn (.func 79) [] []) [(.seq 1 (List.map A5r a0)),.i a1] [.i r]:= by
 unfold A1w at h
 refine cE rfl rfl<|s0<|qm rfl<|es (ra2 rfl rfl)<|C2<|s0<|qm rfl<|A0 (F6 (f:=A5r) rfl) rfl<|A0 (G0 rfl rfl) rfl<|es (ra3 rfl rfl rfl)<|wi h rfl (fun hc1 h=>?_) fun hc1 h=>?_
 ·refine s0<|qm rfl<|es (ra1 rfl)<|C5 ?_
  obtain rfl:=os h
  exact retq trivial (A6 rfl B6) (A5 rfl B5) (A3 A4 A8)
 ·refine C3<|s0<|oB h fun x2 hx2 h=>oB h fun x3 hx3 h=>qm rfl<|qm rfl<|qm rfl<|A0 (F6 (f:=A5r) rfl) rfl<|A0 (C35 rfl rfl hx2) rfl<|A0 (E9 (f:=A5r) rfl rfl hx3) rfl<|A0 (L2 rfl rfl) rfl<|A0 (A7q rfl) rfl<|qm rfl<|es (ra1 rfl)<|C5 ?_
  obtain rfl:=os h
  exact retq trivial (A6 rfl B6) (A5 rfl B5) (A3 A4 A8)
def A0r (s1:(Int × (List PaUse))) (p8:PaUse) (s13:(Bool × Int)):Option ((Bool × Int) ⊕ Bool) :=
 if (decide (s13.2 < s1.1)) = true then
  (if s13.1 = true then
  some true
  else
  (idx s1.2 s13.2).bind fun x17 =>
  some (x17.Gown == p8.Gown)).bind fun x18 =>
  some (.inl (x18,(w64 (s13.2 + 1))))
 else
  some (.inr s13.1)
def A2l (a0:PaShow) (a1:(List Int)) (s1:(Int × (List PaUse))):Option ((Int × (List PaUse)) ⊕ (List PaUse)) :=
 if (decide (s1.1 < (List.length a0.Figures:Int))) = true then
  (A1w a1 (w64 (3 * s1.1))).bind fun x4 =>
  (B79 x4 (w64 ((List.length a0.Gowns:Int) + 1))).bind fun x5 =>
  (A1w a1 (w64 ((w64 (3 * s1.1)) + 1))).bind fun x6 =>
  (Q2 (w64 (x5 - 1)) (Int.tmod x6 3) 0).bind fun x7 =>
  (if (x7.How == 1) = true then
   (A1w a1 (w64 ((w64 (3 * s1.1)) + 2))).bind fun x10 =>
   (idx a0.Figures s1.1).bind fun x11 =>
   (B79 x10 (w64 (x11.Day + 1))).bind fun x12 =>
   some (PaUse.mk x7.Gown x7.How x12)
  else
   some x7).bind fun (p8:PaUse) =>
  (loop (A0r s1 p8) (false,0)).bind fun (o19:Bool) =>
  (if ((p8.Gown == (-1)) || o19) = true then
  some true
  else
  (A2c a0 s1.1 p8).bind fun x22 =>
  some (x22 != 0)).bind fun x23 =>
  if x23 = true then
  (Q2 (-1) 0 0).bind fun x25 =>
  (app 24 s1.2 [x25]).bind fun x26 =>
  some (.inl ((w64 (s1.1 + 1)),x26))
  else
  (app 24 s1.2 [p8]).bind fun x27 =>
  some (.inl ((w64 (s1.1 + 1)),x27))
 else
  some (.inr s1.2)
def A6s (a0:PaShow) (a1:(List Int)):Option (List PaUse) :=
 (loop (A2l a0 a1) (0,([]:List PaUse))).bind fun (o28:(List PaUse)) =>
 some o28
theorem C15 {c:Sc} {H:A1} {a0:PaShow} {a1:(List Int)} {r:(List PaUse)} (h:A6s a0 a1 = some r) :
  E1 tab c H (.fn (.func 38) [] []) [(.agg (B1 a0)),(.seq 1 (List.map A5r a1))] [(.fresh 3 (List.map A7 r))]:= by
 unfold A6s at h
 refine cE rfl rfl<|sg 0 rfl<|A0 (E5 (cs:=B1 a0) rfl rfl rfl) rfl<|qm rfl<|es (ra2 rfl rfl)<|sg 1 rfl<|A0 A5w rfl<|es (ra3 rfl rfl rfl)<|C2<|s0<|qm rfl<|es (ra4 rfl rfl rfl rfl)<|C6<|oB h fun o28 ho28 h=>wl (fun s1=>[(1,(.seq 1 (List.map A5r a1))),(2,(.ptr (H.length + 0) 0)),(5,(.asl (H.length + 1) (List.length s1.2))),(6,.i s1.1)]) (fun (q2:Unit) s1=>[(.cells (B1 a0)),(.arr 3 false (List.map A7 s1.2))]) 2 (fun r e s' H'=>PX 0 [(5,(.asl (H.length + 1) (List.length r)))] (H++[(.cells (B1 a0)),(.arr 3 false (List.map A7 r))]) e s' H') () ho28 rfl rfl (fun _ _=>rfl) (fun _=>rfl) rfl (fun s1=>(bdc K0 (bdc (K8 rfl) (bdc (A05 rfl) (bdc A4 bdn))))) (fun q2 s1 ys1 hs1=>?_) ?_
 ·unfold A2l at hs1
  refine C2<|s0<|qm rfl<|A0 (B9 rfl) rfl<|A0 (B2 rfl rfl rfl) rfl<|A0 (F6 (f:=B3) rfl) rfl<|A0 (I0 rfl rfl) rfl<|es (ra5 rfl rfl rfl rfl rfl)<|wi hs1 rfl (fun hc3 hs1=>?_) fun hc3 hs1=>?_
  ·refine C3<|C2<|C6<|sg 2 rfl<|oB hs1 fun x4 hx4 hs1=>oB hs1 fun x5 hx5 hs1=>oB hs1 fun x6 hx6 hs1=>oB hs1 fun x7 hx7 hs1=>qm rfl<|qm rfl<|A0 (B0b rfl rfl) rfl<|I9 [2] (O6 [2] rfl G4 rfl rfl) (seen0 rfl) (B3z (rs:=[.i x4]) rfl rfl (T0 rfl (T0 rfl A0e)) (A2 rfl (A2 rfl B7)) ((A59 hx4).frz)) rfl<|A0 (B9 rfl) rfl<|I9 [2] (O6 [2] rfl G4 rfl rfl) (seen0 rfl) (B2 rfl rfl rfl) rfl<|I9 [2] (O6 [2] rfl G4 rfl rfl) (seen0 rfl) (F6 (f:=C1) rfl) rfl<|A0 (F2 rfl rfl) rfl<|A0 (C35 rfl rfl hx5) rfl<|A0 (T5 rfl rfl) rfl<|qm rfl<|qm rfl<|A0 (B0b rfl rfl) rfl<|A0 (F2 rfl rfl) rfl<|I9 [2] (O6 [2] rfl G4 rfl rfl) (seen0 rfl) (B3z (rs:=[.i x6]) rfl rfl (T0 rfl (T0 rfl A0e)) (A2 rfl (A2 rfl B7)) ((A59 hx6).frz)) rfl<|A0 (O8 (v:=(.i (Int.tmod x6 3))) rfl rfl rfl) rfl<|I9 [2] (O6 [2] rfl G4 rfl rfl) (seen0 rfl) (B3z (rs:=[(.agg (A7 x7))]) rfl rfl (T0 rfl (T0 rfl (T0 rfl A0e))) (A2 rfl (A2 rfl (A2 rfl B7))) ((T9 hx7).frz)) rfl<|A0 I3 rfl<|N9 (E8 (ds:=(A7 x7)) rfl rfl rfl rfl (E2 rfl) rfl) rfl<|es (ra5 rfl rfl rfl rfl rfl)<|C2<|s0<|A0 (B9 rfl) rfl<|A0 (B2 rfl rfl rfl) rfl<|A0 (G0 rfl rfl) rfl<|es (ra6 rfl rfl rfl rfl rfl rfl)<|oB hs1 fun p8 hp8 hs1=>A6i (Q1:=fun e s' H'=>e = .normal∧s' = [(1,(.seq 1 (List.map A5r a1))),(2,(.ptr (H.length + 0) 0)),(5,(.asl (H.length + 1) (List.length s1.2))),(6,.i s1.1),(7,(.ptr (H.length + 2) 0))]∧H' = (H++[(.cells (B1 a0)),(.arr 3 false (List.map A7 s1.2)),(.cells (A7 p8))])) ?_ ?_
   ·refine wi hp8 rfl (fun hc9 hp8=>?_) fun hc9 hp8=>?_
    ·refine r0<|oB hp8 fun x10 hx10 hp8=>oB hp8 fun x11 hx11 hp8=>oB hp8 fun x12 hx12 hp8=>qm rfl<|qm rfl<|A0 (B0b rfl rfl) rfl<|A0 (F2 rfl rfl) rfl<|U1 (rs:=[.i x10]) rfl rfl (T0 rfl (T0 rfl A0e)) (A2 rfl (A2 rfl B7)) ((A59 hx10).frz)<|A0 (B9 rfl) rfl<|A0 (B2 rfl rfl rfl) rfl<|qm rfl<|A0 (E9 (f:=B3) rfl rfl hx11) rfl<|A0 (A04 (ds:=(List.drop 1 (B3 x11))) rfl rfl) rfl<|A0 (L2 rfl rfl) rfl<|A0 (F2 rfl rfl) rfl<|A0 (C35 rfl rfl hx12) rfl<|A0 (B9 rfl) rfl<|N9 (E8 (ds:=(A7 (PaUse.mk x7.Gown x7.How x12))) rfl rfl rfl rfl (E2 rfl) rfl) rfl<|en (ra5 rfl rfl rfl rfl rfl) ?_
     obtain rfl:=os hp8
     exact me (And.intro rfl (And.intro rfl rfl)) (su5 rfl rfl rfl rfl rfl)
    ·refine C3 ?_
     obtain rfl:=os hp8
     exact me (And.intro rfl (And.intro rfl rfl)) (su5 rfl rfl rfl rfl rfl)
   ·rintro e s' H' ⟨rfl,rfl,rfl⟩
    refine s0<|qm rfl<|es (ra6 rfl rfl rfl rfl rfl rfl)<|C2<|s0<|qm rfl<|es (ra7 rfl rfl rfl rfl rfl rfl rfl)<|C6<|oB hs1 fun o19 ho19 hs1=>wl (fun s13=>[(1,(.seq 1 (List.map A5r a1))),(2,(.ptr (H.length + 0) 0)),(5,(.asl (H.length + 1) (List.length s1.2))),(6,.i s1.1),(7,(.ptr (H.length + 2) 0)),(8,.b s13.1),(9,.i s13.2)]) (fun (q14:Unit) s13=>[(.cells (B1 a0)),(.arr 3 false (List.map A7 s1.2)),(.cells (A7 p8))]) 3 (fun r e s' H'=>PX 2 [(1,(.seq 1 (List.map A5r a1))),(2,(.ptr (H.length + 0) 0)),(5,(.asl (H.length + 1) (List.length s1.2))),(6,.i s1.1),(7,(.ptr (H.length + 2) 0)),(8,.b r)] (H++[(.cells (B1 a0)),(.arr 3 false (List.map A7 s1.2)),(.cells (A7 p8))]) e s' H') () ho19 rfl rfl (fun _ _=>rfl) (fun _=>rfl) rfl (fun s13=>(bdc K0 (bdc (K8 rfl) (bdc (A05 rfl) (bdc A4 (bdc (K8 rfl) (bdc A4 (bdc A4 bdn)))))))) (fun q14 s13 ys13 hs13=>?_) ?_
    ·unfold A0r at hs13
     refine C2<|s0<|qm rfl<|qm rfl<|A0 (I0 rfl rfl) rfl<|es (ra8 rfl rfl rfl rfl rfl rfl rfl rfl)<|wi hs13 rfl (fun hc15 hs13=>?_) fun hc15 hs13=>?_
     ·refine C3<|C2<|C6<|r0<|oB hs13 fun x18 hx18 hs13=>qm rfl<|qm rfl<|gp 9 66 (.b x18) 57 rfl rfl (fun hg16=>?_) (fun hg16=>?_) ?_
      ·obtain rfl:=os (bt hx18 hg16)
       exact nF rfl hg16 rfl<|nF rfl hg16 rfl<|nF rfl hg16 rfl<|nF rfl hg16 rfl<|nF rfl hg16 rfl<|nF rfl hg16 rfl<|nF rfl hg16 rfl<|nF rfl hg16 rfl<|A0 (C8 rfl hg16 rfl) rfl<|ge 9 rfl rfl rfl
      ·refine oB (bf hx18 hg16) fun x17 hx17 hx18=>?_
       obtain rfl:=os hx18
       exact gF rfl hg16<|qm rfl<|gF rfl hg16<|qm rfl<|gF rfl hg16<|A0 (A45 (f:=A7) rfl rfl rfl rfl hx17) rfl<|gF rfl hg16<|A0 (D8h rfl) rfl<|gF rfl hg16<|A0 (A3l (x:=(.i x17.Gown)) rfl rfl (List.length_map _) (A39 hx17) rfl) rfl<|gF rfl hg16<|A0 (B9 rfl) rfl<|gF rfl hg16<|A0 (B2 rfl rfl rfl) rfl<|gF rfl hg16<|A0 (G0 rfl rfl) rfl<|A0 (C7 rfl hg16 rfl) rfl<|ge 9 rfl rfl rfl
      refine qm rfl<|en (ra7 rfl rfl rfl rfl rfl rfl rfl)<|r0<|qm rfl<|A0 (F2 rfl rfl) rfl<|qm rfl<|en (ra7 rfl rfl rfl rfl rfl rfl rfl) ?_
      cases hs13
      exact lnT () rfl (su7 rfl rfl rfl rfl rfl rfl rfl)
     ·refine G6 ?_
      obtain rfl:=os hs13
      exact lx rfl px (su6 rfl rfl rfl rfl rfl rfl)
    ·rintro e s' H' - ⟨rfl,rfl,rfl⟩
     refine C2<|s0<|oB hs1 fun x23 hx23 hs1=>A0 (B9 rfl) rfl<|A0 (B2 rfl rfl rfl) rfl<|A0 (G0 rfl rfl) rfl<|qm rfl<|gp 2 72 (.b ((p8.Gown == (-1)) || o19)) 70 rfl rfl (fun hg20=>?_) (fun hg20=>?_) ?_
     ·exact nF rfl hg20 rfl<|A0 (C8 rfl hg20 rfl) rfl<|ge 2 (by rw [hg20]; rfl) rfl rfl
     ·exact gF rfl hg20<|qm rfl<|A0 (C7 rfl hg20 rfl) rfl<|ge 2 (by rw [hg20]; rfl) rfl rfl
     refine qm rfl<|gp 6 79 (.b x23) 73 rfl rfl (fun hg21=>?_) (fun hg21=>?_) ?_
     ·obtain rfl:=os (bt hx23 hg21)
      exact nF rfl hg21 rfl<|nF rfl hg21 rfl<|nF rfl hg21 rfl<|H6 (E0 rfl (by rw [hg21]; rfl)) rfl<|nF rfl hg21 rfl<|A0 (C8 rfl hg21 rfl) rfl<|ge 6 rfl rfl rfl
     ·refine oB (bf hx23 hg21) fun x22 hx22 hx23=>?_
      obtain rfl:=os hx23
      exact gF rfl hg21<|A0 (D2 rfl rfl rfl) rfl<|gF rfl hg21<|qm rfl<|gF rfl hg21<|A0 (D2 rfl rfl rfl) rfl<|gF rfl hg21<|B8 (rs:=[.i x22]) rfl rfl (A2 (D0 rfl) (A2 rfl (A2 (D0 rfl) B7))) ((A7r hx22).frz)<|gF rfl hg21<|A0 (J5 rfl rfl) rfl<|A0 (C7 rfl hg21 rfl) rfl<|ge 6 rfl rfl rfl
     refine es (ra6 rfl rfl rfl rfl rfl rfl)<|wi hs1 rfl (fun hc24 hs1=>?_) fun hc24 hs1=>?_
     ·refine r0<|oB hs1 fun x25 hx25 hs1=>B8 (rs:=[(.agg (A7 x25))]) rfl rfl (A2 rfl (A2 rfl (A2 rfl B7))) ((T9 hx25).frz)<|N9 (E8 (ds:=(A7 x25)) rfl rfl rfl rfl (E2 rfl) rfl) rfl<|en (ra5 rfl rfl rfl rfl rfl)<|r0<|oB hs1 fun x26 hx26 hs1=>qm rfl<|A0 (D2 rfl rfl rfl) rfl<|A0 (J4 (rows:=List.map A7 [x25]) rfl rfl (E4 (fun _=>rfl) _)) rfl<|O4 (A44 (f:=A7) rfl rfl rfl rfl A5b (fun _=>rfl) hx26) rfl<|qm rfl<|en (ra4 rfl rfl rfl rfl)<|r0<|qm rfl<|A0 (F2 rfl rfl) rfl<|qm rfl<|en (ra4 rfl rfl rfl rfl) ?_
      cases hs1
      exact lnT () rfl (su4 rfl rfl rfl rfl)
     ·refine C3<|r0<|oB hs1 fun x27 hx27 hs1=>qm rfl<|A0 (D2 rfl rfl rfl) rfl<|A0 (J4 (rows:=List.map A7 [p8]) rfl rfl (E4 (fun _=>rfl) _)) rfl<|O4 (A44 (f:=A7) rfl rfl rfl rfl A5b (fun _=>rfl) hx27) rfl<|qm rfl<|en (ra4 rfl rfl rfl rfl)<|r0<|qm rfl<|A0 (F2 rfl rfl) rfl<|qm rfl<|en (ra4 rfl rfl rfl rfl) ?_
      cases hs1
      exact lnT () rfl (su4 rfl rfl rfl rfl)
  ·refine G6 ?_
   obtain rfl:=os hs1
   exact lx rfl px (su1 rfl)
 ·rintro e s' H' - ⟨rfl,rfl,rfl⟩
  refine s0<|qm rfl<|qm rfl<|es (ra1 rfl)<|C5 ?_
  obtain rfl:=os h
  exact retq trivial (A6 rfl B6) (A5 (A49 rfl (List.length_map _)) B5) (A3 X7 A8)
def A1j (a0:PaShow) (a1:(List PaUse)) (s1:(Int × Int)):Option ((Int × Int) ⊕ Int) :=
 if (decide (s1.2 < (List.length a1:Int))) = true then
  (idx a1 s1.2).bind fun x4 =>
  (A11 a0 s1.2 x4).bind fun x5 =>
  some (.inl ((w64 (s1.1 + x5.1)),(w64 (s1.2 + 1))))
 else
  some (.inr s1.1)
def A5d (a0:PaShow) (a1:(List PaUse)):Option Int :=
 (loop (A1j a0 a1) (0,0)).bind fun (o6:Int) =>
 some o6
theorem B89 {c:Sc} {H:A1} {a0:PaShow} {a1:(List PaUse)} {r:Int} (h:A5d a0 a1 = some r) :
  E1 tab c H (.fn (.func 37) [] []) [(.agg (B1 a0)),(.seq 3 (List.map A7 a1))] [.i r]:= by
 unfold A5d at h
 refine cE rfl rfl<|sg 0 rfl<|A0 (E5 (cs:=B1 a0) rfl rfl rfl) rfl<|qm rfl<|es (ra2 rfl rfl)<|s0<|qm rfl<|es (ra3 rfl rfl rfl)<|C2<|s0<|qm rfl<|es (ra4 rfl rfl rfl rfl)<|C6<|oB h fun o6 ho6 h=>wl (fun s1=>[(1,(.seq 3 (List.map A7 a1))),(2,(.ptr (H.length + 0) 0)),(5,.i s1.1),(6,.i s1.2)]) (fun (q2:Unit) s1=>[(.cells (B1 a0))]) 1 (fun r e s' H'=>PX 0 [(5,.i r)] (H++[(.cells (B1 a0))]) e s' H') () ho6 rfl rfl (fun _ _=>rfl) (fun _=>rfl) rfl (fun s1=>(bdc K0 (bdc (K8 rfl) (bdc A4 (bdc A4 bdn))))) (fun q2 s1 ys1 hs1=>?_) ?_
 ·unfold A1j at hs1
  refine C2<|s0<|qm rfl<|qm rfl<|A0 (F6 (f:=A7) rfl) rfl<|A0 (I0 rfl rfl) rfl<|es (ra5 rfl rfl rfl rfl rfl)<|wi hs1 rfl (fun hc3 hs1=>?_) fun hc3 hs1=>?_
  ·refine C3<|C2<|C6<|s0<|oB hs1 fun x4 hx4 hs1=>oB hs1 fun x5 hx5 hs1=>A0 (D2 rfl rfl rfl) rfl<|qm rfl<|qm rfl<|qm rfl<|A0 (E9 (f:=A7) rfl rfl hx4) rfl<|A0 (F5 rfl rfl) rfl<|B8 (rs:=[.i x5.1,.i x5.2]) rfl rfl (A2 (D0 rfl) (A2 rfl (A2 (D0 rfl) B7))) ((A6e hx5).frz)<|qm rfl<|A0 (A9 rfl rfl) rfl<|A0 (A9 rfl rfl) rfl<|qm rfl<|qm rfl<|es (ra5 rfl rfl rfl rfl rfl)<|r0<|qm rfl<|qm rfl<|A0 (F2 rfl rfl) rfl<|qm rfl<|en (ra4 rfl rfl rfl rfl)<|r0<|qm rfl<|A0 (F2 rfl rfl) rfl<|qm rfl<|en (ra4 rfl rfl rfl rfl) ?_
   cases hs1
   exact lnT () rfl (su4 rfl rfl rfl rfl)
  ·refine G6 ?_
   obtain rfl:=os hs1
   exact lx rfl px (su1 rfl)
 ·rintro e s' H' - ⟨rfl,rfl,rfl⟩
  refine s0<|qm rfl<|qm rfl<|es (ra1 rfl)<|C5 ?_
  obtain rfl:=os h
  exact retq trivial (A6 rfl B6) (A5 rfl B5) (A3 A4 A8)
def T8 (a0:PaShow) (s9:(Int × Int)):Option ((Int × Int) ⊕ Int) :=
 if (decide (s9.2 < (List.length a0.Incomes:Int))) = true then
  (idx a0.Incomes s9.2).bind fun x12 =>
  some (.inl ((w64 (s9.1 + x12.Pence)),(w64 (s9.2 + 1))))
 else
  some (.inr s9.1)
def A2m (a0:PaShow) (a1:(List Int)) (a2:Int):Option Bool :=
 (A3u a0).bind fun x1 =>
 if (!x1) = true then
  (W8 a0 ([]:List PaUse) 0).bind fun x3 =>
  (if (x3.2 != 0) = true then
  (A0c).bind fun x5 =>
  some x5
  else
  some false).bind fun x6 =>
  some x6
 else
  (A6s a0 a1).bind fun x7 =>
  (W8 a0 x7 364).bind fun x8 =>
  (loop (T8 a0) (a0.Purse,0)).bind fun (o13:Int) =>
  (W8 a0 x7 (Int.tmod (w64 a2) 365)).bind fun x14 =>
  (A1y a0 x7).bind fun x15 =>
  (if ((x8.2 != 0) || (x14.2 != 0)) = true then
  some true
  else
  (A5d a0 x7).bind fun x18 =>
  some (x8.1 != (w64 (o13 - x18)))).bind fun x19 =>
  if ((x19 || (decide (x14.1 < (w64 ((w64 (x8.1 - o13)) + a0.Purse))))) || (decide (x14.1 > o13))) = true then
  some false
  else
  if (x15.2 != 0) = true then
   (if ((x15.2 == 4) && (decide (x14.1 ≥ 0))) = true then
   (A0c).bind fun x26 =>
   some x26
   else
   some false).bind fun x27 =>
   some x27
  else
   if (((decide (x15.1 < 0)) || (decide (x15.1 > 364))) || ((decide ((Int.tmod (w64 a2) 365) < x15.1)) && (decide (x14.1 < 0)))) = true then
   some false
   else
   (W8 a0 x7 x15.1).bind fun x32 =>
   (if ((x32.2 == 0) && (decide (x32.1 < 0))) = true then
    (A0c).bind fun x35 =>
    some x35
   else
    some false).bind fun x36 =>
   some x36
theorem B2f {c:Sc} {H:A1} (hscv:R4 c H = true) {a0:PaShow} {a1:(List Int)} {a2:Int} {r:Bool} (h:A2m a0 a1 a2 = some r) :
  E1 tab c H (.fn (.func 9) [] []) [(.agg (B1 a0)),(.seq 1 (List.map A5r a1)),(.lit (.int .u16 a2))] [.b r]:= by
 unfold A2m at h
 refine cE rfl rfl<|sg 0 rfl<|A0 (E5 (cs:=B1 a0) rfl rfl rfl) rfl<|qm rfl<|es (ra3 rfl rfl rfl)<|C2<|s0<|oB h fun x1 hx1 h=>A0 (D2 rfl rfl rfl) rfl<|B8 (rs:=[.b x1]) rfl rfl (A2 (D0 rfl) B7) ((B7m hx1).frz)<|A0 (Q8 rfl) rfl<|es (ra4 rfl rfl rfl rfl)<|wi h rfl (fun hc2 h=>?_) fun hc2 h=>?_
 ·refine s0<|oB h fun x3 hx3 h=>A0 (D2 rfl rfl rfl) rfl<|B8 (rs:=[.i x3.1,.i x3.2]) rfl rfl (A2 (D0 rfl) (A2 rfl (A2 rfl B7))) ((A1b hx3).frz)<|qm rfl<|A0 (A9 rfl rfl) rfl<|A0 (A9 rfl rfl) rfl<|qm rfl<|qm rfl<|es (ra1 rfl)<|s0<|oB h fun x6 hx6 h=>qm rfl<|A0 (J5 rfl rfl) rfl<|qm rfl<|gp 2 33 (.b x6) 31 rfl rfl (fun hg4=>?_) (fun hg4=>?_) ?_
  ·refine oB (bt hx6 hg4) fun x5 hx5 hx6=>?_
   obtain rfl:=os hx6
   exact gT rfl hg4<|B8 (rs:=[.b x5]) rfl rfl B7 ((A2o (B4d hscv) hx5).frz)<|A0 (C8 rfl hg4 rfl) rfl<|ge 2 rfl rfl rfl
  ·obtain rfl:=os (bf hx6 hg4)
   exact H6 (E0 rfl (by rw [hg4]; rfl)) rfl<|A0 (C7 rfl hg4 rfl) rfl<|ge 2 rfl rfl rfl
  refine qm rfl<|es (ra1 rfl)<|C5 ?_
  obtain rfl:=os h
  exact retq trivial (A6 rfl B6) (A5 rfl B5) (A3 A4 A8)
 ·refine C3<|s0<|oB h fun x7 hx7 h=>A0 (D2 rfl rfl rfl) rfl<|qm rfl<|B8 (rs:=[(.seq 3 (List.map A7 x7))]) rfl rfl (A2 (D0 rfl) (A2 rfl B7)) ((C15 hx7).frz)<|qm rfl<|es (ra3 rfl rfl rfl)<|s0<|oB h fun x8 hx8 h=>A0 (D2 rfl rfl rfl) rfl<|qm rfl<|B8 (rs:=[.i x8.1,.i x8.2]) rfl rfl (A2 (D0 rfl) (A2 rfl (A2 rfl B7))) ((A1b hx8).frz)<|qm rfl<|A0 (A9 rfl rfl) rfl<|A0 (A9 rfl rfl) rfl<|qm rfl<|qm rfl<|es (ra5 rfl rfl rfl rfl rfl)<|s0<|A0 (B9 rfl) rfl<|A0 (B2 rfl rfl rfl) rfl<|qm rfl<|es (ra6 rfl rfl rfl rfl rfl rfl)<|C2<|s0<|qm rfl<|es (ra7 rfl rfl rfl rfl rfl rfl rfl)<|C6<|oB h fun o13 ho13 h=>wl (fun s9=>[(2,(.lit (.int .u16 a2))),(3,(.ptr (H.length + 0) 0)),(9,(.seq 3 (List.map A7 x7))),(10,.i x8.1),(11,.i x8.2),(12,.i s9.1),(13,.i s9.2)]) (fun (q10:Unit) s9=>[(.cells (B1 a0))]) 1 (fun r e s' H'=>PX 0 [(2,(.lit (.int .u16 a2))),(3,(.ptr (H.length + 0) 0)),(9,(.seq 3 (List.map A7 x7))),(10,.i x8.1),(11,.i x8.2),(12,.i r)] (H++[(.cells (B1 a0))]) e s' H') () ho13 rfl rfl (fun _ _=>rfl) (fun _=>rfl) rfl (fun s9=>(bdc A4 (bdc (K8 rfl) (bdc K0 (bdc A4 (bdc A4 (bdc A4 (bdc A4 bdn)))))))) (fun q10 s9 ys9 hs9=>?_) ?_
  ·unfold T8 at hs9
   refine C2<|s0<|qm rfl<|A0 (B9 rfl) rfl<|A0 (B2 rfl rfl rfl) rfl<|A0 (F6 (f:=D1) rfl) rfl<|A0 (I0 rfl rfl) rfl<|es (ra8 rfl rfl rfl rfl rfl rfl rfl rfl)<|wi hs9 rfl (fun hc11 hs9=>?_) fun hc11 hs9=>?_
   ·refine C3<|C2<|C6<|r0<|oB hs9 fun x12 hx12 hs9=>qm rfl<|A0 (B9 rfl) rfl<|A0 (B2 rfl rfl rfl) rfl<|qm rfl<|A0 (E9 (f:=D1) rfl rfl hx12) rfl<|A0 (A04 (ds:=(List.drop 1 (D1 x12))) rfl rfl) rfl<|A0 (L2 rfl rfl) rfl<|A0 (F2 rfl rfl) rfl<|qm rfl<|en (ra7 rfl rfl rfl rfl rfl rfl rfl)<|r0<|qm rfl<|A0 (F2 rfl rfl) rfl<|qm rfl<|en (ra7 rfl rfl rfl rfl rfl rfl rfl) ?_
    cases hs9
    exact lnT () rfl (su7 rfl rfl rfl rfl rfl rfl rfl)
   ·refine G6 ?_
    obtain rfl:=os hs9
    exact lx rfl px (su6 rfl rfl rfl rfl rfl rfl)
  ·rintro e s' H' - ⟨rfl,rfl,rfl⟩
   refine s0<|qm rfl<|A0 (A7q rfl) rfl<|A0 (O8 (v:=(.i (Int.tmod (w64 a2) 365))) rfl rfl rfl) rfl<|qm rfl<|es (ra6 rfl rfl rfl rfl rfl rfl)<|s0<|oB h fun x14 hx14 h=>A0 (D2 rfl rfl rfl) rfl<|qm rfl<|qm rfl<|B8 (rs:=[.i x14.1,.i x14.2]) rfl rfl (A2 (D0 rfl) (A2 rfl (A2 rfl B7))) ((A1b hx14).frz)<|qm rfl<|A0 (A9 rfl rfl) rfl<|A0 (A9 rfl rfl) rfl<|qm rfl<|qm rfl<|es (ra8 rfl rfl rfl rfl rfl rfl rfl rfl)<|s0<|oB h fun x15 hx15 h=>A0 (D2 rfl rfl rfl) rfl<|qm rfl<|B8 (rs:=[.i x15.1,.i x15.2]) rfl rfl (A2 (D0 rfl) (A2 rfl B7)) ((A6b hx15).frz)<|qm rfl<|A0 (A9 rfl rfl) rfl<|A0 (A9 rfl rfl) rfl<|qm rfl<|qm rfl<|es (ra10 rfl rfl rfl rfl rfl rfl rfl rfl rfl rfl)<|C2<|s0<|oB h fun x19 hx19 h=>qm rfl<|A0 (J5 rfl rfl) rfl<|qm rfl<|gp 3 81 (.b ((x8.2 != 0) || (x14.2 != 0))) 78 rfl rfl (fun hg16=>?_) (fun hg16=>?_) ?_
   ·exact nF rfl hg16 rfl<|nF rfl hg16 rfl<|A0 (C8 rfl hg16 rfl) rfl<|ge 3 (by rw [hg16]; rfl) rfl rfl
   ·exact gF rfl hg16<|qm rfl<|gF rfl hg16<|A0 (J5 rfl rfl) rfl<|A0 (C7 rfl hg16 rfl) rfl<|ge 3 (by rw [hg16]; rfl) rfl rfl
   refine qm rfl<|gp 8 90 (.b x19) 82 rfl rfl (fun hg17=>?_) (fun hg17=>?_) ?_
   ·obtain rfl:=os (bt hx19 hg17)
    exact nF rfl hg17 rfl<|nF rfl hg17 rfl<|nF rfl hg17 rfl<|nF rfl hg17 rfl<|H6 (E0 rfl (by rw [hg17]; rfl)) rfl<|nF rfl hg17 rfl<|nF rfl hg17 rfl<|A0 (C8 rfl hg17 rfl) rfl<|ge 8 rfl rfl rfl
   ·refine oB (bf hx19 hg17) fun x18 hx18 hx19=>?_
    obtain rfl:=os hx19
    exact gF rfl hg17<|qm rfl<|gF rfl hg17<|qm rfl<|gF rfl hg17<|A0 (D2 rfl rfl rfl) rfl<|gF rfl hg17<|qm rfl<|gF rfl hg17<|B8 (rs:=[.i x18]) rfl rfl (A2 (D0 rfl) (A2 rfl B7)) ((B89 hx18).frz)<|gF rfl hg17<|A0 (T5 rfl rfl) rfl<|gF rfl hg17<|A0 (J5 rfl rfl) rfl<|A0 (C7 rfl hg17 rfl) rfl<|ge 8 rfl rfl rfl
   refine qm rfl<|gp 9 100 (.b (x19 || (decide (x14.1 < (w64 ((w64 (x8.1 - o13)) + a0.Purse)))))) 91 rfl rfl (fun hg20=>?_) (fun hg20=>?_) ?_
   ·exact nF rfl hg20 rfl<|nF rfl hg20 rfl<|nF rfl hg20 rfl<|nF rfl hg20 rfl<|nF rfl hg20 rfl<|nF rfl hg20 rfl<|nF rfl hg20 rfl<|nF rfl hg20 rfl<|A0 (C8 rfl hg20 rfl) rfl<|ge 9 (by rw [hg20]; rfl) rfl rfl
   ·exact gF rfl hg20<|qm rfl<|gF rfl hg20<|qm rfl<|gF rfl hg20<|qm rfl<|gF rfl hg20<|A0 (T5 rfl rfl) rfl<|gF rfl hg20<|A0 (B9 rfl) rfl<|gF rfl hg20<|A0 (B2 rfl rfl rfl) rfl<|gF rfl hg20<|A0 (F2 rfl rfl) rfl<|gF rfl hg20<|A0 (I0 rfl rfl) rfl<|A0 (C7 rfl hg20 rfl) rfl<|ge 9 (by rw [hg20]; rfl) rfl rfl
   refine qm rfl<|gp 4 105 (.b ((x19 || (decide (x14.1 < (w64 ((w64 (x8.1 - o13)) + a0.Purse))))) || (decide (x14.1 > o13)))) 101 rfl rfl (fun hg21=>?_) (fun hg21=>?_) ?_
   ·exact nF rfl hg21 rfl<|nF rfl hg21 rfl<|nF rfl hg21 rfl<|A0 (C8 rfl hg21 rfl) rfl<|ge 4 (by rw [hg21]; rfl) rfl rfl
   ·exact gF rfl hg21<|qm rfl<|gF rfl hg21<|qm rfl<|gF rfl hg21<|A0 (Y8 rfl rfl) rfl<|A0 (C7 rfl hg21 rfl) rfl<|ge 4 (by rw [hg21]; rfl) rfl rfl
   refine es (ra7 rfl rfl rfl rfl rfl rfl rfl)<|wi h rfl (fun hc22 h=>?_) fun hc22 h=>?_
   ·refine s0<|qm rfl<|es (ra1 rfl)<|C5 ?_
    obtain rfl:=os h
    exact retq trivial (A6 rfl B6) (A5 rfl B5) (A3 A4 A8)
   ·refine C3<|C2<|s0<|qm rfl<|A0 (J5 rfl rfl) rfl<|es (ra7 rfl rfl rfl rfl rfl rfl rfl)<|wi h rfl (fun hc23 h=>?_) fun hc23 h=>?_
    ·refine s0<|oB h fun x27 hx27 h=>qm rfl<|A0 (G0 rfl rfl) rfl<|qm rfl<|gp 3 113 (.b ((x15.2 == 4) && (decide (x14.1 ≥ 0)))) 110 rfl rfl (fun hg24=>?_) (fun hg24=>?_) ?_
     ·exact gT rfl hg24<|qm rfl<|gT rfl hg24<|A0 (A71 rfl rfl) rfl<|A0 (C8 rfl hg24 rfl) rfl<|ge 3 (by rw [hg24]; rfl) rfl rfl
     ·exact nT rfl hg24 rfl<|nT rfl hg24 rfl<|A0 (C7 rfl hg24 rfl) rfl<|ge 3 (by rw [hg24]; rfl) rfl rfl
     refine qm rfl<|gp 2 116 (.b x27) 114 rfl rfl (fun hg25=>?_) (fun hg25=>?_) ?_
     ·refine oB (bt hx27 hg25) fun x26 hx26 hx27=>?_
      obtain rfl:=os hx27
      exact gT rfl hg25<|B8 (rs:=[.b x26]) rfl rfl B7 ((A2o (B4d hscv) hx26).frz)<|A0 (C8 rfl hg25 rfl) rfl<|ge 2 rfl rfl rfl
     ·obtain rfl:=os (bf hx27 hg25)
      exact H6 (E0 rfl (by rw [hg25]; rfl)) rfl<|A0 (C7 rfl hg25 rfl) rfl<|ge 2 rfl rfl rfl
     refine qm rfl<|es (ra1 rfl)<|C5 ?_
     obtain rfl:=os h
     exact retq trivial (A6 rfl B6) (A5 rfl B5) (A3 A4 A8)
    ·refine C3<|C2<|s0<|qm rfl<|A0 (I0 rfl rfl) rfl<|qm rfl<|gp 3 122 (.b ((decide (x15.1 < 0)) || (decide (x15.1 > 364)))) 119 rfl rfl (fun hg28=>?_) (fun hg28=>?_) ?_
     ·exact nF rfl hg28 rfl<|nF rfl hg28 rfl<|A0 (C8 rfl hg28 rfl) rfl<|ge 3 (by rw [hg28]; rfl) rfl rfl
     ·exact gF rfl hg28<|qm rfl<|gF rfl hg28<|A0 (Y8 rfl rfl) rfl<|A0 (C7 rfl hg28 rfl) rfl<|ge 3 (by rw [hg28]; rfl) rfl rfl
     refine qm rfl<|gp 8 131 (.b (((decide (x15.1 < 0)) || (decide (x15.1 > 364))) || ((decide ((Int.tmod (w64 a2) 365) < x15.1)) && (decide (x14.1 < 0))))) 123 rfl rfl (fun hg29=>?_) (fun hg29=>?_) ?_
     ·exact nF rfl hg29 rfl<|nF rfl hg29 rfl<|nF rfl hg29 rfl<|nF rfl hg29 rfl<|nX rfl rfl<|nX rfl rfl<|nF rfl hg29 rfl<|A0 (C8 rfl hg29 rfl) rfl<|ge 8 (by rw [hg29]; rfl) rfl rfl
     ·refine gF rfl hg29<|qm rfl<|gF rfl hg29<|qm rfl<|gF rfl hg29<|A0 (I0 rfl rfl) rfl<|gF rfl hg29<|qm rfl<|gq 3 130 (.b ((decide ((Int.tmod (w64 a2) 365) < x15.1)) && (decide (x14.1 < 0)))) 127 rfl rfl (fun hg30=>?_) (fun hg30=>?_) ?_
      ·exact gT rfl hg30<|qm rfl<|gT rfl hg30<|A0 (I0 rfl rfl) rfl<|gF rfl hg29<|A0 (C8 rfl hg30 rfl) rfl<|ge 3 (by rw [hg30]; rfl) rfl rfl
      ·exact nT rfl hg30 rfl<|nT rfl hg30 rfl<|gF rfl hg29<|A0 (C7 rfl hg30 rfl) rfl<|ge 3 (by rw [hg30]; rfl) rfl rfl
      exact A0 (C7 rfl hg29 rfl) rfl<|ge 6 (by rw [hg29]; rfl) rfl rfl
     refine es (ra4 rfl rfl rfl rfl)<|wi h rfl (fun hc31 h=>?_) fun hc31 h=>?_
     ·refine s0<|qm rfl<|es (ra1 rfl)<|C5 ?_
      obtain rfl:=os h
      exact retq trivial (A6 rfl B6) (A5 rfl B5) (A3 A4 A8)
     ·refine C3<|s0<|oB h fun x32 hx32 h=>A0 (D2 rfl rfl rfl) rfl<|qm rfl<|qm rfl<|B8 (rs:=[.i x32.1,.i x32.2]) rfl rfl (A2 (D0 rfl) (A2 rfl (A2 rfl B7))) ((A1b hx32).frz)<|qm rfl<|A0 (A9 rfl rfl) rfl<|A0 (A9 rfl rfl) rfl<|qm rfl<|qm rfl<|es (ra2 rfl rfl)<|s0<|oB h fun x36 hx36 h=>qm rfl<|A0 (G0 rfl rfl) rfl<|qm rfl<|gp 3 144 (.b ((x32.2 == 0) && (decide (x32.1 < 0)))) 141 rfl rfl (fun hg33=>?_) (fun hg33=>?_) ?_
      ·exact gT rfl hg33<|qm rfl<|gT rfl hg33<|A0 (I0 rfl rfl) rfl<|A0 (C8 rfl hg33 rfl) rfl<|ge 3 (by rw [hg33]; rfl) rfl rfl
      ·exact nT rfl hg33 rfl<|nT rfl hg33 rfl<|A0 (C7 rfl hg33 rfl) rfl<|ge 3 (by rw [hg33]; rfl) rfl rfl
      refine qm rfl<|gp 2 147 (.b x36) 145 rfl rfl (fun hg34=>?_) (fun hg34=>?_) ?_
      ·refine oB (bt hx36 hg34) fun x35 hx35 hx36=>?_
       obtain rfl:=os hx36
       exact gT rfl hg34<|B8 (rs:=[.b x35]) rfl rfl B7 ((A2o (B4d hscv) hx35).frz)<|A0 (C8 rfl hg34 rfl) rfl<|ge 2 rfl rfl rfl
      ·obtain rfl:=os (bf hx36 hg34)
       exact H6 (E0 rfl (by rw [hg34]; rfl)) rfl<|A0 (C7 rfl hg34 rfl) rfl<|ge 2 rfl rfl rfl
      refine qm rfl<|es (ra1 rfl)<|C5 ?_
      obtain rfl:=os h
      exact retq trivial (A6 rfl B6) (A5 rfl B5) (A3 A4 A8)
end Pw
end
section
namespace Pw
open Go Am
theorem B4j {x:List Int} (hx:x.length < 9223372036854775808) {n:Int} (hn:0≤n):∃t,A1w x n = some t:= by
 unfold A1w
 by_cases h:x.length = 0
 ·exact ⟨0,by rw [if_pos (by simp [h])]⟩
 ·rw [if_neg (by simpa using h)]
  have hr:B79 n (x.length:Int) = some (n % (x.length:Int)):= by
   unfold B79
   rw [if_neg (by omega),Int.tmod_eq_emod_of_nonneg hn]
  have h1:=Int.emod_nonneg n (b:=(x.length:Int)) (by omega)
  have h2:=Int.emod_lt_of_pos n (b:=(x.length:Int)) (by omega)
  rw [hr]
  simp only [Option.bind_some]
  rw [W3 h1 h2]
  exact ⟨_,rfl⟩
theorem C4r {a b:Int} (h:b ≠ 0):∃t,B79 a b = some t:=⟨_,by unfold B79; rw [if_neg h]⟩
theorem C3h (q:PaUse→Bool):∀(l:List PaUse) (t:Bool),l.foldl (fun a x=>a || q x) t = (t || l.any q)
 | [],t=>by simp
 | x :: l,t=>by rw [List.foldl_cons,C3h q l,List.any_cons,Bool.or_assoc]
theorem D3e {out:List PaUse} (hl:out.length≤100) (y:PaUse):loop (A0r ((out.length:Int),out) y) (false,0) = some (out.any fun x=>x.Gown == y.Gown):= by
 refine A0t out (fun a x=>a || x.Gown == y.Gown) false (fun i t=>(t,(i:Int))) (by omega) (fun i hi=>?_) ?_
 ·generalize (out.take i).foldl (fun a x=>a || x.Gown == y.Gown) false = t
  unfold A0r
  simp only []
  rw [if_pos (by simpa using hi),K1 hi,G1 (n:=(i:Int) + 1) (by omega)]
  cases t <;> rfl
 ·unfold A0r
  simp only []
  rw [if_neg (by simp),C3h]; rfl
theorem C7g {l:List PaUse} {y:PaUse} {k:Nat} (h:k < l.length):(l++[y])[k]! = l[k]!:= by
 rw [getElem!_pos _ k (by simp; omega),getElem!_pos l k h,List.getElem_append_left h]
theorem C3m (l:List PaUse) (y:PaUse):(l++[y])[l.length]! = y:= by
 rw [getElem!_pos _ _ (by simp)]; simp
theorem D63 {l:List PaUse} {y:PaUse} {k:Nat} (h:k < l.length):twP (l++[y]) k = twP l k:= by
 unfold twP
 rw [C7g h,List.take_append_of_le_length (by omega)]
def C5f (s:PaShow) (i:Nat) (l:List PaUse):Prop:=l.length = i∧∀ k,k < i→A2f s.Gowns s.Figures[k]! l[k]! = 0∧twP l k = false
theorem C5f.snoc {s:PaShow} {i:Nat} {l:List PaUse} (h:C5f s i l) {y:PaUse} (hu:A2f s.Gowns s.Figures[i]! y = 0) (ht:(y.Gown != -1 && l.any fun x=>x.Gown == y.Gown) = false):C5f s (i + 1) (l++[y]):= by
 obtain ⟨rfl,h2⟩:=h
 refine ⟨by simp,fun k hk=>?_⟩
 by_cases e:k = l.length
 ·subst e
  rw [C3m]
  refine ⟨hu,?_⟩
  unfold twP
  rw [C3m,List.take_left]; exact ht
 ·have hk':k < l.length:= by omega
  rw [C7g hk',D63 hk']
  exact h2 k hk'
theorem D5n {s:PaShow} (hs:ShOk s) {x:List Int} (hx:x.length < 9223372036854775808):∃p,A6s s x = some p∧PlOk s p:= by
 have hle:=hs.gowns
 have hle2:=hs.figures
 unfold A6s
 obtain ⟨p,h1,h2⟩:=D1j (b:=A2l s x) (fun i t=>t.1 = (i:Int)∧C5f s i t.2) s.Figures.length (fun p=>C5f s s.Figures.length p) (by omega) (fun i t hi hI=>by
  obtain ⟨j,out⟩:=t
  obtain ⟨rfl,hp⟩:=hI
  have hlen:out.length = i:=hp.1
  have hy:=hs.figure _ (M3 hi)
  obtain ⟨t0,e0⟩:=B4j hx (n:=3 * (i:Int)) (by omega)
  obtain ⟨t1,e1⟩:=B4j hx (n:=3 * (i:Int) + 1) (by omega)
  obtain ⟨t2,e2⟩:=B4j hx (n:=3 * (i:Int) + 2) (by omega)
  have hdp:=hy.day
  have hdu:=hy.til
  obtain ⟨r0,f0⟩:=C4r (a:=t0) (b:=(s.Gowns.length:Int) + 1) (by omega)
  obtain ⟨r2,f2⟩:=C4r (a:=t2) (b:=s.Figures[i]!.Day + 1) (by omega)
  have key:∀y:PaUse,∃ s',((loop (A0r ((i:Int),out) y) (false,0)).bind fun (o19:Bool) =>
    (if ((y.Gown == (-1)) || o19) = true then some true else (A2c s (i:Int) y).bind fun x22=>some (x22 != 0)).bind fun x23 =>
    if x23 = true then
     (Q2 (-1) 0 0).bind fun x25=>(app 24 out [x25]).bind fun x26=>some (Sum.inl (w64 ((i:Int) + 1),x26):(Int × List PaUse) ⊕ List PaUse)
    else (app 24 out [y]).bind fun x27=>some (.inl (w64 ((i:Int) + 1),x27))) = some (.inl s')∧s'.1 = ((i + 1:Nat):Int)∧C5f s (i + 1) s'.2:=fun y=>by
   have hm:=D3e (out:=out) (by omega) y
   rw [hlen] at hm
   have hw:w64 ((i:Int) + 1) = ((i + 1:Nat):Int):= by rw [G1 (by omega)]; omega
   rw [hm,B0t (by omega) (by simp; omega),hw]
   simp only [Option.bind_some]
   rw [B1e hs (f:=(i:Int)) (by omega),Int.toNat_natCast]
   have hbare:∃s':Int × List PaUse,(some (Sum.inl (((i + 1:Nat):Int),out++[bare0])):Option ((Int × List PaUse) ⊕ List PaUse)) = some (.inl s')∧s'.1 = ((i + 1:Nat):Int)∧C5f s (i + 1) s'.2 :=
    ⟨_,rfl,rfl,hp.snoc (B24.mpr (.inl rfl)) rfl⟩
   have hbe:((Q2 (-1) 0 0).bind fun x25=>(app 24 out [x25]).bind fun x26=>some (Sum.inl (((i + 1:Nat):Int),x26):(Int × List PaUse) ⊕ List PaUse)) = some (.inl (((i + 1:Nat):Int),out++[bare0])):= by
    unfold Q2
    simp only [Option.bind_some]
    rw [B0t (by omega) (by simp; omega)]; rfl
   rw [hbe]
   cases hc:((y.Gown == (-1)) || out.any fun x=>x.Gown == y.Gown)
   ·simp only [Bool.false_eq_true,if_false,Option.bind_some]
    by_cases hu:A2f s.Gowns s.Figures[i]! y = 0
    ·rw [if_neg (by rw [hu]; decide)]
     rw [Bool.or_eq_false_iff] at hc
     exact ⟨_,rfl,rfl,hp.snoc hu (by rw [hc.2,Bool.and_false])⟩
    ·rw [if_pos (bne_iff_ne.mpr hu)]
     exact hbare
   ·simp only [if_true,Option.bind_some]
    exact hbare
  unfold A2l
  simp only []
  rw [if_pos (by simpa using hi),G1 (n:=3 * (i:Int)) (by omega),G1 (n:=3 * (i:Int) + 1) (by omega),G1 (n:=3 * (i:Int) + 2) (by omega),e0,e1,e2,G1 (n:=(s.Gowns.length:Int) + 1) (by omega),K1 hi]
  simp only [Option.bind_some]
  rw [f0,G1 (n:=s.Figures[i]!.Day + 1) (by omega),f2]
  simp only [Option.bind_some,Q2]
  by_cases hh:Int.tmod t1 3 = 1
  ·rw [if_pos (by simpa using hh)]
   exact key _
  ·rw [if_neg (by simpa using hh)]
   exact key _) (fun t hI=>by
  obtain ⟨j,out⟩:=t
  obtain ⟨rfl,hp⟩:=hI
  refine ⟨out,?_,hp⟩
  unfold A2l
  rw [if_neg (by simp)]) (0,[]) ⟨rfl,rfl,fun k hk=>by omega⟩
 rw [h1]
 exact ⟨p,rfl,⟨⟨h2.1,fun i hi=>(h2.2 i (by rw [← h2.1]; exact hi)).1⟩,fun i hi=>(h2.2 i (by rw [← h2.1]; exact hi)).2⟩⟩
def B6l (s:PaShow) (p:List PaUse):Int:=sm ((pays s p).map Prod.fst)
theorem C66 {s:PaShow} (hs:ShOk s) {p:List PaUse} (h:PlU s p) (i:Nat):0≤sm (((pays s p).take i).map Prod.fst)∧sm (((pays s p).take i).map Prod.fst)≤300000:= by
 have:=C8d (a:=0) (b:=100000) (l:=((pays s p).take i).map Prod.fst) (fun z hz=>by
  obtain ⟨x,hx,rfl⟩:=List.mem_map.mp hz
  exact (X1 hs h x (List.mem_of_mem_take hx)).1)
 rw [List.length_map,List.length_take,L3 h] at this
 have:=hs.figures
 have:=h.len
 omega
theorem C4n {s:PaShow} (hs:ShOk s) {p:List PaUse} (h:PlU s p):A5d s p = some (B6l s p):= by
 have hfl:=hs.figures
 have hlen:=h.len
 unfold A5d
 have e1:loop (A1j s p) (0,0) = some (B6l s p):= by
  refine A0t (pays s p) (fun a (x:Int × Int)=>a + x.1) 0 (fun i t=>(t,(i:Int))) (by rw [L3 h]; omega) (fun i hi=>?_) ?_
  ·rw [L3 h] at hi
   have hx:=(X1 hs h _ (M3 (l:=pays s p) (i:=i) (by rw [L3 h]; exact hi))).1
   rw [A3s,A60 h hi] at *
   have:=C66 hs h i
   unfold A1j
   simp only []
   rw [if_pos (by simpa using hi),K1 hi]
   simp only [Option.bind_some]
   rw [A88 hs (f:=(i:Int)) (by omega) (by rw [Int.toNat_natCast]; exact h.use i hi),Int.toNat_natCast]
   simp only [Option.bind_some]
   rw [G1 (n:=(i:Int) + 1) (by omega),G1 (by omega)]; rfl
  ·unfold A1j
   simp only []
   rw [L3 h,if_neg (by simp),A3s,Int.zero_add]; rfl
 rw [e1]; rfl
def B0s (s:PaShow):Int:=s.Purse + sm ((incs s).map Prod.fst)
theorem C45 {l:List (Int × Int)} {d:Int} (h:∀x ∈ l,x.2≤d):V1 l d = sm (l.map Prod.fst):= by
 unfold V1
 rw [List.map_congr_left fun x hx=>if_pos (h x hx)]
theorem D42 {l:List (Int × Int)} (h:∀x ∈ l,0≤x.1) {d e:Int} (hde:d≤e):V1 l d≤V1 l e:= by
 unfold V1
 refine D2w fun x hx=>?_
 have:=h x hx
 split <;> split <;> omega
theorem B5f {l:List (Int × Int)} (h:∀x ∈ l,0≤x.1) (d:Int):V1 l d≤sm (l.map Prod.fst):= by
 unfold V1
 refine D2w fun x hx=>?_
 have:=h x hx
 split <;> omega
theorem D1e {l:List (Int × Int)} {d:Int}:(∃ x ∈ l,x.2≤d)→∃ x ∈ l,x.2≤d∧∀ y ∈ l,y.2≤d→y.2≤x.2:= by
 induction l with
 | nil=>rintro ⟨x,hx,_⟩; cases hx
 | cons a l ih =>
  intro hx
  by_cases hl:∃x ∈ l,x.2≤d
  ·obtain ⟨x,hx,hd,hm⟩:=ih hl
   by_cases ha:a.2≤d∧x.2 < a.2
   ·refine ⟨a,List.mem_cons_self ..,ha.1,fun y hy hyd=>?_⟩
    rcases List.mem_cons.mp hy with rfl | hy
    ·exact Int.le_refl _
    ·have:=hm y hy hyd; omega
   ·refine ⟨x,List.mem_cons_of_mem _ hx,hd,fun y hy hyd=>?_⟩
    rcases List.mem_cons.mp hy with rfl | hy
    ·omega
    ·exact hm y hy hyd
  ·obtain ⟨x,hx,hd⟩:=hx
   rcases List.mem_cons.mp hx with rfl | hx
   ·refine ⟨x,List.mem_cons_self ..,hd,fun y hy hyd=>?_⟩
    rcases List.mem_cons.mp hy with rfl | hy
    ·exact Int.le_refl _
    ·exact absurd ⟨y,hy,hyd⟩ hl
   ·exact absurd ⟨x,hx,hd⟩ hl
theorem C70 {s:PaShow} (hs:ShOk s) {p:List PaUse} (h:PlU s p) {d:Int} (hn:H9 s p d < 0):∃x ∈ pays s p,x.2≤d∧H9 s p x.2 < 0:= by
 have hi0:∀x ∈ incs s,0≤x.1:=fun x hx=>(Z1 hs x hx).1.1
 have hpu:=hs.purse
 by_cases he:∃x ∈ pays s p,x.2≤d
 ·obtain ⟨x,hx,hd,hm⟩:=D1e he
  refine ⟨x,hx,hd,?_⟩
  have e:V1 (pays s p) d = V1 (pays s p) x.2:= by
   unfold V1
   refine congrArg sm (List.map_congr_left fun y hy=>?_)
   by_cases hy2:y.2≤d
   ·rw [if_pos hy2,if_pos (hm y hy hy2)]
   ·rw [if_neg hy2,if_neg (by omega)]
  have:=D42 hi0 hd
  unfold H9 at hn ⊢
  omega
 ·have e:V1 (pays s p) d = 0:= by
   unfold V1
   exact C8e fun x hx=>if_neg fun hc=>he ⟨x,hx,hc⟩
  have:=(A2v (fun x hx=>(Z1 hs x hx).1) d).1
  unfold H9 at hn
  omega
theorem B2n {s:PaShow} (hv:(chk s).2.2 = 0) {p:List PaUse} (h:PlOk s p):O0 s p = 0:= by
 unfold O0
 rw [if_neg (by simpa using hv),B71.mpr h]
theorem B1c {s:PaShow} (hv:(chk s).2.2 = 0) {p:List PaUse} (h:PlOk s p) {d:Int} (hd:0≤d∧d≤364):A6g s p d = 0:= by
 unfold A6g
 rw [B2n hv h,N7.mpr hd]; rfl
theorem B9f {s:PaShow} {x:List Int} {d:Int} (hb:NB s) (hx:x.length < 9223372036854775808) (hd:0≤d∧d < 65536):A2m s x d = some true:= by
 unfold A2m
 rw [D25,awake]
 simp only [Option.bind_some]
 by_cases hv:(chk s).2.2 = 0
 ·have hs:=(A1o s).mp hv
  obtain ⟨p,ha,hp⟩:=D5n hs hx
  have hd2:0≤d % 365∧d % 365≤364:= by omega
  rw [if_neg (by simp [hv]),ha]
  simp only [Option.bind_some]
  rw [G1 (n:=d) (by omega),Int.tmod_eq_emod_of_nonneg hd.1]
  generalize d % 365 = e at hd2
  rw [B1k s hb,B1k s hb,B1c hv hp ⟨by decide,by decide⟩,B1c hv hp hd2,C99 s hb]
  have hloop:loop (T8 s) (s.Purse,0) = some (B0s s):= by
   have hin:=hs.incomes
   have hpu:=hs.purse
   refine A0t (incs s) (fun a (x:Int × Int)=>a + x.1) s.Purse (fun i t=>(t,(i:Int))) (by rw [O7]; omega) (fun i hi=>?_) ?_
   ·rw [O7] at hi
    have hx:=(Z1 hs _ (M3 (l:=incs s) (i:=i) (by rw [O7]; exact hi))).1
    have:=C8d (a:=0) (b:=100000) (l:=((incs s).take i).map Prod.fst) (fun z hz=>by
     obtain ⟨x,hx,rfl⟩:=List.mem_map.mp hz
     exact (Z1 hs x (List.mem_of_mem_take hx)).1)
    rw [List.length_map,List.length_take,O7] at this
    rw [A3s,B69 hi] at *
    unfold T8
    simp only []
    rw [if_pos (by simpa using hi),K1 hi]
    simp only [Option.bind_some]
    simp only at hx
    rw [G1 (n:=(i:Int) + 1) (by omega),G1 (by omega)]; rfl
   ·unfold T8
    simp only []
    rw [O7,if_neg (by simp),A3s]; rfl
  rw [hloop,C4n hs hp.u]
  simp only [Option.bind_some,if_true]
  have hi0:∀x ∈ incs s,0≤x.1:=fun x hx=>(Z1 hs x hx).1.1
  have hp0:∀x ∈ pays s p,0≤x.1:=fun x hx=>(X1 hs hp.u x hx).1.1
  have g1:=C45 (d:=364) (l:=incs s) fun x hx=>(Z1 hs x hx).2.2
  have g2:=C45 (d:=364) (l:=pays s p) fun x hx=>(X1 hs hp.u x hx).2.2
  have g3:=B5f hi0 e
  have g4:=B5f hp0 e
  have g5:=(A2v (fun x hx=>(Z1 hs x hx).1) e).1
  have g6:=(A2v (fun x hx=>(X1 hs hp.u x hx).1) e).1
  have b1:=C1x hs hp.u 364
  have b2:=C1x hs hp.u e
  have b3:=C66 hs hp.u (pays s p).length
  rw [List.take_length] at b3
  have b4:=A2v (fun x hx=>(Z1 hs x hx).1) 364
  have b5:=hs.incomes
  have b6:=hs.purse
  rw [O7] at b4
  have hall:H9 s p 364 = B0s s - B6l s p:= by unfold H9 B0s B6l; omega
  have hallb:0≤B0s s∧B0s s≤310000:= by unfold B0s; omega
  have hnow1:H9 s p 364 - B0s s + s.Purse≤H9 s p e:= by unfold H9 B0s; omega
  have hnow2:H9 s p e≤B0s s:= by unfold H9 B0s; omega
  rw [show sm ((pays s p).map Prod.fst) = B6l s p from rfl] at b3
  rw [G1 (n:=B0s s - B6l s p) (by omega),G1 (n:=H9 s p 364 - B0s s) (by omega),G1 (by omega)]
  have h1:(H9 s p 364 != B0s s - B6l s p) = false:= by rw [hall]; simp
  have h2:decide (H9 s p e < H9 s p 364 - B0s s + s.Purse) = false:= by simp; omega
  have h3:decide (H9 s p e > B0s s) = false:= by simp; omega
  rw [h1,h2,h3]
  obtain ⟨a1,a2,a3,a4,a5,a6⟩:=B8j s p
  have hse:A9f s p = if (Q0 s p).1 = 0 then 4 else 0:= by
   unfold A9f
   rw [B2n hv hp]; rfl
  rw [hse]
  by_cases hz:(Q0 s p).1 = 0
  ·have hge:0≤H9 s p e:= by
    refine Int.not_lt.mp fun hc=>?_
    obtain ⟨y,hy,hyd,hyn⟩:=C70 hs hp.u hc
    have:=a2 y hy hyn
    omega
   simp [hz,hge]
  ·have hday:∃y ∈ pays s p,H9 s p y.2 < 0∧y.2 = (Q0 s p).2:= by
    rcases a6 with e6 | h6
    ·obtain ⟨y,hy,hyn,_⟩:=a3.resolve_left hz
     have h7:=a5 y hy hyn
     have h8:=(X1 hs hp.u y hy).2
     omega
    ·exact h6
   obtain ⟨y,hy,hyn,hye⟩:=hday
   have hyb:=(X1 hs hp.u y hy).2
   rw [hye] at hyn hyb
   have hlt:e < (Q0 s p).2→0≤H9 s p e:=fun hc=>by
    refine Int.not_lt.mp fun hc2=>?_
    obtain ⟨z,hz,hzd,hzn⟩:=C70 hs hp.u hc2
    have:=a5 z hz hzn
    omega
   simp only [hz,if_false,if_true]
   rw [if_neg (by decide),if_neg (by decide),if_neg (by simp; omega),B1k s hb,B1c hv hp hyb]
   simp [hyn]
 ·rw [if_pos (by simp [hv]),B1k s hb]
  simp only [Option.bind_some]
  have hE:A6g s [] 0 = (chk s).2.2:= by
   unfold A6g O0
   rw [if_pos hv,if_pos hv]
  rw [hE,if_pos (by simpa using hv)]
  rfl
end Pw
end
