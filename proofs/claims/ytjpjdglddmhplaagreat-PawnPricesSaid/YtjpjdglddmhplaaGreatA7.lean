/- Texts that the claim stands on, one behind another. -/
import Derived.Test.YtjpjdglddmhplaaGreatA6
set_option linter.unusedVariables false
set_option linter.unusedSimpArgs false
set_option linter.unnecessarySimpa false
section
set_option maxRecDepth 100000
set_option maxHeartbeats 0
namespace Pw
open Go Am Go.Proofs.YtjpjdglddmhplaaGreat.Cd
structure Fd where
 w:Int
 c:Int
 h:Ar3 Int
def C5e (t:PaShow) (days:List Int) (p:List PaUse) (x:Fd × Int):Option ((Fd × Int) ⊕ Fd) :=
 if (decide (x.2 < (List.length p:Int))) = true then
  (idx p x.2).bind fun u=>(R9 (shw t days) x.2 u).bind fun y=>(idx x.1.h.l x.2).bind fun _=>(A1f).bind fun bb =>
  if ((u.Gown == bb.Gown) && ((u.How == bb.How) && ((u.Day == bb.Day) && true))) = true then
   some (.inl (⟨w64 (x.1.w + 1),w64 (x.1.c + y.1),x.1.h.set x.2 (w64 (u.Gown + 1))⟩,w64 (x.2 + 1)))
  else some (.inl (⟨x.1.w,w64 (x.1.c + y.1),x.1.h.set x.2 (w64 (u.Gown + 1))⟩,w64 (x.2 + 1)))
 else some (.inr x.1)
def B9w (t:PaShow) (days:List Int) (p:List PaUse):Option pawn_found :=
 (C18 24 (List.length p:Int) (PaUse.mk 0 0 0)).bind fun _ =>
 (loop (C5e t days p) (⟨0,0,⟨0,0,0⟩⟩,0)).bind fun x =>
 (N4 (shw t days) p).bind fun y=>some ⟨p,x.w,x.c,y.1,x.h⟩
def C08 (t:PaShow) (days:List Int) (σ ρ:Type) (body:pawn_found→σ→Option (σ ⊕ ρ)) (s:σ):Option (σ ⊕ ρ) :=
 B4s t days σ ρ (fun p s=>(B9w t days p).bind fun x=>body x s) s
def shF (_:Nat) (_:A1) (x:pawn_found) (v:AV):Prop:=v = .agg (C1 x)
theorem D3j {α:Type} {d m:List α} (h:d.length = m.length):cpy d m = m:= by
 unfold cpy; rw [h,Nat.min_self,List.take_length,List.drop_of_length_le (by omega),List.append_nil]
theorem D4t {H:A1} {b:Nat} {p:Bool} {l:List PaUse} (h:harr H b = some (3,p,l.map B3)):rd H (.asl b l.length) 3 (l.map B3):=⟨by simp only [U5,h,List.length_map,Nat.beq_refl,if_true],by simp only [kOf,h]⟩
def fnC (q:AV) (x:Fd) (s:Int):List AV:=[q,.i x.w,.i x.c,.i s,.i x.h.x0,.i x.h.x1,.i x.h.x2]
section
variable {σ ρ:Type} {t:PaShow} {days:List Int} {b bS:Nat}
theorem C79 {G:A1} {c:Sc} {v:AV} {bY:Nat} {y:AV} {p:List PaUse} {x:pawn_found} {ok:Bool} {GE:A1} (hv:∃bp pb,v = .asl bp p.length∧harr G bp = some (3,pb,p.map B3)) (h1:hcells G bS = some [.ptr b 0]) (h2:hcells G b = some (A1y t days)) (hY:hcells G bY = some [y]) (hc:c.cur≤G.length)
  (hx:B9w t days p = some x) (hcall:∀(c':Sc) (l:List AO),(∀ o ∈ l,o.anc = [])→R2 c (G++l) = true→c' = c→I4 tab c' (G++l) y [.agg (C1 x)] [.b ok] (GE++l)) (hsc:R2 c G = true) :
  WP tab (.block 1 (.s 3 [M 0 12 3,LE 1 13 12,q 2 14 (.mkslice 3 24 [.lit (.int .i64 0),.lit (.int .i64 0),.lit (.int .i64 0)] 13 13 0),q 3 15 (.build [.seq 3 [],.lit (.int .i64 0),.lit (.int .i64 0),.lit (.int .i64 0),.lit (.int .i64 0),.lit (.int .i64 0),.lit (.int .i64 0)] [(0,1,14)]),q 4 4 (.alloc [.nils 3,.lit (.int .i64 0),.lit (.int .i64 0),.lit (.int .i64 0),.lit (.int .i64 0),.lit (.int .i64 0),.lit (.int .i64 0)] [(0,1,3)] 2),ST 5 7 4 15] [1,2,3,4] (.s 0 [FA 0 16 0 4,L 1 17 16,M 2 18 3,q 3 19 (.copy 3 17 18)] [1,2,3,4] (.seq (.s 0 [M 0 20 3,LE 1 21 20,M 2 22 (.i 0)] [1,2,3,4,20,21,22] (.block 2 (.loop true [1,2,3,4,20,21,22] (.s 0 [B 0 23 .lss 22 21] [1,2,3,4,20,21,22,23] (.seq (.cond 23 .skip (.exit 2)) (.seq (.block 3 (.s 1 [M 0 24 22,IX 1 25 3 20 22,LK 2 26 3 25,q 3 6 (.alloc [.lit (.int .i64 0),.lit (.int .i64 0),.lit (.int .i64 0)] [] 0),M 4 5 24,ST 5 3 6 26] [1,2,3,4,5,6,20,21,22] (.s 0 [L 0 28 1,M 1 29 5,LK 2 30 3 6,CL 3 31 103 [28,29,30],M 4 27 31,EX 5 32 27 0,EX 6 33 27 1,M 7 7 32,M 8 8 33] [1,2,3,4,5,6,7,20,21,22] (.s 0 [FA 0 34 2 4,L 1 35 34,M 2 36 7,B 3 37 .add 35 36,FA 4 38 2 4,ST 5 1 38 37] [1,2,3,4,5,6,20,21,22] (.s 0 [M 0 39 5,FA 1 40 0 6,L 2 41 40,B 3 42 .add 41 (.i 1),FA 4 43 4 4,q 5 44 (.idxA 1 3 43 39),ST 6 1 44 42] [1,2,3,4,6,20,21,22] (.sd 0 [LK 0 45 3 6,CP 1 46 99 [],q 2 47 (.cmp false [0,0,0] 45 46)]
 [1,2,3,4,20,21,22,47] (.cond 47 (.g 0 [FA 0 48 1 4,L 1 49 48,B 2 50 .add 49 (.i 1),FA 3 51 1 4,ST 4 1 51 50] [1,2,3,4,20,21,22]) .skip))))))) (.g 0 [B 0 52 .add 22 (.i 1),M 1 22 52] [1,2,3,4,20,21,22]))))))) (.s 0 [L 0 54 1,M 1 55 3,q 2 56 (.call (.f 66) [54,55] [[],[],[],[],[],[],[],[],[]] false),M 3 53 56,EX 4 57 53 0,EX 5 58 53 1,FA 6 59 3 4,ST 7 1 59 57] [2,4] (.s 0 [L 0 60 2,LK 1 61 7 4,q 2 62 (.call 60 [61] [] false),q 3 63 (.un .not 62)] [63] (.cond 63 .ret .skip)))))))
   [(1,.ptr bS 0),(2,.ptr bY 0),(3,v)] G c (fun e _ H'=>e = (if ok then .normal else .ret)∧∃ l,H' = GE++l):= by
 obtain ⟨bp,pb,rfl,hbp⟩:=hv
 have hGv:SlV G (.asl bp p.length) p:=.asl bp pb p hbp
 unfold B9w at hx
 refine oB hx fun p0 hp0 hx=>oB hx fun z hz hx=>oB hx fun sh hsh hx=>?_
 obtain rfl:=os hx
 have hlp:p0.length = p.length:= by obtain ⟨_,rfl⟩:=B8v hp0; simp
 have hcp:=D3j hlp
 refine T2<|C7<|sg 0 rfl<|qm rfl<|A0 (B2d hGv rfl) rfl<|A0 (B8z (f:=B3) (zt:=PaUse.mk 0 0 0) rfl rfl rfl hp0) rfl<|A0 (P5 (cs:=[.asl (G.length + 0) p0.length,.i 0,.i 0,.i 0,.i 0,.i 0,.i 0]) rfl rfl) rfl<|A0 C19 rfl<|N7 (E9 (ds:=fnC (.asl (G.length + 0) p0.length) ⟨0,0,⟨0,0,0⟩⟩ 0) rfl rfl rfl rfl (Z8 (Nat.le_trans hc (Nat.le_add_right _ _))) rfl) rfl<|es (ra4 rfl rfl rfl rfl)<|s0<|A0 (B9 rfl) rfl<|A0 (A9 (x:=.asl (G.length + 0) p0.length) rfl rfl rfl) rfl<|qm rfl<|O1 (D10 (f:=B3) (d:=p0) (m:=p) rfl rfl rfl rfl (D4t (Y2 hbp)) (fun _=>rfl)) rfl ?_
 rw [hcp]
 refine es (ra4 rfl rfl rfl rfl)<|C4<|s0<|qm rfl<|A0 (B2d hGv rfl) rfl<|qm rfl<|es (ra7 rfl rfl rfl rfl rfl rfl rfl)<|C7<|wl (fun x=>[(1,.ptr bS 0),(2,.ptr bY 0),(3,.asl bp p.length),(4,.ptr (G.length + 2) 0),(20,.asl bp p.length),(21,.i p.length),(22,.i x.2)]) (fun (_:Unit) x=>[.arr 3 false (p.map B3),.arr 3 false [],.cells (fnC (.asl (G.length + 0) p0.length) x.1 0)]) 3 (fun r e s' H'=>PX 2 [(1,.ptr bS 0),(2,.ptr bY 0),(3,.asl bp p.length),(4,.ptr (G.length + 2) 0)] (G++[.arr 3 false (p.map B3),.arr 3 false [],.cells (fnC (.asl (G.length + 0) p0.length) r 0)]) e s' H') () hz rfl rfl (fun _ _=>rfl) (fun _=>rfl) rfl (fun _=>bdc (A4k h1) (bdc (A4k hY) (bdc hGv.bd (bdc (N5 rfl) (bdc hGv.bd (bdc A5 (bdc A5 bdn))))))) (fun _ x o hs=>?_) ?_
 ·obtain ⟨⟨w,cc,hd⟩,i⟩:=x
  unfold C5e at hs
  refine s0<|A0 (L5 rfl rfl) rfl<|es (ra8 rfl rfl rfl rfl rfl rfl rfl rfl)<|C4<|wi hs rfl (fun hc1 hs=>?_) fun hc1 hs=>?_
  ·refine oB hs fun u hu hs=>oB hs fun pd hpd hs=>oB hs fun ow how hs=>oB hs fun bb hbb hs=>?_
   refine C3<|C4<|C7<|sg 3 rfl<|qm rfl<|A0 (B2c hGv hu rfl rfl) rfl<|A0 (B4p hGv hu rfl) rfl<|A0 H9 rfl<|qm rfl<|N7 (E9 (ds:=B3 u) rfl rfl rfl rfl (E1 rfl) rfl) rfl<|es (ra9 rfl rfl rfl rfl rfl rfl rfl rfl rfl)<|s0<|A0 (F3 rfl h1 rfl) rfl<|qm rfl<|A0 (D9 rfl rfl rfl) rfl<|C2 (rs:=[.i pd.1,.i pd.2]) rfl rfl (A2 rfl (A2 rfl (A2 (D4 rfl) C0))) ((S9 (a0:=shw t days) (D5 h2 _) hpd).frz)<|qm rfl<|A0 (A8 rfl rfl) rfl<|A0 (A8 rfl rfl) rfl<|qm rfl<|qm rfl<|es (ra10 rfl rfl rfl rfl rfl rfl rfl rfl rfl rfl)<|s0<|A0 (B9 rfl) rfl<|A0 (A9 (x:=.i cc) rfl rfl rfl) rfl<|qm rfl<|A0 (F9 rfl rfl) rfl<|A0 (B9 rfl) rfl<|N7 (E9 (ds:=fnC (.asl (G.length + 0) p0.length) ⟨w,w64 (cc + pd.1),hd⟩ 0) rfl rfl rfl rfl (E1 rfl) rfl) rfl<|es (ra9 rfl rfl rfl rfl rfl rfl rfl rfl rfl)<|s0<|qm rfl<|A0 (B9 rfl) rfl<|A0 (A9 (x:=.i u.Gown) rfl rfl rfl) rfl<|A0 (F9 rfl rfl) rfl<|A0 (B9 rfl) rfl<|A0 (C9s (e:=Ar3.l hd) rfl rfl rfl how) rfl<|N7 (C9y (f:=cI) (e:=Ar3.l hd) (e2:=Ar3.l (hd.set i (w64 (u.Gown + 1)))) (z:=w64 (u.Gown + 1)) (ds:=fnC (.asl (G.length + 0) p0.length) ⟨w,w64 (cc + pd.1),hd.set i (w64 (u.Gown + 1))⟩ 0) rfl rfl rfl rfl rfl rfl (fun _=>rfl) how (Ar3.set_l how) rfl (E1 rfl)) rfl<|es (ra8 rfl rfl rfl rfl rfl rfl rfl rfl)<|s0<|A0 (D9 rfl rfl rfl) rfl<|Y5 (rs:=[(.agg (B3 bb))]) rfl rfl A36 C0 ((A3e hbb).frz)<|A0 (C4a (a:=B3 u) (b:=B3 bb) rfl rfl rfl rfl (U2 (U2 (U2 B0c)))) rfl<|es (ra8 rfl rfl rfl rfl rfl rfl rfl rfl)<|wi hs rfl (fun hc2 hs=>?_) fun hc2 hs=>?_
   ·refine r0<|A0 (B9 rfl) rfl<|A0 (A9 (x:=.i w) rfl rfl rfl) rfl<|A0 (F9 rfl rfl) rfl<|A0 (B9 rfl) rfl<|N7 (E9 (ds:=fnC (.asl (G.length + 0) p0.length) ⟨w64 (w + 1),w64 (cc + pd.1),hd.set i (w64 (u.Gown + 1))⟩ 0) rfl rfl rfl rfl (E1 rfl) rfl) rfl<|en (ra7 rfl rfl rfl rfl rfl rfl rfl)<|r0<|A0 (F9 rfl rfl) rfl<|qm rfl<|en (ra7 rfl rfl rfl rfl rfl rfl rfl) ?_
    cases hs
    exact lnT () rfl (su7 rfl rfl rfl rfl rfl rfl rfl)
   ·refine C3<|r0<|A0 (F9 rfl rfl) rfl<|qm rfl<|en (ra7 rfl rfl rfl rfl rfl rfl rfl) ?_
    cases hs
    exact lnT () rfl (su7 rfl rfl rfl rfl rfl rfl rfl)
  ·refine I7 ?_
   obtain rfl:=os hs
   exact lx rfl px (su4 rfl rfl rfl rfl)
 ·rintro e s' H' - ⟨rfl,rfl,rfl⟩
  have hcl:=hcall c [.arr 3 true (p.map B3),.arr 3 false [],.cells (fnC (.asl (G.length + 0) p0.length) z sh.1)] (by intro o ho; simp at ho; rcases ho with rfl | rfl | rfl <;> rfl) (C0t hsc (by simp)) rfl
  refine s0<|A0 (F3 rfl h1 rfl) rfl<|qm rfl<|O1 (T6 (rs:=[.i sh.1,.i sh.2]) rfl rfl ((A8t (a0:=shw t days) (D5 h2 _) hGv.app hsh).frz)) rfl<|qm rfl<|A0 (A8 rfl rfl) rfl<|A0 (A8 rfl rfl) rfl<|A0 (B9 rfl) rfl<|N7 (E9 (ds:=fnC (.asl (G.length + 0) p0.length) z sh.1) rfl rfl rfl rfl (E1 rfl) rfl) rfl<|es (ra2 rfl rfl)<|s0<|A0 (F3 rfl hY rfl) rfl<|A0 (A2k (ds:=fnC (.asl (G.length + 0) p0.length) z sh.1) rfl rfl rfl rfl) rfl<|O1 (P7 (rs:=[.b ok]) rfl rfl (A2 (D1b (A54 (D3n rfl (by rw [List.length_map]; exact hlp.symm)) (A54 rfl (A54 rfl (A54 rfl (A54 rfl (A54 rfl (A54 rfl D3l)))))))) C0) hcl rfl) rfl<|A0 (C2e rfl rfl) rfl<|es (ra1 rfl) ?_
  cases ok with
  | true=>exact O9 rfl rfl<|C3 ⟨rfl,_,rfl⟩
  | false=>exact N2 rfl rfl<|C5 ⟨rfl,_,rfl⟩
end
theorem D1e {N:Nat} {l:A1} (h:∀o ∈ l,o.anc = []):grL N l = true:= by
 unfold grL
 rw [List.all_eq_true]
 intro o ho
 rw [h o ho]; rfl
def B2q (t:PaShow) (days:List Int) (bS b:Nat) (H:A1):Prop:=hcells H bS = some [.ptr b 0]∧hcells H b = some (A1y t days)
theorem B2q.app {t:PaShow} {days:List Int} {bS b:Nat} {H L:A1} (h:B2q t days bS b H):B2q t days bS b (H++L):=⟨D5 h.1 _,D5 h.2 _⟩
theorem C8a {t:PaShow} {days:List Int} {bS b:Nat}:B4w tab 108 [.ptr bS 0] shF (B2q t days bS b) (C08 t days):= by
 intro σ ρ Hm N hN hpre y hyb hyc body hy a0 o ho c hc
 unfold C08 at ho
 have h1:∀x,hcells (Hm x) bS = some [.ptr b 0]:=fun x=>(hpre x).1
 have ht:∀x,hcells (Hm x) b = some (A1y t days):=fun x=>(hpre x).2
 have e:=hN (.inl a0)
 have q0:∀z L,hcells (Hm z++(AO.cells [y] :: L)) (N + 0) = some [y]:=fun z L=>by rw [← hN z]; exact D7 rfl
 have q1:∀z L,hcells (Hm z++(AO.cells [y] :: .cells [.ptr b 0] :: L)) (N + 1) = some [.ptr b 0]:=fun z L=>by rw [← hN z]; exact D7 rfl
 have htk:∀z L,(Hm z++L).take N = Hm z:=fun z L=>by rw [← hN z]; exact List.take_left
 have hl2:∀z,(Hm z++[AO.cells [y],.cells [.ptr b 0]]).length = N + 2:=fun z=>by rw [List.length_append,hN]; rfl
 have key:WP tab c108 [(0,y),(1,.ptr bS 0)] (Hm (.inl a0)++[]) ⟨(Hm (.inl a0)).length,c.cur :: c.outer⟩ (A6x (Hm (.inl a0)) (Hm o) [] []):= by
  refine sg 0 rfl<|A0 (F0 rfl hyc rfl) rfl<|es (ra2 rfl rfl)<|s0<|A0 (F3 rfl (h1 _) rfl) rfl<|A3o (as2:=[.ptr b 0]) (H1:=Hm (.inl a0)++[.cells [y]]) rfl rfl (A2 rfl C0) rfl rfl rfl (A8e rfl)<|sg 1 rfl<|A0 (F0 (cs:=[.ptr b 0]) rfl rfl rfl) rfl<|qm rfl<|es (ra1 rfl)<|s0<|A0 (A16 rfl rfl) rfl<|qm rfl<|es (ra1 rfl)<|C5<|InlQ.mk trivial ⟨_,_,_,[(.fn (.func 119) [] [(.ptr ((Hm (.inl a0)).length + 1) 0)])],_,(A6 rfl B6),(A4 rfl B5),(A8c (S7 (B1s (S7 (A4l rfl)))) (A8b rfl B11)),?_⟩
  refine es (ra3 rfl rfl rfl)<|C7 ?_
  refine B1l (it:=B4s t days) (sh:=shP) (pre:=B2q t days ((Hm (.inl a0)).length + 1) b) (D0j (t:=t) (days:=days) (bS:=(Hm (.inl a0)).length + 1) (b:=b)) (K:=N + 2) [(1,.ptr bS 0),(2,.ptr ((Hm (.inl a0)).length + 0) 0)] (fun z=>Hm (.inl z)++[.cells [y],.cells [.ptr b 0]]) (fun r=>Hm (.inr r)++[.cells [y],.cells [.ptr b 0]]) (fun _=>.ret) ho (fun _=>rfl) rfl (fun S hS=>N1 (live:=[1,2]) rfl (by decide) (Sub.trans (su2 rfl rfl) hS)) rfl (fun x=>hl2 _) (fun x=>hl2 _) ?_ ?_ ?_ ?_
  ·rw [e]
   exact ⟨fun x z=>⟨D5 (q1 _ _) _,D5 (D5 (ht _) _) _⟩,fun x z=>⟨D5 (q1 _ _) _,D5 (D5 (ht _) _) _⟩⟩
  ·exact A7x hc (by simp) (by simp)
  ·intro c' p s o' L v hsc hgr hv hbo y0 y1 hy0 hy1
   obtain ⟨j,rfl,hj⟩:=hv
   refine oB hbo fun x hx hbo=>?_
   have hGl:(Hm (.inl s)++[AO.cells [y],.cells [.ptr b 0]]++y1 :: L).length = N + 2 + 1 + L.length:= by rw [List.length_append,hl2]; simp; omega
   have e4:∀z (l:List AO),Hm z++[AO.cells [y],.cells [.ptr b 0]]++y1 :: L++l = Hm z++(AO.cells [y] :: .cells [.ptr b 0] :: y1 :: (L++l)):=fun z l=>by simp
   refine r0<|qm rfl<|en (ra3 rfl rfl rfl) ⟨rfl,L,rfl,?_⟩
   have hharr:harr (Hm (.inl s)++[AO.cells [y],.cells [.ptr b 0]]++y1 :: L) (N + 2 + 1 + j) = some (3,false,p.map B3):= by
    have h3:(Hm (.inl s)++[AO.cells [y],.cells [.ptr b 0]]++[y1]).length = N + 2 + 1:= by rw [List.length_append,hl2]; rfl
    rw [show Hm (.inl s)++[AO.cells [y],.cells [.ptr b 0]]++y1 :: L = (Hm (.inl s)++[AO.cells [y],.cells [.ptr b 0]]++[y1])++L by simp,← h3]
    exact M5 hj
   refine A0h (C79 (t:=t) (days:=days) (x:=x) (ok:=o'.isLeft) (GE:=Hm o'++[AO.cells [y],.cells [.ptr b 0]]++y1 :: L) (y:=y) ⟨_,_,rfl,hharr⟩ (D5 (D5 (h1 _) _) _) (D5 (D5 (ht _) _) _) (by rw [e]; exact D5 (q0 _ _) _) (by rw [hGl]; exact Nat.le_refl _) hx (fun c2 l hl hs2 hc2=>?_) (C0t hsc (by rw [hGl]; simp [hN]; omega))) ?_
   ·have hsc3:R2 c2 (Hm (.inl s)++(AO.cells [y] :: .cells [.ptr b 0] :: y1 :: (L++l))) = true:= by rw [hc2,← e4]; exact hs2
    rw [e4,e4]
    exact hy hsc3 (A5g rfl (A5g rfl (A5g hy1 (B4l (C1v (by omega) hgr) (D1e hl))))) rfl hbo
   ·rintro e1 s1 H1 ⟨he,l,rfl⟩
    have htk2:∀z,(Hm z++[AO.cells [y],.cells [.ptr b 0]]++y1 :: L++l).take (N + 2 + 1 + L.length) = Hm z++[AO.cells [y],.cells [.ptr b 0]]++y1 :: L:=fun z=>by
     have:(Hm z++[AO.cells [y],.cells [.ptr b 0]]++y1 :: L).length = N + 2 + 1 + L.length:= by rw [List.length_append,hl2]; simp; omega
     rw [← this]; exact List.take_left
    cases o' with
    | inl s'=>exact ⟨he,htk2 _⟩
    | inr r=>exact ⟨he,htk2 _⟩
  ·rw [e]
   cases o with
   | inl s' =>
    show A6x _ _ _ _ .normal _ _
    refine B6r trivial rfl rfl rfl ?_
    rw [List.append_assoc,e]; exact htk _ _
   | inr r =>
    show A6x _ _ _ _ .ret _ _
    refine B6r trivial rfl rfl rfl ?_
    rw [List.append_assoc,e]; exact htk _ _
 rw [List.append_nil] at key
 exact Y0 (aq:=[y,.ptr bS 0]) rfl rfl rfl key
def B87 (t:PaShow) (days:List Int) (σ ρ:Type) (body:pawn_found→σ→Option (σ ⊕ ρ)) (s:σ):Option (σ ⊕ ρ) :=
 C08 t days σ ρ (fun x s=>if (decide (x.short_ > 0)) = true then some (.inl s) else body x s) s
theorem C4g {t:PaShow} {days:List Int} {bS b:Nat}:B4w tab 106 [.ptr bS 0] shF (B2q t days bS b) (B87 t days):= by
 intro σ ρ Hm N hN hpre y hyb hyc body hy a0 o ho c hc
 unfold B87 at ho
 have h1:∀x,hcells (Hm x) bS = some [.ptr b 0]:=fun x=>(hpre x).1
 have ht:∀x,hcells (Hm x) b = some (A1y t days):=fun x=>(hpre x).2
 have e:=hN (.inl a0)
 have q0:∀z L,hcells (Hm z++(AO.cells [y] :: L)) (N + 0) = some [y]:=fun z L=>by rw [← hN z]; exact D7 rfl
 have q1:∀z L,hcells (Hm z++(AO.cells [y] :: .cells [.ptr b 0] :: L)) (N + 1) = some [.ptr b 0]:=fun z L=>by rw [← hN z]; exact D7 rfl
 have htk:∀z L,(Hm z++L).take N = Hm z:=fun z L=>by rw [← hN z]; exact List.take_left
 have hl2:∀z,(Hm z++[AO.cells [y],.cells [.ptr b 0]]).length = N + 2:=fun z=>by rw [List.length_append,hN]; rfl
 have key:WP tab c106 [(0,y),(1,.ptr bS 0)] (Hm (.inl a0)++[]) ⟨(Hm (.inl a0)).length,c.cur :: c.outer⟩ (A6x (Hm (.inl a0)) (Hm o) [] []):= by
  refine sg 0 rfl<|A0 (F0 rfl hyc rfl) rfl<|es (ra2 rfl rfl)<|C6f<|C4<|C3<|s0<|A0 (F3 rfl (h1 _) rfl) rfl<|A3o (as2:=[.ptr b 0]) (H1:=Hm (.inl a0)++[.cells [y]]) rfl rfl (A2 rfl C0) rfl rfl rfl (A8e rfl)<|sg 1 rfl<|A0 (F0 (cs:=[.ptr b 0]) rfl rfl rfl) rfl<|qm rfl<|es (ra1 rfl)<|s0<|A0 (A16 rfl rfl) rfl<|qm rfl<|es (ra1 rfl)<|C5<|InlQ.mk trivial ⟨_,_,_,[(.fn (.func 108) [] [(.ptr ((Hm (.inl a0)).length + 1) 0)])],_,(A6 rfl B6),(A4 rfl B5),(A8c (S7 (B1s (S7 (A4l rfl)))) (A8b rfl B11)),?_⟩
  refine es (ra2 rfl rfl)<|C7 ?_
  refine B1l (it:=C08 t days) (sh:=shF) (pre:=B2q t days ((Hm (.inl a0)).length + 1) b) (C8a (t:=t) (days:=days) (bS:=(Hm (.inl a0)).length + 1) (b:=b)) (K:=N + 2) [(2,.ptr ((Hm (.inl a0)).length + 0) 0)] (fun z=>Hm (.inl z)++[.cells [y],.cells [.ptr b 0]]) (fun r=>Hm (.inr r)++[.cells [y],.cells [.ptr b 0]]) (fun _=>.ret) ho (fun _=>rfl) rfl (fun S hS=>N1 (live:=[2]) rfl (by decide) (Sub.trans (su1 rfl) hS)) rfl (fun x=>hl2 _) (fun x=>hl2 _) ?_ ?_ ?_ ?_
  ·rw [e]
   exact ⟨fun x z=>⟨D5 (q1 _ _) _,D5 (D5 (ht _) _) _⟩,fun x z=>⟨D5 (q1 _ _) _,D5 (D5 (ht _) _) _⟩⟩
  ·exact A7x hc (by simp) (by simp)
  ·intro c' x s o' L v hsc hgr hv hbo y0 y1 hy0 hy1
   obtain rfl:v = .agg (C1 x):=hv
   have hGl:∀z z1,(Hm z++[AO.cells [y],.cells [.ptr b 0]]++z1 :: L).length = N + 2 + 1 + L.length:=fun z z1=>by rw [List.length_append,hl2]; simp; omega
   have e4:∀z (l:List AO),Hm z++[AO.cells [y],.cells [.ptr b 0]]++y1 :: L++l = Hm z++(AO.cells [y] :: .cells [.ptr b 0] :: y1 :: (L++l)):=fun z l=>by simp
   have htk2:∀z l,(Hm z++[AO.cells [y],.cells [.ptr b 0]]++y1 :: L++l).take (N + 2 + 1 + L.length) = Hm z++[AO.cells [y],.cells [.ptr b 0]]++y1 :: L:=fun z l=>by
    rw [← hGl z y1]; exact List.take_left
   refine T2<|rg 0 rfl<|A0 H9 rfl<|N7 (E9 (ds:=C1 x) rfl rfl rfl rfl (Z8 (by rw [hGl]; exact Nat.le_add_right _ _)) rfl) rfl<|en (ra2 rfl rfl) ⟨rfl,L++[.cells (C1 x)],by simp,?_⟩
   refine B3w (show _ = (Hm (.inl s)++[AO.cells [y],.cells [.ptr b 0]]++y1 :: L)++[.cells (C1 x)] by simp) ?_
   have q8:ev [(2,AV.ptr ((Hm (.inl a0)).length + 0) 0),(3,.ptr ((Hm (.inl s)++[AO.cells [y],.cells [.ptr b 0]]++y0 :: L).length + (0 + 0)) 0)] (.t 3) = some (.ptr ((Hm (.inl s)++[AO.cells [y],.cells [.ptr b 0]]++y1 :: L).length + 0) 0):= by
    show some _ = some _
    rw [hGl,hGl]
   rw [show (AV.ptr ((Hm (.inl s)++[AO.cells [y],.cells [.ptr b 0]]++y0 :: L).length + (0 + 0)) 0) = .ptr ((Hm (.inl s)++[AO.cells [y],.cells [.ptr b 0]]++y1 :: L).length + 0) 0 by rw [hGl,hGl]]
   refine C7<|C4<|s0<|A0 (B9 rfl) rfl<|A0 (A9 (x:=.i x.short_) rfl rfl rfl) rfl<|A0 (A0i rfl rfl) rfl<|es (ra3 rfl rfl rfl)<|wi hbo rfl (fun hc2 hbo=>?_) fun hc2 hbo=>?_
   ·cases hbo
    exact I7 ⟨rfl,htk2 _ _⟩
   ·have hcl:I4 tab ⟨N + 2 + 1 + L.length,c'⟩ (Hm (.inl s)++[AO.cells [y],.cells [.ptr b 0]]++y1 :: L++[.cells (C1 x)]) y [.agg (C1 x)] [.b o'.isLeft] (Hm o'++[AO.cells [y],.cells [.ptr b 0]]++y1 :: L++[.cells (C1 x)]):= by
     have hsc3:R2 ⟨N + 2 + 1 + L.length,c'⟩ (Hm (.inl s)++(AO.cells [y] :: .cells [.ptr b 0] :: y1 :: (L++[.cells (C1 x)]))) = true:= by
      rw [← e4]
      exact C0t hsc (by simp only [List.length_append,List.length_cons,List.length_nil]; omega)
     rw [e4,e4]
     exact hy hsc3 (A5g rfl (A5g rfl (A5g hy1 (B4l (C1v (by omega) hgr) rfl)))) rfl hbo
    refine C3<|s0<|A0 (F3 (x:=y) rfl (by rw [e]; exact D5 (q0 _ _) _) rfl) rfl<|A0 (D9 rfl rfl rfl) rfl<|O1 (P7 (rs:=[.b o'.isLeft]) rfl rfl (A2 (D4 rfl) C0) hcl rfl) rfl<|A0 (C2e rfl rfl) rfl<|es (ra1 rfl) ?_
    cases o' with
    | inl s'=>exact O9 rfl rfl<|C3 ⟨rfl,htk2 _ _⟩
    | inr r=>exact N2 rfl rfl<|C5 ⟨rfl,htk2 _ _⟩
  ·rw [e]
   cases o with
   | inl s' =>
    show A6x _ _ _ _ .normal _ _
    refine B6r trivial rfl rfl rfl ?_
    rw [List.append_assoc,e]; exact htk _ _
   | inr r =>
    show A6x _ _ _ _ .ret _ _
    refine B6r trivial rfl rfl rfl ?_
    rw [List.append_assoc,e]; exact htk _ _
 rw [List.append_nil] at key
 exact Y0 (aq:=[y,.ptr bS 0]) rfl rfl rfl key
end Pw
end
section
set_option maxRecDepth 100000
set_option maxHeartbeats 0
namespace Pw
open Go Am Go.Proofs.YtjpjdglddmhplaaGreat.Cd
def fnd0:pawn_found:=⟨[],0,0,0,⟨0,0,0⟩⟩
def D2x (g:pawn_found→pawn_found→Option Int) (x:pawn_found) (s:pawn_found × Bool):Option ((pawn_found × Bool) ⊕ Unit) :=
 (if (!s.2) = true then some true else (g x s.1).bind fun r=>some (decide (r < 0))).bind fun z =>
 if z = true then some (.inl (x,true)) else some (.inl s)
abbrev It:=∀ (σ ρ:Type),(pawn_found→σ→Option (σ ⊕ ρ))→σ→Option (σ ⊕ ρ)
def C1c (it:It) (g:pawn_found→pawn_found→Option Int):Option (pawn_found × Bool) :=
 (it (pawn_found × Bool) Unit (D2x g) (fnd0,false)).bind fun o=>match o with
  | .inl s=>some s
  | .inr _=>none
def bM (ig:Nat) (s:pawn_found × Bool):List AO:=[.cells [.fn (.func ig) [] []],.cells (C1 s.1),.cells [.b s.2]]
theorem B9o {c:Sc} {H:A1} {i ig bS b:Nat} {t:PaShow} {days:List Int} {it:It} {g:pawn_found→pawn_found→Option Int} {r:pawn_found × Bool} (hit:B4w tab i [.ptr bS 0] shF (B2q t days bS b) it)
  (hg:∀{c:Sc} {H:A1} {x y:pawn_found} {r:Int},g x y = some r→U7 tab c H (.fn (.func ig) [] []) [.agg (C1 x),.agg (C1 y)] [.i r]) (hpre:B2q t days bS b H) (hscv:R2 c H = true) (h:C1c it g = some r) :
  U7 tab c H (.fn (.func 69) [] []) [.fn (.func i) [] [.ptr bS 0],.fn (.func ig) [] []] [.agg (C1 r.1),.b r.2]:= by
 unfold C1c at h
 refine oB h fun o ho h=>?_
 have hl3:∀s,(H++bM ig s).length = H.length + 3:=fun s=>by rw [List.length_append]; rfl
 refine cF rfl rfl<|sg 0 rfl<|A0 (F0 (cs:=[.fn (.func ig) [] []]) rfl rfl rfl) rfl<|A0 H9 rfl<|A0 H9 rfl<|es (ra4 rfl rfl rfl rfl)<|C4<|s0<|qm rfl<|es (ra4 rfl rfl rfl rfl)<|C7 ?_
 refine B1l (it:=it) (sh:=shF) (pre:=B2q t days bS b) hit (K:=H.length + 3) [(3,.ptr (H.length + 0) 0),(4,.ptr (H.length + 1) 0),(5,.ptr (H.length + 2) 0)] (fun s=>H++bM ig s) (fun (_:Unit)=>H++bM ig (fnd0,false)) (fun _=>.ret) ho (fun _=>rfl) rfl (fun S hS=>N1 (live:=[3,4,5]) rfl (by decide) (Sub.trans (su3 rfl rfl rfl) hS)) rfl (fun _=>hl3 _) (fun _=>hl3 _) ⟨fun _ _=>by rw [List.append_assoc]; exact hpre.app,fun _ _=>by rw [List.append_assoc]; exact hpre.app⟩ (B7w hscv) (fun c' x s o' L v hsc hgr hv hbo y0 y1 hy0 hy1=>?_) ?_
 ·obtain rfl:v = .agg (C1 x):=hv
  have hGl:∀s z,(H++bM ig s++z :: L).length = H.length + 3 + 1 + L.length:=fun s z=>by rw [List.length_append,hl3]; simp; omega
  refine T2<|rg 0 rfl<|A0 H9 rfl<|N7 (E9 (ds:=C1 x) rfl rfl rfl rfl (Z8 (by rw [hGl]; exact Nat.le_add_right _ _)) rfl) rfl<|en (ra4 rfl rfl rfl rfl) ⟨rfl,L++[.cells (C1 x)],by simp,?_⟩
  refine B3w (show _ = H++(.cells [.fn (.func ig) [] []] :: .cells (C1 s.1) :: .cells [.b s.2] :: y1 :: (L++[AO.cells (C1 x)])) by simp [bM]) ?_
  rw [show (AV.ptr ((H++bM ig s++y0 :: L).length + (0 + 0)) 0) = .ptr (H.length + 3 + 1 + L.length) 0 by rw [hGl]; rfl]
  have q6:∀s':pawn_found × Bool,hcells (H++(.cells [.fn (.func ig) [] []] :: .cells (C1 s'.1) :: .cells [.b s'.2] :: y1 :: (L++[AO.cells (C1 x)]))) (H.length + 3 + 1 + L.length) = some (C1 x):=fun s'=>by
   rw [show H++(.cells [.fn (.func ig) [] []] :: .cells (C1 s'.1) :: .cells [.b s'.2] :: y1 :: (L++[AO.cells (C1 x)])) = (H++bM ig s'++y1 :: L)++[AO.cells (C1 x)] by simp [bM],← hGl s' y1]
   exact D7 (j:=0) rfl
  have htk:∀(s':pawn_found × Bool),(H++(.cells [.fn (.func ig) [] []] :: .cells (C1 s'.1) :: .cells [.b s'.2] :: y1 :: (L++[AO.cells (C1 x)]))).take (H.length + 3 + 1 + L.length) = H++bM ig s'++y1 :: L:=fun s'=>by
   rw [show H++(.cells [.fn (.func ig) [] []] :: .cells (C1 s'.1) :: .cells [.b s'.2] :: y1 :: (L++[AO.cells (C1 x)])) = (H++bM ig s'++y1 :: L)++[AO.cells (C1 x)] by simp [bM],← hGl s' y1]
   exact List.take_left
  unfold D2x at hbo
  refine oB hbo fun z hz hbo=>?_
  refine C7<|s0<|A0 (A9 (x:=.b s.2) rfl rfl rfl) rfl<|A0 (C2e rfl rfl) rfl<|qm rfl<|gp 6 17 (.b z) 11 rfl rfl (fun hc1=>?_) (fun hc1=>?_) ?_
  ·obtain rfl:=os (bt hz hc1)
   exact nF rfl hc1 rfl<|nF rfl hc1 rfl<|nF rfl hc1 rfl<|I6 (E6 rfl (by rw [hc1]; rfl)) rfl<|nF rfl hc1 rfl<|A0 (C9 rfl hc1 rfl) rfl<|ge 6 rfl rfl rfl
  ·refine oB (bf hz hc1) fun q hq hz=>?_
   obtain rfl:=os hz
   exact gF rfl hc1<|A0 (A9 (x:=.fn (.func ig) [] []) rfl rfl rfl) rfl<|gF rfl hc1<|A0 (A5j (ds:=C1 x) rfl (q6 s) rfl rfl) rfl<|gF rfl hc1<|A0 (A2k (ds:=C1 s.1) rfl rfl rfl rfl) rfl<|gF rfl hc1<|C2 (rs:=[.i q]) rfl rfl (A2 (D4 rfl) (A2 (D4 rfl) C0)) (hg hq)<|gF rfl hc1<|A0 (L5 rfl rfl) rfl<|A0 (C8 rfl hc1 rfl) rfl<|ge 6 rfl rfl rfl
  ·refine es (ra4 rfl rfl rfl rfl)<|wi hbo rfl (fun hc2 hbo=>?_) fun hc2 hbo=>?_
   ·cases hbo
    refine r0<|A0 (A5j (ds:=C1 x) rfl (q6 s) rfl rfl) rfl<|N7 (E9 (j:=1) (ds:=C1 x) rfl rfl rfl rfl (E1 rfl) rfl) rfl<|N7 (E9 (j:=2) (ds:=[.b true]) rfl rfl rfl rfl (E1 rfl) rfl) rfl<|en .n ⟨rfl,htk (x,true)⟩
   ·cases hbo
    exact C3 ⟨rfl,htk s⟩
 ·rcases o with s | s
  ·obtain rfl:=os h
   refine B3w (show _ = H++[.cells [.fn (.func ig) [] []],.cells (C1 s.1),.cells [.b s.2],.dead] by simp [bM]) ?_
   refine s0<|A0 (A2k (ds:=C1 s.1) rfl rfl rfl rfl) rfl<|C0k [2] [.cells [.fn (.func ig) [] []],.cells (C1 s.1),.cells [.b s.2],.dead] (Q9 [] rfl (B20 rfl A9e G9) rfl rfl) (seen0 rfl) (E9 (j:=1) (ds:=C1 s.1) rfl rfl rfl rfl (E1 rfl) rfl) rfl rfl rfl<|K2 [] (Q9 [] rfl G9 rfl rfl) (C0u (b:=H.length + 2) rfl (B2t (A51 _ rfl) B6t)) (A9 (x:=.b s.2) rfl rfl rfl) rfl<|N7 (E9 (j:=2) (ds:=[.b s.2]) rfl rfl rfl rfl (E1 rfl) rfl) rfl<|es (ra2 rfl rfl)<|C5 ?_
   exact ⟨_,retq trivial (A8n (A2k (ds:=C1 s.1) rfl rfl rfl rfl) (A8n (A9 (x:=.b s.2) rfl rfl rfl) B6)) (A4 (B2i rfl) (A4 rfl B5)) (A3 (B1r rfl) (A3 A5 A7)),rfl⟩
  ·cases h
end Pw
namespace Am
open Go
theorem B4w.it {α:Type} {T:Tab} {i:Nat} {fc:List AV} {ea:α→AV} {pre:A1→Prop} {it:∀(σ ρ:Type),(α→σ→Option (σ ⊕ ρ))→σ→Option (σ ⊕ ρ)} (h:B4w T i fc (fun _ _ x v=>v = ea x) pre it):D5j T i fc ea pre it :=
 fun Hm N h1 h2 y hb hc body hy _ _ ho _ hs=>h Hm N h1 h2 y hb hc body (fun a b d e=>by subst d; exact hy a b e) ho hs
end Am
end
section
set_option maxRecDepth 100000
set_option maxHeartbeats 0
namespace Pw
open Go Am Go.Proofs.YtjpjdglddmhplaaGreat.Cd
def A8j (a0:PaShow):Option ((List PaUse) × Int × Int × Int) :=
 (A02 a0).bind fun x1 =>
 if (x1.1 == 0) = true then
  (C1c (B87 a0 x1.2) A7p).bind fun x4 =>
  some (x4.1.plan_,x4.1.without_,x4.1.cost_,0)
 else
  some (([]:List PaUse),0,0,x1.1)
theorem B0z {c:Sc} {H:A1} (hscv:R2 c H = true) {a0:PaShow} {r:((List PaUse) × Int × Int × Int)} (h:A8j a0 = some r) :
  E2 tab c H (.fn (.func 26) [] []) [(.agg (B4 a0))] [(.seq 3 (List.map B3 r.1)),.i r.2.1,.i r.2.2.1,.i r.2.2.2]:= by
 unfold A8j at h
 refine cE rfl rfl<|sg 0 rfl<|A0 (F0 (cs:=B4 a0) rfl rfl rfl) rfl<|qm rfl<|qm rfl<|qm rfl<|qm rfl<|es (ra1 rfl)<|s0<|oB h fun x1 hx1 h=>A0 (D9 rfl rfl rfl) rfl ?_
 by_cases hc2:(x1.1 == 0) = true
 ·rw [if_pos hc2] at h
  obtain ⟨X3,hX3⟩:=A09 hx1 hc2
  refine O1 (A2m hX3 rfl rfl (A2 (D4 rfl) C0) rfl) rfl<|qm rfl<|A0 (A8 rfl rfl) rfl<|A0 (A8 rfl rfl) rfl<|qm rfl<|qm rfl<|es (ra2 rfl rfl)<|C4<|s0<|qm rfl<|A0 (P4 (v:=(.b false)) rfl rfl rfl) rfl<|es (ra3 rfl rfl rfl)<|O9 rfl rfl<|C3<|sg 4 rfl<|qm rfl<|A3o (as2:=[(.ptr (H.length + 3) 0)]) (H1:=(H++[(.cells (B4 a0)),(.cells (B4 a0)),X3,(.cells [(.seq 8 (List.map B8 a0.Gowns)),(.seq 4 (List.map B2 a0.Figures)),.i a0.Purse,(.seq 2 (List.map D2 a0.Incomes)),(.fn (.func 90) [] []),(.fn (.func 91) [] []),(.fn (.func 92) [] []),(.fn (.func 52) [] []),(.fn (.func 93) [] []),(.fn (.func 94) [] []),(.fn (.func 55) [] []),(.fn (.func 95) [] []),(.fn (.func 96) [] []),(.seq 1 (List.map cI x1.2))]),.dead])) rfl rfl (A2 rfl C0) rfl rfl rfl (A8e rfl)<|sg 5 rfl<|A0 (F0 (cs:=[(.ptr (H.length + 3) 0)]) rfl rfl rfl) rfl<|qm rfl<|es (ra1 rfl)<|s0<|A0 (A16 rfl rfl) rfl<|qm rfl<|es (ra1 rfl)<|C5<|InlQ.mk trivial ⟨_,_,_,[(.fn (.func 106) [] [(.ptr (H.length + 5) 0)])],_,(A6 rfl B6),(A4 rfl B5),(A8c (S7 (B1s (S7 (A4l rfl)))) (A8b rfl B11)),?_⟩
  refine oB h fun x4 hx4 h=>C2 (rs:=[(.agg (C1 x4.1)),.b x4.2]) rfl rfl (A2 rfl (A2 rfl C0)) (B9o (C4g (t:=a0) (days:=x1.2) (bS:=H.length + 5) (b:=H.length + 3)) (fun h=>(B55 h).frz) (And.intro (D7 rfl) (D7 rfl)) (B7w hscv) hx4)<|qm rfl<|A0 (A8 rfl rfl) rfl<|A0 (A8 rfl rfl) rfl<|A0 H9 rfl<|N7 (E9 (ds:=(C1 x4.1)) rfl rfl rfl rfl (E1 rfl) rfl) rfl<|qm rfl<|es (ra1 rfl)<|s0<|A0 (B9 rfl) rfl<|A0 (A9 rfl rfl rfl) rfl<|A0 (B9 rfl) rfl<|A0 (A9 rfl rfl rfl) rfl<|A0 (B9 rfl) rfl<|A0 (A9 rfl rfl rfl) rfl<|qm rfl<|qm rfl<|qm rfl<|qm rfl<|es (ra4 rfl rfl rfl rfl)<|C5 ?_
  obtain rfl:=os h
  exact retq trivial (A6 rfl (A6 rfl (A6 rfl (A6 rfl B6)))) (A4 rfl (A4 rfl (A4 rfl (A4 rfl B5)))) (A3 M9 (A3 A5 (A3 A5 (A3 A5 A7))))
 ·rw [if_neg hc2] at h
  refine O1 (P7 (rs:=[.lit (.pointer none),.i x1.1]) rfl rfl (A2 (D4 rfl) C0) (A10 hx1 (by simpa using hc2)) rfl) rfl<|qm rfl<|A0 (A8 rfl rfl) rfl<|A0 (A8 rfl rfl) rfl<|qm rfl<|qm rfl<|es (ra2 rfl rfl)<|C4<|s0<|qm rfl<|A0 (L6 rfl rfl) rfl<|es (ra3 rfl rfl rfl)<|N2 rfl (nef hc2)<|s0<|qm rfl<|qm rfl<|qm rfl<|qm rfl<|qm rfl<|es (ra4 rfl rfl rfl rfl)<|C5 ?_
  obtain rfl:=os h
  exact retq trivial (A6 rfl (A6 rfl (A6 rfl (A6 rfl B6)))) (A4 rfl (A4 rfl (A4 rfl (A4 rfl B5)))) (A3 M9 (A3 A5 (A3 A5 (A3 A5 A7))))
def X4 (a0:PaUse) (a1:Int):Option Bool :=
 some ((a0.Gown == a1) && (a0.How == 1))
theorem A7l {c:Sc} {H:A1} {a0:PaUse} {a1:Int} {b1:Nat} (hb1:hcells H b1 = some (cI a1)) {r:Bool} (h:X4 a0 a1 = some r) :
  E2 tab c H (.fn (.func 105) [] []) [(.agg (B3 a0)),.ptr b1 0] [.b r]:= by
 unfold X4 at h
 refine cE rfl rfl<|sg 0 rfl<|A0 (F0 (cs:=B3 a0) rfl rfl rfl) rfl<|qm rfl<|es (ra2 rfl rfl)<|s0<|A0 (B9 rfl) rfl<|A0 (A9 rfl rfl rfl) rfl<|A0 (F3 rfl hb1 rfl) rfl<|A0 (G5 rfl rfl) rfl<|qm rfl<|gp 4 12 (.b ((a0.Gown == a1) && (a0.How == 1))) 8 rfl rfl (fun hg1=>?_) (fun hg1=>?_) ?_
 ·exact gT rfl hg1<|A0 (B9 rfl) rfl<|gT rfl hg1<|A0 (A9 rfl rfl rfl) rfl<|gT rfl hg1<|A0 (G5 rfl rfl) rfl<|A0 (C9 rfl hg1 rfl) rfl<|ge 4 (by rw [hg1]; rfl) rfl rfl
 ·exact nT rfl hg1 rfl<|nT rfl hg1 rfl<|nT rfl hg1 rfl<|A0 (C8 rfl hg1 rfl) rfl<|ge 4 (by rw [hg1]; rfl) rfl rfl
 refine qm rfl<|es (ra1 rfl)<|C5 ?_
 obtain rfl:=os h
 exact retq trivial (A6 rfl B6) (A4 rfl B5) (A3 A5 A7)
def A25 (a0:pawn_show) (a1:(List PaUse)) (a2:Int):Option Bool :=
 (E5 a1 (fun (y:PaUse)=>X4 y a2)).bind fun x1 =>
 some x1
theorem A9p {c:Sc} {H:A1} {a0:pawn_show} {b0:Nat} (hb0:hcells H b0 = some [(.seq 8 (List.map B8 a0.PaShow.Gowns)),(.seq 4 (List.map B2 a0.PaShow.Figures)),.i a0.PaShow.Purse,(.seq 2 (List.map D2 a0.PaShow.Incomes)),(.fn (.func 90) [] []),(.fn (.func 91) [] []),(.fn (.func 92) [] []),(.fn (.func 52) [] []),(.fn (.func 93) [] []),(.fn (.func 94) [] []),(.fn (.func 55) [] []),(.fn (.func 95) [] []),(.fn (.func 96) [] []),(.seq 1 (List.map cI a0.days_))]) {a1:(List PaUse)} {a2:Int} {r:Bool} (h:A25 a0 a1 a2 = some r) :
  E2 tab c H (.fn (.func 68) [] []) [.ptr b0 0,(.seq 3 (List.map B3 a1)),.i a2] [.b r]:= by
 unfold A25 at h
 refine cE rfl rfl<|sg 0 rfl<|A0 (F0 (cs:=cI a2) rfl rfl rfl) rfl<|qm rfl<|es (ra2 rfl rfl)<|s0<|oB h fun x1 hx1 h=>qm rfl<|A0 (A16 rfl rfl) rfl<|C2 (rs:=[.b x1]) rfl rfl (A2 rfl (A2 rfl C0)) ((V3 (show Impl _ _ 105 [] [(.ptr (H.length + 0) 0)] (fun (y:PaUse)=>X4 y a2) (fun (y:PaUse)=>[(.agg (B3 y))]) (fun (y:Bool)=>[.b y]) from ⟨⟨A7,(by rw [List.length_append]; exact (A3 (N5 rfl) A7))⟩,fun H' hle hag c y r hr=>(A1z (A7l (hag _ _ (D7 rfl)) hr)).frz⟩) hx1).frz)<|qm rfl<|es (ra1 rfl)<|C5 ?_
 obtain rfl:=os h
 exact retq trivial (A6 rfl B6) (A4 rfl B5) (A3 A5 A7)
def B04 (a0:PaShow) (a1:(List PaUse)) (x1:(Int × (List Int))) (s4:(Int × (List Int))):Option ((Int × (List Int)) ⊕ (List Int)) :=
 if (decide (s4.1 < (List.length a0.Gowns:Int))) = true then
  (idx a0.Gowns s4.1).bind fun x7 =>
  (if (x7.Pawn && (decide (x7.Last < 364))) = true then
  (A25 (pawn_show.mk a0 (Ar3.mk (pawn_way.mk ) (pawn_way.mk ) (pawn_way.mk )) x1.2) a1 s4.1).bind fun x10 =>
  some (!x10)
  else
  some false).bind fun x11 =>
  if x11 = true then
  (app 8 s4.2 [s4.1]).bind fun x13 =>
  some (.inl ((w64 (s4.1 + 1)),x13))
  else
  some (.inl ((w64 (s4.1 + 1)),s4.2))
 else
  some (.inr s4.2)
def B2n (a0:PaShow) (a1:(List PaUse)):Option ((List Int) × Int) :=
 (A1p a0 a1).bind fun x1 =>
 if (x1.1 == 0) = true then
  (loop (B04 a0 a1 x1) (0,([]:List Int))).bind fun (o14:(List Int)) =>
  some (o14,0)
 else
  some (([]:List Int),x1.1)
theorem C0f {c:Sc} {H:A1} {a0:PaShow} {a1:(List PaUse)} {r:((List Int) × Int)} (h:B2n a0 a1 = some r) :
  E2 tab c H (.fn (.func 24) [] []) [(.agg (B4 a0)),(.seq 3 (List.map B3 a1))] [(.fresh 1 (List.map cI r.1)),.i r.2]:= by
 unfold B2n at h
 refine cE rfl rfl<|sg 0 rfl<|A0 (F0 (cs:=B4 a0) rfl rfl rfl) rfl<|A0 A5k rfl<|qm rfl<|es (ra3 rfl rfl rfl)<|s0<|oB h fun x1 hx1 h=>A0 (D9 rfl rfl rfl) rfl<|qm rfl ?_
 by_cases hc2:(x1.1 == 0) = true
 ·rw [if_pos hc2] at h
  obtain ⟨X3,hX3⟩:=A7s hx1 hc2
  refine O1 (A2m hX3 rfl rfl (A2 (D4 rfl) (A2 rfl C0)) rfl) rfl<|qm rfl<|A0 (A8 rfl rfl) rfl<|A0 (A8 rfl rfl) rfl<|qm rfl<|qm rfl<|es (ra5 rfl rfl rfl rfl rfl)<|C4<|s0<|qm rfl<|A0 (P4 (v:=(.b false)) rfl rfl rfl) rfl<|es (ra6 rfl rfl rfl rfl rfl rfl)<|O9 rfl rfl<|C3<|s0<|qm rfl<|A0 (A16 rfl rfl) rfl<|qm rfl<|es (ra4 rfl rfl rfl rfl)<|C4<|s0<|A0 (B9 rfl) rfl<|A0 (A9 rfl rfl rfl) rfl<|A0 (G4 (f:=B8) rfl) rfl<|qm rfl<|es (ra6 rfl rfl rfl rfl rfl rfl)<|C7<|oB h fun o14 ho14 h=>wl (fun s4=>[(1,(.seq 3 (List.map B3 a1))),(4,(.asl (H.length + 1) (List.length s4.2))),(7,(.fn (.func 68) [(.ptr (H.length + 5) 0)] [])),(22,(.seq 8 (List.map B8 a0.Gowns))),(23,(.i (List.length a0.Gowns:Int))),(24,.i s4.1)]) (fun (q5:Unit) s4=>[(.cells (B4 a0)),(.arr 1 false (List.map cI s4.2)),(.cells (B4 a0)),(.cells (B4 a0)),X3,(.cells [(.seq 8 (List.map B8 a0.Gowns)),(.seq 4 (List.map B2 a0.Figures)),.i a0.Purse,(.seq 2 (List.map D2 a0.Incomes)),(.fn (.func 90) [] []),(.fn (.func 91) [] []),(.fn (.func 92) [] []),(.fn (.func 52) [] []),(.fn (.func 93) [] []),(.fn (.func 94) [] []),(.fn (.func 55) [] []),(.fn (.func 95) [] []),(.fn (.func 96) [] []),(.seq 1 (List.map cI x1.2))])]) 6 (fun r e s' H'=>PX 0 [(4,(.asl (H.length + 1) (List.length r)))] (H++[(.cells (B4 a0)),(.arr 1 false (List.map cI r)),(.cells (B4 a0)),(.cells (B4 a0)),X3,(.cells [(.seq 8 (List.map B8 a0.Gowns)),(.seq 4 (List.map B2 a0.Figures)),.i a0.Purse,(.seq 2 (List.map D2 a0.Incomes)),(.fn (.func 90) [] []),(.fn (.func 91) [] []),(.fn (.func 92) [] []),(.fn (.func 52) [] []),(.fn (.func 93) [] []),(.fn (.func 94) [] []),(.fn (.func 55) [] []),(.fn (.func 95) [] []),(.fn (.func 96) [] []),(.seq 1 (List.map cI x1.2))])]) e s' H') () ho14 rfl rfl (fun _ _=>rfl) (fun _=>rfl) rfl (fun s4=>(bdc M9 (bdc (A1i rfl) (bdc (D3e (A3 (N5 rfl) A7) A7) (bdc M9 (bdc A5 (bdc A5 bdn))))))) (fun q5 s4 ys4 hs4=>?_) ?_
  ·unfold B04 at hs4
   refine s0<|A0 (L5 rfl rfl) rfl<|es (ra7 rfl rfl rfl rfl rfl rfl rfl)<|C4<|wi hs4 rfl (fun hc6 hs4=>?_) fun hc6 hs4=>?_
   ·refine C3<|C4<|C7<|sg 6 rfl<|oB hs4 fun x7 hx7 hs4=>qm rfl<|A0 (F8 (f:=B8) rfl rfl hx7) rfl<|A0 (G0 rfl rfl) rfl<|A0 H9 rfl<|qm rfl<|N7 (E9 (ds:=(B8 x7)) rfl rfl rfl rfl (E1 rfl) rfl) rfl<|es (ra8 rfl rfl rfl rfl rfl rfl rfl rfl)<|s0<|oB hs4 fun x11 hx11 hs4=>A0 (B9 rfl) rfl<|A0 (A9 rfl rfl rfl) rfl<|qm rfl<|gp 4 35 (.b (x7.Pawn && (decide (x7.Last < 364)))) 31 rfl rfl (fun hg8=>?_) (fun hg8=>?_) ?_
    ·exact gT rfl hg8<|A0 (B9 rfl) rfl<|gT rfl hg8<|A0 (A9 rfl rfl rfl) rfl<|gT rfl hg8<|A0 (L5 rfl rfl) rfl<|A0 (C9 rfl hg8 rfl) rfl<|ge 4 (by rw [hg8]; rfl) rfl rfl
    ·exact nT rfl hg8 rfl<|nT rfl hg8 rfl<|nT rfl hg8 rfl<|A0 (C8 rfl hg8 rfl) rfl<|ge 4 (by rw [hg8]; rfl) rfl rfl
    refine qm rfl<|gp 6 42 (.b x11) 36 rfl rfl (fun hg9=>?_) (fun hg9=>?_) ?_
    ·refine oB (bt hx11 hg9) fun x10 hx10 hx11=>?_
     obtain rfl:=os hx11
     exact gT rfl hg9<|qm rfl<|gT rfl hg9<|qm rfl<|gT rfl hg9<|qm rfl<|gT rfl hg9<|C2 (rs:=[.b x10]) rfl rfl (A2 rfl (A2 rfl C0)) ((A1z (A9p (D7 rfl) hx10)).frz)<|gT rfl hg9<|A0 (R0 rfl) rfl<|A0 (C9 rfl hg9 rfl) rfl<|ge 6 rfl rfl rfl
    ·obtain rfl:=os (bf hx11 hg9)
     exact nT rfl hg9 rfl<|nT rfl hg9 rfl<|nT rfl hg9 rfl<|I6 (E6 rfl (by rw [hg9]; rfl)) rfl<|nT rfl hg9 rfl<|A0 (C8 rfl hg9 rfl) rfl<|ge 6 rfl rfl rfl
    refine es (ra8 rfl rfl rfl rfl rfl rfl rfl rfl)<|wi hs4 rfl (fun hc12 hs4=>?_) fun hc12 hs4=>?_
    ·refine r0<|oB hs4 fun x13 hx13 hs4=>qm rfl<|qm rfl<|A0 (J1 (rows:=List.map cI [s4.1]) rfl rfl (E3 (fun _=>rfl) _)) rfl<|O1 (A6d (f:=cI) rfl rfl rfl rfl A6i (fun _=>rfl) hx13) rfl<|qm rfl<|en (ra6 rfl rfl rfl rfl rfl rfl)<|r0<|A0 (F9 rfl rfl) rfl<|qm rfl<|en (ra6 rfl rfl rfl rfl rfl rfl) ?_
     cases hs4
     exact lnT () rfl (su6 rfl rfl rfl rfl rfl rfl)
    ·refine C3<|r0<|A0 (F9 rfl rfl) rfl<|qm rfl<|en (ra6 rfl rfl rfl rfl rfl rfl) ?_
     cases hs4
     exact lnT () rfl (su6 rfl rfl rfl rfl rfl rfl)
   ·refine I7 ?_
    obtain rfl:=os hs4
    exact lx rfl px (su1 rfl)
  ·rintro e s' H' - ⟨rfl,rfl,rfl⟩
   refine s0<|qm rfl<|qm rfl<|qm rfl<|es (ra2 rfl rfl)<|C5 ?_
   obtain rfl:=os h
   exact retq trivial (A6 rfl (A6 rfl B6)) (A4 (A46 rfl (List.length_map _)) (A4 rfl B5)) (A3 X9 (A3 A5 A7))
 ·rw [if_neg hc2] at h
  refine O1 (P7 (rs:=[.lit (.pointer none),.i x1.1]) rfl rfl (A2 (D4 rfl) (A2 rfl C0)) (A7r hx1 (by simpa using hc2)) rfl) rfl<|qm rfl<|A0 (A8 rfl rfl) rfl<|A0 (A8 rfl rfl) rfl<|qm rfl<|qm rfl<|es (ra5 rfl rfl rfl rfl rfl)<|C4<|s0<|qm rfl<|A0 (L6 rfl rfl) rfl<|es (ra6 rfl rfl rfl rfl rfl rfl)<|N2 rfl (nef hc2)<|sg 2 rfl<|qm rfl<|A0 A5k rfl<|qm rfl<|es (ra2 rfl rfl)<|C5 ?_
  obtain rfl:=os h
  exact retq trivial (A6 rfl (A6 rfl B6)) (A4 (A46 rfl (List.length_map _)) (A4 rfl B5)) (A3 X9 (A3 A5 A7))
def A7q (a0:pawn_found) (a1:pawn_found):Option Int :=
 (A50 [(w64 (a0.without_ - a1.without_)),(w64 (a0.short_ - a1.short_))]).bind fun x1 =>
 some x1
theorem B56 {c:Sc} {H:A1} {a0:pawn_found} {a1:pawn_found} {r:Int} (h:A7q a0 a1 = some r) :
  E2 tab c H (.fn (.func 76) [] []) [(.agg (C1 a0)),(.agg (C1 a1))] [.i r]:= by
 unfold A7q at h
 refine cE rfl rfl<|sg 0 rfl<|A0 (F0 (cs:=C1 a0) rfl rfl rfl) rfl<|A0 (F0 (cs:=C1 a1) rfl rfl rfl) rfl<|qm rfl<|es (ra2 rfl rfl)<|s0<|oB h fun x1 hx1 h=>A0 (B9 rfl) rfl<|A0 (A9 rfl rfl rfl) rfl<|A0 (B9 rfl) rfl<|A0 (A9 rfl rfl rfl) rfl<|A0 (W1 rfl rfl) rfl<|A0 (B9 rfl) rfl<|A0 (A9 rfl rfl rfl) rfl<|A0 (B9 rfl) rfl<|A0 (A9 rfl rfl rfl) rfl<|A0 (W1 rfl rfl) rfl<|A0 (J1 (rows:=List.map cI [(w64 (a0.without_ - a1.without_)),(w64 (a0.short_ - a1.short_))]) rfl rfl (E3 (fun _=>rfl) _)) rfl<|C2 (rs:=[.i x1]) rfl rfl (A2 rfl C0) ((A80 hx1).frz)<|qm rfl<|es (ra1 rfl)<|C5 ?_
 obtain rfl:=os h
 exact retq trivial (A6 rfl B6) (A4 rfl B5) (A3 A5 A7)
def B2o (a0:PaShow):Option (Int × Int) :=
 (A02 a0).bind fun x1 =>
 if (x1.1 == 0) = true then
  (C1c (C08 a0 x1.2) A7q).bind fun x4 =>
  if (((!x4.2) || (decide (x4.1.without_ > 0))) || (decide (x4.1.short_ > 10000))) = true then
  some (0,9)
  else
  if (x4.1.short_ == 0) = true then
   some (0,4)
  else
   some (x4.1.short_,0)
 else
  some (0,x1.1)
theorem C0g {c:Sc} {H:A1} (hscv:R2 c H = true) {a0:PaShow} {r:(Int × Int)} (h:B2o a0 = some r) :
  E2 tab c H (.fn (.func 31) [] []) [(.agg (B4 a0))] [.i r.1,.i r.2]:= by
 unfold B2o at h
 refine cE rfl rfl<|sg 0 rfl<|A0 (F0 (cs:=B4 a0) rfl rfl rfl) rfl<|qm rfl<|qm rfl<|es (ra1 rfl)<|s0<|oB h fun x1 hx1 h=>A0 (D9 rfl rfl rfl) rfl ?_
 by_cases hc2:(x1.1 == 0) = true
 ·rw [if_pos hc2] at h
  obtain ⟨X3,hX3⟩:=A09 hx1 hc2
  refine O1 (A2m hX3 rfl rfl (A2 (D4 rfl) C0) rfl) rfl<|qm rfl<|A0 (A8 rfl rfl) rfl<|A0 (A8 rfl rfl) rfl<|qm rfl<|qm rfl<|es (ra2 rfl rfl)<|C4<|s0<|qm rfl<|A0 (P4 (v:=(.b false)) rfl rfl rfl) rfl<|es (ra3 rfl rfl rfl)<|O9 rfl rfl<|C3<|sg 4 rfl<|qm rfl<|A3o (as2:=[(.ptr (H.length + 3) 0)]) (H1:=(H++[(.cells (B4 a0)),(.cells (B4 a0)),X3,(.cells [(.seq 8 (List.map B8 a0.Gowns)),(.seq 4 (List.map B2 a0.Figures)),.i a0.Purse,(.seq 2 (List.map D2 a0.Incomes)),(.fn (.func 90) [] []),(.fn (.func 91) [] []),(.fn (.func 92) [] []),(.fn (.func 52) [] []),(.fn (.func 93) [] []),(.fn (.func 94) [] []),(.fn (.func 55) [] []),(.fn (.func 95) [] []),(.fn (.func 96) [] []),(.seq 1 (List.map cI x1.2))]),.dead])) rfl rfl (A2 rfl C0) rfl rfl rfl (A8e rfl)<|sg 5 rfl<|A0 (F0 (cs:=[(.ptr (H.length + 3) 0)]) rfl rfl rfl) rfl<|qm rfl<|es (ra1 rfl)<|s0<|A0 (A16 rfl rfl) rfl<|qm rfl<|es (ra1 rfl)<|C5<|InlQ.mk trivial ⟨_,_,_,[(.fn (.func 108) [] [(.ptr (H.length + 5) 0)])],_,(A6 rfl B6),(A4 rfl B5),(A8c (S7 (B1s (S7 (A4l rfl)))) (A8b rfl B11)),?_⟩
  refine oB h fun x4 hx4 h=>C2 (rs:=[(.agg (C1 x4.1)),.b x4.2]) rfl rfl (A2 rfl (A2 rfl C0)) (B9o (C8a (t:=a0) (days:=x1.2) (bS:=H.length + 5) (b:=H.length + 3)) (fun h=>(B56 h).frz) (And.intro (D7 rfl) (D7 rfl)) (B7w hscv) hx4)<|qm rfl<|A0 (A8 rfl rfl) rfl<|A0 (A8 rfl rfl) rfl<|A0 H9 rfl<|N7 (E9 (ds:=(C1 x4.1)) rfl rfl rfl rfl (E1 rfl) rfl) rfl<|qm rfl<|es (ra2 rfl rfl)<|C4<|C7<|s0<|qm rfl<|A0 (R0 rfl) rfl<|qm rfl<|gp 4 29 (.b ((!x4.2) || (decide (x4.1.without_ > 0)))) 25 rfl rfl (fun hg5=>?_) (fun hg5=>?_) ?_
  ·exact nF rfl hg5 rfl<|nF rfl hg5 rfl<|nF rfl hg5 rfl<|A0 (C9 rfl hg5 rfl) rfl<|ge 4 (by rw [hg5]; rfl) rfl rfl
  ·exact gF rfl hg5<|A0 (B9 rfl) rfl<|gF rfl hg5<|A0 (A9 rfl rfl rfl) rfl<|gF rfl hg5<|A0 (A0i rfl rfl) rfl<|A0 (C8 rfl hg5 rfl) rfl<|ge 4 (by rw [hg5]; rfl) rfl rfl
  refine qm rfl<|gp 4 34 (.b (((!x4.2) || (decide (x4.1.without_ > 0))) || (decide (x4.1.short_ > 10000)))) 30 rfl rfl (fun hg6=>?_) (fun hg6=>?_) ?_
  ·exact nF rfl hg6 rfl<|nF rfl hg6 rfl<|nF rfl hg6 rfl<|A0 (C9 rfl hg6 rfl) rfl<|ge 4 (by rw [hg6]; rfl) rfl rfl
  ·exact gF rfl hg6<|A0 (B9 rfl) rfl<|gF rfl hg6<|A0 (A9 rfl rfl rfl) rfl<|gF rfl hg6<|A0 (A0i rfl rfl) rfl<|A0 (C8 rfl hg6 rfl) rfl<|ge 4 (by rw [hg6]; rfl) rfl rfl
  refine qm rfl<|es (ra2 rfl rfl)<|wi h rfl (fun hc7 h=>?_) fun hc7 h=>?_
  ·refine s0<|qm rfl<|qm rfl<|es (ra2 rfl rfl)<|C5 ?_
   obtain rfl:=os h
   exact retq trivial (A6 rfl (A6 rfl B6)) (A4 rfl (A4 rfl B5)) (A3 A5 (A3 A5 A7))
  ·refine s0<|A0 (B9 rfl) rfl<|A0 (A9 rfl rfl rfl) rfl<|A0 (G5 rfl rfl) rfl<|qm rfl<|es (ra2 rfl rfl)<|wi h rfl (fun hc8 h=>?_) fun hc8 h=>?_
   ·refine s0<|qm rfl<|qm rfl<|es (ra2 rfl rfl)<|C5 ?_
    obtain rfl:=os h
    exact retq trivial (A6 rfl (A6 rfl B6)) (A4 rfl (A4 rfl B5)) (A3 A5 (A3 A5 A7))
   ·refine C3<|s0<|A0 (B9 rfl) rfl<|A0 (A9 rfl rfl rfl) rfl<|qm rfl<|qm rfl<|es (ra2 rfl rfl)<|C5 ?_
    obtain rfl:=os h
    exact retq trivial (A6 rfl (A6 rfl B6)) (A4 rfl (A4 rfl B5)) (A3 A5 (A3 A5 A7))
 ·rw [if_neg hc2] at h
  refine O1 (P7 (rs:=[.lit (.pointer none),.i x1.1]) rfl rfl (A2 (D4 rfl) C0) (A10 hx1 (by simpa using hc2)) rfl) rfl<|qm rfl<|A0 (A8 rfl rfl) rfl<|A0 (A8 rfl rfl) rfl<|qm rfl<|qm rfl<|es (ra2 rfl rfl)<|C4<|s0<|qm rfl<|A0 (L6 rfl rfl) rfl<|es (ra3 rfl rfl rfl)<|N2 rfl (nef hc2)<|s0<|qm rfl<|qm rfl<|qm rfl<|es (ra2 rfl rfl)<|C5 ?_
  obtain rfl:=os h
  exact retq trivial (A6 rfl (A6 rfl B6)) (A4 rfl (A4 rfl B5)) (A3 A5 (A3 A5 A7))
def A9v (a0:PaShow) (a1:(List PaUse)) (a2:Int):Option (Int × Int) :=
 (A1p a0 a1).bind fun x1 =>
 if (x1.1 == 0) = true then
  (E0 0 364 [a2]).bind fun x4 =>
  if x4 = true then
  some (0,7)
  else
  (P1 (pawn_show.mk a0 (Ar3.mk (pawn_way.mk ) (pawn_way.mk ) (pawn_way.mk )) x1.2) a1 a2).bind fun x6 =>
  some (x6,0)
 else
  some (0,x1.1)
theorem B7k {c:Sc} {H:A1} {a0:PaShow} {a1:(List PaUse)} {a2:Int} {r:(Int × Int)} (h:A9v a0 a1 a2 = some r) :
  E2 tab c H (.fn (.func 20) [] []) [(.agg (B4 a0)),(.seq 3 (List.map B3 a1)),.i a2] [.i r.1,.i r.2]:= by
 unfold A9v at h
 refine cE rfl rfl<|sg 0 rfl<|A0 (F0 (cs:=B4 a0) rfl rfl rfl) rfl<|qm rfl<|qm rfl<|es (ra3 rfl rfl rfl)<|s0<|oB h fun x1 hx1 h=>A0 (D9 rfl rfl rfl) rfl<|qm rfl ?_
 by_cases hc2:(x1.1 == 0) = true
 ·rw [if_pos hc2] at h
  obtain ⟨X3,hX3⟩:=A7s hx1 hc2
  refine O1 (A2m hX3 rfl rfl (A2 (D4 rfl) (A2 rfl C0)) rfl) rfl<|qm rfl<|A0 (A8 rfl rfl) rfl<|A0 (A8 rfl rfl) rfl<|qm rfl<|qm rfl<|es (ra4 rfl rfl rfl rfl)<|C4<|C7<|s0<|qm rfl<|A0 (P4 (v:=(.b false)) rfl rfl rfl) rfl<|qm rfl<|es (ra5 rfl rfl rfl rfl rfl)<|O9 rfl rfl<|s0<|oB h fun x4 hx4 h=>qm rfl<|A0 (J1 (rows:=List.map cI [a2]) rfl rfl (E3 (fun _=>rfl) _)) rfl<|C2 (rs:=[.b x4]) rfl rfl (A2 rfl (A2 rfl (A2 rfl C0))) ((E8 hx4).frz)<|qm rfl<|es (ra4 rfl rfl rfl rfl)<|wi h rfl (fun hc5 h=>?_) fun hc5 h=>?_
  ·refine s0<|qm rfl<|qm rfl<|es (ra2 rfl rfl)<|C5 ?_
   obtain rfl:=os h
   exact retq trivial (A6 rfl (A6 rfl B6)) (A4 rfl (A4 rfl B5)) (A3 A5 (A3 A5 A7))
  ·refine C3<|s0<|oB h fun x6 hx6 h=>qm rfl<|qm rfl<|qm rfl<|O1 (T6 (rs:=[.i x6]) rfl rfl ((A4u (D7 rfl) hx6).frz)) rfl<|qm rfl<|qm rfl<|es (ra2 rfl rfl)<|C5 ?_
   obtain rfl:=os h
   exact retq trivial (A6 rfl (A6 rfl B6)) (A4 rfl (A4 rfl B5)) (A3 A5 (A3 A5 A7))
 ·rw [if_neg hc2] at h
  refine O1 (P7 (rs:=[.lit (.pointer none),.i x1.1]) rfl rfl (A2 (D4 rfl) (A2 rfl C0)) (A7r hx1 (by simpa using hc2)) rfl) rfl<|qm rfl<|A0 (A8 rfl rfl) rfl<|A0 (A8 rfl rfl) rfl<|qm rfl<|qm rfl<|es (ra4 rfl rfl rfl rfl)<|C4<|C7<|s0<|qm rfl<|A0 (L6 rfl rfl) rfl<|qm rfl<|es (ra5 rfl rfl rfl rfl rfl)<|N2 rfl (nef hc2)<|s0<|qm rfl<|qm rfl<|qm rfl<|es (ra2 rfl rfl)<|C5 ?_
  obtain rfl:=os h
  exact retq trivial (A6 rfl (A6 rfl B6)) (A4 rfl (A4 rfl B5)) (A3 A5 (A3 A5 A7))
def A6e (a0:PaShow) (a1:(List PaUse)):Option (Int × Int) :=
 (A1p a0 a1).bind fun x1 =>
 if (x1.1 == 0) = true then
  (N4 (pawn_show.mk a0 (Ar3.mk (pawn_way.mk ) (pawn_way.mk ) (pawn_way.mk )) x1.2) a1).bind fun x4 =>
  if (x4.1 == 0) = true then
  some (0,4)
  else
  some (x4.2,0)
 else
  some (0,x1.1)
theorem A83 {c:Sc} {H:A1} {a0:PaShow} {a1:(List PaUse)} {r:(Int × Int)} (h:A6e a0 a1 = some r) :
  E2 tab c H (.fn (.func 22) [] []) [(.agg (B4 a0)),(.seq 3 (List.map B3 a1))] [.i r.1,.i r.2]:= by
 unfold A6e at h
 refine cE rfl rfl<|sg 0 rfl<|A0 (F0 (cs:=B4 a0) rfl rfl rfl) rfl<|qm rfl<|qm rfl<|es (ra2 rfl rfl)<|s0<|oB h fun x1 hx1 h=>A0 (D9 rfl rfl rfl) rfl<|qm rfl ?_
 by_cases hc2:(x1.1 == 0) = true
 ·rw [if_pos hc2] at h
  obtain ⟨X3,hX3⟩:=A7s hx1 hc2
  refine O1 (A2m hX3 rfl rfl (A2 (D4 rfl) (A2 rfl C0)) rfl) rfl<|qm rfl<|A0 (A8 rfl rfl) rfl<|A0 (A8 rfl rfl) rfl<|qm rfl<|qm rfl<|es (ra3 rfl rfl rfl)<|C4<|s0<|qm rfl<|A0 (P4 (v:=(.b false)) rfl rfl rfl) rfl<|es (ra4 rfl rfl rfl rfl)<|O9 rfl rfl<|C3<|s0<|oB h fun x4 hx4 h=>qm rfl<|qm rfl<|O1 (T6 (rs:=[.i x4.1,.i x4.2]) rfl rfl ((A9q (D7 rfl) hx4).frz)) rfl<|qm rfl<|A0 (A8 rfl rfl) rfl<|A0 (A8 rfl rfl) rfl<|qm rfl<|qm rfl<|es (ra2 rfl rfl)<|C4<|s0<|qm rfl<|A0 (G5 rfl rfl) rfl<|es (ra2 rfl rfl)<|wi h rfl (fun hc5 h=>?_) fun hc5 h=>?_
  ·refine s0<|qm rfl<|qm rfl<|es (ra2 rfl rfl)<|C5 ?_
   obtain rfl:=os h
   exact retq trivial (A6 rfl (A6 rfl B6)) (A4 rfl (A4 rfl B5)) (A3 A5 (A3 A5 A7))
  ·refine C3<|s0<|qm rfl<|qm rfl<|qm rfl<|es (ra2 rfl rfl)<|C5 ?_
   obtain rfl:=os h
   exact retq trivial (A6 rfl (A6 rfl B6)) (A4 rfl (A4 rfl B5)) (A3 A5 (A3 A5 A7))
 ·rw [if_neg hc2] at h
  refine O1 (P7 (rs:=[.lit (.pointer none),.i x1.1]) rfl rfl (A2 (D4 rfl) (A2 rfl C0)) (A7r hx1 (by simpa using hc2)) rfl) rfl<|qm rfl<|A0 (A8 rfl rfl) rfl<|A0 (A8 rfl rfl) rfl<|qm rfl<|qm rfl<|es (ra3 rfl rfl rfl)<|C4<|s0<|qm rfl<|A0 (L6 rfl rfl) rfl<|es (ra4 rfl rfl rfl rfl)<|N2 rfl (nef hc2)<|s0<|qm rfl<|qm rfl<|qm rfl<|es (ra2 rfl rfl)<|C5 ?_
  obtain rfl:=os h
  exact retq trivial (A6 rfl (A6 rfl B6)) (A4 rfl (A4 rfl B5)) (A3 A5 (A3 A5 A7))
def A87 (a0:(List PaUse)) (a1:(List PaUse)) (s2:Int):Option (Int ⊕ (Bool ⊕ Unit)) :=
 if (decide (s2 < (List.length a0:Int))) = true then
  (idx a0 s2).bind fun x5 =>
  (idx a1 s2).bind fun x6 =>
  if (!((x5.Gown == x6.Gown) && ((x5.How == x6.How) && ((x5.Day == x6.Day) && true)))) = true then
  some (.inr (.inl false))
  else
  some (.inl (w64 (s2 + 1)))
 else
  some (.inr (.inr ()))
def A9w (a0:(List PaUse)) (a1:(List PaUse)):Option Bool :=
 if ((List.length a0:Int) != (List.length a1:Int)) = true then
  some false
 else
  (loop (A87 a0 a1) 0).bind fun (o8:(Bool ⊕ Unit)) =>
  match o8 with
  | (.inl vo8_0) =>
  some vo8_0
  | (.inr vo8_1) =>
  some true
theorem B7n {c:Sc} {H:A1} {a0:(List PaUse)} {a1:(List PaUse)} {r:Bool} (h:A9w a0 a1 = some r) :
  E2 tab c H (.fn (.func 28) [] []) [(.seq 3 (List.map B3 a0)),(.seq 3 (List.map B3 a1))] [.b r]:= by
 unfold A9w at h
 refine cE rfl rfl<|s0<|qm rfl<|es (ra2 rfl rfl)<|C4<|s0<|qm rfl<|A0 (G4 (f:=B3) rfl) rfl<|qm rfl<|A0 (G4 (f:=B3) rfl) rfl<|A0 (L6 rfl rfl) rfl<|es (ra3 rfl rfl rfl)<|wi h rfl (fun hc1 h=>?_) fun hc1 h=>?_
 ·refine s0<|qm rfl<|es (ra1 rfl)<|C5 ?_
  obtain rfl:=os h
  exact retq trivial (A6 rfl B6) (A4 rfl B5) (A3 A5 A7)
 ·refine C3<|C4<|s0<|qm rfl<|es (ra3 rfl rfl rfl)<|C7<|oB h fun o8 ho8 h=>wl (fun s2=>[(0,(.seq 3 (List.map B3 a0))),(1,(.seq 3 (List.map B3 a1))),(5,.i s2)]) (fun (q3:Unit) s2=>[]) 0 (fun r e s' H'=>(match r with | (.inl v)=>e = .ret∧RetQ H [.tmp 4] [.b v] e s' H' | (.inr v)=>PX 0 [] (H++[]) e s' H':Prop)) () ho8 rfl rfl (fun _ _=>rfl) (fun _=>rfl) rfl (fun s2=>(bdc M9 (bdc M9 (bdc A5 bdn)))) (fun q3 s2 ys2 hs2=>?_) ?_
  ·unfold A87 at hs2
   refine C4<|s0<|qm rfl<|qm rfl<|A0 (G4 (f:=B3) rfl) rfl<|A0 (L5 rfl rfl) rfl<|es (ra4 rfl rfl rfl rfl)<|wi hs2 rfl (fun hc4 hs2=>?_) fun hc4 hs2=>?_
   ·refine C3<|C4<|C7<|s0<|oB hs2 fun x5 hx5 hs2=>oB hs2 fun x6 hx6 hs2=>qm rfl<|qm rfl<|A0 (F8 (f:=B3) rfl rfl hx5) rfl<|A0 (G0 rfl rfl) rfl<|qm rfl<|qm rfl<|A0 (F8 (f:=B3) rfl rfl hx6) rfl<|A0 (G0 rfl rfl) rfl<|A0 (C9r (a:=B3 x5) (b:=B3 x6) rfl rfl rfl rfl (U2 (U2 (U2 B0c)))) rfl<|es (ra4 rfl rfl rfl rfl)<|wi hs2 rfl (fun hc7 hs2=>?_) fun hc7 hs2=>?_
    ·refine s0<|qm rfl<|es (ra1 rfl)<|C5 ?_
     obtain rfl:=os hs2
     exact lx rfl (And.intro rfl (retq trivial (A6 rfl B6) (A4 rfl B5) (A3 A5 A7))) (Sub.refl _)
    ·refine C3<|r0<|qm rfl<|A0 (F9 rfl rfl) rfl<|qm rfl<|en (ra3 rfl rfl rfl) ?_
     cases hs2
     exact lnT () rfl (su3 rfl rfl rfl)
   ·refine I7 ?_
    obtain rfl:=os hs2
    exact lx rfl px (.nil _)
  ·rcases o8 with vo8_0 | vo8_1
   ·rintro e s' H' - ⟨rfl,hret⟩
    cases h
    exact hret
   ·rintro e s' H' - ⟨rfl,rfl,rfl⟩
    refine s0<|qm rfl<|es (ra1 rfl)<|C5 ?_
    obtain rfl:=os h
    exact retq trivial (A6 rfl B6) (A4 rfl B5) (A3 A5 A7)
end Pw
end
section
set_option maxRecDepth 100000
set_option maxHeartbeats 0
namespace Am
open Go
section
variable {T:Tab} {s:B1} {H0 H:A1} {l:List AO} {c:Sc} {n0 k0:Nat}
theorem C9w {x:Opd} {b r:Nat} {es:List (AV × AV)} (hx:ev s x = some (.mp b)) (hm:hmap (H0++l) b = some es):One T c (H0.length + k0) s (H0++l) (.rangeM x r) (.itr (H0.length + (k0 + r))) (H0++l.set (k0 + r) (.mit b es.length [])) :=
 ⟨0,by simp only [core,prim,hx,hm,Nat.add_assoc,F4]⟩
theorem C68 {H L:A1} {b m n:Nat} {seen:List Nat} {e:AV × AV} {es:List (AV × AV)} (hg:hget H b = some (.mit m n seen)) (hm:hmap H m = some es) (h:A6s H b = some e):A6s (H++L) b = some e:= by
 have h1:hget (H++L) b = some (.mit m n seen):=C6z hg L
 have h2:hmap (H++L) m = some es:= by
  have:m < H.length:= by
   unfold hmap hget at hm
   cases e:H[m]? with
   | none=>rw [e] at hm; cases hm
   | some o=>exact (List.getElem?_eq_some_iff.1 e).1
  unfold hmap hget at hm ⊢
  rw [List.getElem?_append_left this]; exact hm
 unfold A6s at h ⊢
 rw [h1]
 rw [hg] at h
 simp only [h2,hm] at h ⊢
 exact h
theorem D11 {x:Opd} {b:Nat} {e:AV × AV} (hx:ev s x = some (.itr b)) (hm:A6s H b = some e):One T c n0 s H (.entry x) (.tup [e.1,e.2]) H:=⟨0,by simp only [core,prim,hx,hm]⟩
end
end Am
namespace Pw
open Go Am Go.Proofs.YtjpjdglddmhplaaGreat.Cd
abbrev Had:=Ar3 Int
theorem C5v:KeyOk (κ:=Had) true [0,0,0] (fun x=>.agg (C1e cI x)) (fun x=>C1e cI x):=⟨fun _=>rfl,fun _=>rfl,fun a b=>by
 obtain ⟨a1,a2,a3⟩:=a
 obtain ⟨b1,b2,b3⟩:=b
 show F1 [.lit (.int .i64 a1),.lit (.int .i64 a2),.lit (.int .i64 a3)] [.lit (.int .i64 b1),.lit (.int .i64 b2),.lit (.int .i64 b3)] = _
 simp only [C3t,Ar3.mk.injEq]
 by_cases h1:a1 = b1 <;> by_cases h2:a2 = b2 <;> by_cases h3:a3 = b3 <;> simp [h1,h2,h3,F1]⟩
abbrev Met:=List (Had × Int)
def C17 (m:Met):List (AV × AV):=m.map (kE (fun x=>.agg (C1e cI x)) (fun n=>.i n))
def D0k (h:Had) (f:Int):Option Bool :=
 if (!((h.x0 == 0) && ((h.x1 == 0) && ((h.x2 == 0) && true)))) = true then (idx h.l f).bind fun v=>some (decide (v > 0)) else some false
def C57 (f:Int):Met→Option (List Bool)
 | []=>some []
 | e :: l=>(D0k e.1 f).bind fun b=>(C57 f l).bind fun r=>some (b :: r)
def cnt (bs:List Bool) (seen:List Nat):Int:=((seen.filter fun i=>bs.getD i false).length:Int)
def C3p (m:Met) (f:Int):Option Int :=
 if m.length < 4611686018427387904 then (C57 f m).bind fun bs=>some ((bs.filter fun b=>b).length:Int) else none
theorem B88 {f:Int}:∀{m:Met} {bs:List Bool},C57 f m = some bs→bs.length = m.length∧∀ (i:Nat) (e:Had × Int),m[i]? = some e→D0k e.1 f = some (bs.getD i false)
 | [],bs,h=>by cases h; exact ⟨rfl,fun i e he=>by simp at he⟩
 | x :: m,bs,h=>by
  unfold C57 at h
  refine oB h fun b hb h=>oB h fun r hr h=>?_
  obtain rfl:=os h
  obtain ⟨h1,h2⟩:=B88 hr
  refine ⟨by simp [h1],fun i e he=>?_⟩
  cases i with
  | zero=>simp at he; subst he; simpa using hb
  | succ i=>simp at he; simpa using h2 i e he
theorem B0e:∀(bs:List Bool),((List.range bs.length).filter fun i=>bs.getD i false).length = (bs.filter fun b=>b).length
 | []=>rfl
 | b :: bs=>by
  rw [List.length_cons,List.range_succ_eq_map,List.filter_cons,List.filter_map,List.filter_cons]
  have ih:=B0e bs
  have e:(fun i=>(b :: bs).getD i false)∘Nat.succ = fun i=>bs.getD i false:= by funext i; simp
  rw [e]
  cases b <;> simp at ih ⊢ <;> exact ih
theorem D06 {bs:List Bool} {seen:List Nat} (hn:seen.Nodup) (hm:∀j,j ∈ seen↔j < bs.length):cnt bs seen = ((bs.filter fun b=>b).length:Int):= by
 have hp:seen.Perm (List.range bs.length):=(List.perm_ext_iff_of_nodup hn List.nodup_range).mpr fun j=>by rw [hm,List.mem_range]
 unfold cnt
 rw [(hp.filter _).length_eq,B0e]
theorem D3i (bs:List Bool) (seen:List Nat):cnt bs seen≤seen.length:= by
 unfold cnt
 have:=List.length_filter_le (fun i=>bs.getD i false) seen
 omega
theorem C8o (bs:List Bool) (seen:List Nat) (i:Nat):cnt bs (seen++[i]) = cnt bs seen + (if bs.getD i false = true then 1 else 0):= by
 unfold cnt
 rw [List.filter_append,List.length_append,List.filter_cons]
 by_cases h:bs.getD i false = true
 ·rw [if_pos h,if_pos h]; rfl
 ·rw [if_neg h,if_neg h]; simp
theorem B8x:∀(n:Nat) (l:List Nat),l.Nodup→(∀ x ∈ l,x < n)→l.length≤n
 | 0,l,_,h=>by
  cases l with
  | nil=>simp
  | cons x l=>exact absurd (h x (List.mem_cons_self ..)) (Nat.not_lt_zero x)
 | n + 1,l,hd,h=>by
  have h1:=B8x n (l.filter fun x=>x != n) (hd.filter _) fun x hx=>by
   have:=List.mem_filter.mp hx
   have h2:=h x this.1
   have h3:x ≠ n:= by simpa using this.2
   omega
  have h2:(l.filter fun x=>!(x != n)).length≤1:= by
   have hn:(l.filter fun x=>!(x != n)).Nodup:=hd.filter _
   cases hl:l.filter fun x=>!(x != n) with
   | nil=>simp
   | cons a t =>
    cases t with
    | nil=>simp
    | cons b t =>
     rw [hl] at hn
     have ha:a ∈ l.filter fun x=>!(x != n):= by rw [hl]; simp
     have hb:b ∈ l.filter fun x=>!(x != n):= by rw [hl]; simp
     have ea:a = n:= by simpa using (List.mem_filter.mp ha).2
     have eb:b = n:= by simpa using (List.mem_filter.mp hb).2
     subst ea; subst eb
     simp at hn
  have h3:l.length = (l.filter fun x=>x != n).length + (l.filter fun x=>!(x != n)).length:= by
   clear h1 h2 hd h
   induction l with
   | nil=>rfl
   | cons x l ih =>
    rw [List.filter_cons,List.filter_cons]
    cases x != n <;> simp [ih] <;> omega
  omega
theorem D0o {n:Nat} {seen:List Nat} (hn:seen.Nodup) (hm:∀j ∈ seen,j < n):seen.length≤n:=B8x n seen hn hm
def C49:ACode:=(.seq (.cond 69 .skip (.exit 4)) (.block 5 (.s 1 [q 0 70 (.entry 67),EX 1 71 70 0,q 2 14 (.alloc [.lit (.int .i64 0),.lit (.int .i64 0),.lit (.int .i64 0)] [] 0),ST 3 3 14 71] [2,3,8,12,13,14,62,63,67] (.s 0 [LK 0 72 3 14,q 1 73 (.build [.lit (.int .i64 0),.lit (.int .i64 0),.lit (.int .i64 0)] []),q 2 74 (.cmp true [0,0,0] 72 73),M 3 75 74,G 4 76 75 true (.mv 12),G 5 77 75 true (.idxA 1 3 14 76),G 6 78 75 true (.load none 77),G 7 79 75 true (.bin .gtr 78 (.i 0)),q 8 80 (.pick 75 79 (.b false))] [2,3,8,12,13,62,63,67,80] (.cond 80 (.g 0 [M 0 81 13,B 1 82 .add 81 (.i 1),M 2 13 82] [2,3,8,12,13,62,63,67]) .skip)))))
theorem C3q {c:Sc} {Hh:A1} {l m:Nat} {met:Met} {f r:Int} {a2 a3 a8 a62 a63:AV} (hl:hget Hh l = some (.mit m met.length [])) (hm:hmap Hh m = some (C17 met)) (hlm:l ≠ m) (h:C3p met f = some r)
  (hb2:a2.bd Hh.length = true) (hb3:a3.bd Hh.length = true) (hb8:a8.bd Hh.length = true) (hb62:a62.bd Hh.length = true) (hb63:a63.bd Hh.length = true) :
  WP tab (.loopM 67 68 69 [2,3,8,12,13,62,63,67] [2,3,8,12,13,62,63,67] [2,3,8,12,13,62,63] C49) [(2,a2),(3,a3),(8,a8),(12,.i f),(13,.i 0),(62,a62),(63,a63),(67,.itr l)] Hh c
   (fun e s' H'=>e = .exit 4∧s' = [(2,a2),(3,a3),(8,a8),(12,.i f),(13,.i r),(62,a62),(63,a63)]∧H' = hset Hh l .dead):= by
 unfold C3p at h
 split at h
 ·next hlen =>
  refine oB h fun bs hbs h=>?_
  obtain rfl:=os h
  obtain ⟨hbl,hbg⟩:=B88 hbs
  have hlt:l < Hh.length:= by unfold hget at hl; exact (List.getElem?_eq_some_iff.1 hl).1
  have hset0:hset Hh l (.mit m met.length []) = Hh:= by
   unfold hset
   unfold hget at hl
   obtain ⟨h1,h2⟩:=List.getElem?_eq_some_iff.1 hl
   rw [← h2]; exact List.set_getElem_self h1
  have hmm:∀o,hmap (hset Hh l o) m = some (C17 met):=fun o=>by
   rw [← hm]; unfold hmap hget hset; rw [List.getElem?_set_ne hlm]
  have hss:∀o o',hset (hset Hh l o) l o' = hset Hh l o':=fun o o'=>by unfold hset; rw [List.set_set]
  have hgl:∀o,hget (hset Hh l o) l = some o:=fun o=>by unfold hget hset; rw [List.getElem?_set_self hlt]
  have hle:∀o,(hset Hh l o).length = Hh.length:=fun o=>F2 _ _ _
  have key:=C72 (T:=tab) (c:=c) (x:=67) (nx:=68) (ok:=69) (l:=l) (m:=m) (n:=met.length) (live0:=[2,3,8,12,13,62,63,67]) (live:=[2,3,8,12,13,62,63,67]) (liveX:=[2,3,8,12,13,62,63]) (rest:=C49) (es:=C17 met) (e0:=.exit 4)
   (fun seen=>[(2,a2),(3,a3),(8,a8),(12,.i f),(13,.i (cnt bs seen)),(62,a62),(63,a63),(67,.itr l)]) (fun seen=>hset Hh l (.mit m met.length seen)) [(2,a2),(3,a3),(8,a8),(12,.i f),(13,.i ((bs.filter fun b=>b).length:Int)),(62,a62),(63,a63)] (hset Hh l .dead)
   (fun _=>rfl) (by decide) rfl (by decide) (fun _=>rfl) (fun _=>hgl _) (fun _=>hmm _) (by rw [C17,List.length_map,decide_eq_true rfl]; rfl) ?_ ?_ ?_
  ·refine A0h (B3w hset0.symm key) ?_
   rintro e s' H' ⟨h1,h2,h3⟩
   exact ⟨h1,h2,h3⟩
  ·intro seen i hnd hsl hi hni
   rw [hss,hle]
   obtain ⟨e,he⟩:∃e,met[i]? = some e:=⟨_,List.getElem?_eq_getElem hi⟩
   have hpo:=hbg i e he
   have hent:A6s (hset Hh l (.mit m met.length (seen++[i]))) l = some (.agg (C1e cI e.1),.i e.2):= by
    unfold A6s
    simp only [hgl,hmm,C17,List.length_map,if_true,List.getLast?_append,List.getLast?_singleton,Option.some_or,Option.bind_some,List.getElem?_map,he,Option.map_some,kE]
   have hw:w64 (cnt bs seen + 1) = cnt bs seen + 1:= by
    have h1:=D3i bs seen
    have h2:=D0o hnd hsl
    have h3:0≤cnt bs seen:=Int.natCast_nonneg _
    unfold w64 IntKind.wrap
    simp [IntKind.bits,IntKind.signed]
    omega
   have hsn:=C8o bs seen i
   have htk:∀Y:List AO,(hset Hh l (.mit m met.length (seen++[i]))++Y).take Hh.length = hset Hh l (.mit m met.length (seen++[i])):=fun Y=>by
    rw [← hle (.mit m met.length (seen++[i]))]; exact List.take_left
   unfold D0k at hpo
   refine T2<|C4<|N2 rfl rfl<|C3<|C7<|sg 0 rfl<|O1 (D11 rfl (C68 (hgl _) (hmm _) hent)) rfl<|A0 (A8 rfl rfl) rfl<|A0 H9 rfl<|N7 (E9 (ds:=C1e cI e.1) rfl rfl rfl rfl (E1 rfl) rfl) rfl<|es (ra9 rfl rfl rfl rfl rfl rfl rfl rfl rfl)<|s0<|A0 (D9 rfl rfl rfl) rfl<|A0 (P5 (cs:=[.i 0,.i 0,.i 0]) rfl rfl) rfl<|A0 (C9r (a:=C1e cI e.1) (b:=[.i 0,.i 0,.i 0]) rfl rfl rfl rfl (U2 (U2 (U2 B0c)))) rfl<|qm rfl<|gp 5 80 (.b (bs.getD i false)) 75 rfl rfl (fun hc1=>?_) (fun hc1=>?_) ?_
   ·refine oB (bt hpo hc1) fun v hv hpo=>?_
    have hz:=os hpo
    rw [← hz]
    exact gT rfl hc1<|qm rfl<|gT rfl hc1<|A0 (C9s (e:=Ar3.l e.1) rfl rfl rfl hv) rfl<|gT rfl hc1<|A0 (C9u (f:=cI) (g:=fun n=>.i n) (e:=Ar3.l e.1) (fun _=>rfl) rfl (D7 rfl) rfl hv) rfl<|gT rfl hc1<|A0 (A0i rfl rfl) rfl<|A0 (C9 rfl hc1 rfl) rfl<|ge 5 rfl rfl rfl
   ·have hz:=os (bf hpo hc1)
    rw [← hz]
    exact nT rfl hc1 rfl<|nT rfl hc1 rfl<|nT rfl hc1 rfl<|nT rfl hc1 rfl<|A0 (C8 rfl hc1 rfl) rfl<|ge 5 rfl rfl rfl
   ·refine es (ra9 rfl rfl rfl rfl rfl rfl rfl rfl rfl) ?_
    rw [hsn]
    by_cases hbi:bs.getD i false = true
    ·rw [if_pos hbi,← hw]
     refine N2 rfl hbi<|r0<|qm rfl<|A0 (F9 rfl rfl) rfl<|qm rfl<|en (ra8 rfl rfl rfl rfl rfl rfl rfl rfl) ?_
     exact ⟨rfl,su8 rfl rfl rfl rfl rfl rfl rfl rfl,htk _⟩
    ·rw [if_neg hbi,Int.add_zero]
     refine O9 rfl (by simpa using hbi)<|C3 ?_
     exact ⟨rfl,su8 rfl rfl rfl rfl rfl rfl rfl rfl,htk _⟩
  ·intro seen i
   simp only [hle]
   have hbl':(AV.itr l).bd Hh.length = true:= by simp only [AV.bd]; exact Nat.ble_eq_true_of_le hlt
   exact bdc hb2 (bdc hb3 (bdc hb8 (bdc A5 (bdc A5 (bdc hb62 (bdc hb63 (bdc hbl' bdn)))))))
  ·intro seen hnd hall
   refine C4<|O9 rfl rfl<|I7 ?_
   refine ⟨rfl,rfl,?_,⟨_,_,_,hgl _⟩,hss _ _⟩
   rw [← D06 hnd (by rw [hbl]; exact hall)]
   exact su7 rfl rfl rfl rfl rfl rfl rfl
 ·cases h
end Pw
end
section
set_option maxRecDepth 100000
set_option maxHeartbeats 0
namespace Pw
open Go Am Go.Proofs.YtjpjdglddmhplaaGreat.Cd
def A7o (a0:pawn_found) (a1:pawn_found):Option Int :=
 some (w64 (a0.without_ - a1.without_))
theorem B54 {c:Sc} {H:A1} {a0:pawn_found} {a1:pawn_found} {r:Int} (h:A7o a0 a1 = some r) :
  E2 tab c H (.fn (.func 74) [] []) [(.agg (C1 a0)),(.agg (C1 a1))] [.i r]:= by
 unfold A7o at h
 refine cE rfl rfl<|sg 0 rfl<|A0 (F0 (cs:=C1 a0) rfl rfl rfl) rfl<|A0 (F0 (cs:=C1 a1) rfl rfl rfl) rfl<|qm rfl<|es (ra2 rfl rfl)<|s0<|A0 (B9 rfl) rfl<|A0 (A9 rfl rfl rfl) rfl<|A0 (B9 rfl) rfl<|A0 (A9 rfl rfl rfl) rfl<|A0 (W1 rfl rfl) rfl<|qm rfl<|es (ra1 rfl)<|C5 ?_
 obtain rfl:=os h
 exact retq trivial (A6 rfl B6) (A4 rfl B5) (A3 A5 A7)
def D56 (few:pawn_found) (x:pawn_found) (m:Met):Option (Met ⊕ Unit) :=
 (if (x.without_ == few.without_) = true then
  (if (!(kget m x.had_).isSome) = true then some true else some (decide (x.cost_ < (kget m x.had_).getD 0))).bind fun w=>some w
 else some false).bind fun g =>
 if g = true then some (.inl (kset m x.had_ x.cost_)) else some (.inl m)
def C8f (figs:List PaFigure) (m:Met) (s:List Int × List Int × Int):Option ((List Int × List Int × Int) ⊕ (List Int × List Int)) :=
 if (decide (s.2.2 < (List.length figs:Int))) = true then
  (C3p m s.2.2).bind fun n =>
  (if (n == 0) = true then (app 8 s.1 [s.2.2]).bind fun l=>some l else some s.1).bind fun l1 =>
  (if (decide (n < (List.length m:Int))) = true then (app 8 s.2.1 [s.2.2]).bind fun l=>some l else some s.2.1).bind fun l2 =>
  some (.inl (l1,l2,w64 (s.2.2 + 1)))
 else some (.inr (s.1,s.2.1))
def B2m (a0:PaShow):Option (List Int × List Int × Int) :=
 (A02 a0).bind fun x1 =>
 if (x1.1 == 0) = true then
  (C1c (B87 a0 x1.2) A7o).bind fun few =>
  (B87 a0 x1.2 Met Unit (D56 few.1) []).bind fun o =>
  match o with
  | .inl m=>(loop (C8f a0.Figures m) ([],[],0)).bind fun y=>some (y.1,y.2,0)
  | .inr _=>none
 else some ([],[],x1.1)
theorem D5n {H:A1} {l:List AO} {j n:Nat} (h:Nat.ble (j + 1) l.length = true):(AV.asl (H.length + j) n).bd (H++l).length = true:= by rw [List.length_append]; exact A1i h
def A27 (H:A1) (t:PaShow) (X:AO) (days:List Int) (few:pawn_found) (l1 l2:List Int) (m:Met):List AO :=
 [.cells (B4 t),.arr 1 false (l1.map cI),.arr 1 false (l2.map cI),.cells (B4 t),X,.cells (A1y t days),.cells (C1 few),.cells [.ptr (H.length + 5) 0],.map (C17 m),.cells [.mp (H.length + 8)],.cells [.ptr (H.length + 5) 0]]
theorem C0e {c:Sc} {H:A1} (hscv:R2 c H = true) {a0:PaShow} {r:List Int × List Int × Int} (h:B2m a0 = some r) :
  E2 tab c H (.fn (.func 29) [] []) [.agg (B4 a0)] [.fresh 1 (r.1.map cI),.fresh 1 (r.2.1.map cI),.i r.2.2]:= by
 unfold B2m at h
 refine oB h fun x1 hx1 h=>?_
 refine cE rfl rfl<|sg 0 rfl<|A0 (F0 (cs:=B4 a0) rfl rfl rfl) rfl<|A0 A5k rfl<|A0 A5k rfl<|qm rfl<|es (ra3 rfl rfl rfl)<|s0<|A0 (D9 rfl rfl rfl) rfl ?_
 by_cases hc2:(x1.1 == 0) = true
 ·rw [if_pos hc2] at h
  refine oB h fun few hfew h=>oB h fun o ho h=>?_
  obtain ⟨X,hX⟩:=A09 hx1 hc2
  refine O1 (A2m hX rfl rfl (A2 (D4 rfl) C0) rfl) rfl<|qm rfl<|A0 (A8 rfl rfl) rfl<|A0 (A8 rfl rfl) rfl<|qm rfl<|qm rfl<|es (ra5 rfl rfl rfl rfl rfl)<|C4<|s0<|qm rfl<|A0 (L6 rfl rfl) rfl<|es (ra6 rfl rfl rfl rfl rfl rfl)<|O9 rfl rfl<|C3<|sg 6 rfl<|qm rfl<|A3o (as2:=[(.ptr (H.length + 5) 0)]) (H1:=H++[.cells (B4 a0),.arr 1 false [],.arr 1 false [],.cells (B4 a0),X,.cells (A1y a0 x1.2),.dead]) rfl rfl (A2 rfl C0) rfl rfl rfl (A8e rfl)<|sg 7 rfl<|A0 (F0 (cs:=[.ptr (H.length + 5) 0]) rfl rfl rfl) rfl<|qm rfl<|es (ra1 rfl)<|s0<|A0 (A16 rfl rfl) rfl<|qm rfl<|es (ra1 rfl)<|C5<|InlQ.mk trivial ⟨_,_,_,[(.fn (.func 106) [] [(.ptr (H.length + 7) 0)])],_,(A6 rfl B6),(A4 rfl B5),(A8c (S7 (B1s (S7 (A4l rfl)))) (A8b rfl B11)),?_⟩
  refine C2 (rs:=[(.agg (C1 few.1)),.b few.2]) rfl rfl (A2 rfl (A2 rfl C0)) (B9o (C4g (t:=a0) (days:=x1.2) (bS:=H.length + 7) (b:=H.length + 5)) (fun h=>(B54 h).frz) (And.intro (D7 rfl) (D7 rfl)) (B7w hscv) hfew)<|qm rfl<|A0 (A8 rfl rfl) rfl<|A0 (A8 rfl rfl) rfl<|A0 H9 rfl<|N7 (E9 (ds:=(C1 few.1)) rfl rfl rfl rfl (E1 rfl) rfl) rfl<|qm rfl<|es (ra5 rfl rfl rfl rfl rfl) ?_
  refine sg 8 rfl<|A0 D17 rfl<|A0 H9 rfl<|N7 (E9 (ds:=[.mp (H.length + 8)]) rfl rfl rfl rfl (Z8 (Nat.le_add_right _ _)) rfl) rfl<|es (ra6 rfl rfl rfl rfl rfl rfl)<|C4<|s0<|qm rfl<|A3o (as2:=[(.ptr (H.length + 5) 0)]) (H1:=H++[.cells (B4 a0),.arr 1 false [],.arr 1 false [],.cells (B4 a0),X,.cells (A1y a0 x1.2),.cells (C1 few.1),.cells [.ptr (H.length + 5) 0],.map [],.cells [.mp (H.length + 8)]]) rfl rfl (A2 rfl C0) rfl rfl rfl (A8e rfl)<|sg 10 rfl<|A0 (F0 (cs:=[.ptr (H.length + 5) 0]) rfl rfl rfl) rfl<|qm rfl<|es (ra1 rfl)<|s0<|A0 (A16 rfl rfl) rfl<|qm rfl<|es (ra1 rfl)<|C5<|InlQ.mk trivial ⟨_,_,_,[(.fn (.func 106) [] [(.ptr (H.length + 10) 0)])],_,(A6 rfl B6),(A4 rfl B5),(A8c (S7 (B1s (S7 (A4l rfl)))) (A8b rfl B11)),?_⟩
  refine es (ra6 rfl rfl rfl rfl rfl rfl)<|C7 ?_
  have hl11:∀m,(H++A27 H a0 X x1.2 few.1 [] [] m).length = H.length + 11:=fun m=>by rw [List.length_append]; rfl
  refine B1l (it:=B87 a0 x1.2) (sh:=shF) (pre:=B2q a0 x1.2 (H.length + 10) (H.length + 5)) C4g (K:=H.length + 11) [(6,.ptr (H.length + 6) 0),(8,.ptr (H.length + 9) 0)] (fun m=>H++A27 H a0 X x1.2 few.1 [] [] m) (fun (_:Unit)=>H++A27 H a0 X x1.2 few.1 [] [] []) (fun _=>.ret) ho (fun _=>rfl) rfl (fun S hS=>N1 (live:=[6,8]) rfl (by decide) (Sub.trans (su2 rfl rfl) hS)) rfl (fun _=>hl11 _) (fun _=>hl11 _) ⟨fun _ _=>B2q.app ⟨D7 rfl,D7 rfl⟩,fun _ _=>B2q.app ⟨D7 rfl,D7 rfl⟩⟩ (B7w hscv) (fun c' x m o' L v hsc hgr hv hbo y0 y1 hy0 hy1=>?_) ?_
  ·obtain rfl:v = .agg (C1 x):=hv
   have hGl:∀m z,(H++A27 H a0 X x1.2 few.1 [] [] m++z :: L).length = H.length + 11 + 1 + L.length:=fun m z=>by rw [List.length_append,hl11]; simp; omega
   refine T2<|rg 0 rfl<|A0 H9 rfl<|N7 (E9 (ds:=C1 x) rfl rfl rfl rfl (Z8 (by rw [hGl]; exact Nat.le_add_right _ _)) rfl) rfl<|en (ra3 rfl rfl rfl) ⟨rfl,L++[.cells (C1 x)],by simp,?_⟩
   refine B3w (show _ = H++(A27 H a0 X x1.2 few.1 [] [] m++(y1 :: (L++[AO.cells (C1 x)]))) by simp) ?_
   rw [show (AV.ptr ((H++A27 H a0 X x1.2 few.1 [] [] m++y0 :: L).length + (0 + 0)) 0) = .ptr (H.length + 11 + 1 + L.length) 0 by rw [hGl]; rfl]
   have q9:∀m,hcells (H++(A27 H a0 X x1.2 few.1 [] [] m++(y1 :: (L++[AO.cells (C1 x)])))) (H.length + 11 + 1 + L.length) = some (C1 x):=fun m=>by
    rw [show H++(A27 H a0 X x1.2 few.1 [] [] m++(y1 :: (L++[AO.cells (C1 x)]))) = (H++A27 H a0 X x1.2 few.1 [] [] m++y1 :: L)++[AO.cells (C1 x)] by simp,← hGl m y1]
    exact D7 (j:=0) rfl
   have htk:∀m,(H++(A27 H a0 X x1.2 few.1 [] [] m++(y1 :: (L++[AO.cells (C1 x)])))).take (H.length + 11 + 1 + L.length) = H++A27 H a0 X x1.2 few.1 [] [] m++y1 :: L:=fun m=>by
    rw [show H++(A27 H a0 X x1.2 few.1 [] [] m++(y1 :: (L++[AO.cells (C1 x)]))) = (H++A27 H a0 X x1.2 few.1 [] [] m++y1 :: L)++[AO.cells (C1 x)] by simp,← hGl m y1]
    exact List.take_left
   unfold D56 at hbo
   refine oB hbo fun g hg hbo=>?_
   refine C7<|s0<|A0 (A9 (x:=.mp (H.length + 8)) rfl rfl rfl) rfl<|A0 (B9 rfl) rfl<|A0 (A5j (ds:=C1e cI x.had_) rfl (q9 m) rfl rfl) rfl<|A0 (D12 (k:=x.had_) (es:=m) (gv:=fun n=>.i n) (z:=0) C5v rfl (A7d rfl) rfl rfl) rfl<|qm rfl<|A0 (A8 rfl rfl) rfl<|A0 (A8 rfl rfl) rfl<|qm rfl<|qm rfl<|es (ra5 rfl rfl rfl rfl rfl)<|s0<|A0 (B9 rfl) rfl<|A0 (A3d (x:=.i x.without_) rfl (q9 m) rfl) rfl<|A0 (B9 rfl) rfl<|A0 (A9 (x:=.i few.1.without_) rfl rfl rfl) rfl<|A0 (G5 rfl rfl) rfl<|qm rfl<|gp 9 54 (.b g) 45 rfl rfl (fun hc1=>?_) (fun hc1=>?_) ?_
   ·refine oB (bt hg hc1) fun w hw hg=>?_
    obtain rfl:=os hg
    refine gT rfl hc1<|qm rfl<|gT rfl hc1<|A0 (C2e rfl rfl) rfl<|gT rfl hc1<|qm rfl<|gq 5 53 (.b w) 48 rfl rfl (fun hc3=>?_) (fun hc3=>?_) ?_
    ·obtain rfl:=os (bt hw hc3)
     exact nF rfl hc3 rfl<|nF rfl hc3 rfl<|nF rfl hc3 rfl<|nF rfl hc3 rfl<|gT rfl hc1<|A0 (C9 rfl hc3 rfl) rfl<|ge 5 rfl rfl rfl
    ·obtain rfl:=os (bf hw hc3)
     exact gF rfl hc3<|A0 (B9 rfl) rfl<|gF rfl hc3<|A0 (A3d (x:=.i x.cost_) rfl (q9 m) rfl) rfl<|gF rfl hc3<|qm rfl<|gF rfl hc3<|A0 (L5 rfl rfl) rfl<|gT rfl hc1<|A0 (C8 rfl hc3 rfl) rfl<|ge 5 rfl rfl rfl
    ·exact A0 (C9 rfl hc1 rfl) rfl<|ge 5 rfl rfl rfl
   ·obtain rfl:=os (bf hg hc1)
    exact nT rfl hc1 rfl<|nT rfl hc1 rfl<|nT rfl hc1 rfl<|nX rfl rfl<|nX rfl rfl<|nX rfl rfl<|nX rfl rfl<|nT rfl hc1 rfl<|A0 (C8 rfl hc1 rfl) rfl<|ge 9 rfl rfl rfl
   ·refine es (ra3 rfl rfl rfl)<|wi hbo rfl (fun hc4 hbo=>?_) fun hc4 hbo=>?_
    ·cases hbo
     refine r0<|A0 (A9 (x:=.mp (H.length + 8)) rfl rfl rfl) rfl<|A0 (B9 rfl) rfl<|A0 (A5j (ds:=C1e cI x.had_) rfl (q9 m) rfl rfl) rfl<|A0 (B9 rfl) rfl<|A0 (A3d (x:=.i x.cost_) rfl (q9 m) rfl) rfl<|N7 (D13 (k:=x.had_) (v:=x.cost_) (es:=m) (gv:=fun n=>.i n) C5v rfl rfl rfl rfl rfl) rfl<|en .n ⟨rfl,htk _⟩
    ·cases hbo
     exact C3 ⟨rfl,htk _⟩
  ·rcases o with m | m
   ·refine oB h fun y hy h=>?_
    obtain rfl:=os h
    refine B3w (show _ = H++(A27 H a0 X x1.2 few.1 [] [] m++[.dead]) by simp) ?_
    refine C4<|s0<|A0 (B9 rfl) rfl<|A0 (A9 rfl rfl rfl) rfl<|A0 (G4 (f:=B2) rfl) rfl<|qm rfl<|es (ra5 rfl rfl rfl rfl rfl)<|C7<|wl (fun s=>[(2,.asl (H.length + 1) s.1.length),(3,.asl (H.length + 2) s.2.1.length),(8,.ptr (H.length + 9) 0),(62,.i a0.Figures.length),(63,.i s.2.2)]) (fun (_:Unit) s=>A27 H a0 X x1.2 few.1 s.1 s.2.1 m++[.dead]) 12 (fun r e s' H'=>PX 2 [(2,.asl (H.length + 1) r.1.length),(3,.asl (H.length + 2) r.2.length)] (H++(A27 H a0 X x1.2 few.1 r.1 r.2 m++[.dead])) e s' H') () hy rfl rfl (fun _ _=>rfl) (fun _=>rfl) rfl (fun _=>bdc (A1i rfl) (bdc (A1i rfl) (bdc (N5 rfl) (bdc A5 (bdc A5 bdn))))) (fun _ s o hs=>?_) ?_
    ·obtain ⟨l1,l2,i⟩:=s
     unfold C8f at hs
     refine s0<|A0 (L5 rfl rfl) rfl<|es (ra6 rfl rfl rfl rfl rfl rfl)<|C4<|wi hs rfl (fun hc hs=>?_) fun hc hs=>?_
     ·refine oB hs fun n hn hs=>oB hs fun k1 hl1 hs=>oB hs fun k2 hl2 hs=>?_
      simp only at hn hl1 hl2 hs
      refine C3<|C4<|C7<|s0<|qm rfl<|qm rfl<|es (ra6 rfl rfl rfl rfl rfl rfl)<|s0<|qm rfl<|es (ra7 rfl rfl rfl rfl rfl rfl rfl)<|C4<|sg 12 rfl<|A0 (A9 (x:=.mp (H.length + 8)) rfl rfl rfl) rfl<|O1 (C9w rfl (A7d rfl)) rfl<|es (ra8 rfl rfl rfl rfl rfl rfl rfl rfl)<|C7<|A0h (C3q (l:=H.length + 12) (m:=H.length + 8) (met:=m) (f:=i) (r:=n) (by rw [R5]; show some (AO.mit _ (C17 m).length []) = _; rw [C17,List.length_map]) (A7d rfl) (by omega) hn (D5n rfl) (D5n rfl) (by rw [List.length_append]; exact N5 rfl) A5 A5) ?_
      rintro e s' H' ⟨rfl,rfl,rfl⟩
      rw [F4]
      refine C4<|s0<|qm rfl<|A0 (G5 rfl rfl) rfl<|es (ra8 rfl rfl rfl rfl rfl rfl rfl rfl)<|wi hl1 rfl (fun hc5 hl1=>?_) fun hc5 hl1=>?_
      ·refine oB hl1 fun l1' hl1' hl1=>?_
       obtain rfl:=os hl1
       refine r0<|qm rfl<|qm rfl<|A0 (J1 (rows:=List.map cI [i]) rfl rfl (E3 (fun _=>rfl) _)) rfl<|O1 (A6d (f:=cI) (j:=1) rfl rfl rfl rfl A6i (fun _=>rfl) hl1') rfl<|qm rfl<|en (ra7 rfl rfl rfl rfl rfl rfl rfl) ?_
       refine s0<|qm rfl<|A0 (A9 (x:=.mp (H.length + 8)) rfl rfl rfl) rfl<|A0 (C9t (es:=m) rfl (A7d rfl)) rfl<|A0 (L5 rfl rfl) rfl<|es (ra7 rfl rfl rfl rfl rfl rfl rfl)<|wi hl2 rfl (fun hc6 hl2=>?_) fun hc6 hl2=>?_
       ·refine oB hl2 fun l2' hl2' hl2=>?_
        obtain rfl:=os hl2
        refine r0<|qm rfl<|qm rfl<|A0 (J1 (rows:=List.map cI [i]) rfl rfl (E3 (fun _=>rfl) _)) rfl<|O1 (A6d (f:=cI) (j:=2) rfl rfl rfl rfl A6i (fun _=>rfl) hl2') rfl<|qm rfl<|en (ra5 rfl rfl rfl rfl rfl) ?_
        obtain rfl:=os hs
        refine r0<|A0 (F9 rfl rfl) rfl<|qm rfl<|en (ra5 rfl rfl rfl rfl rfl) ?_
        exact lnT () rfl (su5 rfl rfl rfl rfl rfl)
       ·obtain rfl:=os hl2
        obtain rfl:=os hs
        refine C3<|r0<|A0 (F9 rfl rfl) rfl<|qm rfl<|en (ra5 rfl rfl rfl rfl rfl) ?_
        exact lnT () rfl (su5 rfl rfl rfl rfl rfl)
      ·obtain rfl:=os hl1
       refine C3 ?_
       refine s0<|qm rfl<|A0 (A9 (x:=.mp (H.length + 8)) rfl rfl rfl) rfl<|A0 (C9t (es:=m) rfl (A7d rfl)) rfl<|A0 (L5 rfl rfl) rfl<|es (ra7 rfl rfl rfl rfl rfl rfl rfl)<|wi hl2 rfl (fun hc6 hl2=>?_) fun hc6 hl2=>?_
       ·refine oB hl2 fun l2' hl2' hl2=>?_
        obtain rfl:=os hl2
        refine r0<|qm rfl<|qm rfl<|A0 (J1 (rows:=List.map cI [i]) rfl rfl (E3 (fun _=>rfl) _)) rfl<|O1 (A6d (f:=cI) (j:=2) rfl rfl rfl rfl A6i (fun _=>rfl) hl2') rfl<|qm rfl<|en (ra5 rfl rfl rfl rfl rfl) ?_
        obtain rfl:=os hs
        refine r0<|A0 (F9 rfl rfl) rfl<|qm rfl<|en (ra5 rfl rfl rfl rfl rfl) ?_
        exact lnT () rfl (su5 rfl rfl rfl rfl rfl)
       ·obtain rfl:=os hl2
        obtain rfl:=os hs
        refine C3<|r0<|A0 (F9 rfl rfl) rfl<|qm rfl<|en (ra5 rfl rfl rfl rfl rfl) ?_
        exact lnT () rfl (su5 rfl rfl rfl rfl rfl)
     ·refine I7 ?_
      obtain rfl:=os hs
      exact lx rfl px (su2 rfl rfl)
    ·rintro e s' H' - ⟨rfl,rfl,rfl⟩
     refine s0<|qm rfl<|qm rfl<|qm rfl<|qm rfl<|qm rfl<|es (ra3 rfl rfl rfl)<|C5 ?_
     exact retq trivial (A6 rfl (A6 rfl (A6 rfl B6))) (A4 (A46 rfl (List.length_map _)) (A4 (A46 rfl (List.length_map _)) (A4 rfl B5))) (A3 X9 (A3 X9 (A3 A5 A7)))
   ·cases h
 ·rw [if_neg hc2] at h
  obtain rfl:=os h
  refine O1 (P7 (rs:=[.lit (.pointer none),.i x1.1]) rfl rfl (A2 (D4 rfl) C0) (A10 hx1 (by simpa using hc2)) rfl) rfl<|qm rfl<|A0 (A8 rfl rfl) rfl<|A0 (A8 rfl rfl) rfl<|qm rfl<|qm rfl<|es (ra5 rfl rfl rfl rfl rfl)<|C4<|s0<|qm rfl<|A0 (L6 rfl rfl) rfl<|es (ra6 rfl rfl rfl rfl rfl rfl)<|N2 rfl (nef hc2)<|sg 3 rfl<|qm rfl<|A0 A5k rfl<|A0 A5k rfl<|qm rfl<|es (ra3 rfl rfl rfl)<|C5 ?_
  exact retq trivial (A6 rfl (A6 rfl (A6 rfl B6))) (A4 (A46 rfl rfl) (A4 (A46 rfl rfl) (A4 rfl B5))) (A3 X9 (A3 X9 (A3 A5 A7)))
def A4r :Option Bool :=
 (A6b false).bind fun x1 =>
 (A6b true).bind fun x2 =>
 (A1e x1 0 10).bind fun x3 =>
 (Y6 x1 2 2).bind fun x4 =>
 (Y6 x1 2 1).bind fun x5 =>
 (A19 x1 1).bind fun x6 =>
 (A13).bind fun x7 =>
 (A9v x1 x7 45).bind fun x8 =>
 (A13).bind fun x9 =>
 (A6e x1 x9).bind fun x10 =>
 (A13).bind fun x11 =>
 (A6e x2 x11).bind fun x12 =>
 (A8j x1).bind fun x13 =>
 (A8j x2).bind fun x14 =>
 (B2m x2).bind fun x15 =>
 (B2o x2).bind fun x16 =>
 (A13).bind fun x17 =>
 (B2n x1 x17).bind fun x18 =>
 (if ((((((((((((((x3.2 == 0) && (x4.2 == 0)) && (x6.2 == 0)) && (x8.2 == 0)) && (x12.2 == 0)) && (x13.2.2.2 == 0)) && (x14.2.2.2 == 0)) && (x15.2.2 == 0)) && (x16.2 == 0)) && (x18.2 == 0)) && (x5.2 == 9)) && (x10.2 == 4)) && (x3.1 == 110)) && (x4.1 == 48)) = true then
  (V8 x6.1 [0,1,2]).bind fun x33 =>
  some x33
 else
  some false).bind fun x34 =>
 (if ((x34 && (x8.1 == 102)) && (x12.1 == 0)) = true then
  (A1c 0 2 0).bind fun x38 =>
  (A1c 1 0 0).bind fun x39 =>
  (A1c 2 2 0).bind fun x40 =>
  (A9w x13.1 [x38,x39,x40]).bind fun x41 =>
  some x41
 else
  some false).bind fun x42 =>
 (if (((x42 && (x13.2.1 == 0)) && (x13.2.2.1 == 78)) && (x14.2.1 == 2)) = true then
  (V8 x15.1 [0,2]).bind fun x47 =>
  some x47
 else
  some false).bind fun x48 =>
 (if x48 = true then
  (V8 x15.2.1 [0,2]).bind fun x50 =>
  some x50
 else
  some false).bind fun x51 =>
 (if (x51 && (x16.1 == 58)) = true then
  (V8 x18.1 [2]).bind fun x54 =>
  some x54
 else
  some false).bind fun x55 =>
 some x55
theorem B53 {c:Sc} {H:A1} (hscv:R2 c H = true)  {r:Bool} (h:A4r  = some r) :
  E2 tab c H (.fn (.func 19) [] []) [] [.b r]:= by
 unfold A4r at h
 refine cE rfl rfl<|s0<|qm rfl<|es .n<|sg 0 rfl<|oB h fun x1 hx1 h=>oB h fun x2 hx2 h=>C2 (rs:=[(.agg (B4 x1))]) rfl rfl (A2 rfl C0) ((A81 hx1).frz)<|C2 (rs:=[(.agg (B4 x2))]) rfl rfl (A2 rfl C0) ((A81 hx2).frz)<|A0 H9 rfl<|A0 H9 rfl<|N7 (E9 (ds:=(B4 x1)) rfl rfl rfl rfl (E1 rfl) rfl) rfl<|N7 (E9 (ds:=(B4 x2)) rfl rfl rfl rfl (E1 rfl) rfl) rfl<|es (ra2 rfl rfl)<|s0<|oB h fun x3 hx3 h=>A0 (D9 rfl rfl rfl) rfl<|C2 (rs:=[.i x3.1,.i x3.2]) rfl rfl (A2 (D4 rfl) (A2 rfl (A2 rfl C0))) ((A7k hx3).frz)<|qm rfl<|A0 (A8 rfl rfl) rfl<|A0 (A8 rfl rfl) rfl<|qm rfl<|qm rfl<|es (ra4 rfl rfl rfl rfl)<|s0<|oB h fun x4 hx4 h=>A0 (D9 rfl rfl rfl) rfl<|C2 (rs:=[.i x4.1,.i x4.2]) rfl rfl (A2 (D4 rfl) (A2 rfl (A2 rfl C0))) ((A33 hx4).frz)<|qm rfl<|A0 (A8 rfl rfl) rfl<|A0 (A8 rfl rfl) rfl<|qm rfl<|qm rfl<|es (ra6 rfl rfl rfl rfl rfl rfl)<|s0<|oB h fun x5 hx5 h=>A0 (D9 rfl rfl rfl) rfl<|C2 (rs:=[.i x5.1,.i x5.2]) rfl rfl (A2 (D4 rfl) (A2 rfl (A2 rfl C0))) ((A33 hx5).frz)<|qm rfl<|A0 (A8 rfl rfl) rfl<|A0 (A8 rfl rfl) rfl<|qm rfl<|qm rfl<|es (ra7 rfl rfl rfl rfl rfl rfl rfl)<|s0<|oB h fun x6 hx6 h=>A0 (D9 rfl rfl rfl) rfl<|C2 (rs:=[(.seq 1 (List.map cI x6.1)),.i x6.2]) rfl rfl (A2 (D4 rfl) (A2 rfl C0)) ((A84 hx6).frz)<|qm rfl<|A0 (A8 rfl rfl) rfl<|A0 (A8 rfl rfl) rfl<|qm rfl<|qm rfl<|es (ra9 rfl rfl rfl rfl rfl rfl rfl rfl rfl)<|s0<|oB h fun x7 hx7 h=>oB h fun x8 hx8 h=>A0 (D9 rfl rfl rfl) rfl<|Y5 (rs:=[(.seq 3 (List.map B3 x7))]) rfl rfl A36 C0 ((A2l hx7).frz)<|C2 (rs:=[.i x8.1,.i x8.2]) rfl rfl (A2 (D4 rfl) (A2 rfl (A2 rfl C0))) ((B7k hx8).frz)<|qm rfl ?_
 refine A0 (A8 rfl rfl) rfl<|A0 (A8 rfl rfl) rfl<|qm rfl<|qm rfl<|es (ra11 rfl rfl rfl rfl rfl rfl rfl rfl rfl rfl rfl)<|s0<|oB h fun x9 hx9 h=>oB h fun x10 hx10 h=>A0 (D9 rfl rfl rfl) rfl<|Y5 (rs:=[(.seq 3 (List.map B3 x9))]) rfl rfl A36 C0 ((A2l hx9).frz)<|C2 (rs:=[.i x10.1,.i x10.2]) rfl rfl (A2 (D4 rfl) (A2 rfl C0)) ((A83 hx10).frz)<|qm rfl<|A0 (A8 rfl rfl) rfl<|A0 (A8 rfl rfl) rfl<|qm rfl<|qm rfl<|es (ra12 rfl rfl rfl rfl rfl rfl rfl rfl rfl rfl rfl rfl)<|s0<|oB h fun x11 hx11 h=>oB h fun x12 hx12 h=>A0 (D9 rfl rfl rfl) rfl<|Y5 (rs:=[(.seq 3 (List.map B3 x11))]) rfl rfl A36 C0 ((A2l hx11).frz)<|C2 (rs:=[.i x12.1,.i x12.2]) rfl rfl (A2 (D4 rfl) (A2 rfl C0)) ((A83 hx12).frz)<|qm rfl<|A0 (A8 rfl rfl) rfl<|A0 (A8 rfl rfl) rfl<|qm rfl<|qm rfl<|es (ra14 rfl rfl rfl rfl rfl rfl rfl rfl rfl rfl rfl rfl rfl rfl)<|s0<|oB h fun x13 hx13 h=>A0 (D9 rfl rfl rfl) rfl<|C2 (rs:=[(.seq 3 (List.map B3 x13.1)),.i x13.2.1,.i x13.2.2.1,.i x13.2.2.2]) rfl rfl (A2 (D4 rfl) C0) ((B0z (B7w hscv) hx13).frz)<|qm rfl<|A0 (A8 rfl rfl) rfl<|A0 (A8 rfl rfl) rfl<|A0 (A8 rfl rfl) rfl<|A0 (A8 rfl rfl) rfl<|qm rfl<|qm rfl<|qm rfl<|qm rfl<|es (.k rfl (.k rfl (.k rfl (.k rfl (.k rfl (.k rfl (.k rfl (.k rfl (.k rfl (.k rfl (.k rfl (.k rfl (.k rfl (.k rfl (.k rfl (.k rfl (.k rfl (.k rfl .n))))))))))))))))))<|s0<|oB h fun x14 hx14 h=>A0 (D9 rfl rfl rfl) rfl<|C2 (rs:=[(.seq 3 (List.map B3 x14.1)),.i x14.2.1,.i x14.2.2.1,.i x14.2.2.2]) rfl rfl (A2 (D4 rfl) C0) ((B0z (B7w hscv) hx14).frz)<|qm rfl<|A0 (A8 rfl rfl) rfl<|A0 (A8 rfl rfl) rfl<|A0 (A8 rfl rfl) rfl<|A0 (A8 rfl rfl) rfl<|qm rfl<|qm rfl<|qm rfl<|qm rfl<|es (.k rfl (.k rfl (.k rfl (.k rfl (.k rfl (.k rfl (.k rfl (.k rfl (.k rfl (.k rfl (.k rfl (.k rfl (.k rfl (.k rfl (.k rfl (.k rfl (.k rfl (.k rfl (.k rfl (.k rfl .n))))))))))))))))))))<|s0<|oB h fun x15 hx15 h=>A0 (D9 rfl rfl rfl) rfl<|C2 (rs:=[(.seq 1 (List.map cI x15.1)),(.seq 1 (List.map cI x15.2.1)),.i x15.2.2]) rfl rfl (A2 (D4 rfl) C0) ((C0e (B7w hscv) hx15).frz) ?_
 refine qm rfl<|A0 (A8 rfl rfl) rfl<|A0 (A8 rfl rfl) rfl<|A0 (A8 rfl rfl) rfl<|qm rfl<|qm rfl<|qm rfl<|es (.k rfl (.k rfl (.k rfl (.k rfl (.k rfl (.k rfl (.k rfl (.k rfl (.k rfl (.k rfl (.k rfl (.k rfl (.k rfl (.k rfl (.k rfl (.k rfl (.k rfl (.k rfl (.k rfl (.k rfl (.k rfl (.k rfl (.k rfl .n)))))))))))))))))))))))<|s0<|oB h fun x16 hx16 h=>A0 (D9 rfl rfl rfl) rfl<|C2 (rs:=[.i x16.1,.i x16.2]) rfl rfl (A2 (D4 rfl) C0) ((C0g (B7w hscv) hx16).frz)<|qm rfl<|A0 (A8 rfl rfl) rfl<|A0 (A8 rfl rfl) rfl<|qm rfl<|qm rfl<|es (.k rfl (.k rfl (.k rfl (.k rfl (.k rfl (.k rfl (.k rfl (.k rfl (.k rfl (.k rfl (.k rfl (.k rfl (.k rfl (.k rfl (.k rfl (.k rfl (.k rfl (.k rfl (.k rfl (.k rfl (.k rfl (.k rfl (.k rfl (.k rfl .n))))))))))))))))))))))))<|s0<|oB h fun x17 hx17 h=>oB h fun x18 hx18 h=>A0 (D9 rfl rfl rfl) rfl<|Y5 (rs:=[(.seq 3 (List.map B3 x17))]) rfl rfl A36 C0 ((A2l hx17).frz)<|C2 (rs:=[(.seq 1 (List.map cI x18.1)),.i x18.2]) rfl rfl (A2 (D4 rfl) (A2 rfl C0)) ((C0f hx18).frz)<|qm rfl<|A0 (A8 rfl rfl) rfl<|A0 (A8 rfl rfl) rfl<|qm rfl<|qm rfl<|es (.k rfl (.k rfl (.k rfl (.k rfl (.k rfl (.k rfl (.k rfl (.k rfl (.k rfl (.k rfl (.k rfl (.k rfl (.k rfl (.k rfl (.k rfl (.k rfl (.k rfl (.k rfl (.k rfl (.k rfl (.k rfl (.k rfl (.k rfl (.k rfl (.k rfl .n)))))))))))))))))))))))))<|s0<|oB h fun x34 hx34 h=>oB h fun x42 hx42 h=>oB h fun x48 hx48 h=>oB h fun x51 hx51 h=>oB h fun x55 hx55 h=>qm rfl<|A0 (G5 rfl rfl) rfl<|qm rfl<|gp 3 108 (.b ((x3.2 == 0) && (x4.2 == 0))) 105 rfl rfl (fun hg19=>?_) (fun hg19=>?_) ?_
 ·exact gT rfl hg19<|qm rfl<|gT rfl hg19<|A0 (G5 rfl rfl) rfl<|A0 (C9 rfl hg19 rfl) rfl<|ge 3 (by rw [hg19]; rfl) rfl rfl
 ·exact nT rfl hg19 rfl<|nT rfl hg19 rfl<|A0 (C8 rfl hg19 rfl) rfl<|ge 3 (by rw [hg19]; rfl) rfl rfl
 refine qm rfl<|gp 3 112 (.b (((x3.2 == 0) && (x4.2 == 0)) && (x6.2 == 0))) 109 rfl rfl (fun hg20=>?_) (fun hg20=>?_) ?_
 ·exact gT rfl hg20<|qm rfl<|gT rfl hg20<|A0 (G5 rfl rfl) rfl<|A0 (C9 rfl hg20 rfl) rfl<|ge 3 (by rw [hg20]; rfl) rfl rfl
 ·exact nT rfl hg20 rfl<|nT rfl hg20 rfl<|A0 (C8 rfl hg20 rfl) rfl<|ge 3 (by rw [hg20]; rfl) rfl rfl
 refine qm rfl<|gp 3 116 (.b ((((x3.2 == 0) && (x4.2 == 0)) && (x6.2 == 0)) && (x8.2 == 0))) 113 rfl rfl (fun hg21=>?_) (fun hg21=>?_) ?_
 ·exact gT rfl hg21<|qm rfl<|gT rfl hg21<|A0 (G5 rfl rfl) rfl<|A0 (C9 rfl hg21 rfl) rfl<|ge 3 (by rw [hg21]; rfl) rfl rfl
 ·exact nT rfl hg21 rfl<|nT rfl hg21 rfl<|A0 (C8 rfl hg21 rfl) rfl<|ge 3 (by rw [hg21]; rfl) rfl rfl
 refine qm rfl<|gp 3 120 (.b (((((x3.2 == 0) && (x4.2 == 0)) && (x6.2 == 0)) && (x8.2 == 0)) && (x12.2 == 0))) 117 rfl rfl (fun hg22=>?_) (fun hg22=>?_) ?_
 ·exact gT rfl hg22<|qm rfl<|gT rfl hg22<|A0 (G5 rfl rfl) rfl<|A0 (C9 rfl hg22 rfl) rfl<|ge 3 (by rw [hg22]; rfl) rfl rfl
 ·exact nT rfl hg22 rfl<|nT rfl hg22 rfl<|A0 (C8 rfl hg22 rfl) rfl<|ge 3 (by rw [hg22]; rfl) rfl rfl
 refine qm rfl<|gp 3 124 (.b ((((((x3.2 == 0) && (x4.2 == 0)) && (x6.2 == 0)) && (x8.2 == 0)) && (x12.2 == 0)) && (x13.2.2.2 == 0))) 121 rfl rfl (fun hg23=>?_) (fun hg23=>?_) ?_
 ·exact gT rfl hg23<|qm rfl<|gT rfl hg23<|A0 (G5 rfl rfl) rfl<|A0 (C9 rfl hg23 rfl) rfl<|ge 3 (by rw [hg23]; rfl) rfl rfl
 ·exact nT rfl hg23 rfl<|nT rfl hg23 rfl<|A0 (C8 rfl hg23 rfl) rfl<|ge 3 (by rw [hg23]; rfl) rfl rfl
 refine qm rfl<|gp 3 128 (.b (((((((x3.2 == 0) && (x4.2 == 0)) && (x6.2 == 0)) && (x8.2 == 0)) && (x12.2 == 0)) && (x13.2.2.2 == 0)) && (x14.2.2.2 == 0))) 125 rfl rfl (fun hg24=>?_) (fun hg24=>?_) ?_
 ·exact gT rfl hg24<|qm rfl<|gT rfl hg24<|A0 (G5 rfl rfl) rfl<|A0 (C9 rfl hg24 rfl) rfl<|ge 3 (by rw [hg24]; rfl) rfl rfl
 ·exact nT rfl hg24 rfl<|nT rfl hg24 rfl<|A0 (C8 rfl hg24 rfl) rfl<|ge 3 (by rw [hg24]; rfl) rfl rfl
 refine qm rfl<|gp 3 132 (.b ((((((((x3.2 == 0) && (x4.2 == 0)) && (x6.2 == 0)) && (x8.2 == 0)) && (x12.2 == 0)) && (x13.2.2.2 == 0)) && (x14.2.2.2 == 0)) && (x15.2.2 == 0))) 129 rfl rfl (fun hg25=>?_) (fun hg25=>?_) ?_
 ·exact gT rfl hg25<|qm rfl<|gT rfl hg25<|A0 (G5 rfl rfl) rfl<|A0 (C9 rfl hg25 rfl) rfl<|ge 3 (by rw [hg25]; rfl) rfl rfl
 ·exact nT rfl hg25 rfl<|nT rfl hg25 rfl<|A0 (C8 rfl hg25 rfl) rfl<|ge 3 (by rw [hg25]; rfl) rfl rfl
 refine qm rfl<|gp 3 136 (.b (((((((((x3.2 == 0) && (x4.2 == 0)) && (x6.2 == 0)) && (x8.2 == 0)) && (x12.2 == 0)) && (x13.2.2.2 == 0)) && (x14.2.2.2 == 0)) && (x15.2.2 == 0)) && (x16.2 == 0))) 133 rfl rfl (fun hg26=>?_) (fun hg26=>?_) ?_
 ·exact gT rfl hg26<|qm rfl<|gT rfl hg26<|A0 (G5 rfl rfl) rfl<|A0 (C9 rfl hg26 rfl) rfl<|ge 3 (by rw [hg26]; rfl) rfl rfl
 ·exact nT rfl hg26 rfl<|nT rfl hg26 rfl<|A0 (C8 rfl hg26 rfl) rfl<|ge 3 (by rw [hg26]; rfl) rfl rfl
 refine qm rfl<|gp 3 140 (.b ((((((((((x3.2 == 0) && (x4.2 == 0)) && (x6.2 == 0)) && (x8.2 == 0)) && (x12.2 == 0)) && (x13.2.2.2 == 0)) && (x14.2.2.2 == 0)) && (x15.2.2 == 0)) && (x16.2 == 0)) && (x18.2 == 0))) 137 rfl rfl (fun hg27=>?_) (fun hg27=>?_) ?_
 ·exact gT rfl hg27<|qm rfl<|gT rfl hg27<|A0 (G5 rfl rfl) rfl<|A0 (C9 rfl hg27 rfl) rfl<|ge 3 (by rw [hg27]; rfl) rfl rfl
 ·exact nT rfl hg27 rfl<|nT rfl hg27 rfl<|A0 (C8 rfl hg27 rfl) rfl<|ge 3 (by rw [hg27]; rfl) rfl rfl
 refine qm rfl<|gp 3 144 (.b (((((((((((x3.2 == 0) && (x4.2 == 0)) && (x6.2 == 0)) && (x8.2 == 0)) && (x12.2 == 0)) && (x13.2.2.2 == 0)) && (x14.2.2.2 == 0)) && (x15.2.2 == 0)) && (x16.2 == 0)) && (x18.2 == 0)) && (x5.2 == 9))) 141 rfl rfl (fun hg28=>?_) (fun hg28=>?_) ?_
 ·exact gT rfl hg28<|qm rfl<|gT rfl hg28<|A0 (G5 rfl rfl) rfl<|A0 (C9 rfl hg28 rfl) rfl<|ge 3 (by rw [hg28]; rfl) rfl rfl
 ·exact nT rfl hg28 rfl<|nT rfl hg28 rfl<|A0 (C8 rfl hg28 rfl) rfl<|ge 3 (by rw [hg28]; rfl) rfl rfl
 refine qm rfl<|gp 3 148 (.b ((((((((((((x3.2 == 0) && (x4.2 == 0)) && (x6.2 == 0)) && (x8.2 == 0)) && (x12.2 == 0)) && (x13.2.2.2 == 0)) && (x14.2.2.2 == 0)) && (x15.2.2 == 0)) && (x16.2 == 0)) && (x18.2 == 0)) && (x5.2 == 9)) && (x10.2 == 4))) 145 rfl rfl (fun hg29=>?_) (fun hg29=>?_) ?_
 ·exact gT rfl hg29<|qm rfl<|gT rfl hg29<|A0 (G5 rfl rfl) rfl<|A0 (C9 rfl hg29 rfl) rfl<|ge 3 (by rw [hg29]; rfl) rfl rfl
 ·exact nT rfl hg29 rfl<|nT rfl hg29 rfl<|A0 (C8 rfl hg29 rfl) rfl<|ge 3 (by rw [hg29]; rfl) rfl rfl
 refine qm rfl<|gp 3 152 (.b (((((((((((((x3.2 == 0) && (x4.2 == 0)) && (x6.2 == 0)) && (x8.2 == 0)) && (x12.2 == 0)) && (x13.2.2.2 == 0)) && (x14.2.2.2 == 0)) && (x15.2.2 == 0)) && (x16.2 == 0)) && (x18.2 == 0)) && (x5.2 == 9)) && (x10.2 == 4)) && (x3.1 == 110))) 149 rfl rfl (fun hg30=>?_) (fun hg30=>?_) ?_
 ·exact gT rfl hg30<|qm rfl<|gT rfl hg30<|A0 (G5 rfl rfl) rfl<|A0 (C9 rfl hg30 rfl) rfl<|ge 3 (by rw [hg30]; rfl) rfl rfl
 ·exact nT rfl hg30 rfl<|nT rfl hg30 rfl<|A0 (C8 rfl hg30 rfl) rfl<|ge 3 (by rw [hg30]; rfl) rfl rfl
 refine qm rfl<|gp 3 156 (.b ((((((((((((((x3.2 == 0) && (x4.2 == 0)) && (x6.2 == 0)) && (x8.2 == 0)) && (x12.2 == 0)) && (x13.2.2.2 == 0)) && (x14.2.2.2 == 0)) && (x15.2.2 == 0)) && (x16.2 == 0)) && (x18.2 == 0)) && (x5.2 == 9)) && (x10.2 == 4)) && (x3.1 == 110)) && (x4.1 == 48))) 153 rfl rfl (fun hg31=>?_) (fun hg31=>?_) ?_
 ·exact gT rfl hg31<|qm rfl<|gT rfl hg31<|A0 (G5 rfl rfl) rfl<|A0 (C9 rfl hg31 rfl) rfl<|ge 3 (by rw [hg31]; rfl) rfl rfl
 ·exact nT rfl hg31 rfl<|nT rfl hg31 rfl<|A0 (C8 rfl hg31 rfl) rfl<|ge 3 (by rw [hg31]; rfl) rfl rfl
 refine qm rfl<|gp 4 161 (.b x34) 157 rfl rfl (fun hg32=>?_) (fun hg32=>?_) ?_
 ·refine oB (bt hx34 hg32) fun x33 hx33 hx34=>?_
  obtain rfl:=os hx34
  exact gT rfl hg32<|qm rfl<|gT rfl hg32<|A0 (J1 (rows:=List.map cI [0,1,2]) rfl rfl (E3 (fun _=>rfl) _)) rfl<|gT rfl hg32<|C2 (rs:=[.b x33]) rfl rfl (A2 rfl (A2 rfl C0)) ((A0o hx33).frz)<|A0 (C9 rfl hg32 rfl) rfl<|ge 4 rfl rfl rfl
 ·obtain rfl:=os (bf hx34 hg32)
  exact nT rfl hg32 rfl<|nT rfl hg32 rfl<|I6 (E6 rfl (by rw [hg32]; rfl)) rfl<|A0 (C8 rfl hg32 rfl) rfl<|ge 4 rfl rfl rfl
 refine qm rfl<|gp 3 165 (.b (x34 && (x8.1 == 102))) 162 rfl rfl (fun hg35=>?_) (fun hg35=>?_) ?_
 ·exact gT rfl hg35<|qm rfl<|gT rfl hg35<|A0 (G5 rfl rfl) rfl<|A0 (C9 rfl hg35 rfl) rfl<|ge 3 (by rw [hg35]; rfl) rfl rfl
 ·exact nT rfl hg35 rfl<|nT rfl hg35 rfl<|A0 (C8 rfl hg35 rfl) rfl<|ge 3 (by rw [hg35]; rfl) rfl rfl
 refine qm rfl<|gp 3 169 (.b ((x34 && (x8.1 == 102)) && (x12.1 == 0))) 166 rfl rfl (fun hg36=>?_) (fun hg36=>?_) ?_
 ·exact gT rfl hg36<|qm rfl<|gT rfl hg36<|A0 (G5 rfl rfl) rfl<|A0 (C9 rfl hg36 rfl) rfl<|ge 3 (by rw [hg36]; rfl) rfl rfl
 ·exact nT rfl hg36 rfl<|nT rfl hg36 rfl<|A0 (C8 rfl hg36 rfl) rfl<|ge 3 (by rw [hg36]; rfl) rfl rfl
 refine qm rfl<|gp 7 177 (.b x42) 170 rfl rfl (fun hg37=>?_) (fun hg37=>?_) ?_
 ·refine oB (bt hx42 hg37) fun x38 hx38 hx42=>oB hx42 fun x39 hx39 hx42=>oB hx42 fun x40 hx40 hx42=>oB hx42 fun x41 hx41 hx42=>?_
  obtain rfl:=os hx42
  exact gT rfl hg37<|qm rfl<|gT rfl hg37<|C2 (rs:=[(.agg (B3 x38))]) rfl rfl (A2 rfl (A2 rfl (A2 rfl C0))) ((Z9 hx38).frz)<|gT rfl hg37<|C2 (rs:=[(.agg (B3 x39))]) rfl rfl (A2 rfl (A2 rfl (A2 rfl C0))) ((Z9 hx39).frz)<|gT rfl hg37<|C2 (rs:=[(.agg (B3 x40))]) rfl rfl (A2 rfl (A2 rfl (A2 rfl C0))) ((Z9 hx40).frz)<|gT rfl hg37<|A0 (J1 (rows:=List.map B3 [x38,x39,x40]) rfl rfl (E3 (fun _=>rfl) _)) rfl<|gT rfl hg37<|C2 (rs:=[.b x41]) rfl rfl (A2 rfl (A2 rfl C0)) ((B7n hx41).frz)<|A0 (C9 rfl hg37 rfl) rfl<|ge 7 rfl rfl rfl
 ·obtain rfl:=os (bf hx42 hg37)
  exact nT rfl hg37 rfl<|I6 (E6 rfl (by rw [hg37]; rfl)) rfl<|I6 (E6 rfl (by rw [hg37]; rfl)) rfl<|I6 (E6 rfl (by rw [hg37]; rfl)) rfl<|nT rfl hg37 rfl<|I6 (E6 rfl (by rw [hg37]; rfl)) rfl<|A0 (C8 rfl hg37 rfl) rfl<|ge 7 rfl rfl rfl
 refine qm rfl<|gp 3 181 (.b (x42 && (x13.2.1 == 0))) 178 rfl rfl (fun hg43=>?_) (fun hg43=>?_) ?_
 ·exact gT rfl hg43<|qm rfl<|gT rfl hg43<|A0 (G5 rfl rfl) rfl<|A0 (C9 rfl hg43 rfl) rfl<|ge 3 (by rw [hg43]; rfl) rfl rfl
 ·exact nT rfl hg43 rfl<|nT rfl hg43 rfl<|A0 (C8 rfl hg43 rfl) rfl<|ge 3 (by rw [hg43]; rfl) rfl rfl
 refine qm rfl<|gp 3 185 (.b ((x42 && (x13.2.1 == 0)) && (x13.2.2.1 == 78))) 182 rfl rfl (fun hg44=>?_) (fun hg44=>?_) ?_
 ·exact gT rfl hg44<|qm rfl<|gT rfl hg44<|A0 (G5 rfl rfl) rfl<|A0 (C9 rfl hg44 rfl) rfl<|ge 3 (by rw [hg44]; rfl) rfl rfl
 ·exact nT rfl hg44 rfl<|nT rfl hg44 rfl<|A0 (C8 rfl hg44 rfl) rfl<|ge 3 (by rw [hg44]; rfl) rfl rfl
 refine qm rfl<|gp 3 189 (.b (((x42 && (x13.2.1 == 0)) && (x13.2.2.1 == 78)) && (x14.2.1 == 2))) 186 rfl rfl (fun hg45=>?_) (fun hg45=>?_) ?_
 ·exact gT rfl hg45<|qm rfl<|gT rfl hg45<|A0 (G5 rfl rfl) rfl<|A0 (C9 rfl hg45 rfl) rfl<|ge 3 (by rw [hg45]; rfl) rfl rfl
 ·exact nT rfl hg45 rfl<|nT rfl hg45 rfl<|A0 (C8 rfl hg45 rfl) rfl<|ge 3 (by rw [hg45]; rfl) rfl rfl
 refine qm rfl<|gp 4 194 (.b x48) 190 rfl rfl (fun hg46=>?_) (fun hg46=>?_) ?_
 ·refine oB (bt hx48 hg46) fun x47 hx47 hx48=>?_
  obtain rfl:=os hx48
  exact gT rfl hg46<|qm rfl<|gT rfl hg46<|A0 (J1 (rows:=List.map cI [0,2]) rfl rfl (E3 (fun _=>rfl) _)) rfl<|gT rfl hg46<|C2 (rs:=[.b x47]) rfl rfl (A2 rfl (A2 rfl C0)) ((A0o hx47).frz)<|A0 (C9 rfl hg46 rfl) rfl<|ge 4 rfl rfl rfl
 ·obtain rfl:=os (bf hx48 hg46)
  exact nT rfl hg46 rfl<|nT rfl hg46 rfl<|I6 (E6 rfl (by rw [hg46]; rfl)) rfl<|A0 (C8 rfl hg46 rfl) rfl<|ge 4 rfl rfl rfl
 refine qm rfl<|gp 4 199 (.b x51) 195 rfl rfl (fun hg49=>?_) (fun hg49=>?_) ?_
 ·refine oB (bt hx51 hg49) fun x50 hx50 hx51=>?_
  obtain rfl:=os hx51
  exact gT rfl hg49<|qm rfl<|gT rfl hg49<|A0 (J1 (rows:=List.map cI [0,2]) rfl rfl (E3 (fun _=>rfl) _)) rfl<|gT rfl hg49<|C2 (rs:=[.b x50]) rfl rfl (A2 rfl (A2 rfl C0)) ((A0o hx50).frz)<|A0 (C9 rfl hg49 rfl) rfl<|ge 4 rfl rfl rfl
 ·obtain rfl:=os (bf hx51 hg49)
  exact nT rfl hg49 rfl<|nT rfl hg49 rfl<|I6 (E6 rfl (by rw [hg49]; rfl)) rfl<|A0 (C8 rfl hg49 rfl) rfl<|ge 4 rfl rfl rfl
 refine qm rfl<|gp 3 203 (.b (x51 && (x16.1 == 58))) 200 rfl rfl (fun hg52=>?_) (fun hg52=>?_) ?_
 ·exact gT rfl hg52<|qm rfl<|gT rfl hg52<|A0 (G5 rfl rfl) rfl<|A0 (C9 rfl hg52 rfl) rfl<|ge 3 (by rw [hg52]; rfl) rfl rfl
 ·exact nT rfl hg52 rfl<|nT rfl hg52 rfl<|A0 (C8 rfl hg52 rfl) rfl<|ge 3 (by rw [hg52]; rfl) rfl rfl
 refine qm rfl<|gp 4 208 (.b x55) 204 rfl rfl (fun hg53=>?_) (fun hg53=>?_) ?_
 ·refine oB (bt hx55 hg53) fun x54 hx54 hx55=>?_
  obtain rfl:=os hx55
  exact gT rfl hg53<|qm rfl<|gT rfl hg53<|A0 (J1 (rows:=List.map cI [2]) rfl rfl (E3 (fun _=>rfl) _)) rfl<|gT rfl hg53<|C2 (rs:=[.b x54]) rfl rfl (A2 rfl (A2 rfl C0)) ((A0o hx54).frz)<|A0 (C9 rfl hg53 rfl) rfl<|ge 4 rfl rfl rfl
 ·obtain rfl:=os (bf hx55 hg53)
  exact nT rfl hg53 rfl<|nT rfl hg53 rfl<|I6 (E6 rfl (by rw [hg53]; rfl)) rfl<|A0 (C8 rfl hg53 rfl) rfl<|ge 4 rfl rfl rfl
 refine qm rfl<|es (ra1 rfl)<|C5 ?_
 obtain rfl:=os h
 exact retq trivial (A6 rfl B6) (A4 rfl B5) (A3 A5 A7)
def Z7 (a0:PaShow) (a1:law04_Asked):Option Bool :=
 (A04 a0).bind fun x1 =>
 (U8 a0).bind fun x2 =>
 if (((x1.1 != x2.1) || (x1.2.1 != x2.2.1)) || (x1.2.2 != x2.2.2)) = true then
  some false
 else
  (A1e a0 a1.Gown a1.Day).bind fun x6 =>
  (A1s a0 a1.Gown a1.Day).bind fun x7 =>
  if ((x6.1 != x7.1) || (x6.2 != x7.2)) = true then
  some false
  else
  (Y6 a0 a1.Gown a1.Figure).bind fun x10 =>
  (A1r a0 a1.Gown a1.Figure).bind fun x11 =>
  if ((x10.1 != x11.1) || (x10.2 != x11.2)) = true then
   some false
  else
   (A19 a0 a1.Figure).bind fun x14 =>
   (A2w a0 a1.Figure).bind fun x15 =>
   (V8 x14.1 x15.1).bind fun x16 =>
   (if (x16 && (x14.2 == x15.2)) = true then
   (A4r).bind fun x19 =>
   some x19
   else
   some false).bind fun x20 =>
   some x20
theorem A8s {c:Sc} {H:A1} (hscv:R2 c H = true) {a0:PaShow} {a1:law04_Asked} {r:Bool} (h:Z7 a0 a1 = some r) :
  E2 tab c H (.fn (.func 3) [] []) [(.agg (B4 a0)),(.agg (A2i a1))] [.b r]:= by
 unfold Z7 at h
 refine cE rfl rfl<|sg 0 rfl<|A0 (F0 (cs:=B4 a0) rfl rfl rfl) rfl<|A0 (F0 (cs:=A2i a1) rfl rfl rfl) rfl<|qm rfl<|es (ra2 rfl rfl)<|s0<|oB h fun x1 hx1 h=>A0 (D9 rfl rfl rfl) rfl<|C2 (rs:=[.i x1.1,.i x1.2.1,.i x1.2.2]) rfl rfl (A2 (D4 rfl) C0) ((A44 hx1).frz)<|qm rfl<|A0 (A8 rfl rfl) rfl<|A0 (A8 rfl rfl) rfl<|A0 (A8 rfl rfl) rfl<|qm rfl<|qm rfl<|qm rfl<|es (ra5 rfl rfl rfl rfl rfl)<|s0<|oB h fun x2 hx2 h=>A0 (D9 rfl rfl rfl) rfl<|C2 (rs:=[.i x2.1,.i x2.2.1,.i x2.2.2]) rfl rfl (A2 (D4 rfl) C0) ((A1o hx2).frz)<|qm rfl<|A0 (A8 rfl rfl) rfl<|A0 (A8 rfl rfl) rfl<|A0 (A8 rfl rfl) rfl<|qm rfl<|qm rfl<|qm rfl<|es (ra8 rfl rfl rfl rfl rfl rfl rfl rfl)<|C4<|s0<|qm rfl<|qm rfl<|A0 (L6 rfl rfl) rfl<|qm rfl<|gp 4 32 (.b ((x1.1 != x2.1) || (x1.2.1 != x2.2.1))) 28 rfl rfl (fun hg3=>?_) (fun hg3=>?_) ?_
 ·exact nF rfl hg3 rfl<|nF rfl hg3 rfl<|nF rfl hg3 rfl<|A0 (C9 rfl hg3 rfl) rfl<|ge 4 (by rw [hg3]; rfl) rfl rfl
 ·exact gF rfl hg3<|qm rfl<|gF rfl hg3<|qm rfl<|gF rfl hg3<|A0 (L6 rfl rfl) rfl<|A0 (C8 rfl hg3 rfl) rfl<|ge 4 (by rw [hg3]; rfl) rfl rfl
 refine qm rfl<|gp 4 37 (.b (((x1.1 != x2.1) || (x1.2.1 != x2.2.1)) || (x1.2.2 != x2.2.2))) 33 rfl rfl (fun hg4=>?_) (fun hg4=>?_) ?_
 ·exact nF rfl hg4 rfl<|nF rfl hg4 rfl<|nF rfl hg4 rfl<|A0 (C9 rfl hg4 rfl) rfl<|ge 4 (by rw [hg4]; rfl) rfl rfl
 ·exact gF rfl hg4<|qm rfl<|gF rfl hg4<|qm rfl<|gF rfl hg4<|A0 (L6 rfl rfl) rfl<|A0 (C8 rfl hg4 rfl) rfl<|ge 4 (by rw [hg4]; rfl) rfl rfl
 refine es (ra3 rfl rfl rfl)<|wi h rfl (fun hc5 h=>?_) fun hc5 h=>?_
 ·refine s0<|qm rfl<|es (ra1 rfl)<|C5 ?_
  obtain rfl:=os h
  exact retq trivial (A6 rfl B6) (A4 rfl B5) (A3 A5 A7)
 ·refine C3<|s0<|oB h fun x6 hx6 h=>A0 (D9 rfl rfl rfl) rfl<|A0 (B9 rfl) rfl<|A0 (A9 rfl rfl rfl) rfl<|A0 (B9 rfl) rfl<|A0 (A9 rfl rfl rfl) rfl<|C2 (rs:=[.i x6.1,.i x6.2]) rfl rfl (A2 (D4 rfl) (A2 rfl (A2 rfl C0))) ((A7k hx6).frz)<|qm rfl<|A0 (A8 rfl rfl) rfl<|A0 (A8 rfl rfl) rfl<|qm rfl<|qm rfl<|es (ra4 rfl rfl rfl rfl)<|s0<|oB h fun x7 hx7 h=>A0 (D9 rfl rfl rfl) rfl<|A0 (B9 rfl) rfl<|A0 (A9 rfl rfl rfl) rfl<|A0 (B9 rfl) rfl<|A0 (A9 rfl rfl rfl) rfl<|C2 (rs:=[.i x7.1,.i x7.2]) rfl rfl (A2 (D4 rfl) (A2 rfl (A2 rfl C0))) ((B39 hx7).frz)<|qm rfl<|A0 (A8 rfl rfl) rfl<|A0 (A8 rfl rfl) rfl<|qm rfl<|qm rfl<|es (ra6 rfl rfl rfl rfl rfl rfl)<|C4<|s0<|qm rfl<|qm rfl<|A0 (L6 rfl rfl) rfl<|qm rfl<|gp 4 63 (.b ((x6.1 != x7.1) || (x6.2 != x7.2))) 59 rfl rfl (fun hg8=>?_) (fun hg8=>?_) ?_
  ·exact nF rfl hg8 rfl<|nF rfl hg8 rfl<|nF rfl hg8 rfl<|A0 (C9 rfl hg8 rfl) rfl<|ge 4 (by rw [hg8]; rfl) rfl rfl
  ·exact gF rfl hg8<|qm rfl<|gF rfl hg8<|qm rfl<|gF rfl hg8<|A0 (L6 rfl rfl) rfl<|A0 (C8 rfl hg8 rfl) rfl<|ge 4 (by rw [hg8]; rfl) rfl rfl
  refine es (ra3 rfl rfl rfl)<|wi h rfl (fun hc9 h=>?_) fun hc9 h=>?_
  ·refine s0<|qm rfl<|es (ra1 rfl)<|C5 ?_
   obtain rfl:=os h
   exact retq trivial (A6 rfl B6) (A4 rfl B5) (A3 A5 A7)
  ·refine C3<|s0<|oB h fun x10 hx10 h=>A0 (D9 rfl rfl rfl) rfl<|A0 (B9 rfl) rfl<|A0 (A9 rfl rfl rfl) rfl<|A0 (B9 rfl) rfl<|A0 (A9 rfl rfl rfl) rfl<|C2 (rs:=[.i x10.1,.i x10.2]) rfl rfl (A2 (D4 rfl) (A2 rfl (A2 rfl C0))) ((A33 hx10).frz)<|qm rfl<|A0 (A8 rfl rfl) rfl<|A0 (A8 rfl rfl) rfl<|qm rfl<|qm rfl<|es (ra4 rfl rfl rfl rfl)<|s0<|oB h fun x11 hx11 h=>A0 (D9 rfl rfl rfl) rfl<|A0 (B9 rfl) rfl<|A0 (A9 rfl rfl rfl) rfl<|A0 (B9 rfl) rfl<|A0 (A9 rfl rfl rfl) rfl<|C2 (rs:=[.i x11.1,.i x11.2]) rfl rfl (A2 (D4 rfl) (A2 rfl (A2 rfl C0))) ((B38 hx11).frz)<|qm rfl<|A0 (A8 rfl rfl) rfl<|A0 (A8 rfl rfl) rfl<|qm rfl<|qm rfl<|es (ra6 rfl rfl rfl rfl rfl rfl)<|C4<|s0<|qm rfl<|qm rfl<|A0 (L6 rfl rfl) rfl<|qm rfl<|gp 4 89 (.b ((x10.1 != x11.1) || (x10.2 != x11.2))) 85 rfl rfl (fun hg12=>?_) (fun hg12=>?_) ?_
   ·exact nF rfl hg12 rfl<|nF rfl hg12 rfl<|nF rfl hg12 rfl<|A0 (C9 rfl hg12 rfl) rfl<|ge 4 (by rw [hg12]; rfl) rfl rfl
   ·exact gF rfl hg12<|qm rfl<|gF rfl hg12<|qm rfl<|gF rfl hg12<|A0 (L6 rfl rfl) rfl<|A0 (C8 rfl hg12 rfl) rfl<|ge 4 (by rw [hg12]; rfl) rfl rfl
   refine es (ra3 rfl rfl rfl)<|wi h rfl (fun hc13 h=>?_) fun hc13 h=>?_
   ·refine s0<|qm rfl<|es (ra1 rfl)<|C5 ?_
    obtain rfl:=os h
    exact retq trivial (A6 rfl B6) (A4 rfl B5) (A3 A5 A7)
   ·refine C3<|s0<|oB h fun x14 hx14 h=>A0 (D9 rfl rfl rfl) rfl<|A0 (B9 rfl) rfl<|A0 (A9 rfl rfl rfl) rfl<|C2 (rs:=[(.seq 1 (List.map cI x14.1)),.i x14.2]) rfl rfl (A2 (D4 rfl) (A2 rfl C0)) ((A84 hx14).frz)<|qm rfl<|A0 (A8 rfl rfl) rfl<|A0 (A8 rfl rfl) rfl<|qm rfl<|qm rfl<|es (ra4 rfl rfl rfl rfl)<|s0<|oB h fun x15 hx15 h=>A0 (D9 rfl rfl rfl) rfl<|A0 (B9 rfl) rfl<|A0 (A9 rfl rfl rfl) rfl<|C2 (rs:=[(.seq 1 (List.map cI x15.1)),.i x15.2]) rfl rfl (A2 (D4 rfl) (A2 rfl C0)) (B6a hx15)<|qm rfl<|A0 (A8 rfl rfl) rfl<|A0 (A8 rfl rfl) rfl<|qm rfl<|qm rfl<|es (ra4 rfl rfl rfl rfl)<|s0<|oB h fun x16 hx16 h=>oB h fun x20 hx20 h=>qm rfl<|qm rfl<|C2 (rs:=[.b x16]) rfl rfl (A2 rfl (A2 rfl C0)) ((A0o hx16).frz)<|qm rfl<|gp 4 111 (.b (x16 && (x14.2 == x15.2))) 107 rfl rfl (fun hg17=>?_) (fun hg17=>?_) ?_
    ·exact gT rfl hg17<|qm rfl<|gT rfl hg17<|qm rfl<|gT rfl hg17<|A0 (G5 rfl rfl) rfl<|A0 (C9 rfl hg17 rfl) rfl<|ge 4 (by rw [hg17]; rfl) rfl rfl
    ·exact nT rfl hg17 rfl<|nT rfl hg17 rfl<|nT rfl hg17 rfl<|A0 (C8 rfl hg17 rfl) rfl<|ge 4 (by rw [hg17]; rfl) rfl rfl
    refine qm rfl<|gp 2 114 (.b x20) 112 rfl rfl (fun hg18=>?_) (fun hg18=>?_) ?_
    ·refine oB (bt hx20 hg18) fun x19 hx19 hx20=>?_
     obtain rfl:=os hx20
     exact gT rfl hg18<|C2 (rs:=[.b x19]) rfl rfl C0 ((B53 (B7w hscv) hx19).frz)<|A0 (C9 rfl hg18 rfl) rfl<|ge 2 rfl rfl rfl
    ·obtain rfl:=os (bf hx20 hg18)
     exact I6 (E6 rfl (by rw [hg18]; rfl)) rfl<|A0 (C8 rfl hg18 rfl) rfl<|ge 2 rfl rfl rfl
    refine qm rfl<|es (ra1 rfl)<|C5 ?_
    obtain rfl:=os h
    exact retq trivial (A6 rfl B6) (A4 rfl B5) (A3 A5 A7)
end Pw
end
section
set_option maxRecDepth 100000
namespace Pw
theorem awake:A4r = some true:= by decide +kernel
end Pw
end
section
set_option maxRecDepth 10000
namespace Pw
open Go Am
theorem C66:∀l n:Fin 16,A2u ⟨ByteArray.empty,(l.val:Int),false,0,0,0,0,0⟩ ⟨ByteArray.empty,0,0,(n.val:Int)⟩ = some (Z4 (n.val:Int) (l.val:Int) == 0):= by decide +kernel
theorem C0o {g:PaGown} (hg:GwOk g) {y:PaFigure} (hy:FgOk y):A2u g y = some (B0s g y):= by
 have h1:=hg.looks
 have h2:=hy.needs
 have:=C66 ⟨g.Looks.toNat,by omega⟩ ⟨y.Needs.toNat,by omega⟩
 simp only at this
 rw [Int.toNat_of_nonneg h1.1,Int.toNat_of_nonneg h2.1] at this
 exact this
theorem C2u (g:PaGown) (x:PaUse):A39 g x = some (A6r g x):= by
 unfold A39 A6r
 cases g.Pawn
 ·simp
 ·simp only [A21,Option.bind_some]
  generalize out 0 364 x.Day = b
  cases b <;> cases x.How == 2 && x.Day == 0 <;> cases x.How == 1 <;> rfl
theorem C4m {s:PaShow} (hs:ShOk s) {f:Int} (hf:0≤f∧f < s.Figures.length) (x:PaUse):A5o s f x = some (A26 s.Gowns s.Figures[f.toNat]! x):= by
 have hG:=hs.gowns
 unfold A5o A26
 by_cases hx:x.Gown = -1
 ·rw [if_pos (by simp [hx]),if_pos hx]
  by_cases hb:x.How = 0∧x.Day = 0
  ·rw [if_pos hb,if_neg (by simp [hb.1,hb.2])]
  ·rw [if_neg hb,if_pos (by simp; omega)]
 ·rw [if_neg (by simp [hx]),if_neg hx,J8 (by omega),A21]
  simp only [Option.bind_some,Bool.not_not]
  cases ho:out 0 ((s.Gowns.length:Int) - 1) x.Gown with
  | true=>rfl
  | false =>
   have hg:=N0.mp ho
   simp only [Bool.false_eq_true,if_false]
   rw [A0x (l:=s.Gowns) hg.1 (by omega),A0x (l:=s.Figures) hf.1 hf.2]
   have hok:=hs.gown _ (P2 (l:=s.Gowns) (i:=x.Gown.toNat) (by omega))
   have hok2:=hs.figure _ (P2 (l:=s.Figures) (i:=f.toNat) (by omega))
   generalize s.Gowns[x.Gown.toNat]! = g at hok
   generalize s.Figures[f.toNat]! = y at hok2
   simp only [Option.bind_some]
   rw [C2u,C0o hok hok2]
   simp only [Option.bind_some]
   unfold B3a
   cases A6r g x
   ·rfl
   ·cases ((x.How == 1 && (decide (x.Day > g.Last) || decide (x.Day > y.Day))) || (x.How == 2 && decide (y.Until > g.Last)))
    ·cases B0s g y <;> rfl
    ·rfl
theorem C0p {g:PaGown} (h:GwOk g) {day:Int} (hd:0≤day∧day≤364):A2v g day = some (price g day):= by
 have:=A9l h ⟨ByteArray.empty,0,0,0⟩ hd
 rw [← this]
 unfold A2v V5
 rw [Int.add_comm (w64 (Int.tdiv (w64 (g.Ago + day)) 30)) 1]
theorem C4l {g:PaGown} (h:GwOk g) {f:PaFigure} (hf:FgOk f):A8l g f = some (B5c g f):=B45 h hf 0
theorem B7t (s:PaShow) (g d:Int):A1s s g d = some (if A8k s g d = 0 then price s.Gowns[g.toNat]! d else 0,A8k s g d):= by
 unfold A1s A0d
 rw [A1v]
 simp only [Option.bind_some]
 unfold A8k
 by_cases h:(chk s).2.2 = 0
 ·have hs:=(A29 s).mp h
  have hle:=hs.gowns
  simp only [h,ne_eq,not_true,if_false,BEq.rfl,if_true]
  rw [J8 (by omega),A21,show w64 ((1:Int) - 1) = 0 from rfl,A21]
  simp only [Option.bind_some,Bool.not_not,out00]
  cases ho:out 0 ((s.Gowns.length:Int) - 1) g with
  | true=>rfl
  | false =>
   have hg:=N0.mp ho
   simp only [Bool.false_eq_true,if_false]
   have hi:=A0x (l:=s.Gowns) hg.1 (by omega)
   have hok:=hs.gown _ (P2 (l:=s.Gowns) (i:=g.toNat) (by omega))
   rw [hi]
   simp only [Option.bind_some]
   generalize s.Gowns[g.toNat]! = y at hok
   cases hp:y.Pawn with
   | false=>rfl
   | true =>
    simp only [A21,Option.bind_some]
    cases hd:out 0 364 d with
    | true=>rfl
    | false =>
     by_cases hl:d > y.Last
     ·simp [hl]
     ·have hl':decide (d > y.Last) = false:= by simpa using hl
      rw [C0p hok (N0.mp hd),hl',if_neg hl]
      rfl
 ·have h':((chk s).2.2 == 0) = false:= by simpa using h
  simp only [h',Bool.false_eq_true,if_false,Option.bind_some]
  rw [if_pos (by simpa using h),if_pos h,if_neg h]
theorem B7s (s:PaShow) (g f:Int):A1r s g f = some (if A75 s g f = 0 then B5c s.Gowns[g.toNat]! s.Figures[f.toNat]! else 0,A75 s g f):= by
 unfold A1r A0d
 rw [A1v]
 simp only [Option.bind_some]
 unfold A75
 by_cases h:(chk s).2.2 = 0
 ·have hs:=(A29 s).mp h
  have hle:=hs.gowns
  have hle2:=hs.figures
  simp only [h,ne_eq,not_true,if_false,BEq.rfl,if_true]
  rw [J8 (by omega),A21,J8 (by omega),A21]
  simp only [Option.bind_some,Bool.not_not]
  cases ho:out 0 ((s.Gowns.length:Int) - 1) g with
  | true=>rfl
  | false =>
   cases ho2:out 0 ((s.Figures.length:Int) - 1) f with
   | true=>rfl
   | false =>
    have hg:=N0.mp ho
    have hf:=N0.mp ho2
    simp only [Bool.false_eq_true,if_false,Option.bind_some,Bool.or_self]
    rw [A0x (l:=s.Gowns) hg.1 (by omega),A0x (l:=s.Figures) hf.1 (by omega)]
    have hok:=hs.gown _ (P2 (l:=s.Gowns) (i:=g.toNat) (by omega))
    have hok2:=hs.figure _ (P2 (l:=s.Figures) (i:=f.toNat) (by omega))
    simp only [Option.bind_some]
    generalize s.Gowns[g.toNat]! = y at hok
    generalize s.Figures[f.toNat]! = z at hok2
    cases hp:y.Pawn with
    | false=>rfl
    | true =>
     by_cases hl:z.Until > y.Last
     ·simp [hl]
     ·rw [C4l hok hok2]
      simp [hl]
 ·have h':((chk s).2.2 == 0) = false:= by simpa using h
  simp only [h',Bool.false_eq_true,if_false,Option.bind_some]
  rw [if_pos (by simpa using h),if_pos h,if_neg h]
def B9e (s:PaShow) (f:Int) (g:Int):Bool:=A26 s.Gowns s.Figures[f.toNat]! ⟨g,0,0⟩ == 0 || (A26 s.Gowns s.Figures[f.toNat]! ⟨g,1,0⟩ == 0 || A26 s.Gowns s.Figures[f.toNat]! ⟨g,2,0⟩ == 0)
def W8 (s:PaShow) (f:Int):Nat→List Int
 | 0=>[]
 | n + 1=>if B9e s f (n:Int) then W8 s f n++[(n:Int)] else W8 s f n
theorem A8q (s:PaShow) (f:Int):∀n,(W8 s f n).length≤n
 | 0=>Nat.le_refl _
 | n + 1=>by
  have:=A8q s f n
  unfold W8
  split
  ·simp; omega
  ·omega
theorem D0u {s:PaShow} (hs:ShOk s) {f:Int} (hf:0≤f∧f < s.Figures.length) {i:Nat} (hi:i < s.Gowns.length):loop (A0s s f (0,A6p s) ((i:Int),W8 s f i)) 0 = some (if B9e s f i then .inl (W8 s f i++[(i:Int)]) else .inr ()):= by
 have hG:=hs.gowns
 have hlen:=A8q s f i
 rw [B0u 3 (fun h=>if A26 s.Gowns s.Figures[f.toNat]! ⟨(i:Int),(h:Int),0⟩ == 0 then some (.inl (W8 s f i++[(i:Int)])) else none) (.inr ()) (by omega) (fun h hh _=>by
  unfold A0s
  rw [if_pos (by simp; omega)]
  have:=D0x hs (A6p s) hf ⟨(i:Int),(h:Int),0⟩
  rw [D0w] at this
  rw [show (pawn_show.mk s (Ar3.mk (pawn_way.mk ) (pawn_way.mk ) (pawn_way.mk )) (0,A6p s).2) = shw s (A6p s) from rfl,this]
  simp only [Option.bind_some]
  rw [B40 (by omega) (by simp; omega)]
  cases A26 s.Gowns s.Figures[f.toNat]! ⟨(i:Int),(h:Int),0⟩ == 0 <;> rfl) (by
  unfold A0s
  rw [if_neg (by simp)])]
 unfold B9e
 simp only [first]
 rw [show ((0:Nat):Int) = 0 from rfl,show (((0 + 1:Nat)):Int) = 1 from rfl,show (((0 + 1 + 1:Nat)):Int) = 2 from rfl]
 cases A26 s.Gowns s.Figures[f.toNat]! ⟨(i:Int),0,0⟩ == 0 <;> cases A26 s.Gowns s.Figures[f.toNat]! ⟨(i:Int),1,0⟩ == 0 <;> cases A26 s.Gowns s.Figures[f.toNat]! ⟨(i:Int),2,0⟩ == 0 <;> rfl
theorem C0r {s:PaShow} (hs:ShOk s) {f:Int} (hf:0≤f∧f < s.Figures.length) {i:Nat} (hi:i < s.Gowns.length):loop (Z3 s f ((i:Int),W8 s f i)) 0 = some (W8 s f (i + 1)):= by
 have hG:=hs.gowns
 have hlen:=A8q s f i
 rw [B0u 3 (fun h=>if A26 s.Gowns s.Figures[f.toNat]! ⟨(i:Int),(h:Int),0⟩ == 0 then some (W8 s f i++[(i:Int)]) else none) (W8 s f i) (by omega) (fun h hh _=>by
  unfold Z3
  rw [if_pos (by simp; omega)]
  rw [C4m hs hf]
  simp only [Option.bind_some]
  rw [B40 (by omega) (by simp; omega)]
  cases A26 s.Gowns s.Figures[f.toNat]! ⟨(i:Int),(h:Int),0⟩ == 0 <;> rfl) (by
  unfold Z3
  rw [if_neg (by simp)])]
 rw [show W8 s f (i + 1) = if B9e s f i then W8 s f i++[(i:Int)] else W8 s f i from rfl]
 generalize W8 s f i = acc
 unfold B9e
 simp only [first]
 rw [show ((0:Nat):Int) = 0 from rfl,show (((0 + 1:Nat)):Int) = 1 from rfl,show (((0 + 1 + 1:Nat)):Int) = 2 from rfl]
 cases A26 s.Gowns s.Figures[f.toNat]! ⟨(i:Int),0,0⟩ == 0 <;> cases A26 s.Gowns s.Figures[f.toNat]! ⟨(i:Int),1,0⟩ == 0 <;> cases A26 s.Gowns s.Figures[f.toNat]! ⟨(i:Int),2,0⟩ == 0 <;> rfl
def A70 (s:PaShow) (f:Int):Int:=if (chk s).2.2 ≠ 0 then (chk s).2.2 else if out 0 ((s.Figures.length:Int) - 1) f then 4 else 0
theorem D0t (s:PaShow) (hb:NB s) (f:Int):A19 s f = some (if A70 s f = 0 then W8 s f s.Gowns.length else [],A70 s f):= by
 unfold A19
 rw [B0a s hb]
 simp only [Option.bind_some]
 unfold A70
 by_cases h:(chk s).2.2 = 0
 ·have hs:=(A29 s).mp h
  have hle:=hs.gowns
  have hle2:=hs.figures
  simp only [h,if_true,ne_eq,not_true,if_false,BEq.rfl]
  rw [J8 (by omega),out1]
  simp only [Option.bind_some]
  cases ho:out 0 ((s.Figures.length:Int) - 1) f with
  | true=>rfl
  | false =>
   have hf:=N0.mp ho
   simp only [Bool.false_eq_true,if_false,if_true]
   rw [show ((0:Int),([]:List Int)) = (((0:Nat):Int),W8 s f 0) from rfl]
   rw [A3z (fun i=>((i:Int),W8 s f i)) s.Gowns.length (r:=W8 s f s.Gowns.length) (by omega) (fun i hi=>by
    unfold A2n
    rw [if_pos (by simpa using hi),D0u hs (by omega) hi,J8 (by simp only; omega)]
    simp only [Option.bind_some,W8]
    cases B9e s f i <;> rfl) (by
    unfold A2n
    rw [if_neg (by simp)])]
   rfl
 ·rw [if_neg h,if_neg (by simpa using h),if_pos h,if_neg h]
theorem C0q (s:PaShow) (f:Int):A2w s f = some (if A70 s f = 0 then W8 s f s.Gowns.length else [],A70 s f):= by
 unfold A2w
 rw [A1v]
 simp only [Option.bind_some]
 unfold A70
 by_cases h:(chk s).2.2 = 0
 ·have hs:=(A29 s).mp h
  have hle:=hs.gowns
  have hle2:=hs.figures
  simp only [h,if_true,ne_eq,not_true,if_false,BEq.rfl]
  rw [J8 (by omega),A21]
  simp only [Option.bind_some,Bool.not_not]
  cases ho:out 0 ((s.Figures.length:Int) - 1) f with
  | true=>rfl
  | false =>
   have hf:=N0.mp ho
   simp only [Bool.false_eq_true,if_false,if_true]
   rw [show ((0:Int),([]:List Int)) = (((0:Nat):Int),W8 s f 0) from rfl]
   rw [A3z (fun i=>((i:Int),W8 s f i)) s.Gowns.length (r:=W8 s f s.Gowns.length) (by omega) (fun i hi=>by
    unfold A1t
    rw [if_pos (by simpa using hi),C0r hs (by omega) hi,J8 (by simp only; omega)]
    rfl) (by
    unfold A1t
    rw [if_neg (by simp)])]
   rfl
 ·have h':((chk s).2.2 == 0) = false:= by simpa using h
  simp only [h',Bool.false_eq_true,if_false,Option.bind_some]
  rw [if_pos (by simpa using h),if_pos h,if_neg h]
theorem C65 (l:List Int) (hl:l.length < 9223372036854775807):V8 l l = some true:= by
 unfold V8
 rw [show ((l.length:Int) == (l.length:Int)) = true by simp]
 rw [show ((true,0):Bool × Int) = (true,((0:Nat):Int)) from rfl,A3z (b:=A0t l l) (fun i=>(true,(i:Int))) l.length (r:=true) (by omega) (fun i hi=>by
  unfold A0t
  simp only []
  rw [if_pos (by simpa using hi),O6 hi,J8 (by omega)]
  simp) (by
  unfold A0t
  rw [if_neg (by simp)])]
 rfl
theorem B4b {s:PaShow} {x:law04_Asked} (hb:NB s) (_:True):Z7 s x = some true:= by
 unfold Z7
 rw [C0y s hb,A1v,C7o s hb,B7t,C6k s hb,B7s,D0t s hb,C0q,awake]
 have hlen:(if A70 s x.Figure = 0 then W8 s x.Figure s.Gowns.length else []).length < 9223372036854775807:= by
  split
  ·next h =>
   have:=A8q s x.Figure s.Gowns.length
   unfold A70 at h
   split at h
   ·next h2=>exact absurd h h2
   ·next h2 =>
    have:=((A29 s).mp (by simpa using h2)).gowns
    omega
  ·simp
 simp only [Option.bind_some]
 rw [C65 _ hlen]
 simp
end Pw
end
