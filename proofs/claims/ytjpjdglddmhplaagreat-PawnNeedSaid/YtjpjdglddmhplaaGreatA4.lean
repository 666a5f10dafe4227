/- Texts that the claim stands on, one behind another. -/
import Derived.Test.YtjpjdglddmhplaaGreatA3
import Derived.ChangeArms
import Derived.ChangeReads
import Derived.OpenShut
import Derived.WideShapes
set_option linter.unusedVariables false
set_option linter.unusedSimpArgs false
set_option linter.unnecessarySimpa false
open Classical renaming choose→Z5f
open List renaming getElem?_append_left→ZF,getElem?_append_right→ZI,getElem?_eq_getElem→Zm,getElem?_eq_some_iff→Ze,length_append→Zo,length_cons→ZT,length_map→Zi,length_range→Z1q,mem_range→Z1s,range→Z04
open Nat renaming zero_le→Z2p
open Option renaming bind_eq_some_iff→Zs,map_eq_some_iff→Zz
open Option.some renaming inj→Z0b
section
namespace Am
open Go
inductive Sh where
 | int (k:IntKind)
 | bool
 | str
 | seq (k:Nat) (l:List Sh)
mutual
def Sat:Sh→AV→Prop
 | .int k,x=>∃ n,x=.lit (.int k n)∧(Lit.int k n).wf=true
 | .bool,x=>∃ b,x=.lit (.bool b)
 | .str,x=>∃ s:ByteArray,x=.lit (.string s)∧s.size≤maxLen
 | .seq k l,x=>∃ rows:List (List AV),x=.seq k rows∧rows.length≤maxLen∧∀ r∈rows,SatL l r
def SatL:List Sh→List AV→Prop
 | [],r=>r=[]
 | s::l,r=>∃ x q,r=x::q∧Sat s x∧SatL l q
end
theorem SatL.len:∀{l:List Sh} {r:List AV},SatL l r→r.length=l.length
 | [],r,h=>by simp only[SatL]at h;rw[h];rfl
 | s::l,r,h=>by
  simp only[SatL]at h
  obtain⟨x,q,rfl,_,hq⟩:=h
  rw[ZT,ZT,hq.len]
theorem SatL.app:∀{l m:List Sh} {r q:List AV},SatL l r→SatL m q→SatL (l++m) (r++q)
 | [],m,r,q,h,hq=>by simp only[SatL]at h;rw[h];exact hq
 | s::l,m,r,q,h,hq=>by
  simp only[SatL]at h
  obtain⟨x,u,rfl,hx,hu⟩:=h
  show SatL (s::(l++m)) (x::(u++q))
  simp only[SatL]
  exact⟨x,u++q,Z,hx,hu.app hq⟩
def lay (P:Program):List (Field×List Sh)→Nat→Option (List Sh)
 | [],_=>some []
 | (f,l)::r,off=>if f.offset=off∧l.length=P.cellsOf f.type then (lay P r (off+l.length)).map (l++·) else none
def D53 (P:Program):Nat→TypeId→Option (List Sh)
 | 0,_=>none
 | n+1,t=>match P.underlying t with
  | some (.int k)=>some [.int k]
  | some .bool=>some [.bool]
  | some .string=>some [.str]
  | some (.slice e)=>(D53 P n e).bind fun l=>if l.length=P.cellsOf e∧0<l.length then some [.seq l.length l] else none
  | some (.struct fs)=>(fs.toList.mapM fun f=>(D53 P n f.type).map fun l=>(f,l)).bind fun xs=>(lay P xs 0).bind fun l=>if l.length=P.cellsOf t then some l else none
  | _=>none
def Cells (Φ:Nat→Nat→Option Value) (l:List Sh) (cs:List Value):Prop :=
 ∃ r:List AV,SatL l r∧r.length=cs.length∧∀ (j:Nat) (x:AV),r[j]? = some x→∃ v,cs[j]? = some v∧Den Φ x v∧v.oneCell'=true
theorem Cells.app {Φ:Nat→Nat→Option Value} {l m:List Sh} {cs ds:List Value} (h:Cells Φ l cs) (k:Cells Φ m ds):Cells Φ (l++m) (cs++ds):= by
 obtain⟨r,h1,h2,h3⟩:=h
 obtain⟨q,k1,k2,k3⟩:=k
 refine⟨r++q,h1.app k1,by rw[Zo,Zo,h2,k2],?_⟩
 intro j x hx
 by_cases c:j<r.length
 ·rw[ZF c]at hx
  obtain⟨v,e,hv⟩:=h3 j x hx
  exact⟨v,by rw[ZF (by omega)];exact e,hv⟩
 ·rw[ZI (by omega)]at hx
  obtain⟨v,e,hv⟩:=k3 _ x hx
  exact⟨v,by rw[ZI (by omega),← h2];exact e,hv⟩
theorem Cells.one {Φ:Nat→Nat→Option Value} {s:Sh} {x:AV} {v:Value} (h:Sat s x) (hd:Den Φ x v) (h1:v.oneCell'=true):Cells Φ [s] [v]:= by
 refine⟨[x],by simp only[SatL];exact⟨x,[],Z,h,Z⟩,Z,?_⟩
 intro j y hy
 match j with
 | 0=>exact⟨v,Z,by have:x=y:= by simpa using hy
                   subst this;exact⟨hd,h1⟩⟩
 | j+1=>simp at hy
theorem C4m {P:Program} {Φ:Nat→Nat→Option Value}:∀(xs:List (Field×List Sh)) (off:Nat) (l:List Sh) (cs:List Value),
  lay P xs off=some l→(∀ x∈xs,Cells Φ x.2 ((cs.drop x.1.offset).take (P.cellsOf x.1.type)))→off≤cs.length→Cells Φ l ((cs.drop off).take l.length)
 | [],off,l,cs,h,_,_=>by
  obtain rfl:=Z0b h
  exact⟨[],Z,by simp,by simp⟩
 | (f,m)::xs,off,l,cs,h,hx,ho=>by
  unfold lay at h
  split at h
  ·rename_i hc
   obtain⟨q,hq,rfl⟩:=Zz.mp h
   have h1:=hx (f,m) (List.mem_cons_self ..)
   simp only[]at h1
   rw[hc.1,← hc.2]at h1
   have hlen:((cs.drop off).take m.length).length=m.length:= by
    obtain⟨r,h2,h3,_⟩:=h1
    rw[← h3,h2.len]
   rw[List.length_take,List.length_drop]at hlen
   have h2:=C4m xs (off+m.length) q cs hq (fun x hx'=>hx x (List.mem_cons_of_mem _ hx')) (by omega)
   have e:(cs.drop off).take (m++q).length=(cs.drop off).take m.length++(cs.drop (off+m.length)).take q.length:= by
    rw[Zo,List.take_add,List.drop_drop]
   rw[e]
   exact h1.app h2
  ·exact absurd h (by simp)
theorem C88 {α β:Type} {f:α→Option β}:∀{l:List α} {r:List β},l.mapM f=some r→∀ (i:Nat) y,r[i]? = some y→∃ x,l[i]? = some x∧f x=some y
 | [],r,h,i,y,hy=>by
  have:r=[]:= by simpa using h.symm
  subst this;simp at hy
 | a::l,r,h,i,y,hy=>by
  rw[List.mapM_cons]at h
  obtain⟨b,hb,h⟩:=Zs.mp h
  obtain⟨q,hq,h⟩:=Zs.mp h
  obtain rfl:=Z0b h
  match i with
  | 0=>exact⟨a,Z,by rw[hb];simpa using hy⟩
  | i+1=>exact C88 hq i y (by simpa using hy)
theorem D57 {W:World} {a:Addr} {v:Value} (h:W.cell? a=some v):a.spot=none:= by
 unfold World.cell? at h
 split at h
 ·split at h
  ·exact absurd h (by simp)
  ·rename_i hn
   cases hs:a.spot with
   | none=>rfl
   | some x=>rw[hs]at hn;exact absurd Z hn
 ·exact absurd h (by simp)
theorem D6i {a:Addr} (h:a.spot=none) (n:Nat):a.add n=⟨a.block,a.off+n,none⟩:= by
 unfold Addr.add
 split
 ·rename_i e
  subst e
  cases a;simp only at h;subst h;rfl
 ·rfl
theorem C06 {H:Type} {enc:TypeId×Value→H} {P:Program} {W:World} {base:Nat} {sp:Nat→Bool} {held:Bool}:∀(n:Nat) (t:TypeId) (l:List Sh) (cs:List Value) (fuel:Nat) (x:DataW H×List MemPlace),
  D53 P n t=some l→DataW.trod enc P W base sp held fuel t cs=some x→Cells (fun β o=>W.cell? ⟨β,o,none⟩) l cs∧cs.length=l.length
 | 0,_,_,_,_,_,h,_=>absurd h (by simp[D53])
 | n+1,t,l,cs,fuel,x,h,hx=>by
  unfold D53 at h
  split at h
  ·rename_i k hu
   obtain rfl:=Z0b h
   obtain⟨m,rfl,_,hw⟩:=DataW.trod_int hu hx
   exact⟨Cells.one (x:=.lit (.int k m)) (by simp only[Sat];exact⟨m,Z,hw⟩) (.lit _ Z) Z,Z⟩
  ·rename_i hu
   obtain rfl:=Z0b h
   obtain⟨m,rfl,_⟩:=DataW.trod_bool hu hx
   exact⟨Cells.one (x:=.lit (.bool m)) (by simp only[Sat];exact⟨m,Z⟩) (.lit _ Z) Z,Z⟩
  ·rename_i hu
   obtain rfl:=Z0b h
   obtain⟨m,rfl,_,hw⟩:=DataW.trod_string hu hx
   exact⟨Cells.one (x:=.lit (.string m)) (by simp only[Sat];exact⟨m,Z,hw⟩) (.lit _ Z) Z,Z⟩
  ·rename_i e hu
   obtain⟨m,hm,h⟩:=Zs.mp h
   split at h
   ·rename_i hc
    obtain rfl:=Z0b h
    rcases DataW.trod_slice hu hx with⟨rfl,_⟩|⟨a,len,cap,elems,rest,n',_,rfl,_,hb,hlc,hcm,hel,hcell,_,_⟩
    ·exact⟨Cells.one (x:=.seq m.length []) (by simp only[Sat];exact⟨[],Z,Z2p _,by simp⟩) (.seq0 _ _ _) Z,Z⟩
    ·cases len with
     | zero=>exact⟨Cells.one (x:=.seq m.length []) (by simp only[Sat];exact⟨[],Z,Z2p _,by simp⟩) (.seq0 _ _ _) Z,Z⟩
     | succ len0 =>
     have each0:∀i,i<len0+1→∃ ci:List Value,W.cells? base (a.add (i*P.cellsOf e)) (P.cellsOf e)=some ci∧Cells (fun β o=>W.cell? ⟨β,o,none⟩) m ci∧ci.length=m.length:= by
      intro i hi
      have h1:=hcell i hi
      rw[Zm (by omega)]at h1
      obtain⟨ci,hci,h2⟩:=Zs.mp h1
      have:=C06 n e m ci _ _ hm h2
      exact⟨ci,hci,this.1,this.2⟩
     have hs:a.spot=none:= by
      obtain⟨ci,hci,_,hl⟩:=each0 0 (by omega)
      obtain⟨_,_,hk⟩:=World.cells?_some hci
      have h0:=hk 0 (by omega)
      rw[Zm (by omega)]at h0
      have e0:(a.add (0*P.cellsOf e)).add 0=a:= by simp[Addr.add]
      rw[e0]at h0
      exact D57 h0
     have each:∀i,i<len0+1→∃ r:List AV,SatL m r∧r.length=m.length∧∀ (j:Nat) (x:AV),r[j]? = some x→∃ v,W.cell? ⟨a.block,a.off+(i*m.length+j),none⟩=some v∧Den (fun β o=>W.cell? ⟨β,o,none⟩) x v:= by
      intro i hi
      obtain⟨ci,hci,⟨r,hr1,hr2,hr3⟩,hl⟩:=each0 i hi
      obtain⟨_,hlen,hk⟩:=World.cells?_some hci
      refine⟨r,hr1,hr1.len,?_⟩
      intro j x hx
      obtain⟨v,hv,hd,_⟩:=hr3 j x hx
      refine⟨v,?_,hd⟩
      have hj:j<ci.length:=(Ze.mp hv).1
      have:=hk j (by omega)
      rw[D6i hs,D6i Z,hv]at this
      rw[← this,← hc.1]
      congr 2
      show a.off+(i*m.length+j)=a.off+i*m.length+j
      omega
     let R:Nat→List AV:=fun i=>if hi:i<len0+1 then Z5f (each i hi) else []
     have hR:∀i,i<len0+1→SatL m (R i)∧(R i).length=m.length∧∀ (j:Nat) (x:AV),(R i)[j]? = some x→∃ v,W.cell? ⟨a.block,a.off+(i*m.length+j),none⟩=some v∧Den (fun β o=>W.cell? ⟨β,o,none⟩) x v:= by
      intro i hi
      have:R i=Z5f (each i hi):=dif_pos hi
      rw[this]
      exact Classical.choose_spec (each i hi)
     have hget:∀(i:Nat) (r:List AV),((Z04 (len0+1)).map R)[i]? = some r→i<len0+1∧r=R i:= by
      intro i r hr
      rw[List.getElem?_map]at hr
      obtain⟨y,hy,e⟩:=Zz.mp hr
      obtain⟨hi,e2⟩:=Ze.mp hy
      rw[List.getElem_range]at e2
      rw[Z1q]at hi
      subst e2
      exact⟨hi,e.symm⟩
     have hmem:∀r∈(Z04 (len0+1)).map R,∃ i,i<len0+1∧r=R i:= by
      intro r hr
      obtain⟨i,hi,e⟩:=List.mem_map.mp hr
      exact⟨i,Z1s.mp hi,e.symm⟩
     have hd:Den (fun β o=>W.cell? ⟨β,o,none⟩) (.seq m.length ((Z04 (len0+1)).map R)) (.slice (some a) ((Z04 (len0+1)).map R).length cap):= by
      refine .seq m.length _ a cap (fun i j=>(W.cell? ⟨a.block,a.off+(i*m.length+j),none⟩).getD undef) hs (by simpa using hlc) ?_ ?_ ?_
      ·intro r hr
       obtain⟨i,hi,rfl⟩:=hmem r hr
       exact(hR i hi).2.1
      ·intro i r j x hr hx
       obtain⟨hi,rfl⟩:=hget i r hr
       obtain⟨v,hv,_⟩:=(hR i hi).2.2 j x hx
       show W.cell? _=some ((W.cell? _).getD undef)
       rw[hv];rfl
      ·intro i r j x hr hx
       obtain⟨hi,rfl⟩:=hget i r hr
       obtain⟨v,hv,hdv⟩:=(hR i hi).2.2 j x hx
       show Den _ x ((W.cell? _).getD undef)
       rw[hv];exact hdv
     rw[Zi,Z1q]at hd
     refine⟨Cells.one (x:=.seq m.length ((Z04 (len0+1)).map R)) ?_ hd Z,Z⟩
     simp only[Sat]
     refine⟨_,Z,by rw[Zi,Z1q];omega,?_⟩
     intro r hr
     obtain⟨i,hi,rfl⟩:=hmem r hr
     exact(hR i hi).1
   ·exact absurd h (by simp)
  ·rename_i fs hu
   obtain⟨xs,hxs,h⟩:=Zs.mp h
   obtain⟨m,hm,h⟩:=Zs.mp h
   split at h
   ·rename_i hc
    obtain rfl:=Z0b h
    obtain⟨ys,n',_,_,hl,hlen,hf⟩:=DataW.trod_struct hu hx
    have key:=C4m (Φ:=fun β o=>W.cell? ⟨β,o,none⟩) xs 0 m cs hm (fun y hy=>by
     obtain⟨i,hi,e⟩:=List.mem_iff_getElem.mp hy
     obtain⟨f,hf1,hf2⟩:=C88 hxs i y (by rw[Zm hi,e])
     obtain⟨l',hl',rfl⟩:=Zz.mp hf2
     have hfi:fs[i]? = some f:= by rw[← Array.getElem?_toList];exact hf1
     have h2:=hf i f hfi
     have hib:i<fs.size:= by
      obtain⟨q,_⟩:=Array.getElem?_eq_some_iff.mp hfi
      exact q
     rw[Zm (by omega)]at h2
     exact(C06 n f.type l' _ _ _ hl' h2).1) (Z2p _)
    have e:(cs.drop 0).take m.length=cs:= by rw[List.drop_zero,List.take_of_length_le (by omega)]
    rw[e]at key
    exact⟨key,by omega⟩
   ·exact absurd h (by simp)
  ·exact absurd h (by simp)
variable {T:Tab} {c:Sc}
theorem B82 {n i:Nat} {seen:List Nat}:i∈M8 n seen↔i<n∧i ∉ seen:= by
 unfold M8
 rw[List.mem_filter,Z1s]
 simp
theorem D1v {n i:Nat} {seen:List Nat} (h:i∈M8 n seen):(M8 n (seen++[i])).length<(M8 n seen).length:= by
 have e:M8 n (seen++[i])=(M8 n seen).filter fun j=>j != i:= by
  unfold M8
  rw[List.filter_filter]
  refine List.filter_congr fun j _=>?_
  rw[Bool.eq_iff_iff]
  simp[and_comm]
 rw[e]
 exact List.length_filter_lt_length_iff_exists.mpr ⟨i,h,by simp⟩
theorem D6b {x:Opd} {nx ok l m n:Nat} {live0 live liveX:List Nat} {rest:ACode} {es:List (AV×AV)} {e0:Ex} (st:List Nat→C2) (hp:List Nat→A2) (sE:C2) (HE:A2)
  (hlive:∀seen,(st seen).map (·.1)=live) (hnd:live.Nodup) (hX:sE.map (·.1)=liveX) (hndX:liveX.Nodup)
  (hx:∀seen,ev (st seen) x=some (.itr l)) (hl:∀seen,hget (hp seen) l=some (.mit m n seen)) (hm:∀seen,hmap (hp seen) m=some es)
  (hif:(decide (es.length=n)&&!live0.contains nx&&!live0.contains ok&&!Nat.beq nx ok)=true)
  (hstep:∀seen i,seen.Nodup→(∀ j∈seen,j<n)→i<n→i ∉ seen→WP T rest ((ok,.b true)::restrict (st seen) live0) (hset (hp seen) l (.mit m n (seen++[i]))) ⟨(hp seen).length,c.cur::c.outer⟩
   (fun e s' H'=>e=.normal∧Sub (st (seen++[i])) s'∧H'.take (hp seen).length=hp (seen++[i])))
  (hbd:∀seen i,A1m (hp seen).length (st (seen++[i]))=true)
  (hend:∀seen,seen.Nodup→(∀ j,j∈seen↔j<n)→WP T rest ((ok,.b false)::restrict (st seen) live0) (hp seen) c
   (fun e s' H'=>e=e0∧e.out=true∧Sub sE s'∧(∃ a b d,hget H' l=some (.mit a b d))∧hset H' l .dead=HE)) :
  WP T (.loopM x nx ok live0 live liveX rest) (st []) (hp []) c (fun e s' H'=>e=e0∧s'=sE∧H'=HE):= by
 have key:∀(k:Nat) (seen:List Nat) (S:C2),(M8 n seen).length<k→seen.Nodup→(∀ j∈seen,j<n)→Sub (st seen) S→J5 T (.loopM x nx ok live0 live liveX rest) ⟨S,hp seen,c⟩ e0 ⟨sE,HE,c⟩:= by
  intro k
  induction k with
  | zero=>intro seen S h;exact absurd h (Nat.not_lt_zero _)
  | succ k ih =>
   intro seen S hk h1 h2 hS
   have hxS:ev S x=some (.itr l):=A3v hS (hx seen)
   have hsub:∀t:Bool,Sub ((ok,.b t)::restrict (st seen) live0) ((ok,.b t)::restrict S live0):=fun t u v hv=>by
    simp only[K8]at hv ⊢
    cases hq:Nat.beq ok u with
    | true=>rw[hq]at hv;exact hv
    | false=>rw[hq]at hv;exact(hS.restrict live0) u v hv
   by_cases h0:M8 n seen=[]
   ·obtain⟨e,S1,s1,H1,q1,q2,rfl,q4,q5,⟨a,b,d,q6⟩,q7⟩:=hend seen h1 (fun j=>⟨h2 j,fun hj=>by
     by_cases hc:j∈seen
     ·exact hc
     ·have:j∈M8 n seen:=B82.mpr ⟨hj,hc⟩
      rw[h0]at this;cases this⟩) _ (hsub false)
    refine J5.loopM_end (st1:=⟨S1,H1,c⟩) (st:=⟨S,hp seen,c⟩) Z hxS (hl seen) (hm seen) hif h0 q1 q4 ?_
    unfold A4q
    simp only[q6]
    rw[Q8 hX hndX (q5.trans q2),q7]
   ·refine J5.loopM_step (st:=⟨S,hp seen,c⟩) Z hxS (hl seen) (hm seen) hif h0 (fun i hi=>.inl ?_)
    obtain⟨hi1,hi2⟩:=B82.mp hi
    obtain⟨e,S1,s1,H1,q1,q2,rfl,q4,q5⟩:=hstep seen i h1 h2 hi1 hi2 _ (hsub true)
    have hr:restrict S1 live=st (seen++[i]):=Q8 (hlive _) hnd (q4.trans q2)
    refine⟨⟨S1,H1,⟨(hp seen).length,c.cur::c.outer⟩⟩,q1,by simp only[hr];exact hbd seen i,?_⟩
    simp only[hr,q5]
    refine ih (seen++[i]) _ (by have:=D1v hi;omega) ?_ (fun j hj=>?_) (Sub.refl _)
    ·rw[List.nodup_append]
     refine⟨h1,by simp,fun a ha b hb=>?_⟩
     have:b=i:= by simpa using hb
     subst this
     rintro rfl
     exact hi2 ha
    ·rcases List.mem_append.1 hj with hj|hj
     ·exact h2 j hj
     ·have:j=i:= by simpa using hj
      omega
 intro S hS
 exact⟨e0,sE,sE,HE,key _ [] S (Nat.lt_succ_self _) List.nodup_nil (by simp) hS,Sub.refl _,Z,Z,Z⟩
section
variable {κ β:Type} [DecidableEq κ]
end
end Am
end
section
set_option maxRecDepth 100000
namespace Go.Proofs.YtjpjdglddmhplaaGreat
open Go Am
namespace Cd
def c8:ACode :=
 (.s 1 [q 0 1 (.box 4 0 0),M 1 2 (.b false)] [1] (.s 0 [LK 0 24 4 1,CL 1 25 31 [24],M 2 23 25,EX 3 26 23 0,EX 4 27 23 1,M 5 3 26,M 6 4 27] [1,3,4] (.seq (.s 0 [LK 0 28 4 1,CL 1 29 33 [28],q 2 30 (.un .not 29)] [1,3,4,30] (.cond 30 (.s 0 [M 0 31 4,B 1 32 .neq 31 (.i 0),M 2 33 32,G 3 34 33 true (.mv 3),G 4 35 33 true (.bin .eql 34 (.i 0)),q 5 36 (.pick 33 35 (.b false)),M 6 37 36,G 7 38 37 true (.call (.f 19) [] [] false),q 8 39 (.pick 37 38 (.b false)),M 9 2 39] [2] .ret) .skip)) (.s 0 [LK 0 41 4 1,CL 1 42 26 [41],M 2 40 42,EX 3 43 40 0,EX 4 44 40 1,EX 5 45 40 2,EX 6 46 40 3,M 7 5 43,M 8 6 44,M 9 7 45,M 10 8 46] [1,3,4,6,8] (.seq (.s 0 [M 0 47 8,B 1 48 .neq 47 (.i 0),M 2 49 48,G 3 50 49 false (.mv 4),G 4 51 49 false (.bin .eql 50 (.i 4)),G 5 52 49 false (.mv 6),G 6 53 49 false (.bin .eql 52 (.i 0)),G 7 54 49 false (.beq true 51 53),q 8 55 (.pick 49 (.b true) 54)] [1,3,4,55] (.cond 55 (.s 0 [M 0 2 (.b false)] [2] .ret) .skip)) (.seq (.s 0 [M 0 56 4,B 1 57 .eql 56 (.i 4)] [1,3,4,57] (.cond 57 (.s 0 [M 0 58 3,B 1 59 .eql 58 (.i 0),M 2 60 59,G 3 61 60 true (.call (.f 19) [] [] false),q 4 62 (.pick 60 61 (.b false)),M 5 2 62] [2] .ret) .skip)) (.seq (.s 0 [M 0 63 4,B 1 64 .neq 63 (.i 0),M 2 65 64,G 3 66 65 true (.mv 4),G 4 67 65 true (.bin .neq 66 (.i 9)),G 5 68 65 true (.mv 67),G 6 69 68 false (.mv 3),G 7 70 68 false (.bin .neq 69 (.i 0)),G 8 71 65 true (.pick 68 (.b true) 70),q 9 72 (.pick 65 71 (.b false)),M 10 73 72,G 11 74 73 false (.mv 4),G 12 75 73 false (.bin .eql 74 (.i
 0)),G 13 76 73 false (.mv 75),G 14 77 76 true (.mv 3),G 15 78 76 true (.bin .lss 77 (.i 1)),G 16 79 76 true (.mv 78),G 17 80 79 false (.mv 3),G 18 81 79 false (.bin .gtr 80 (.i 10000)),G 19 82 76 true (.pick 79 (.b true) 81),G 20 83 73 false (.pick 76 82 (.b false)),q 21 84 (.pick 73 (.b true) 83)] [1,3,4,84] (.cond 84 (.s 0 [M 0 2 (.b false)] [2] .ret) .skip)) (.s 1 [LK 0 85 4 1,q 1 9 (.alloc [.seq 8 [],.seq 4 [],.lit (.int .i64 0),.seq 2 []] [] 0),ST 2 4 9 85] [1,3,4,9] (.seq (.s 0 [M 0 86 4,B 1 87 .neq 86 (.i 0)] [1,3,9,87] (.cond 87 (.s 0 [FA 0 88 2 1,L 1 89 88,B 2 90 .add 89 (.i 10000),FA 3 91 2 9,ST 4 1 91 90] [9] (.s 0 [LK 0 93 4 9,CL 1 94 27 [93],M 2 92 94,EX 3 95 92 0,EX 4 96 92 1,EX 5 97 92 2,EX 6 98 92 3,M 7 10 95,M 8 11 96,M 9 12 97,M 10 13 98] [9,11] (.s 0 [LK 0 99 4 9,CL 1 100 33 [99],q 2 101 (.un .not 100),M 3 102 101,G 4 103 102 false (.mv 11),G 5 104 102 false (.bin .gtr 103 (.i 0)),q 6 105 (.pick 102 (.b true) 104),M 7 106 105,G 8 107 106 true (.call (.f 19) [] [] false),q 9 108 (.pick 106 107 (.b false)),M 10 2 108] [2] .ret))) .skip)) (.s 0 [FA 0 109 2 1,L 1 110 109,M 2 111 3,B 3 112 .add 110 111,FA 4 113 2 9,ST 5 1 113 112] [1,3,9] (.s 1 [LK 0 114 4 1,q 1 14 (.alloc [.seq 8 [],.seq 4 [],.lit (.int .i64 0),.seq 2 []] [] 0),ST 2 4 14 114] [1,3,9,14] (.s 0 [FA 0 115 2 1,L 1 116 115,M 2 117 3,B 3 118 .add 116 117,B 4 119 .sub 118 (.i 1),FA 5 120 2 14,ST 6 1 120 119] [9,14] (.seq (.s 0 [LK 0 121 4 9,CL 1 122 33 [121]] [9,14,122] (.cond 122 (.s 0 [LK 0 124 4
 9,CL 1 125 26 [124],M 2 123 125,EX 3 126 123 0,EX 4 127 123 1,EX 5 128 123 2,EX 6 129 123 3,M 7 15 126,M 8 16 127,M 9 17 128,M 10 18 129] [14,16,18] (.s 0 [M 0 130 18,B 1 131 .neq 130 (.i 0),M 2 132 131,G 3 133 132 false (.mv 16),G 4 134 132 false (.bin .neq 133 (.i 0)),q 5 135 (.pick 132 (.b true) 134)] [14,135] (.cond 135 (.s 0 [M 0 2 (.b false)] [2] .ret) .skip))) .skip)) (.seq (.s 0 [LK 0 136 4 14,CL 1 137 33 [136]] [14,137] (.cond 137 (.s 0 [LK 0 139 4 14,CL 1 140 26 [139],M 2 138 140,EX 3 141 138 0,EX 4 142 138 1,EX 5 143 138 2,EX 6 144 138 3,M 7 19 141,M 8 20 142,M 9 21 143,M 10 22 144] [20,22] (.s 0 [M 0 145 22,B 1 146 .neq 145 (.i 0),M 2 147 146,G 3 148 147 false (.mv 20),G 4 149 147 false (.bin .eql 148 (.i 0)),q 5 150 (.pick 147 (.b true) 149)] [150] (.cond 150 (.s 0 [M 0 2 (.b false)] [2] .ret) .skip))) .skip)) (.s 0 [CL 0 151 19 [],M 1 2 151] [2] .ret)))))))))))))))
def a8:AFunc:=⟨1,c8,[.tmp 2]⟩
def c10:ACode :=
 (.s 1 [q 0 1 (.box 4 0 0),M 1 2 (.i 0),M 2 3 (.i 0),M 3 4 (.i 0)] [1] (.seq (.s 0 [FA 0 11 0 1,L 1 12 11,LE 2 13 12,B 3 14 .gtr 13 (.i 5)] [1,14] (.cond 14 (.s 0 [M 0 2 (.i 1),M 1 3 (.i 0),M 2 4 (.i 3)] [2,3,4] .ret) .skip)) (.seq (.s 0 [FA 0 15 0 1,L 1 16 15,LE 2 17 16,M 3 18 (.i 0)] [1,16,17,18] (.block 0 (.loop true [1,16,17,18] (.s 0 [B 0 19 .lss 18 17] [1,16,17,18,19] (.seq (.cond 19 .skip (.exit 0)) (.seq (.block 1 (.s 1 [M 0 20 18,IX 1 21 8 16 18,LK 2 22 8 21,q 3 6 (.alloc [.lit (.string ⟨#[]⟩),.lit (.int .i64 0),.lit (.bool false),.lit (.int .i64 0),.lit (.int .i64 0),.lit (.int .i64 0),.lit (.int .i64 0),.lit (.int .i64 0)] [] 0),M 4 5 20,ST 5 8 6 22] [1,5,6,16,17,18] (.s 0 [FA 0 23 0 1,L 1 24 23,M 2 25 5,CL 3 26 41 [24,25,.f 42],M 4 4 26] [1,4,5,6,16,17,18] (.seq (.s 0 [M 0 27 4,B 1 28 .eql 27 (.i 0),M 2 29 28,G 3 30 29 true (.load (some 8) 6),G 4 31 29 true (.call (.f 43) [30] [] false),q 5 32 (.pick 29 31 (.b false))] [1,4,5,16,17,18,32] (.cond 32 (.g 0 [M 0 4 (.i 7)] [1,4,5,16,17,18]) .skip)) (.s 0 [M 0 33 4,B 1 34 .neq 33 (.i 0)] [1,4,5,16,17,18,34] (.cond 34 (.s 0 [M 0 35 5,M 1 36 4,M 2 2 (.i 1),M 3 3 35,M 4 4 36] [2,3,4] .ret) .skip)))))) (.g 0 [B 0 37 .add 18 (.i 1),M 1 18 37] [1,16,17,18]))))))) (.seq (.s 0 [FA 0 38 1 1,L 1 39 38,LE 2 40 39,B 3 41 .gtr 40 (.i 3)] [1,41] (.cond 41 (.s 0 [M 0 2 (.i 2),M 1 3 (.i 0),M 2 4 (.i 3)] [2,3,4] .ret) .skip)) (.seq (.s 0 [FA 0 42 1 1,L 1 43 42,LE 2 44 43,M 3 45 (.i 0)] [1,43,44,45] (.block 2 (.loop true [1,43,44,45] (.s
 0 [B 0 46 .lss 45 44] [1,43,44,45,46] (.seq (.cond 46 .skip (.exit 2)) (.seq (.block 3 (.s 1 [M 0 47 45,IX 1 48 4 43 45,LK 2 49 4 48,q 3 8 (.alloc [.lit (.string ⟨#[]⟩),.lit (.int .i64 0),.lit (.int .i64 0),.lit (.int .i64 0)] [] 0),M 4 7 47,ST 5 4 8 49] [1,7,8,43,44,45] (.s 0 [FA 0 50 1 1,L 1 51 50,M 2 52 7,CL 3 53 44 [51,52,.f 45],M 4 4 53] [1,4,7,8,43,44,45] (.seq (.block 4 (.s 0 [M 0 55 4,B 1 56 .neq 55 (.i 0),M 2 54 56] [1,4,7,8,43,44,45,54] (.cond 54 .skip (.s 0 [FA 0 58 1 8,L 1 59 58,FA 2 60 2 8,L 3 61 60,q 4 62 (.lits 1 [.lit (.int .i64 0)] 2 [(0,59),(1,61)] none),CL 5 63 46 [.i 0,.i 364,62],M 6 64 63,G 7 65 64 false (.fieldAddr 3 8),G 8 66 64 false (.load none 65),G 9 67 64 false (.lits 1 [.lit (.int .i64 0)] 1 [(0,66)] none),G 10 68 64 false (.call (.f 46) [.i 0,.i 15,67] [] false),q 11 69 (.pick 64 (.b true) 68),M 12 57 69] [1,4,7,8,43,44,45,57] (.cond 57 (.g 0 [M 0 4 (.i 7)] [1,4,7,43,44,45]) (.s 0 [FA 0 71 1 8,L 1 72 71,FA 2 73 2 8,L 3 74 73,B 4 75 .gtr 72 74,M 5 70 75] [1,4,7,43,44,45,70] (.cond 70 (.g 0 [M 0 4 (.i 2)] [1,4,7,43,44,45]) .skip))))))) (.s 0 [M 0 76 4,B 1 77 .neq 76 (.i 0)] [1,4,7,43,44,45,77] (.cond 77 (.s 0 [M 0 78 7,M 1 79 4,M 2 2 (.i 2),M 3 3 78,M 4 4 79] [2,3,4] .ret) .skip)))))) (.g 0 [B 0 80 .add 45 (.i 1),M 1 45 80] [1,43,44,45]))))))) (.seq (.block 5 (.s 0 [FA 0 82 2 1,L 1 83 82,q 2 84 (.lits 1 [.lit (.int .i64 0)] 1 [(0,83)] none),CL 3 85 46 [.i 0,.i 10000,84],M 4 81 85] [1,81] (.cond 81 (.s 0 [M 0 2 (.i 3),M 1 3 (.i 0),M 2 4 (.i 7)]
 [2,3,4] .ret) (.s 0 [FA 0 87 3 1,L 1 88 87,LE 2 89 88,B 3 90 .gtr 89 (.i 3),M 4 86 90] [1,86] (.cond 86 (.s 0 [M 0 2 (.i 4),M 1 3 (.i 0),M 2 4 (.i 3)] [2,3,4] .ret) .skip))))) (.seq (.s 0 [FA 0 91 3 1,L 1 92 91,LE 2 93 92,M 3 94 (.i 0)] [92,93,94] (.block 6 (.loop true [92,93,94] (.s 0 [B 0 95 .lss 94 93] [92,93,94,95] (.seq (.cond 95 .skip (.exit 6)) (.seq (.block 7 (.s 1 [M 0 96 94,IX 1 97 2 92 94,LK 2 98 2 97,q 3 10 (.alloc [.lit (.int .i64 0),.lit (.int .i64 0)] [] 0),M 4 9 96,ST 5 2 10 98] [9,10,92,93,94] (.s 0 [FA 0 99 0 10,L 1 100 99,q 2 101 (.lits 1 [.lit (.int .i64 0)] 1 [(0,100)] none),CL 3 102 46 [.i 0,.i 364,101],M 4 103 102,G 5 104 103 false (.fieldAddr 1 10),G 6 105 103 false (.load none 104),G 7 106 103 false (.lits 1 [.lit (.int .i64 0)] 1 [(0,105)] none),G 8 107 103 false (.call (.f 46) [.i 0,.i 10000,106] [] false),q 9 108 (.pick 103 (.b true) 107)] [9,92,93,94,108] (.cond 108 (.s 0 [M 0 109 9,M 1 2 (.i 4),M 2 3 109,M 3 4 (.i 7)] [2,3,4] .ret) .skip)))) (.g 0 [B 0 110 .add 94 (.i 1),M 1 94 110] [92,93,94]))))))) (.s 0 [M 0 2 (.i 0),M 1 3 (.i 0),M 2 4 (.i 0)] [2,3,4] .ret))))))))
def a10:AFunc:=⟨1,c10,[.tmp 2,.tmp 3,.tmp 4]⟩
def c11:ACode :=
 (.s 1 [q 0 1 (.box 4 0 0),M 1 2 (.i 0),M 2 3 (.i 0),M 3 4 (.i 0)] [1] (.seq (.s 0 [FA 0 11 0 1,L 1 12 11,LE 2 13 12,B 3 14 .gtr 13 (.i 5)] [1,14] (.cond 14 (.s 0 [M 0 2 (.i 1),M 1 3 (.i 0),M 2 4 (.i 3)] [2,3,4] .ret) .skip)) (.s 1 [q 0 5 (.nil 1 0)] [1,5] (.seq (.s 0 [M 0 6 (.i 0)] [1,5,6] (.block 0 (.loop true [1,5,6] (.seq (.s 0 [M 0 15 6,FA 1 16 0 1,L 2 17 16,LE 3 18 17,B 4 19 .lss 15 18] [1,5,6,19] (.cond 19 .skip (.exit 0))) (.seq (.block 1 (.s 0 [FA 0 22 0 1,L 1 23 22,M 2 24 6,IX 3 25 8 23 24,FA 4 26 0 25,L 5 27 26,M 6 28 5,CL 7 29 47 [27,28],M 8 7 29] [1,5,6,7] (.s 0 [M 0 30 5,FA 1 31 0 1,L 2 32 31,M 3 33 6,IX 4 34 8 32 33,FA 5 35 0 34,L 6 36 35,q 7 37 (.lits 1 [.lit (.string ⟨#[]⟩)] 1 [(0,36)] none),q 8 38 (.append 1 16 30 37 none false),M 9 5 38] [1,5,6,7] (.seq (.s 0 [M 0 39 7,B 1 40 .eql 39 (.i 0),M 2 41 40,G 3 42 41 true (.fieldAddr 0 1),G 4 43 41 true (.load none 42),G 5 44 41 true (.mv 6),G 6 45 41 true (.idxS 8 43 44),G 7 46 41 true (.load (some 8) 45),G 8 47 41 true (.call (.f 48) [46] [] false),G 9 48 41 true (.un .not 47),q 10 49 (.pick 41 48 (.b false))] [1,5,6,7,49] (.cond 49 (.g 0 [M 0 7 (.i 7)] [1,5,6,7]) .skip)) (.s 0 [M 0 50 7,B 1 51 .neq 50 (.i 0)] [1,5,6,7,51] (.cond 51 (.s 0 [M 0 52 6,M 1 53 7,M 2 2 (.i 1),M 3 3 52,M 4 4 53] [2,3,4] .ret) .skip)))))) (.g 0 [M 0 20 6,B 1 21 .add 20 (.i 1),M 2 6 21] [1,5,6])))))) (.seq (.s 0 [FA 0 54 1 1,L 1 55 54,LE 2 56 55,B 3 57 .gtr 56 (.i 3)] [1,57] (.cond 57 (.s 0 [M 0 2 (.i 2),M 1 3 (.i 0),M 2 4 (.i 3)] [2,3,4]
 .ret) .skip)) (.s 1 [q 0 5 (.nil 1 0)] [1,5] (.seq (.s 0 [M 0 8 (.i 0)] [1,5,8] (.block 2 (.loop true [1,5,8] (.seq (.s 0 [M 0 58 8,FA 1 59 1 1,L 2 60 59,LE 3 61 60,B 4 62 .lss 58 61] [1,5,8,62] (.cond 62 .skip (.exit 2))) (.seq (.block 3 (.s 0 [FA 0 65 1 1,L 1 66 65,M 2 67 8,IX 3 68 4 66 67,FA 4 69 0 68,L 5 70 69,M 6 71 5,CL 7 72 47 [70,71],M 8 9 72] [1,5,8,9] (.s 0 [M 0 73 5,FA 1 74 1 1,L 2 75 74,M 3 76 8,IX 4 77 4 75 76,FA 5 78 0 77,L 6 79 78,q 7 80 (.lits 1 [.lit (.string ⟨#[]⟩)] 1 [(0,79)] none),q 8 81 (.append 1 16 73 80 none false),M 9 5 81] [1,5,8,9] (.seq (.s 0 [M 0 82 9,B 1 83 .eql 82 (.i 0)] [1,5,8,9,83] (.cond 83 (.g 0 [FA 0 84 1 1,L 1 85 84,M 2 86 8,IX 3 87 4 85 86,LK 4 88 4 87,CL 5 89 49 [88],M 6 9 89] [1,5,8,9]) .skip)) (.s 0 [M 0 90 9,B 1 91 .neq 90 (.i 0)] [1,5,8,9,91] (.cond 91 (.s 0 [M 0 92 8,M 1 93 9,M 2 2 (.i 2),M 3 3 92,M 4 4 93] [2,3,4] .ret) .skip)))))) (.g 0 [M 0 63 8,B 1 64 .add 63 (.i 1),M 2 8 64] [1,5,8])))))) (.seq (.s 0 [FA 0 94 2 1,L 1 95 94,CL 2 96 50 [95,.i 0,.i 10000],q 3 97 (.un .not 96)] [1,97] (.cond 97 (.s 0 [M 0 2 (.i 3),M 1 3 (.i 0),M 2 4 (.i 7)] [2,3,4] .ret) .skip)) (.seq (.s 0 [FA 0 98 3 1,L 1 99 98,LE 2 100 99,B 3 101 .gtr 100 (.i 3)] [1,101] (.cond 101 (.s 0 [M 0 2 (.i 4),M 1 3 (.i 0),M 2 4 (.i 3)] [2,3,4] .ret) .skip)) (.seq (.s 0 [M 0 10 (.i 0)] [1,10] (.block 4 (.loop true [1,10] (.seq (.s 0 [M 0 102 10,FA 1 103 3 1,L 2 104 103,LE 3 105 104,B 4 106 .lss 102 105] [1,10,106] (.cond 106 .skip (.exit 4))) (.seq (.block 5 (.s 0 [FA 0
 109 3 1,L 1 110 109,M 2 111 10,IX 3 112 2 110 111,FA 4 113 0 112,L 5 114 113,CL 6 115 50 [114,.i 0,.i 364],q 7 116 (.un .not 115),M 8 117 116,G 9 118 117 false (.fieldAddr 3 1),G 10 119 117 false (.load none 118),G 11 120 117 false (.mv 10),G 12 121 117 false (.idxS 2 119 120),G 13 122 117 false (.fieldAddr 1 121),G 14 123 117 false (.load none 122),G 15 124 117 false (.call (.f 50) [123,.i 0,.i 10000] [] false),G 16 125 117 false (.un .not 124),q 17 126 (.pick 117 (.b true) 125)] [1,10,126] (.cond 126 (.s 0 [M 0 127 10,M 1 2 (.i 4),M 2 3 127,M 3 4 (.i 7)] [2,3,4] .ret) .skip))) (.g 0 [M 0 107 10,B 1 108 .add 107 (.i 1),M 2 10 108] [1,10])))))) (.s 0 [M 0 2 (.i 0),M 1 3 (.i 0),M 2 4 (.i 0)] [2,3,4] .ret)))))))))))
def a11:AFunc:=⟨1,c11,[.tmp 2,.tmp 3,.tmp 4]⟩
def c12:ACode :=
 (.s 1 [q 0 3 (.box 4 0 0),M 1 6 (.i 0),M 2 7 (.i 0)] [1,2,3] (.s 0 [LK 0 11 4 3,CL 1 12 51 [11],M 2 10 12,EX 3 13 10 0,EX 4 14 10 1,M 5 8 13,M 6 9 14] [1,2,3,9] (.seq (.block 0 (.s 0 [M 0 16 9,B 1 17 .neq 16 (.i 0),M 2 15 17] [1,2,3,9,15] (.cond 15 (.s 0 [M 0 18 9,M 1 6 (.i 0),M 2 7 18] [6,7] .ret) (.s 0 [FA 0 20 0 3,L 1 21 20,LE 2 22 21,B 3 23 .sub 22 (.i 1),M 4 24 1,q 5 25 (.lits 1 [.lit (.int .i64 0)] 1 [(0,24)] none),CL 6 26 46 [.i 0,23,25],M 7 19 26] [1,2,3,19] (.cond 19 (.s 0 [M 0 6 (.i 0),M 1 7 (.i 4)] [6,7] .ret) (.s 0 [FA 0 28 0 3,L 1 29 28,M 2 30 1,IX 3 31 8 29 30,FA 4 32 2 31,L 5 33 32,q 6 34 (.un .not 33),M 7 27 34] [1,2,3,27] (.cond 27 (.s 0 [M 0 6 (.i 0),M 1 7 (.i 2)] [6,7] .ret) (.s 0 [M 0 36 2,q 1 37 (.lits 1 [.lit (.int .i64 0)] 1 [(0,36)] none),CL 2 38 46 [.i 0,.i 364,37],M 3 35 38] [1,2,3,35] (.cond 35 (.s 0 [M 0 6 (.i 0),M 1 7 (.i 7)] [6,7] .ret) (.s 0 [M 0 40 2,FA 1 41 0 3,L 2 42 41,M 3 43 1,IX 4 44 8 42 43,FA 5 45 7 44,L 6 46 45,B 7 47 .gtr 40 46,M 8 39 47] [1,2,3,39] (.cond 39 (.s 0 [M 0 6 (.i 0),M 1 7 (.i 9)] [6,7] .ret) .skip))))))))))) (.s 0 [FA 0 48 0 3,L 1 49 48,M 2 50 1,IX 3 51 8 49 50,LK 4 52 8 51,q 5 53 (.build [.lit (.string ⟨#[]⟩),.lit (.int .i64 0),.lit (.int .i64 0),.lit (.int .i64 0)] []),M 6 54 2,CL 7 55 52 [52,53,54],M 8 6 55,M 9 7 (.i 0)] [6,7] .ret))))
def a12:AFunc:=⟨3,c12,[.tmp 6,.tmp 7]⟩
def c14:ACode :=
 (.s 1 [q 0 3 (.box 4 0 0),M 1 6 (.i 0),M 2 7 (.i 0)] [1,2,3] (.s 0 [LK 0 11 4 3,CL 1 12 51 [11],M 2 10 12,EX 3 13 10 0,EX 4 14 10 1,M 5 8 13,M 6 9 14] [1,2,3,8,9] (.seq (.block 0 (.s 0 [M 0 16 9,B 1 17 .neq 16 (.i 0),M 2 15 17] [1,2,3,8,9,15] (.cond 15 (.s 0 [M 0 18 9,M 1 6 (.i 0),M 2 7 18] [6,7] .ret) (.s 0 [FA 0 20 0 3,L 1 21 20,LE 2 22 21,B 3 23 .sub 22 (.i 1),M 4 24 1,q 5 25 (.lits 1 [.lit (.int .i64 0)] 1 [(0,24)] none),CL 6 26 46 [.i 0,23,25],M 7 27 26,G 8 28 27 false (.fieldAddr 1 3),G 9 29 27 false (.load none 28),G 10 30 27 false (.lenL 29),G 11 31 27 false (.bin .sub 30 (.i 1)),G 12 32 27 false (.mv 2),G 13 33 27 false (.lits 1 [.lit (.int .i64 0)] 1 [(0,32)] none),G 14 34 27 false (.call (.f 46) [.i 0,31,33] [] false),q 15 35 (.pick 27 (.b true) 34),M 16 19 35] [1,2,3,8,19] (.cond 19 (.s 0 [M 0 6 (.i 0),M 1 7 (.i 4)] [6,7] .ret) (.s 0 [FA 0 37 0 3,L 1 38 37,M 2 39 1,IX 3 40 8 38 39,FA 4 41 2 40,L 5 42 41,q 6 43 (.un .not 42),M 7 36 43] [1,2,3,8,36] (.cond 36 (.s 0 [M 0 6 (.i 0),M 1 7 (.i 2)] [6,7] .ret) (.sd 0 [M 0 45 8,NK 1 46 45,FA 2 47 4 46,q 3 48 (.idxA 3 3 47 (.i 2)),FA 4 49 2 48,L 5 50 49,FA 6 51 0 3,L 7 52 51,M 8 53 1,IX 9 54 8 52 53,LK 10 55 8 54,FA 11 56 1 3,L 12 57 56,M 13 58 2,IX 14 59 4 57 58,LK 15 60 4 59,q 16 61 (.call 50 [55,60,.i 0] [] false),q 17 62 (.un .not 61),M 18 44 62] [1,2,3,44] (.cond 44 (.s 0 [M 0 6 (.i 0),M 1 7 (.i 9)] [6,7] .ret) .skip))))))))) (.sd 0 [FA 0 63 0 3,L 1 64 63,M 2 65 1,IX 3 66 8 64 65,LK 4 67 8 66,FA 5 68 1 3,L 6 69 68,M 7
 70 2,IX 8 71 4 69 70,LK 9 72 4 71,CL 10 73 55 [67,72,.i 0],M 11 6 73,M 12 7 (.i 0)] [6,7] .ret))))
def a14:AFunc:=⟨3,c14,[.tmp 6,.tmp 7]⟩
def c16:ACode :=
 (.s 2 [q 0 2 (.box 4 0 0),q 1 4 (.nil 1 1),M 2 5 (.i 0)] [1,2,4] (.scope (.s 0 [LK 0 10 4 2,CL 1 11 51 [10],M 2 9 11,EX 3 12 9 0,EX 4 13 9 1,M 5 6 12,M 6 5 13] [1,2,4,5,6] (.seq (.block 0 (.s 0 [M 0 15 5,B 1 16 .neq 15 (.i 0),M 2 14 16] [1,2,4,5,6,14] (.cond 14 (.s 1 [M 0 17 5,q 1 4 (.nil 1 0),M 2 5 17] [4,5] .ret) (.s 0 [FA 0 19 1 2,L 1 20 19,LE 2 21 20,B 3 22 .sub 21 (.i 1),M 4 23 1,q 5 24 (.lits 1 [.lit (.int .i64 0)] 1 [(0,23)] none),CL 6 25 46 [.i 0,22,24],M 7 18 25] [1,2,4,6,18] (.cond 18 (.s 1 [q 0 4 (.nil 1 0),M 1 5 (.i 4)] [4,5] .ret) .skip))))) (.seq .skip (.seq (.s 0 [FA 0 26 0 2,L 1 27 26,LE 2 28 27,M 3 29 (.i 0)] [1,4,6,28,29] (.block 1 (.loop true [1,4,6,28,29] (.s 0 [B 0 30 .lss 29 28] [1,4,6,28,29,30] (.seq (.cond 30 .skip (.exit 1)) (.seq (.block 2 (.s 0 [M 0 31 29,M 1 7 31] [1,4,6,7,28,29] (.s 0 [M 0 32 (.i 0)] [1,4,6,7,28,29,32] (.block 3 (.loop true [1,4,6,7,28,29,32] (.s 0 [B 0 33 .lss 32 (.i 3)] [1,4,6,7,28,29,32,33] (.seq (.cond 33 .skip (.exit 3)) (.seq (.block 4 (.s 0 [M 0 34 32,M 1 8 34] [1,4,6,7,8,28,29,32] (.s 0 [M 0 35 6,M 1 36 1,M 2 37 7,M 3 38 8,q 4 39 (.build [.lit (.int .i64 0),.lit (.int .i64 0),.lit (.int .i64 0)] [(0,1,37),(1,1,38)]),CL 5 40 57 [35,36,39],B 6 41 .eql 40 (.i 0)] [1,4,6,7,28,29,32,41] (.cond 41 (.s 0 [M 0 42 4,M 1 43 7,q 2 44 (.lits 1 [.lit (.int .i64 0)] 1 [(0,43)] none),q 3 45 (.append 1 8 42 44 none false),M 4 4 45] [1,4,6,28,29] (.exit 2)) .skip)))) (.g 0 [B 0 46 .add 32 (.i 1),M 1 32 46] [1,4,6,7,28,29,32]))))))))) (.g 0
 [B 0 47 .add 29 (.i 1),M 1 29 47] [1,4,6,28,29]))))))) (.s 0 [M 0 48 4,M 1 4 48,M 2 5 (.i 0)] [4,5] .ret)))))))
def a16:AFunc:=⟨2,c16,[.tmp 4,.tmp 5]⟩
def c18:ACode :=
 (.s 0 [M 0 4 (.b false)] [0,1] (.s 0 [M 0 7 0,LE 1 8 7,M 2 9 1,LE 3 10 9,B 4 11 .eql 8 10,M 5 5 11] [0,1,5] (.seq (.s 0 [M 0 6 (.i 0)] [0,1,5,6] (.block 0 (.loop true [0,1,5,6] (.seq (.s 0 [M 0 12 5,M 1 13 12,G 2 14 13 true (.mv 6),G 3 15 13 true (.mv 0),G 4 16 13 true (.lenL 15),G 5 17 13 true (.bin .lss 14 16),q 6 18 (.pick 13 17 (.b false))] [0,1,5,6,18] (.cond 18 .skip (.exit 0))) (.seq (.block 1 (.gd 0 [M 0 21 0,M 1 22 6,IX 2 23 1 21 22,L 3 24 23,M 4 25 1,M 5 26 6,IX 6 27 1 25 26,L 7 28 27,B 8 29 .eql 24 28,M 9 5 29] [0,1,5,6])) (.g 0 [M 0 19 6,B 1 20 .add 19 (.i 1),M 2 6 20] [0,1,5,6])))))) (.s 0 [M 0 30 5,M 1 4 30] [4] .ret))))
def a18:AFunc:=⟨2,c18,[.tmp 4]⟩
def c19:ACode :=
 (.s 0 [M 0 0 (.b false)] [] (.s 2 [CL 0 32 59 [.c (.lit (.bool false))],CL 1 33 59 [.c (.lit (.bool true))],q 2 1 (.alloc [.seq 8 [],.seq 4 [],.lit (.int .i64 0),.seq 2 []] [] 0),q 3 2 (.alloc [.seq 8 [],.seq 4 [],.lit (.int .i64 0),.seq 2 []] [] 1),ST 4 4 1 32,ST 5 4 2 33] [1,2] (.s 0 [LK 0 35 4 1,CL 1 36 12 [35,.i 0,.i 10],M 2 34 36,EX 3 37 34 0,EX 4 38 34 1,M 5 3 37,M 6 4 38] [1,2,3,4] (.s 0 [LK 0 40 4 1,CL 1 41 14 [40,.i 2,.i 2],M 2 39 41,EX 3 42 39 0,EX 4 43 39 1,M 5 5 42,M 6 6 43] [1,2,3,4,5,6] (.s 0 [LK 0 45 4 1,CL 1 46 14 [45,.i 2,.i 1],M 2 44 46,EX 3 47 44 0,EX 4 48 44 1,M 5 7 47,M 6 8 48] [1,2,3,4,5,6,8] (.s 0 [LK 0 50 4 1,CL 1 51 16 [50,.i 1],M 2 49 51,EX 3 52 49 0,EX 4 53 49 1,M 5 9 52,M 6 10 53] [1,2,3,4,5,6,8,9,10] (.sd 0 [LK 0 55 4 1,CP 1 56 60 [],CL 2 57 20 [55,56,.i 45],M 3 54 57,EX 4 58 54 0,EX 5 59 54 1,M 6 11 58,M 7 12 59] [1,2,3,4,5,6,8,9,10,11,12] (.sd 0 [LK 0 61 4 1,CP 1 62 60 [],CL 2 63 22 [61,62],M 3 60 63,EX 4 64 60 0,EX 5 65 60 1,M 6 13 64,M 7 14 65] [1,2,3,4,5,6,8,9,10,11,12,14] (.sd 0 [LK 0 67 4 2,CP 1 68 60 [],CL 2 69 22 [67,68],M 3 66 69,EX 4 70 66 0,EX 5 71 66 1,M 6 15 70,M 7 16 71] [1,2,3,4,5,6,8,9,10,11,12,14,15,16] (.s 0 [LK 0 73 4 1,CL 1 74 26 [73],M 2 72 74,EX 3 75 72 0,EX 4 76 72 1,EX 5 77 72 2,EX 6 78 72 3,M 7 17 75,M 8 18 76,M 9 19 77,M 10 20 78] [1,2,3,4,5,6,8,9,10,11,12,14,15,16,17,18,19,20] (.s 0 [LK 0 80 4 2,CL 1 81 26 [80],M 2 79 81,EX 3 82 79 0,EX 4 83 79 1,EX 5 84 79 2,EX 6 85 79 3,M 7 21 82,M 8 22 83,M 9 23 84,M 10 24 85]
 [1,2,3,4,5,6,8,9,10,11,12,14,15,16,17,18,19,20,22,24] (.s 0 [LK 0 87 4 2,CL 1 88 29 [87],M 2 86 88,EX 3 89 86 0,EX 4 90 86 1,EX 5 91 86 2,M 6 25 89,M 7 26 90,M 8 27 91] [1,2,3,4,5,6,8,9,10,11,12,14,15,16,17,18,19,20,22,24,25,26,27] (.s 0 [LK 0 93 4 2,CL 1 94 31 [93],M 2 92 94,EX 3 95 92 0,EX 4 96 92 1,M 5 28 95,M 6 29 96] [1,3,4,5,6,8,9,10,11,12,14,15,16,17,18,19,20,22,24,25,26,27,28,29] (.sd 0 [LK 0 98 4 1,CP 1 99 60 [],CL 2 100 24 [98,99],M 3 97 100,EX 4 101 97 0,EX 5 102 97 1,M 6 30 101,M 7 31 102] [3,4,5,6,8,9,10,11,12,14,15,16,17,18,19,20,22,24,25,26,27,28,29,30,31] (.s 0 [M 0 103 4,B 1 104 .eql 103 (.i 0),M 2 105 104,G 3 106 105 true (.mv 6),G 4 107 105 true (.bin .eql 106 (.i 0)),q 5 108 (.pick 105 107 (.b false)),M 6 109 108,G 7 110 109 true (.mv 10),G 8 111 109 true (.bin .eql 110 (.i 0)),q 9 112 (.pick 109 111 (.b false)),M 10 113 112,G 11 114 113 true (.mv 12),G 12 115 113 true (.bin .eql 114 (.i 0)),q 13 116 (.pick 113 115 (.b false)),M 14 117 116,G 15 118 117 true (.mv 16),G 16 119 117 true (.bin .eql 118 (.i 0)),q 17 120 (.pick 117 119 (.b false)),M 18 121 120,G 19 122 121 true (.mv 20),G 20 123 121 true (.bin .eql 122 (.i 0)),q 21 124 (.pick 121 123 (.b false)),M 22 125 124,G 23 126 125 true (.mv 24),G 24 127 125 true (.bin .eql 126 (.i 0)),q 25 128 (.pick 125 127 (.b false)),M 26 129 128,G 27 130 129 true (.mv 27),G 28 131 129 true (.bin .eql 130 (.i 0)),q 29 132 (.pick 129 131 (.b false)),M 30 133 132,G 31 134 133 true (.mv 29),G 32 135 133 true (.bin .eql
 134 (.i 0)),q 33 136 (.pick 133 135 (.b false)),M 34 137 136,G 35 138 137 true (.mv 31),G 36 139 137 true (.bin .eql 138 (.i 0)),q 37 140 (.pick 137 139 (.b false)),M 38 141 140,G 39 142 141 true (.mv 8),G 40 143 141 true (.bin .eql 142 (.i 9)),q 41 144 (.pick 141 143 (.b false)),M 42 145 144,G 43 146 145 true (.mv 14),G 44 147 145 true (.bin .eql 146 (.i 4)),q 45 148 (.pick 145 147 (.b false)),M 46 149 148,G 47 150 149 true (.mv 3),G 48 151 149 true (.bin .eql 150 (.i 110)),q 49 152 (.pick 149 151 (.b false)),M 50 153 152,G 51 154 153 true (.mv 5),G 52 155 153 true (.bin .eql 154 (.i 48)),q 53 156 (.pick 153 155 (.b false)),M 54 157 156,G 55 158 157 true (.mv 9),G 56 159 157 true (.lits 1 [.lit (.int .i64 0)] 3 [(0,.i 0),(1,.i 1),(2,.i 2)] none),G 57 160 157 true (.call (.f 18) [158,159] [] false),q 58 161 (.pick 157 160 (.b false)),M 59 162 161,G 60 163 162 true (.mv 11),G 61 164 162 true (.bin .eql 163 (.i 102)),q 62 165 (.pick 162 164 (.b false)),M 63 166 165,G 64 167 166 true (.mv 15),G 65 168 166 true (.bin .eql 167 (.i 0)),q 66 169 (.pick 166 168 (.b false)),M 67 170 169,G 68 171 170 true (.mv 17),G 69 172 170 true (.call (.f 61) [.i 0,.i 2,.i 0] [] false),G 70 173 170 true (.call (.f 61) [.i 1,.i 0,.i 0] [] false),G 71 174 170 true (.call (.f 61) [.i 2,.i 2,.i 0] [] false),G 72 175 170 true (.lits 3 [.lit (.int .i64 0),.lit (.int .i64 0),.lit (.int .i64 0)] 3 [(0,172),(1,173),(2,174)] none),G 73 176 170 true (.call (.f 28) [171,175] [] false),q 74 177 (.pick 170 176
 (.b false)),M 75 178 177,G 76 179 178 true (.mv 18),G 77 180 178 true (.bin .eql 179 (.i 0)),q 78 181 (.pick 178 180 (.b false)),M 79 182 181,G 80 183 182 true (.mv 19),G 81 184 182 true (.bin .eql 183 (.i 78)),q 82 185 (.pick 182 184 (.b false)),M 83 186 185,G 84 187 186 true (.mv 22),G 85 188 186 true (.bin .eql 187 (.i 2)),q 86 189 (.pick 186 188 (.b false)),M 87 190 189,G 88 191 190 true (.mv 25),G 89 192 190 true (.lits 1 [.lit (.int .i64 0)] 2 [(0,.i 0),(1,.i 2)] none),G 90 193 190 true (.call (.f 18) [191,192] [] false),q 91 194 (.pick 190 193 (.b false)),M 92 195 194,G 93 196 195 true (.mv 26),G 94 197 195 true (.lits 1 [.lit (.int .i64 0)] 2 [(0,.i 0),(1,.i 2)] none),G 95 198 195 true (.call (.f 18) [196,197] [] false),q 96 199 (.pick 195 198 (.b false)),M 97 200 199,G 98 201 200 true (.mv 28),G 99 202 200 true (.bin .eql 201 (.i 58)),q 100 203 (.pick 200 202 (.b false)),M 101 204 203,G 102 205 204 true (.mv 30),G 103 206 204 true (.lits 1 [.lit (.int .i64 0)] 1 [(0,.i 2)] none),G 104 207 204 true (.call (.f 18) [205,206] [] false),q 105 208 (.pick 204 207 (.b false)),M 106 0 208] [0] .ret)))))))))))))))
def a19:AFunc:=⟨0,c19,[.tmp 0]⟩
def c20:ACode :=
 (.s 1 [q 0 3 (.box 4 0 0),M 1 6 (.i 0),M 2 7 (.i 0)] [1,2,3] (.s 0 [LK 0 11 4 3,M 1 12 1,CL 2 13 62 [11,12],M 3 10 13,EX 4 14 10 0,EX 5 15 10 1,M 6 8 14,M 7 9 15] [1,2,8,9] (.seq (.block 0 (.s 0 [M 0 17 9,B 1 18 .neq 17 (.i 0),M 2 16 18] [1,2,8,9,16] (.cond 16 (.s 0 [M 0 19 9,M 1 6 (.i 0),M 2 7 19] [6,7] .ret) (.s 0 [M 0 21 2,q 1 22 (.lits 1 [.lit (.int .i64 0)] 1 [(0,21)] none),CL 2 23 46 [.i 0,.i 364,22],M 3 20 23] [1,2,8,20] (.cond 20 (.s 0 [M 0 6 (.i 0),M 1 7 (.i 7)] [6,7] .ret) .skip))))) (.s 0 [M 0 24 8,M 1 25 1,M 2 26 2,q 3 27 (.call (.f 63) [24,25,26] [[],[],[],[],[],[],[],[],[]] false),M 4 6 27,M 5 7 (.i 0)] [6,7] .ret))))
def a20:AFunc:=⟨3,c20,[.tmp 6,.tmp 7]⟩
def c22:ACode :=
 (.s 1 [q 0 2 (.box 4 0 0),M 1 4 (.i 0),M 2 5 (.i 0)] [1,2] (.s 0 [LK 0 11 4 2,M 1 12 1,CL 2 13 62 [11,12],M 3 10 13,EX 4 14 10 0,EX 5 15 10 1,M 6 6 14,M 7 7 15] [1,6,7] (.seq (.s 0 [M 0 16 7,B 1 17 .neq 16 (.i 0)] [1,6,7,17] (.cond 17 (.s 0 [M 0 18 7,M 1 4 (.i 0),M 2 5 18] [4,5] .ret) .skip)) (.s 0 [M 0 20 6,M 1 21 1,q 2 22 (.call (.f 66) [20,21] [[],[],[],[],[],[],[],[],[]] false),M 3 19 22,EX 4 23 19 0,EX 5 24 19 1,M 6 8 23,M 7 9 24] [8,9] (.seq (.s 0 [M 0 25 8,B 1 26 .eql 25 (.i 0)] [9,26] (.cond 26 (.s 0 [M 0 4 (.i 0),M 1 5 (.i 4)] [4,5] .ret) .skip)) (.s 0 [M 0 27 9,M 1 4 27,M 2 5 (.i 0)] [4,5] .ret))))))
def a22:AFunc:=⟨2,c22,[.tmp 4,.tmp 5]⟩
def c24:ACode :=
 (.s 2 [q 0 2 (.box 4 0 0),q 1 4 (.nil 1 1),M 2 5 (.i 0)] [1,2,4] (.s 0 [LK 0 11 4 2,M 1 12 1,CL 2 13 62 [11,12],M 3 10 13,EX 4 14 10 0,EX 5 15 10 1,M 6 6 14,M 7 5 15] [1,2,4,5,6] (.seq (.s 0 [M 0 16 5,B 1 17 .neq 16 (.i 0)] [1,2,4,5,6,17] (.cond 17 (.s 1 [M 0 18 5,q 1 4 (.nil 1 0),M 2 5 18] [4,5] .ret) .skip)) (.s 0 [M 0 19 6,q 1 20 (.mkfn (.func 68) [19] []),M 2 7 20] [1,2,4,7] (.seq (.s 0 [FA 0 21 0 2,L 1 22 21,LE 2 23 22,M 3 24 (.i 0)] [1,4,7,22,23,24] (.block 0 (.loop true [1,4,7,22,23,24] (.s 0 [B 0 25 .lss 24 23] [1,4,7,22,23,24,25] (.seq (.cond 25 .skip (.exit 0)) (.seq (.block 1 (.s 1 [M 0 26 24,IX 1 27 8 22 24,LK 2 28 8 27,q 3 9 (.alloc [.lit (.string ⟨#[]⟩),.lit (.int .i64 0),.lit (.bool false),.lit (.int .i64 0),.lit (.int .i64 0),.lit (.int .i64 0),.lit (.int .i64 0),.lit (.int .i64 0)] [] 0),M 4 8 26,ST 5 8 9 28] [1,4,7,8,9,22,23,24] (.s 0 [FA 0 29 2 9,L 1 30 29,M 2 31 30,G 3 32 31 true (.fieldAddr 7 9),G 4 33 31 true (.load none 32),G 5 34 31 true (.bin .lss 33 (.i 364)),q 6 35 (.pick 31 34 (.b false)),M 7 36 35,G 8 37 36 true (.mv 7),G 9 38 36 true (.mv 1),G 10 39 36 true (.mv 8),G 11 40 36 true (.call 37 [38,39] [] false),G 12 41 36 true (.un .not 40),q 13 42 (.pick 36 41 (.b false))] [1,4,7,8,22,23,24,42] (.cond 42 (.g 0 [M 0 43 4,M 1 44 8,q 2 45 (.lits 1 [.lit (.int .i64 0)] 1 [(0,44)] none),q 3 46 (.append 1 8 43 45 none false),M 4 4 46] [1,4,7,22,23,24]) .skip)))) (.g 0 [B 0 47 .add 24 (.i 1),M 1 24 47] [1,4,7,22,23,24]))))))) (.s 0 [M 0 48 4,M 1 4 48,M 2
 5 (.i 0)] [4,5] .ret))))))
def a24:AFunc:=⟨2,c24,[.tmp 4,.tmp 5]⟩
def c26:ACode :=
 (.s 1 [q 0 1 (.box 4 0 0),M 1 2 (.c (.seq 3 [])),M 2 3 (.i 0),M 3 4 (.i 0),M 4 5 (.i 0)] [1] (.s 0 [LK 0 10 4 1,CL 1 11 51 [10],M 2 9 11,EX 3 12 9 0,EX 4 13 9 1,M 5 6 12,M 6 5 13] [5,6] (.seq (.s 0 [M 0 14 5,B 1 15 .neq 14 (.i 0)] [5,6,15] (.cond 15 (.s 0 [M 0 16 5,M 1 2 (.c (.seq 3 [])),M 2 3 (.i 0),M 3 4 (.i 0),M 4 5 16] [2,3,4,5] .ret) .skip)) (.s 1 [M 0 18 6,CL 1 19 70 [18],CL 2 20 69 [19,.f 71],M 3 17 20,EX 4 21 17 0,EX 5 22 17 1,q 6 7 (.alloc [.seq 3 [],.lit (.int .i64 0),.lit (.int .i64 0),.lit (.int .i64 0),.lit (.int .i64 0),.lit (.int .i64 0),.lit (.int .i64 0)] [] 0),ST 7 7 7 21,M 8 8 22] [7] (.sd 0 [FA 0 23 0 7,L 1 24 23,FA 2 25 1 7,L 3 26 25,FA 4 27 2 7,L 5 28 27,M 6 2 24,M 7 3 26,M 8 4 28,M 9 5 (.i 0)] [2,3,4,5] .ret)))))
def a26:AFunc:=⟨1,c26,[.tmp 2,.tmp 3,.tmp 4,.tmp 5]⟩
def c27:ACode :=
 (.s 1 [q 0 1 (.box 4 0 0),M 1 2 (.c (.seq 3 [])),M 2 3 (.i 0),M 3 4 (.i 0),M 4 5 (.i 0)] [1] (.s 0 [LK 0 16 4 1,CL 1 17 11 [16],M 2 15 17,EX 3 18 15 0,EX 4 19 15 1,EX 5 20 15 2,M 6 6 18,M 7 7 19,M 8 8 20] [1,8] (.seq (.s 0 [M 0 21 8,B 1 22 .neq 21 (.i 0)] [1,8,22] (.cond 22 (.s 0 [M 0 23 8,M 1 2 (.c (.seq 3 [])),M 2 3 (.i 0),M 3 4 (.i 0),M 4 5 23] [2,3,4,5] .ret) .skip)) (.s 0 [LK 0 24 4 1,CL 1 25 73 [24],M 2 9 25] [1,9] (.s 0 [M 0 10 (.c (.seq 3 []))] [1,9,10] (.s 0 [M 0 11 (.b false)] [1,9,10,11] (.seq (.s 0 [M 0 12 (.i 0)] [1,9,10,11,12] (.block 0 (.loop true [1,9,10,11,12] (.seq (.s 0 [M 0 26 12,M 1 27 9,LE 2 28 27,B 3 29 .lss 26 28] [1,9,10,11,12,29] (.cond 29 .skip (.exit 0))) (.seq (.block 1 (.seq (.sd 0 [LK 0 32 4 1,M 1 33 9,M 2 34 12,IX 3 35 1 33 34,L 4 36 35,CL 5 37 35 [32,36],q 6 38 (.un .not 37)] [1,9,10,11,12,38] (.cond 38 (.exit 1) .skip)) (.s 0 [M 0 39 9,M 1 40 12,IX 2 41 1 39 40,L 3 42 41,CL 4 43 36 [42],M 5 44 10,CL 6 45 36 [44],M 7 13 43,M 8 14 45] [1,9,10,11,12,13,14] (.sd 0 [M 0 46 11,q 1 47 (.un .not 46),M 2 48 47,G 3 49 48 false (.mv 13),G 4 50 48 false (.mv 14),G 5 51 48 false (.bin .lss 49 50),q 6 52 (.pick 48 (.b true) 51),M 7 53 52,G 8 54 53 false (.mv 13),G 9 55 53 false (.mv 14),G 10 56 53 false (.bin .eql 54 55),G 11 57 53 false (.mv 56),G 12 58 57 true (.load (some 4) 1),G 13 59 57 true (.mv 9),G 14 60 57 true (.mv 12),G 15 61 57 true (.idxS 1 59 60),G 16 62 57 true (.load none 61),G 17 63 57 true (.call (.f 37) [58,62] [] true),G 18 64 57 true
 (.load (some 4) 1),G 19 65 57 true (.mv 10),G 20 66 57 true (.call (.f 37) [64,65] [] false),G 21 67 57 true (.bin .lss 63 66),G 22 68 53 false (.pick 57 67 (.b false)),q 23 69 (.pick 53 (.b true) 68)] [1,9,10,11,12,69] (.cond 69 (.g 0 [M 0 70 9,M 1 71 12,IX 2 72 1 70 71,L 3 73 72,M 4 10 73,M 5 11 (.b true)] [1,9,10,11,12]) .skip))))) (.g 0 [M 0 30 12,B 1 31 .add 30 (.i 1),M 2 12 31] [1,9,10,11,12])))))) (.sd 0 [M 1 75 10,CP 2 76 36 [75],LK 3 77 4 1,M 4 78 10,CL 5 79 37 [77,78],M 0 74 10,M 6 2 74,M 7 3 76,M 8 4 79,M 9 5 (.i 0)] [2,3,4,5] .ret))))))))
def a27:AFunc:=⟨1,c27,[.tmp 2,.tmp 3,.tmp 4,.tmp 5]⟩
def c28:ACode :=
 (.s 0 [M 0 4 (.b false)] [0,1] (.seq (.s 0 [M 0 6 0,LE 1 7 6,M 2 8 1,LE 3 9 8,B 4 10 .neq 7 9] [0,1,10] (.cond 10 (.s 0 [M 0 4 (.b false)] [4] .ret) .skip)) (.seq (.s 0 [M 0 5 (.i 0)] [0,1,5] (.block 0 (.loop true [0,1,5] (.seq (.s 0 [M 0 11 5,M 1 12 0,LE 2 13 12,B 3 14 .lss 11 13] [0,1,5,14] (.cond 14 .skip (.exit 0))) (.seq (.block 1 (.sd 0 [M 0 17 0,M 1 18 5,IX 2 19 3 17 18,LK 3 20 3 19,M 4 21 1,M 5 22 5,IX 6 23 3 21 22,LK 7 24 3 23,q 8 25 (.cmp true [0,0,0] 20 24)] [0,1,5,25] (.cond 25 (.s 0 [M 0 4 (.b false)] [4] .ret) .skip))) (.g 0 [M 0 15 5,B 1 16 .add 15 (.i 1),M 2 5 16] [0,1,5])))))) (.s 0 [M 0 4 (.b true)] [4] .ret))))
def a28:AFunc:=⟨2,c28,[.tmp 4]⟩
def c29:ACode :=
 (.s 3 [q 0 1 (.box 4 0 0),q 1 2 (.nil 1 1),q 2 3 (.nil 1 2),M 3 4 (.i 0)] [1,2,3] (.s 0 [LK 0 16 4 1,CL 1 17 51 [16],M 2 15 17,EX 3 18 15 0,EX 4 19 15 1,M 5 5 18,M 6 4 19] [1,2,3,4,5] (.seq (.s 0 [M 0 20 4,B 1 21 .neq 20 (.i 0)] [1,2,3,4,5,21] (.cond 21 (.s 2 [M 0 22 4,q 1 2 (.nil 1 0),q 2 3 (.nil 1 1),M 3 4 22] [2,3,4] .ret) .skip)) (.s 1 [M 0 24 5,CL 1 25 70 [24],CL 2 26 69 [25,.f 74],M 3 23 26,EX 4 27 23 0,EX 5 28 23 1,q 6 6 (.alloc [.seq 3 [],.lit (.int .i64 0),.lit (.int .i64 0),.lit (.int .i64 0),.lit (.int .i64 0),.lit (.int .i64 0),.lit (.int .i64 0)] [] 0),ST 7 7 6 27,M 8 7 28] [1,2,3,5,6] (.s 2 [q 0 29 (.mkmap 0),q 1 8 (.alloc [.lit (.map none)] [] 1),ST 2 1 8 29] [1,2,3,5,6,8] (.seq (.s 0 [M 0 30 5,CL 1 31 70 [30]] [1,2,3,6,8,31] (.block 0 (.rangeFunc 31 [32] [6,8] (.g 1 [q 0 9 (.alloc [.seq 3 [],.lit (.int .i64 0),.lit (.int .i64 0),.lit (.int .i64 0),.lit (.int .i64 0),.lit (.int .i64 0),.lit (.int .i64 0)] [] 0),ST 1 7 9 32] [6,8,9]) (.block 1 (.s 0 [L 0 34 8,FA 1 35 4 9,LK 2 36 3 35,q 3 37 (.lookup (.lit (.int .i64 0)) true [0,0,0] 34 36 true),M 4 33 37,EX 5 38 33 0,EX 6 39 33 1,M 7 10 38,M 8 11 39] [6,8,9,10,11] (.s 0 [FA 0 40 1 9,L 1 41 40,FA 2 42 1 6,L 3 43 42,B 4 44 .eql 41 43,M 5 45 44,G 6 46 45 true (.mv 11),G 7 47 45 true (.un .not 46),G 8 48 45 true (.mv 47),G 9 49 48 false (.fieldAddr 2 9),G 10 50 48 false (.load none 49),G 11 51 48 false (.mv 10),G 12 52 48 false (.bin .lss 50 51),G 13 53 45 true (.pick 48 (.b true) 52),q 14 54 (.pick 45 53 (.b
 false))] [8,9,54] (.cond 54 (.g 0 [L 0 55 8,FA 1 56 4 9,LK 2 57 3 56,FA 3 58 2 9,L 4 59 58,r 5 (.mupd true [0,0,0] 55 57 59)] []) .skip))))))) (.seq (.s 0 [FA 0 60 1 1,L 1 61 60,LE 2 62 61,M 3 63 (.i 0)] [2,3,8,62,63] (.block 2 (.loop true [2,3,8,62,63] (.s 0 [B 0 64 .lss 63 62] [2,3,8,62,63,64] (.seq (.cond 64 .skip (.exit 2)) (.seq (.block 3 (.s 0 [M 0 65 63,M 1 12 65] [2,3,8,12,62,63] (.s 0 [M 0 13 (.i 0)] [2,3,8,12,13,62,63] (.seq (.s 1 [L 0 66 8,q 1 67 (.rangeM 66 0)] [2,3,8,12,13,62,63,67] (.block 4 (.loopM 67 68 69 [2,3,8,12,13,62,63,67] [2,3,8,12,13,62,63,67] [2,3,8,12,13,62,63] (.seq (.cond 69 .skip (.exit 4)) (.block 5 (.s 1 [q 0 70 (.entry 67),EX 1 71 70 0,q 2 14 (.alloc [.lit (.int .i64 0),.lit (.int .i64 0),.lit (.int .i64 0)] [] 0),ST 3 3 14 71] [2,3,8,12,13,14,62,63,67] (.s 0 [LK 0 72 3 14,q 1 73 (.build [.lit (.int .i64 0),.lit (.int .i64 0),.lit (.int .i64 0)] []),q 2 74 (.cmp true [0,0,0] 72 73),M 3 75 74,G 4 76 75 true (.mv 12),G 5 77 75 true (.idxA 1 3 14 76),G 6 78 75 true (.load none 77),G 7 79 75 true (.bin .gtr 78 (.i 0)),q 8 80 (.pick 75 79 (.b false))] [2,3,8,12,13,62,63,67,80] (.cond 80 (.g 0 [M 0 81 13,B 1 82 .add 81 (.i 1),M 2 13 82] [2,3,8,12,13,62,63,67]) .skip)))))))) (.seq (.s 0 [M 0 83 13,B 1 84 .eql 83 (.i 0)] [2,3,8,12,13,62,63,84] (.cond 84 (.g 0 [M 0 85 2,M 1 86 12,q 2 87 (.lits 1 [.lit (.int .i64 0)] 1 [(0,86)] none),q 3 88 (.append 1 8 85 87 none false),M 4 2 88] [2,3,8,12,13,62,63]) .skip)) (.s 0 [M 0 89 13,L 1 90 8,q 2 91 (.lenM 90),B
 3 92 .lss 89 91] [2,3,8,12,62,63,92] (.cond 92 (.g 0 [M 0 93 3,M 1 94 12,q 2 95 (.lits 1 [.lit (.int .i64 0)] 1 [(0,94)] none),q 3 96 (.append 1 8 93 95 none false),M 4 3 96] [2,3,8,62,63]) .skip))))))) (.g 0 [B 0 97 .add 63 (.i 1),M 1 63 97] [2,3,8,62,63]))))))) (.s 0 [M 0 98 2,M 1 99 3,M 2 2 98,M 3 3 99,M 4 4 (.i 0)] [2,3,4] .ret))))))))
def a29:AFunc:=⟨1,c29,[.tmp 2,.tmp 3,.tmp 4]⟩
def c31:ACode :=
 (.s 1 [q 0 1 (.box 4 0 0),M 1 2 (.i 0),M 2 3 (.i 0)] [1] (.s 0 [LK 0 9 4 1,CL 1 10 51 [9],M 2 8 10,EX 3 11 8 0,EX 4 12 8 1,M 5 4 11,M 6 5 12] [4,5] (.seq (.s 0 [M 0 13 5,B 1 14 .neq 13 (.i 0)] [4,5,14] (.cond 14 (.s 0 [M 0 15 5,M 1 2 (.i 0),M 2 3 15] [2,3] .ret) .skip)) (.s 1 [M 0 17 4,CL 1 18 75 [17],CL 2 19 69 [18,.f 76],M 3 16 19,EX 4 20 16 0,EX 5 21 16 1,q 6 6 (.alloc [.seq 3 [],.lit (.int .i64 0),.lit (.int .i64 0),.lit (.int .i64 0),.lit (.int .i64 0),.lit (.int .i64 0),.lit (.int .i64 0)] [] 0),ST 7 7 6 20,M 8 7 21] [6,7] (.seq (.block 0 (.s 0 [M 0 23 7,q 1 24 (.un .not 23),M 2 25 24,G 3 26 25 false (.fieldAddr 1 6),G 4 27 25 false (.load none 26),G 5 28 25 false (.bin .gtr 27 (.i 0)),q 6 29 (.pick 25 (.b true) 28),M 7 30 29,G 8 31 30 false (.fieldAddr 3 6),G 9 32 30 false (.load none 31),G 10 33 30 false (.bin .gtr 32 (.i 10000)),q 11 34 (.pick 30 (.b true) 33),M 12 22 34] [6,22] (.cond 22 (.s 0 [M 0 2 (.i 0),M 1 3 (.i 9)] [2,3] .ret) (.s 0 [FA 0 36 3 6,L 1 37 36,B 2 38 .eql 37 (.i 0),M 3 35 38] [6,35] (.cond 35 (.s 0 [M 0 2 (.i 0),M 1 3 (.i 4)] [2,3] .ret) .skip))))) (.s 0 [FA 0 39 3 6,L 1 40 39,M 2 2 40,M 3 3 (.i 0)] [2,3] .ret))))))
def a31:AFunc:=⟨1,c31,[.tmp 2,.tmp 3]⟩
def c33:ACode :=
 (.s 1 [q 0 1 (.box 4 0 0),M 1 2 (.b false)] [1] (.s 0 [LK 0 7 4 1,CL 1 8 11 [7],M 2 6 8,EX 3 9 6 0,EX 4 10 6 1,EX 5 11 6 2,M 6 3 9,M 7 4 10,M 8 5 11] [5] (.s 0 [M 0 12 5,B 1 13 .eql 12 (.i 0),M 2 2 13] [2] .ret)))
def a33:AFunc:=⟨1,c33,[.tmp 2]⟩
def c35:ACode :=
 (.s 1 [q 0 2 (.box 4 0 0),M 1 4 (.b false)] [1,2] (.s 0 [LK 0 8 4 2,M 1 9 1,CL 2 10 67 [8,9],M 3 7 10,EX 4 11 7 0,EX 5 12 7 1,M 6 5 11,M 7 6 12] [5] (.s 0 [M 0 13 5,B 1 14 .geq 13 (.i 0),M 2 4 14] [4] .ret)))
def a35:AFunc:=⟨2,c35,[.tmp 4]⟩
def c36:ACode :=
 (.s 0 [M 0 2 (.i 0)] [0] (.s 0 [M 0 3 (.i 0)] [0,3] (.seq (.s 0 [M 0 4 (.i 0)] [0,3,4] (.block 0 (.loop true [0,3,4] (.seq (.s 0 [M 0 5 4,M 1 6 0,LE 2 7 6,B 3 8 .lss 5 7] [0,3,4,8] (.cond 8 .skip (.exit 0))) (.seq (.block 1 (.s 0 [M 0 11 0,M 1 12 4,IX 2 13 3 11 12,FA 3 14 0 13,L 4 15 14,B 5 16 .eql 15 (.i (-1))] [0,3,4,16] (.cond 16 (.g 0 [M 0 17 3,B 1 18 .add 17 (.i 1),M 2 3 18] [0,3,4]) .skip))) (.g 0 [M 0 9 4,B 1 10 .add 9 (.i 1),M 2 4 10] [0,3,4])))))) (.s 0 [M 0 19 3,M 1 2 19] [2] .ret))))
def a36:AFunc:=⟨1,c36,[.tmp 2]⟩
def c37:ACode :=
 (.s 1 [q 0 2 (.box 4 0 0),M 1 4 (.i 0)] [1,2] (.s 0 [M 0 5 (.i 0)] [1,2,5] (.seq (.s 0 [M 0 6 (.i 0)] [1,2,5,6] (.block 0 (.loop true [1,2,5,6] (.seq (.s 0 [M 0 9 6,M 1 10 1,LE 2 11 10,B 3 12 .lss 9 11] [1,2,5,6,12] (.cond 12 .skip (.exit 0))) (.seq (.block 1 (.sd 0 [LK 0 16 4 2,M 1 17 6,M 2 18 1,M 3 19 6,IX 4 20 3 18 19,LK 5 21 3 20,CL 6 22 78 [16,17,21],M 7 15 22,EX 8 23 15 0,EX 9 24 15 1,M 10 7 23,M 11 8 24] [1,2,5,6,7] (.g 0 [M 0 25 5,M 1 26 7,B 2 27 .add 25 26,M 3 5 27] [1,2,5,6]))) (.g 0 [M 0 13 6,B 1 14 .add 13 (.i 1),M 2 6 14] [1,2,5,6])))))) (.s 0 [M 0 28 5,M 1 4 28] [4] .ret))))
def a37:AFunc:=⟨2,c37,[.tmp 4]⟩
def c40:ACode :=
 (.s 0 [M 0 4 (.b false)] [0,1] (.seq (.s 0 [M 0 5 (.i 0)] [0,1,5] (.block 0 (.loop true [0,1,5] (.seq (.s 0 [M 0 6 5,M 1 7 0,LE 2 8 7,B 3 9 .lss 6 8] [0,1,5,9] (.cond 9 .skip (.exit 0))) (.seq (.block 1 (.s 0 [M 0 12 0,M 1 13 5,IX 2 14 1 12 13,L 3 15 14,M 4 16 1,B 5 17 .eql 15 16] [0,1,5,17] (.cond 17 (.s 0 [M 0 4 (.b true)] [4] .ret) .skip))) (.g 0 [M 0 10 5,B 1 11 .add 10 (.i 1),M 2 5 11] [0,1,5])))))) (.s 0 [M 0 4 (.b false)] [4] .ret)))
def a40:AFunc:=⟨2,c40,[.tmp 4]⟩
def c41:ACode :=
 (.s 3 [q 0 3 (.box 1 0 0),q 1 4 (.box 1 1 1),q 2 5 (.box 1 2 2),M 3 6 (.i 0)] [3,4,5] (.seq (.block 0 (.sd 0 [L 0 8 5,L 1 9 3,L 2 10 4,IX 3 11 8 9 10,LK 4 12 8 11,q 5 13 (.call 8 [12] [] false),CL 6 14 81 [13],q 7 15 (.un .not 14),M 8 7 15] [3,4,5,7] (.cond 7 (.s 0 [M 0 6 (.i 6)] [6] .ret) (.s 0 [L 0 17 3,L 1 18 4,q 2 19 (.sliceQ 8 17 none (some 18)),q 3 20 (.mkfn (.func 83) [] [5,3,4]),CL 4 21 82 [19,20],M 5 16 21] [16] (.cond 16 (.s 0 [M 0 6 (.i 5)] [6] .ret) .skip))))) (.s 0 [M 0 6 (.i 0)] [6] .ret)))
def a41:AFunc:=⟨3,c41,[.tmp 6]⟩
def c42:ACode :=
 (.s 1 [q 0 1 (.box 8 0 0),M 1 2 (.c (.lit (.string ⟨#[]⟩)))] [1] (.s 0 [FA 0 3 0 1,L 1 4 3,M 2 2 4] [2] .ret))
def a42:AFunc:=⟨1,c42,[.tmp 2]⟩
def c43:ACode :=
 (.s 1 [q 0 1 (.box 8 0 0),M 1 2 (.b false)] [1] (.seq (.s 0 [FA 0 3 2 1,L 1 4 3,q 2 5 (.un .not 4)] [1,5] (.cond 5 (.s 0 [FA 0 6 1 1,L 1 7 6,q 2 8 (.lits 1 [.lit (.int .i64 0)] 1 [(0,7)] none),CL 3 9 46 [.i 0,.i 15,8],M 4 10 9,G 5 11 10 false (.fieldAddr 3 1),G 6 12 10 false (.load none 11),G 7 13 10 false (.fieldAddr 4 1),G 8 14 10 false (.load none 13),G 9 15 10 false (.fieldAddr 5 1),G 10 16 10 false (.load none 15),G 11 17 10 false (.fieldAddr 6 1),G 12 18 10 false (.load none 17),G 13 19 10 false (.fieldAddr 7 1),G 14 20 10 false (.load none 19),G 15 21 10 false (.lits 1 [.lit (.int .i64 0)] 5 [(0,12),(1,14),(2,16),(3,18),(4,20)] none),G 16 22 10 false (.call (.f 46) [.i 0,.i 0,21] [] false),q 17 23 (.pick 10 (.b true) 22),M 18 2 23] [2] .ret) .skip)) (.s 0 [FA 0 24 1 1,L 1 25 24,q 2 26 (.lits 1 [.lit (.int .i64 0)] 1 [(0,25)] none),CL 3 27 46 [.i 0,.i 15,26],M 4 28 27,G 5 29 28 false (.fieldAddr 3 1),G 6 30 28 false (.load none 29),G 7 31 28 false (.lits 1 [.lit (.int .i64 0)] 1 [(0,30)] none),G 8 32 28 false (.call (.f 46) [.i 0,.i 5000,31] [] false),q 9 33 (.pick 28 (.b true) 32),M 10 34 33,G 11 35 34 false (.fieldAddr 4 1),G 12 36 34 false (.load none 35),G 13 37 34 false (.lits 1 [.lit (.int .i64 0)] 1 [(0,36)] none),G 14 38 34 false (.call (.f 46) [.i 0,.i 500,37] [] false),q 15 39 (.pick 34 (.b true) 38),M 16 40 39,G 17 41 40 false (.fieldAddr 5 1),G 18 42 40 false (.load none 41),G 19 43 40 false (.lits 1 [.lit (.int .i64 0)] 1 [(0,42)] none),G 20 44 40 false
 (.call (.f 46) [.i 0,.i 100,43] [] false),q 21 45 (.pick 40 (.b true) 44),M 22 46 45,G 23 47 46 false (.fieldAddr 6 1),G 24 48 46 false (.load none 47),G 25 49 46 false (.fieldAddr 7 1),G 26 50 46 false (.load none 49),G 27 51 46 false (.lits 1 [.lit (.int .i64 0)] 2 [(0,48),(1,50)] none),G 28 52 46 false (.call (.f 46) [.i 0,.i 364,51] [] false),q 29 53 (.pick 46 (.b true) 52),M 30 2 53] [2] .ret)))
def a43:AFunc:=⟨1,c43,[.tmp 2]⟩
def c44:ACode :=
 (.s 3 [q 0 3 (.box 1 0 0),q 1 4 (.box 1 1 1),q 2 5 (.box 1 2 2),M 3 6 (.i 0)] [3,4,5] (.seq (.block 0 (.sd 0 [L 0 8 5,L 1 9 3,L 2 10 4,IX 3 11 4 9 10,LK 4 12 4 11,q 5 13 (.call 8 [12] [] false),CL 6 14 81 [13],q 7 15 (.un .not 14),M 8 7 15] [3,4,5,7] (.cond 7 (.s 0 [M 0 6 (.i 6)] [6] .ret) (.s 0 [L 0 17 3,L 1 18 4,q 2 19 (.sliceQ 4 17 none (some 18)),q 3 20 (.mkfn (.func 85) [] [5,3,4]),CL 4 21 84 [19,20],M 5 16 21] [16] (.cond 16 (.s 0 [M 0 6 (.i 5)] [6] .ret) .skip))))) (.s 0 [M 0 6 (.i 0)] [6] .ret)))
def a44:AFunc:=⟨3,c44,[.tmp 6]⟩
def c45:ACode :=
 (.s 1 [q 0 1 (.box 4 0 0),M 1 2 (.c (.lit (.string ⟨#[]⟩)))] [1] (.s 0 [FA 0 3 0 1,L 1 4 3,M 2 2 4] [2] .ret))
def a45:AFunc:=⟨1,c45,[.tmp 2]⟩
def c46:ACode :=
 (.s 2 [q 0 3 (.box 1 0 0),q 1 4 (.box 1 1 1),M 2 6 (.b false)] [2,3,4] (.s 0 [M 0 7 2,q 1 8 (.mkfn (.func 87) [] [3,4]),CL 2 9 86 [7,8],M 3 6 9] [6] .ret))
def a46:AFunc:=⟨3,c46,[.tmp 6]⟩
def c47:ACode :=
 (.s 0 [M 0 4 (.i 0)] [0,1] (.seq (.s 0 [M 0 5 0,CL 1 6 88 [5],q 2 7 (.un .not 6)] [0,1,7] (.cond 7 (.s 0 [M 0 4 (.i 6)] [4] .ret) .skip)) (.seq (.s 0 [M 0 8 1,M 1 9 0,CL 2 10 89 [8,9],B 3 11 .geq 10 (.i 0)] [11] (.cond 11 (.s 0 [M 0 4 (.i 5)] [4] .ret) .skip)) (.s 0 [M 0 4 (.i 0)] [4] .ret))))
def a47:AFunc:=⟨2,c47,[.tmp 4]⟩
def c48:ACode :=
 (.s 1 [q 0 1 (.box 8 0 0),M 1 2 (.b false)] [1] (.seq (.s 0 [FA 0 3 1 1,L 1 4 3,CL 2 5 50 [4,.i 0,.i 15],q 3 6 (.un .not 5)] [1,6] (.cond 6 (.s 0 [M 0 2 (.b false)] [2] .ret) .skip)) (.seq (.s 0 [FA 0 7 2 1,L 1 8 7,q 2 9 (.un .not 8)] [1,9] (.cond 9 (.s 0 [FA 0 10 3 1,L 1 11 10,B 2 12 .eql 11 (.i 0),M 3 13 12,G 4 14 13 true (.fieldAddr 4 1),G 5 15 13 true (.load none 14),G 6 16 13 true (.bin .eql 15 (.i 0)),q 7 17 (.pick 13 16 (.b false)),M 8 18 17,G 9 19 18 true (.fieldAddr 5 1),G 10 20 18 true (.load none 19),G 11 21 18 true (.bin .eql 20 (.i 0)),q 12 22 (.pick 18 21 (.b false)),M 13 23 22,G 14 24 23 true (.fieldAddr 6 1),G 15 25 23 true (.load none 24),G 16 26 23 true (.bin .eql 25 (.i 0)),q 17 27 (.pick 23 26 (.b false)),M 18 28 27,G 19 29 28 true (.fieldAddr 7 1),G 20 30 28 true (.load none 29),G 21 31 28 true (.bin .eql 30 (.i 0)),q 22 32 (.pick 28 31 (.b false)),M 23 2 32] [2] .ret) .skip)) (.s 0 [FA 0 33 3 1,L 1 34 33,CL 2 35 50 [34,.i 0,.i 5000],M 3 36 35,G 4 37 36 true (.fieldAddr 4 1),G 5 38 36 true (.load none 37),G 6 39 36 true (.call (.f 50) [38,.i 0,.i 500] [] false),q 7 40 (.pick 36 39 (.b false)),M 8 41 40,G 9 42 41 true (.fieldAddr 5 1),G 10 43 41 true (.load none 42),G 11 44 41 true (.call (.f 50) [43,.i 0,.i 100] [] false),q 12 45 (.pick 41 44 (.b false)),M 13 46 45,G 14 47 46 true (.fieldAddr 6 1),G 15 48 46 true (.load none 47),G 16 49 46 true (.call (.f 50) [48,.i 0,.i 364] [] false),q 17 50 (.pick 46 49 (.b false)),M 18 51 50,G 19 52 51 true
 (.fieldAddr 7 1),G 20 53 51 true (.load none 52),G 21 54 51 true (.call (.f 50) [53,.i 0,.i 364] [] false),q 22 55 (.pick 51 54 (.b false)),M 23 2 55] [2] .ret))))
def a48:AFunc:=⟨1,c48,[.tmp 2]⟩
def c49:ACode :=
 (.s 1 [q 0 1 (.box 4 0 0),M 1 2 (.i 0)] [1] (.seq (.s 0 [FA 0 3 1 1,L 1 4 3,CL 2 5 50 [4,.i 0,.i 364],q 3 6 (.un .not 5),M 4 7 6,G 5 8 7 false (.fieldAddr 2 1),G 6 9 7 false (.load none 8),G 7 10 7 false (.call (.f 50) [9,.i 0,.i 364] [] false),G 8 11 7 false (.un .not 10),q 9 12 (.pick 7 (.b true) 11),M 10 13 12,G 11 14 13 false (.fieldAddr 3 1),G 12 15 13 false (.load none 14),G 13 16 13 false (.call (.f 50) [15,.i 0,.i 15] [] false),G 14 17 13 false (.un .not 16),q 15 18 (.pick 13 (.b true) 17)] [1,18] (.cond 18 (.s 0 [M 0 2 (.i 7)] [2] .ret) .skip)) (.seq (.s 0 [FA 0 19 1 1,L 1 20 19,FA 2 21 2 1,L 3 22 21,B 4 23 .gtr 20 22] [23] (.cond 23 (.s 0 [M 0 2 (.i 2)] [2] .ret) .skip)) (.s 0 [M 0 2 (.i 0)] [2] .ret))))
def a49:AFunc:=⟨1,c49,[.tmp 2]⟩
def c50:ACode :=
 (.s 0 [M 0 6 (.b false)] [0,1,2] (.s 0 [M 0 7 0,M 1 8 1,B 2 9 .geq 7 8,M 3 10 9,G 4 11 10 true (.mv 0),G 5 12 10 true (.mv 2),G 6 13 10 true (.bin .leq 11 12),q 7 14 (.pick 10 13 (.b false)),M 8 6 14] [6] .ret))
def a50:AFunc:=⟨3,c50,[.tmp 6]⟩
def c51:ACode :=
 (.s 1 [q 0 1 (.box 4 0 0),M 1 2 (.c (.lit (.pointer none))),M 2 3 (.i 0)] [1] (.seq (.s 0 [LK 0 11 4 1,CL 1 12 10 [11],M 2 10 12,EX 3 13 10 0,EX 4 14 10 1,EX 5 15 10 2,M 6 4 13,M 7 5 14,M 8 6 15] [1,6] (.s 0 [M 0 16 6,B 1 17 .neq 16 (.i 0)] [1,6,17] (.cond 17 (.s 0 [M 0 18 6,M 1 2 (.c (.lit (.pointer none))),M 2 3 18] [2,3] .ret) .skip))) (.s 2 [LK 0 19 4 1,q 1 20 (.lits 1 [.lit (.int .i64 0)] 1 [(0,.i 0)] (some 0)),q 2 21 (.build [.seq 8 [],.seq 4 [],.lit (.int .i64 0),.seq 2 [],.lit .nilFunc,.lit .nilFunc,.lit .nilFunc,.lit .nilFunc,.lit .nilFunc,.lit .nilFunc,.lit .nilFunc,.lit .nilFunc,.lit .nilFunc,.seq 1 []] [(0,4,19),(13,1,20)]),q 3 22 (.box 14 21 1),M 4 7 22] [1,7] (.s 0 [M 0 23 7,q 1 24 (.build [.lit .nilFunc,.lit .nilFunc,.lit .nilFunc] [(0,1,.f 90),(1,1,.f 91),(2,1,.f 92)]),NK 2 25 23,FA 3 26 4 25,q 4 27 (.idxA 3 3 26 (.i 0)),ST 5 3 27 24] [1,7] (.s 0 [M 0 28 7,q 1 29 (.build [.lit .nilFunc,.lit .nilFunc,.lit .nilFunc] [(0,1,.f 52),(1,1,.f 93),(2,1,.f 94)]),NK 2 30 28,FA 3 31 4 30,q 4 32 (.idxA 3 3 31 (.i 1)),ST 5 3 32 29] [1,7] (.s 0 [M 0 33 7,q 1 34 (.build [.lit .nilFunc,.lit .nilFunc,.lit .nilFunc] [(0,1,.f 55),(1,1,.f 95),(2,1,.f 96)]),NK 2 35 33,FA 3 36 4 35,q 4 37 (.idxA 3 3 36 (.i 2)),ST 5 3 37 34] [1,7] (.seq (.s 0 [FA 0 38 3 1,L 1 39 38,LE 2 40 39,M 3 41 (.i 0)] [7,39,40,41] (.block 0 (.loop true [7,39,40,41] (.s 0 [B 0 42 .lss 41 40] [7,39,40,41,42] (.seq (.cond 42 .skip (.exit 0)) (.seq (.block 1 (.s 1 [IX 0 43 2 39 41,LK 1 44 2 43,q 2 9 (.alloc [.lit
 (.int .i64 0),.lit (.int .i64 0)] [] 0),ST 3 2 9 44] [7,9,39,40,41] (.gd 0 [M 1 46 7,NK 2 47 46,FA 3 48 13 47,L 4 49 48,FA 5 50 0 9,L 6 51 50,q 7 52 (.lits 1 [.lit (.int .i64 0)] 1 [(0,51)] none),q 8 53 (.append 1 8 49 52 none false),M 0 45 7,NK 9 54 45,FA 10 55 13 54,ST 11 1 55 53] [7,39,40,41]))) (.g 0 [B 0 56 .add 41 (.i 1),M 1 41 56] [7,39,40,41]))))))) (.s 0 [M 0 57 7,NK 1 58 57,FA 2 59 13 58,L 3 60 59,q 4 61 (.call (.f 97) [60] [[],[],[],[],[],[],[],[],[]] false)] [7] (.s 0 [M 0 62 7,M 1 63 7,NK 2 64 63,FA 3 65 13 64,L 4 66 65,q 5 67 (.call (.f 98) [66] [[],[],[],[],[],[],[],[],[]] false),NK 6 68 62,FA 7 69 13 68,ST 8 1 69 67] [7] (.s 0 [M 0 70 7,M 1 2 70,M 2 3 (.i 0)] [2,3] .ret))))))))))
def a51:AFunc:=⟨1,c51,[.tmp 2,.tmp 3]⟩
def c52:ACode :=
 (.s 2 [q 0 3 (.box 8 0 0),q 1 4 (.box 4 1 1),M 2 6 (.i 0)] [2,3] (.s 0 [FA 0 7 3 3,L 1 8 7,FA 2 9 4 3,L 3 10 9,FA 4 11 6 3,L 5 12 11,M 6 13 2,B 7 14 .add 12 13,B 8 15 .quo 14 (.i 30),B 9 16 .add (.i 1) 15,B 10 17 .mul 10 16,B 11 18 .add 8 17,M 12 6 18] [6] .ret))
def a52:AFunc:=⟨3,c52,[.tmp 6]⟩
def c54:ACode :=
 (.s 1 [q 0 2 (.box 8 0 0),M 1 4 (.i 0)] [1,2] (.s 0 [FA 0 5 3 2,L 1 6 5,FA 2 7 4 2,L 3 8 7,FA 4 9 6 2,L 5 10 9,M 6 11 1,B 7 12 .add 10 11,B 8 13 .quo 12 (.i 30),B 9 14 .add 13 (.i 1),B 10 15 .mul 8 14,B 11 16 .add 6 15,M 12 4 16] [4] .ret))
def a54:AFunc:=⟨2,c54,[.tmp 4]⟩
def c55:ACode :=
 (.s 2 [q 0 3 (.box 8 0 0),q 1 4 (.box 4 1 1),M 2 6 (.i 0)] [3,4] (.s 0 [FA 0 7 5 3,L 1 8 7,FA 2 9 2 4,L 3 10 9,FA 4 11 1 4,L 5 12 11,B 6 13 .sub 10 12,B 7 14 .add 13 (.i 1),B 8 15 .mul 8 14,M 9 6 15] [6] .ret))
def a55:AFunc:=⟨3,c55,[.tmp 6]⟩
def c56:ACode :=
 (.s 2 [q 0 2 (.box 8 0 0),q 1 3 (.box 4 1 1),M 2 4 (.i 0)] [2,3] (.s 0 [FA 0 5 5 2,L 1 6 5,FA 2 7 2 3,L 3 8 7,FA 4 9 1 3,L 5 10 9,B 6 11 .sub 8 10,B 7 12 .add 11 (.i 1),B 8 13 .mul 6 12,M 9 4 13] [4] .ret))
def a56:AFunc:=⟨2,c56,[.tmp 4]⟩
def c57:ACode :=
 (.s 1 [q 0 5 (.box 3 2 0),M 1 6 (.i 0)] [0,1,5] (.seq (.block 0 (.sd 0 [LK 0 11 3 5,CP 1 12 99 [],q 2 13 (.cmp false [0,0,0] 11 12),M 3 10 13] [0,1,5,10] (.cond 10 (.s 0 [M 0 6 (.i 0)] [6] .ret) (.s 0 [FA 0 15 0 5,L 1 16 15,B 2 17 .eql 16 (.i (-1)),M 3 14 17] [0,1,5,14] (.cond 14 (.s 0 [M 0 6 (.i 2)] [6] .ret) (.sd 0 [M 0 19 0,NK 1 20 19,FA 2 21 0 20,FA 3 22 0 21,L 4 23 22,LE 5 24 23,B 6 25 .sub 24 (.i 1),FA 7 26 0 5,L 8 27 26,q 9 28 (.lits 1 [.lit (.int .i64 0)] 1 [(0,27)] none),CL 10 29 46 [.i 0,25,28],M 11 18 29] [0,1,5,18] (.cond 18 (.s 0 [M 0 6 (.i 4)] [6] .ret) .skip))))))) (.sd 2 [M 0 30 0,NK 1 31 30,FA 2 32 0 31,FA 3 33 0 32,⟨some 34,.load none 33,none,[0,1],[],0,4⟩,FA 5 35 0 5,⟨some 36,.load none 35,none,[0,1],[],0,6⟩,⟨some 37,.idxS 8 34 36,none,[0,1],[],0,7⟩,⟨some 38,.load (some 8) 37,none,[0,1],[],0,8⟩,q 17 7 (.alloc [.lit (.string ⟨#[]⟩),.lit (.int .i64 0),.lit (.bool false),.lit (.int .i64 0),.lit (.int .i64 0),.lit (.int .i64 0),.lit (.int .i64 0),.lit (.int .i64 0)] [] 0),q 18 8 (.alloc [.lit (.string ⟨#[]⟩),.lit (.int .i64 0),.lit (.int .i64 0),.lit (.int .i64 0)] [] 1),⟨none,.store 8 7 38,none,[],[(0,[])],0,19⟩,M 9 39 0,NK 10 40 39,FA 11 41 0 40,FA 12 42 1 41,⟨some 43,.load none 42,none,[0,1],[],1,13⟩,M 14 44 1,⟨some 45,.idxS 4 43 44,none,[0,1],[],1,15⟩,⟨some 46,.load (some 4) 45,none,[0,1],[],1,16⟩,ST 20 4 8 46] [0,5,7,8] (.s 0 [M 0 9 (.i 0)] [0,5,7,8,9] (.seq (.s 0 [FA 0 47 1 5,L 1 48 47,B 2 49 .eql 48 (.i 1)] [0,5,7,8,9,49] (.cond 49 (.g 0 [M 0 9 (.i 364)]
 [0,5,7,8,9]) .skip)) (.seq (.block 1 (.s 0 [FA 0 51 1 5,L 1 52 51,q 2 53 (.lits 1 [.lit (.int .i64 0)] 1 [(0,52)] none),CL 3 54 46 [.i 0,.i 2,53],M 4 55 54,G 5 56 55 false (.fieldAddr 2 7),G 6 57 55 false (.load none 56),G 7 58 55 false (.fieldAddr 1 5),G 8 59 55 false (.load none 58),G 9 60 55 false (.bin .neq 59 (.i 0)),G 10 61 55 false (.beq true 57 60),q 11 62 (.pick 55 (.b true) 61),M 12 63 62,G 13 64 63 false (.mv 9),G 14 65 63 false (.fieldAddr 2 5),G 15 66 63 false (.load none 65),G 16 67 63 false (.lits 1 [.lit (.int .i64 0)] 1 [(0,66)] none),G 17 68 63 false (.call (.f 46) [.i 0,64,67] [] false),q 18 69 (.pick 63 (.b true) 68),M 19 50 69] [0,5,7,8,50] (.cond 50 (.s 0 [M 0 6 (.i 2)] [6] .ret) (.sd 0 [FA 0 71 3 8,L 1 72 71,FA 2 73 1 7,L 3 74 73,B 4 75 .andNot 72 74,B 5 76 .neq 75 (.i 0),M 6 77 76,G 7 78 77 false (.mv 0),G 8 79 77 false (.fieldAddr 1 5),G 9 80 77 false (.load none 79),G 10 81 77 false (.nilck 78),G 11 82 77 false (.fieldAddr 4 81),G 12 83 77 false (.idxA 3 3 82 80),G 13 84 77 false (.fieldAddr 2 83),G 14 85 77 false (.load none 84),G 15 86 77 false (.load (some 8) 7),G 16 87 77 false (.load (some 4) 8),G 17 88 77 false (.fieldAddr 2 5),G 18 89 77 false (.load none 88),G 19 90 77 false (.call 85 [86,87,89] [] false),G 20 91 77 false (.un .not 90),q 21 92 (.pick 77 (.b true) 91),M 22 70 92] [70] (.cond 70 (.s 0 [M 0 6 (.i 9)] [6] .ret) .skip))))) (.s 0 [M 0 6 (.i 0)] [6] .ret)))))))
def a57:AFunc:=⟨3,c57,[.tmp 6]⟩
def c58:ACode :=
 (.s 2 [q 0 3 (.box 4 0 0),q 1 5 (.box 3 2 1),M 2 6 (.i 0)] [1,3,5] (.seq (.s 0 [FA 0 10 0 5,L 1 11 10,B 2 12 .eql 11 (.i (-1))] [1,3,5,12] (.cond 12 (.seq (.s 0 [FA 0 13 1 5,L 1 14 13,B 2 15 .neq 14 (.i 0),M 3 16 15,G 4 17 16 false (.fieldAddr 2 5),G 5 18 16 false (.load none 17),G 6 19 16 false (.bin .neq 18 (.i 0)),q 7 20 (.pick 16 (.b true) 19)] [20] (.cond 20 (.s 0 [M 0 6 (.i 2)] [6] .ret) .skip)) (.s 0 [M 0 6 (.i 0)] [6] .ret)) .skip)) (.seq (.s 0 [FA 0 21 0 5,L 1 22 21,FA 2 23 0 3,L 3 24 23,LE 4 25 24,B 5 26 .sub 25 (.i 1),CL 6 27 50 [22,.i 0,26],q 7 28 (.un .not 27)] [1,3,5,28] (.cond 28 (.s 0 [M 0 6 (.i 4)] [6] .ret) .skip)) (.sd 2 [FA 0 29 0 3,⟨some 30,.load none 29,none,[0,1],[],0,1⟩,FA 2 31 0 5,⟨some 32,.load none 31,none,[0,1],[],0,3⟩,⟨some 33,.idxS 8 30 32,none,[0,1],[],0,4⟩,⟨some 34,.load (some 8) 33,none,[0,1],[],0,5⟩,q 11 7 (.alloc [.lit (.string ⟨#[]⟩),.lit (.int .i64 0),.lit (.bool false),.lit (.int .i64 0),.lit (.int .i64 0),.lit (.int .i64 0),.lit (.int .i64 0),.lit (.int .i64 0)] [] 0),q 12 8 (.alloc [.lit (.string ⟨#[]⟩),.lit (.int .i64 0),.lit (.int .i64 0),.lit (.int .i64 0)] [] 1),⟨none,.store 8 7 34,none,[],[(3,[])],0,13⟩,FA 6 35 1 3,⟨some 36,.load none 35,none,[0,1],[],1,7⟩,M 8 37 1,⟨some 38,.idxS 4 36 37,none,[0,1],[],1,9⟩,⟨some 39,.load (some 4) 38,none,[0,1],[],1,10⟩,ST 14 4 8 39] [5,7,8] (.seq (.s 0 [LK 0 40 8 7,LK 1 41 3 5,CL 2 42 100 [40,41],q 3 43 (.un .not 42)] [5,7,8,43] (.cond 43 (.s 0 [M 0 6 (.i 2)] [6] .ret) .skip)) (.s 0 [FA 0 44 1 5,L
 1 45 44,B 2 46 .eql 45 (.i 1),M 3 47 46,G 4 48 47 true (.fieldAddr 2 5),G 5 49 47 true (.load none 48),G 6 50 47 true (.fieldAddr 7 7),G 7 51 47 true (.load none 50),G 8 52 47 true (.bin .gtr 49 51),G 9 53 47 true (.mv 52),G 10 54 53 false (.fieldAddr 2 5),G 11 55 53 false (.load none 54),G 12 56 53 false (.fieldAddr 1 8),G 13 57 53 false (.load none 56),G 14 58 53 false (.bin .gtr 55 57),G 15 59 47 true (.pick 53 (.b true) 58),q 16 60 (.pick 47 59 (.b false)),M 17 61 60,G 18 62 61 false (.fieldAddr 1 5),G 19 63 61 false (.load none 62),G 20 64 61 false (.bin .eql 63 (.i 2)),G 21 65 61 false (.mv 64),G 22 66 65 true (.fieldAddr 2 8),G 23 67 65 true (.load none 66),G 24 68 65 true (.fieldAddr 7 7),G 25 69 65 true (.load none 68),G 26 70 65 true (.bin .gtr 67 69),G 27 71 61 false (.pick 65 70 (.b false)),q 28 72 (.pick 61 (.b true) 71),M 29 9 72] [7,8,9] (.seq (.s 0 [M 0 73 9,M 1 74 73,G 2 75 74 false (.load (some 8) 7),G 3 76 74 false (.load (some 4) 8),G 4 77 74 false (.call (.f 101) [75,76] [] false),G 5 78 74 false (.un .not 77),q 6 79 (.pick 74 (.b true) 78)] [79] (.cond 79 (.s 0 [M 0 6 (.i 9)] [6] .ret) .skip)) (.s 0 [M 0 6 (.i 0)] [6] .ret))))))))
def a58:AFunc:=⟨3,c58,[.tmp 6]⟩
def c59:ACode :=
 (.s 1 [q 0 2 (.alloc [.seq 8 [],.seq 4 [],.lit (.int .i64 0),.seq 2 []] [] 0)] [0,2] (.s 1 [q 0 4 (.build [.lit (.string ⟨#[]⟩),.lit (.int .i64 0),.lit (.bool false),.lit (.int .i64 0),.lit (.int .i64 0),.lit (.int .i64 0),.lit (.int .i64 0),.lit (.int .i64 0)] [(0,1,.c (.lit (.string ⟨#[114,101,100]⟩))),(1,1,.i 3),(2,1,.c (.lit (.bool true))),(3,1,.i 90),(4,1,.i 10),(5,1,.i 3),(6,1,.i 20),(7,1,.i 100)]),q 1 5 (.build [.lit (.string ⟨#[]⟩),.lit (.int .i64 0),.lit (.bool false),.lit (.int .i64 0),.lit (.int .i64 0),.lit (.int .i64 0),.lit (.int .i64 0),.lit (.int .i64 0)] [(0,1,.c (.lit (.string ⟨#[98,108,117,101]⟩))),(1,1,.i 1)]),q 2 6 (.build [.lit (.string ⟨#[]⟩),.lit (.int .i64 0),.lit (.bool false),.lit (.int .i64 0),.lit (.int .i64 0),.lit (.int .i64 0),.lit (.int .i64 0),.lit (.int .i64 0)] [(0,1,.c (.lit (.string ⟨#[103,111,108,100]⟩))),(1,1,.i 7),(2,1,.c (.lit (.bool true))),(3,1,.i 120),(4,1,.i 5),(5,1,.i 8),(7,1,.i 60)]),q 3 7 (.lits 8 [.lit (.string ⟨#[]⟩),.lit (.int .i64 0),.lit (.bool false),.lit (.int .i64 0),.lit (.int .i64 0),.lit (.int .i64 0),.lit (.int .i64 0),.lit (.int .i64 0)] 3 [(0,4),(1,5),(2,6)] none),q 4 8 (.build [.lit (.string ⟨#[]⟩),.lit (.int .i64 0),.lit (.int .i64 0),.lit (.int .i64 0)] [(0,1,.c (.lit (.string ⟨#[113,117,101,101,110]⟩))),(1,1,.i 50),(2,1,.i 59),(3,1,.i 2)]),q 5 9 (.build [.lit (.string ⟨#[]⟩),.lit (.int .i64 0),.lit (.int .i64 0),.lit (.int .i64 0)] [(0,1,.c (.lit (.string ⟨#[98,105,115,104,111,112]⟩))),(1,1,.i 20),(2,1,.i
 80),(3,1,.i 1)]),q 6 10 (.build [.lit (.string ⟨#[]⟩),.lit (.int .i64 0),.lit (.int .i64 0),.lit (.int .i64 0)] [(0,1,.c (.lit (.string ⟨#[108,97,100,121]⟩))),(1,1,.i 45),(2,1,.i 50),(3,1,.i 4)]),q 7 11 (.lits 4 [.lit (.string ⟨#[]⟩),.lit (.int .i64 0),.lit (.int .i64 0),.lit (.int .i64 0)] 3 [(0,8),(1,9),(2,10)] none),q 8 12 (.build [.lit (.int .i64 0),.lit (.int .i64 0)] [(0,1,.i 40),(1,1,.i 150)]),q 9 13 (.lits 2 [.lit (.int .i64 0),.lit (.int .i64 0)] 1 [(0,12)] none),q 10 14 (.build [.seq 8 [],.seq 4 [],.lit (.int .i64 0),.seq 2 []] [(0,1,7),(1,1,11),(2,1,.i 100),(3,1,13)]),q 11 3 (.alloc [.seq 8 [],.seq 4 [],.lit (.int .i64 0),.seq 2 []] [] 0),ST 12 4 3 14] [0,2,3] (.seq (.s 0 [M 0 15 0] [2,3,15] (.cond 15 (.g 0 [FA 0 16 2 3,ST 1 1 16 (.i 20),FA 2 17 3 3,ST 3 1 17 (.c (.seq 2 []))] [2,3]) .skip)) (.s 0 [LK 0 18 4 3,ST 1 4 2 18] [2] .ret))))
def a59:AFunc:=⟨1,c59,[.cell 2 (some 4)]⟩
def c60:ACode :=
 (.s 0 [M 0 0 (.c (.seq 3 []))] [] (.s 0 [CL 0 1 61 [.i 0,.i 1,.i 0],CL 1 2 61 [.i 1,.i 0,.i 0],CL 2 3 61 [.i 2,.i 2,.i 0],q 3 4 (.lits 3 [.lit (.int .i64 0),.lit (.int .i64 0),.lit (.int .i64 0)] 3 [(0,1),(1,2),(2,3)] none),M 4 0 4] [0] .ret))
def a60:AFunc:=⟨0,c60,[.tmp 0]⟩
def c61:ACode :=
 (.s 1 [q 0 6 (.alloc [.lit (.int .i64 0),.lit (.int .i64 0),.lit (.int .i64 0)] [] 0)] [0,1,2,6] (.s 0 [M 0 7 0,M 1 8 1,M 2 9 2,q 3 10 (.build [.lit (.int .i64 0),.lit (.int .i64 0),.lit (.int .i64 0)] [(0,1,7),(1,1,8),(2,1,9)]),ST 4 3 6 10] [6] .ret))
def a61:AFunc:=⟨3,c61,[.cell 6 (some 3)]⟩
def c62:ACode :=
 (.s 1 [q 0 2 (.box 4 0 0),M 1 4 (.c (.lit (.pointer none))),M 2 5 (.i 0)] [1,2] (.s 0 [LK 0 11 4 2,CL 1 12 51 [11],M 2 10 12,EX 3 13 10 0,EX 4 14 10 1,M 5 6 13,M 6 7 14] [1,2,6,7] (.seq (.block 0 (.s 0 [M 0 16 7,B 1 17 .neq 16 (.i 0),M 2 15 17] [1,2,6,7,15] (.cond 15 (.s 0 [M 0 18 7,M 1 4 (.c (.lit (.pointer none))),M 2 5 18] [4,5] .ret) (.s 0 [M 0 20 1,LE 1 21 20,FA 2 22 1 2,L 3 23 22,LE 4 24 23,B 5 25 .neq 21 24,M 6 19 25] [1,6,19] (.cond 19 (.s 0 [M 0 4 (.c (.lit (.pointer none))),M 1 5 (.i 3)] [4,5] .ret) .skip))))) (.seq (.s 0 [M 0 26 1,LE 1 27 26,M 2 28 (.i 0)] [1,6,26,27,28] (.block 1 (.loop true [1,6,26,27,28] (.s 0 [B 0 29 .lss 28 27] [1,6,26,27,28,29] (.seq (.cond 29 .skip (.exit 1)) (.seq (.block 2 (.s 1 [M 0 30 28,IX 1 31 3 26 28,LK 2 32 3 31,q 3 9 (.alloc [.lit (.int .i64 0),.lit (.int .i64 0),.lit (.int .i64 0)] [] 0),M 4 8 30,ST 5 3 9 32] [1,6,8,9,26,27,28] (.s 0 [M 0 33 6,M 1 34 8,LK 2 35 3 9,CL 3 36 57 [33,34,35],M 4 7 36] [1,6,7,8,26,27,28] (.seq (.s 0 [M 0 37 7,B 1 38 .neq 37 (.i 4),M 2 39 38,G 3 40 39 true (.mv 1),G 4 41 39 true (.mv 8),G 5 42 39 true (.call (.f 102) [40,41] [[],[],[],[],[],[],[],[],[]] false),q 6 43 (.pick 39 42 (.b false))] [1,6,7,26,27,28,43] (.cond 43 (.g 0 [M 0 7 (.i 5)] [1,6,7,26,27,28]) .skip)) (.s 0 [M 0 44 7,B 1 45 .neq 44 (.i 0)] [1,6,7,26,27,28,45] (.cond 45 (.s 0 [M 0 46 7,M 1 4 (.c (.lit (.pointer none))),M 2 5 46] [4,5] .ret) .skip)))))) (.g 0 [B 0 47 .add 28 (.i 1),M 1 28 47] [1,6,26,27,28]))))))) (.s 0 [M 0 48 6,M 1 4 48,M
 2 5 (.i 0)] [4,5] .ret)))))
def a62:AFunc:=⟨2,c62,[.tmp 4,.tmp 5]⟩
def c63:ACode :=
 (.s 0 [M 0 6 (.i 0)] [0,1,2] (.s 0 [M 0 14 0,NK 1 15 14,FA 2 16 0 15,FA 3 17 2 16,L 4 18 17,M 5 7 18] [0,1,2,7] (.seq (.s 0 [M 0 19 0,NK 1 20 19,FA 2 21 0 20,FA 3 22 3 21,L 4 23 22,LE 5 24 23,M 6 25 (.i 0)] [0,1,2,7,23,24,25] (.block 0 (.loop true [0,1,2,7,23,24,25] (.s 0 [B 0 26 .lss 25 24] [0,1,2,7,23,24,25,26] (.seq (.cond 26 .skip (.exit 0)) (.seq (.block 1 (.s 1 [IX 0 27 2 23 25,LK 1 28 2 27,q 2 9 (.alloc [.lit (.int .i64 0),.lit (.int .i64 0)] [] 0),ST 3 2 9 28] [0,1,2,7,9,23,24,25] (.s 0 [FA 0 29 0 9,L 1 30 29,M 2 31 2,B 3 32 .leq 30 31] [0,1,2,7,9,23,24,25,32] (.cond 32 (.g 0 [M 0 33 7,FA 1 34 1 9,L 2 35 34,B 3 36 .add 33 35,M 4 7 36] [0,1,2,7,23,24,25]) .skip)))) (.g 0 [B 0 37 .add 25 (.i 1),M 1 25 37] [0,1,2,7,23,24,25]))))))) (.seq (.s 0 [M 0 38 1,LE 1 39 38,M 2 40 (.i 0)] [0,2,7,38,39,40] (.block 2 (.loop true [0,2,7,38,39,40] (.s 0 [B 0 41 .lss 40 39] [0,2,7,38,39,40,41] (.seq (.cond 41 .skip (.exit 2)) (.seq (.block 3 (.s 1 [M 0 42 40,IX 1 43 3 38 40,LK 2 44 3 43,q 3 11 (.alloc [.lit (.int .i64 0),.lit (.int .i64 0),.lit (.int .i64 0)] [] 0),M 4 10 42,ST 5 3 11 44] [0,2,7,10,11,38,39,40] (.s 0 [M 0 46 0,M 1 47 10,LK 2 48 3 11,CL 3 49 103 [46,47,48],M 4 45 49,EX 5 50 45 0,EX 6 51 45 1,M 7 12 50,M 8 13 51] [0,2,7,12,13,38,39,40] (.s 0 [M 0 52 13,M 1 53 2,B 2 54 .leq 52 53] [0,2,7,12,38,39,40,54] (.cond 54 (.g 0 [M 0 55 7,M 1 56 12,B 2 57 .sub 55 56,M 3 7 57] [0,2,7,38,39,40]) .skip))))) (.g 0 [B 0 58 .add 40 (.i 1),M 1 40 58] [0,2,7,38,39,40]))))))) (.s 0 [M 0 59
 7,M 1 6 59] [6] .ret)))))
def a63:AFunc:=⟨3,c63,[.tmp 6]⟩
def c65:ACode :=
 (.s 1 [q 0 3 (.box 4 0 0),M 1 6 (.i 0)] [1,2,3] (.s 0 [FA 0 12 2 3,L 1 13 12,M 2 7 13] [1,2,3,7] (.seq (.s 0 [M 0 8 (.i 0)] [1,2,3,7,8] (.block 0 (.loop true [1,2,3,7,8] (.seq (.s 0 [M 0 14 8,FA 1 15 3 3,L 2 16 15,LE 3 17 16,B 4 18 .lss 14 17] [1,2,3,7,8,18] (.cond 18 .skip (.exit 0))) (.seq (.block 1 (.s 0 [FA 0 21 3 3,L 1 22 21,M 2 23 8,IX 3 24 2 22 23,FA 4 25 0 24,L 5 26 25,M 6 27 2,B 7 28 .leq 26 27] [1,2,3,7,8,28] (.cond 28 (.g 0 [M 0 29 7,FA 1 30 3 3,L 2 31 30,M 3 32 8,IX 4 33 2 31 32,FA 5 34 1 33,L 6 35 34,B 7 36 .add 29 35,M 8 7 36] [1,2,3,7,8]) .skip))) (.g 0 [M 0 19 8,B 1 20 .add 19 (.i 1),M 2 8 20] [1,2,3,7,8])))))) (.seq (.s 0 [M 0 9 (.i 0)] [1,2,3,7,9] (.block 2 (.loop true [1,2,3,7,9] (.seq (.s 0 [M 0 37 9,M 1 38 1,LE 2 39 38,B 3 40 .lss 37 39] [1,2,3,7,9,40] (.cond 40 .skip (.exit 2))) (.seq (.block 3 (.sd 0 [LK 0 44 4 3,M 1 45 9,M 2 46 1,M 3 47 9,IX 4 48 3 46 47,LK 5 49 3 48,CL 6 50 78 [44,45,49],M 7 43 50,EX 8 51 43 0,EX 9 52 43 1,M 10 10 51,M 11 11 52] [1,2,3,7,9,10,11] (.s 0 [M 0 53 11,M 1 54 2,B 2 55 .leq 53 54] [1,2,3,7,9,10,55] (.cond 55 (.g 0 [M 0 56 7,M 1 57 10,B 2 58 .sub 56 57,M 3 7 58] [1,2,3,7,9]) .skip)))) (.g 0 [M 0 41 9,B 1 42 .add 41 (.i 1),M 2 9 42] [1,2,3,7,9])))))) (.s 0 [M 0 59 7,M 1 6 59] [6] .ret)))))
def a65:AFunc:=⟨3,c65,[.tmp 6]⟩
def c66:ACode :=
 (.s 0 [M 0 4 (.i 0),M 1 5 (.i 0)] [0,1,4] (.s 0 [M 0 5 (.i 365)] [0,1,4,5] (.seq (.s 0 [M 0 11 1,LE 1 12 11,M 2 13 (.i 0)] [0,1,4,5,11,12,13] (.block 0 (.loop true [0,1,4,5,11,12,13] (.s 0 [B 0 14 .lss 13 12] [0,1,4,5,11,12,13,14] (.seq (.cond 14 .skip (.exit 0)) (.seq (.block 1 (.s 1 [M 0 15 13,IX 1 16 3 11 13,LK 2 17 3 16,q 3 7 (.alloc [.lit (.int .i64 0),.lit (.int .i64 0),.lit (.int .i64 0)] [] 0),M 4 6 15,ST 5 3 7 17] [0,1,4,5,6,7,11,12,13] (.s 0 [M 0 19 0,M 1 20 6,LK 2 21 3 7,CL 3 22 103 [19,20,21],M 4 18 22,EX 5 23 18 0,EX 6 24 18 1,M 7 8 23,M 8 9 24] [0,1,4,5,9,11,12,13] (.s 0 [M 0 25 0,M 1 26 1,M 2 27 9,q 3 28 (.call (.f 63) [25,26,27] [[],[],[],[],[],[],[],[],[]] false),M 4 10 28] [0,1,4,5,9,10,11,12,13] (.s 0 [M 0 29 10,B 1 30 .lss 29 (.i 0)] [0,1,4,5,9,10,11,12,13,30] (.cond 30 (.g 0 [M 0 31 4,M 1 32 10,q 2 33 (.un .neg 32),q 3 34 (.mm true [31,33]),M 4 35 5,M 5 36 9,q 6 37 (.mm false [35,36]),M 7 4 34,M 8 5 37] [0,1,4,5,11,12,13]) .skip)))))) (.g 0 [B 0 38 .add 13 (.i 1),M 1 13 38] [0,1,4,5,11,12,13]))))))) (.s 0 [M 0 39 4,M 1 40 5,M 2 4 39,M 3 5 40] [4,5] .ret))))
def a66:AFunc:=⟨2,c66,[.tmp 4,.tmp 5]⟩
def c67:ACode :=
 (.s 1 [q 0 2 (.box 4 0 0),M 1 4 (.i 0),M 2 5 (.i 0)] [1,2] (.s 0 [LK 0 12 4 2,M 1 13 1,CL 2 14 65 [12,13,.i 0],M 3 6 14,M 4 7 (.i (-1))] [1,2,6,7] (.seq (.s 0 [M 0 15 6,B 1 16 .lss 15 (.i 0)] [1,2,6,7,16] (.cond 16 (.g 0 [M 0 7 (.i 0)] [1,2,6,7]) .skip)) (.seq (.s 0 [M 0 8 (.i 0)] [1,2,6,7,8] (.block 0 (.loop true [1,2,6,7,8] (.seq (.s 0 [M 0 17 8,M 1 18 1,LE 2 19 18,B 3 20 .lss 17 19] [1,2,6,7,8,20] (.cond 20 .skip (.exit 0))) (.seq (.block 1 (.sd 0 [LK 0 24 4 2,M 1 25 8,M 2 26 1,M 3 27 8,IX 4 28 3 26 27,LK 5 29 3 28,CL 6 30 78 [24,25,29],M 7 23 30,EX 8 31 23 0,EX 9 32 23 1,M 10 9 31,M 11 10 32] [1,2,6,7,8,10] (.s 0 [LK 0 33 4 2,M 1 34 1,M 2 35 10,CL 3 36 65 [33,34,35],M 4 11 36] [1,2,6,7,8,10,11] (.s 0 [M 0 37 6,M 1 38 11,q 2 39 (.mm false [37,38]),M 3 6 39] [1,2,6,7,8,10,11] (.s 0 [M 0 40 11,B 1 41 .lss 40 (.i 0),M 2 42 41,G 3 43 42 true (.mv 7),G 4 44 42 true (.bin .lss 43 (.i 0)),G 5 45 42 true (.mv 44),G 6 46 45 false (.mv 10),G 7 47 45 false (.mv 7),G 8 48 45 false (.bin .lss 46 47),G 9 49 42 true (.pick 45 (.b true) 48),q 10 50 (.pick 42 49 (.b false))] [1,2,6,7,8,10,50] (.cond 50 (.g 0 [M 0 51 10,M 1 7 51] [1,2,6,7,8]) .skip)))))) (.g 0 [M 0 21 8,B 1 22 .add 21 (.i 1),M 2 8 22] [1,2,6,7,8])))))) (.s 0 [M 0 52 6,M 1 53 7,M 2 4 52,M 3 5 53] [4,5] .ret)))))
def a67:AFunc:=⟨2,c67,[.tmp 4,.tmp 5]⟩
def c68:ACode :=
 (.s 1 [q 0 5 (.box 1 2 0),M 1 6 (.b false)] [1,5] (.s 0 [M 0 7 1,q 1 8 (.mkfn (.func 105) [] [5]),CL 2 9 104 [7,8],M 3 6 9] [6] .ret))
def a68:AFunc:=⟨3,c68,[.tmp 6]⟩
def c69:ACode :=
 (.s 3 [q 0 3 (.box 1 1 0),q 1 4 (.alloc [.seq 3 [],.lit (.int .i64 0),.lit (.int .i64 0),.lit (.int .i64 0),.lit (.int .i64 0),.lit (.int .i64 0),.lit (.int .i64 0)] [] 1),q 2 5 (.alloc [.lit (.bool false)] [] 2)] [0,3,4,5] (.seq (.s 0 [M 0 7 0] [3,4,5,7] (.block 0 (.rangeFunc 7 [8] [3,4,5] (.g 1 [q 0 6 (.alloc [.seq 3 [],.lit (.int .i64 0),.lit (.int .i64 0),.lit (.int .i64 0),.lit (.int .i64 0),.lit (.int .i64 0),.lit (.int .i64 0)] [] 0),ST 1 7 6 8] [3,4,5,6]) (.block 1 (.s 0 [L 0 9 5,q 1 10 (.un .not 9),M 2 11 10,G 3 12 11 false (.load none 3),G 4 13 11 false (.load (some 7) 6),G 5 14 11 false (.load (some 7) 4),G 6 15 11 false (.call 12 [13,14] [] false),G 7 16 11 false (.bin .lss 15 (.i 0)),q 8 17 (.pick 11 (.b true) 16)] [4,5,6,17] (.cond 17 (.g 0 [LK 0 18 7 6,ST 1 7 4 18,ST 2 1 5 (.b true)] []) .skip)))))) (.sd 0 [LK 0 19 7 4,⟨none,.store 7 4 19,none,[],[(5,[])],0,2⟩,⟨some 20,.load none 5,none,[],[],1,1⟩,ST 3 1 5 20] [4,5] .ret)))
def a69:AFunc:=⟨2,c69,[.cell 4 (some 7),.cell 5 none]⟩
def c70:ACode :=
 (.s 1 [q 0 1 (.box 1 0 0),M 1 2 (.c (.lit .nilFunc))] [1] (.s 0 [q 0 3 (.mkfn (.func 106) [] [1]),M 1 2 3] [2] .ret))
def a70:AFunc:=⟨1,c70,[.tmp 2]⟩
def c71:ACode :=
 (.s 2 [q 0 2 (.box 7 0 0),q 1 3 (.box 7 1 1),M 2 4 (.i 0)] [2,3] (.s 0 [FA 0 5 1 2,L 1 6 5,FA 2 7 1 3,L 3 8 7,B 4 9 .sub 6 8,FA 5 10 2 2,L 6 11 10,FA 7 12 2 3,L 8 13 12,B 9 14 .sub 11 13,q 10 15 (.lits 1 [.lit (.int .i64 0)] 2 [(0,9),(1,14)] none),CL 11 16 72 [15],M 12 4 16] [4] .ret))
def a71:AFunc:=⟨2,c71,[.tmp 4]⟩
def c72:ACode :=
 (.s 0 [M 0 2 (.i 0)] [0] (.s 0 [M 0 3 (.i 0)] [0,3] (.seq (.s 0 [M 0 6 0,LE 1 7 6,M 2 8 (.i 0)] [3,6,7,8] (.block 0 (.loop true [3,6,7,8] (.s 0 [B 0 9 .lss 8 7] [3,6,7,8,9] (.seq (.cond 9 .skip (.exit 0)) (.seq (.block 1 (.s 0 [IX 0 10 1 6 8,L 1 11 10,M 2 5 11] [3,5,6,7,8] (.s 0 [M 0 12 5,M 1 13 3,B 2 14 .neq 12 13] [3,5,6,7,8,14] (.cond 14 (.s 0 [M 0 15 5,M 1 2 15] [2] .ret) .skip)))) (.g 0 [B 0 16 .add 8 (.i 1),M 1 8 16] [3,6,7,8]))))))) (.s 0 [M 0 17 3,M 1 2 17] [2] .ret))))
def a72:AFunc:=⟨1,c72,[.tmp 2]⟩
def c73:ACode :=
 (.s 1 [q 0 1 (.box 4 0 0),M 1 2 (.c (.seq 1 []))] [1] (.s 0 [q 0 10 (.lits 1 [.seq 3 []] 1 [(0,.c (.seq 3 []))] none),M 1 3 10] [1,3] (.seq (.s 0 [M 0 4 (.i 0)] [1,3,4] (.block 0 (.loop true [1,3,4] (.seq (.s 0 [M 0 11 4,FA 1 12 1 1,L 2 13 12,LE 3 14 13,B 4 15 .lss 11 14] [1,3,4,15] (.cond 15 .skip (.exit 0))) (.seq (.block 1 (.s 0 [LK 0 18 4 1,M 1 19 4,CL 2 20 107 [18,19],M 3 5 20] [1,3,4,5] (.s 1 [q 0 6 (.nil 1 0)] [1,3,4,5,6] (.seq (.s 0 [M 0 7 (.i 0)] [1,3,4,5,6,7] (.block 2 (.loop true [1,3,4,5,6,7] (.seq (.s 0 [M 0 21 7,M 1 22 3,LE 2 23 22,B 3 24 .lss 21 23] [1,3,4,5,6,7,24] (.cond 24 .skip (.exit 2))) (.seq (.block 3 (.s 0 [M 0 8 (.i 0)] [1,3,4,5,6,7,8] (.block 4 (.loop true [1,3,4,5,6,7,8] (.seq (.s 0 [M 0 27 8,M 1 28 5,LE 2 29 28,B 3 30 .lss 27 29] [1,3,4,5,6,7,8,30] (.cond 30 .skip (.exit 4))) (.seq (.block 5 (.sd 1 [q 0 33 (.lits 3 [.lit (.int .i64 0),.lit (.int .i64 0),.lit (.int .i64 0)] 0 [] (some 0)),M 1 34 3,M 2 35 7,⟨some 36,.idxS 1 34 35,none,[0],[],0,3⟩,⟨some 37,.load none 36,none,[0],[],0,4⟩,q 5 38 (.append 3 24 33 37 none false),M 6 39 5,M 7 40 8,⟨some 41,.idxS 3 39 40,none,[0],[],1,8⟩,⟨some 42,.load (some 3) 41,none,[0],[],1,9⟩,q 10 43 (.lits 3 [.lit (.int .i64 0),.lit (.int .i64 0),.lit (.int .i64 0)] 1 [(0,42)] none),q 11 44 (.append 3 24 38 43 none true),M 12 9 44] [1,3,4,5,6,7,8,9] (.s 0 [M 0 45 9,M 1 46 4,CL 2 47 77 [45,46],q 3 48 (.un .not 47)] [1,3,4,5,6,7,8,9,48] (.cond 48 (.g 0 [M 0 49 6,M 1 50 9,q 2 51 (.lits 1 [.seq 3 []] 1 [(0,50)] none),q 3
 52 (.append 1 24 49 51 none false),M 4 6 52] [1,3,4,5,6,7,8]) .skip)))) (.g 0 [M 0 31 8,B 1 32 .add 31 (.i 1),M 2 8 32] [1,3,4,5,6,7,8]))))))) (.g 0 [M 0 25 7,B 1 26 .add 25 (.i 1),M 2 7 26] [1,3,4,5,6,7])))))) (.g 0 [M 0 53 6,q 1 3 (.mvz 53)] [1,3,4]))))) (.g 0 [M 0 16 4,B 1 17 .add 16 (.i 1),M 2 4 17] [1,3,4])))))) (.s 0 [M 0 54 3,M 1 2 54] [2] .ret))))
def a73:AFunc:=⟨1,c73,[.tmp 2]⟩
def c74:ACode :=
 (.s 2 [q 0 2 (.box 7 0 0),q 1 3 (.box 7 1 1),M 2 4 (.i 0)] [2,3] (.s 0 [FA 0 5 1 2,L 1 6 5,FA 2 7 1 3,L 3 8 7,B 4 9 .sub 6 8,M 5 4 9] [4] .ret))
def a74:AFunc:=⟨2,c74,[.tmp 4]⟩
def c75:ACode :=
 (.s 1 [q 0 1 (.box 1 0 0),M 1 2 (.c (.lit .nilFunc))] [1] (.s 0 [q 0 3 (.mkfn (.func 108) [] [1]),M 1 2 3] [2] .ret))
def a75:AFunc:=⟨1,c75,[.tmp 2]⟩
def c76:ACode :=
 (.s 2 [q 0 2 (.box 7 0 0),q 1 3 (.box 7 1 1),M 2 4 (.i 0)] [2,3] (.s 0 [FA 0 5 1 2,L 1 6 5,FA 2 7 1 3,L 3 8 7,B 4 9 .sub 6 8,FA 5 10 3 2,L 6 11 10,FA 7 12 3 3,L 8 13 12,B 9 14 .sub 11 13,q 10 15 (.lits 1 [.lit (.int .i64 0)] 2 [(0,9),(1,14)] none),CL 11 16 72 [15],M 12 4 16] [4] .ret))
def a76:AFunc:=⟨2,c76,[.tmp 4]⟩
def c77:ACode :=
 (.s 0 [M 0 4 (.b false)] [0,1] (.seq (.s 0 [M 0 5 (.i 0)] [0,1,5] (.block 0 (.loop true [0,1,5] (.seq (.s 0 [M 0 6 5,M 1 7 1,B 2 8 .lss 6 7] [0,1,5,8] (.cond 8 .skip (.exit 0))) (.seq (.block 1 (.sd 0 [M 0 11 0,M 1 12 1,IX 2 13 3 11 12,FA 3 14 0 13,L 4 15 14,B 5 16 .neq 15 (.i (-1)),M 6 17 16,G 7 18 17 true (.mv 0),G 8 19 17 true (.mv 5),G 9 20 17 true (.idxS 3 18 19),G 10 21 17 true (.fieldAddr 0 20),G 11 22 17 true (.load none 21),G 12 23 17 true (.mv 0),G 13 24 17 true (.mv 1),G 14 25 17 true (.idxS 3 23 24),G 15 26 17 true (.fieldAddr 0 25),G 16 27 17 true (.load none 26),G 17 28 17 true (.bin .eql 22 27),q 18 29 (.pick 17 28 (.b false))] [0,1,5,29] (.cond 29 (.s 0 [M 0 4 (.b true)] [4] .ret) .skip))) (.g 0 [M 0 9 5,B 1 10 .add 9 (.i 1),M 2 5 10] [0,1,5])))))) (.s 0 [M 0 4 (.b false)] [4] .ret)))
def a77:AFunc:=⟨2,c77,[.tmp 4]⟩
def c78:ACode :=
 (.s 2 [q 0 3 (.box 4 0 0),q 1 5 (.box 3 2 1),M 2 6 (.i 0),M 3 7 (.i 0)] [1,3,5] (.seq (.block 0 (.s 0 [FA 0 9 0 5,L 1 10 9,B 2 11 .eql 10 (.i (-1)),M 3 8 11] [1,3,5,8] (.cond 8 (.s 0 [M 0 6 (.i 0),M 1 7 (.i 0)] [6,7] .ret) (.s 0 [FA 0 13 1 5,L 1 14 13,B 2 15 .eql 14 (.i 1),M 3 12 15] [1,3,5,12] (.cond 12 (.sd 0 [FA 0 16 0 3,L 1 17 16,FA 2 18 0 5,L 3 19 18,IX 4 20 8 17 19,LK 5 21 8 20,FA 6 22 2 5,L 7 23 22,CP 8 24 54 [21,23],FA 9 25 2 5,L 10 26 25,M 11 6 24,M 12 7 26] [6,7] .ret) (.s 0 [FA 0 28 1 5,L 1 29 28,B 2 30 .eql 29 (.i 2),M 3 27 30] [1,3,5,27] (.cond 27 (.sd 0 [FA 0 31 0 3,L 1 32 31,FA 2 33 0 5,L 3 34 33,IX 4 35 8 32 34,LK 5 36 8 35,FA 6 37 1 3,L 7 38 37,M 8 39 1,IX 9 40 4 38 39,LK 10 41 4 40,CP 11 42 56 [36,41],FA 12 43 1 3,L 13 44 43,M 14 45 1,IX 15 46 4 44 45,FA 16 47 1 46,L 17 48 47,M 18 6 42,M 19 7 48] [6,7] .ret) .skip))))))) (.s 0 [M 0 6 (.i 0),M 1 7 (.i 0)] [6,7] .ret)))
def a78:AFunc:=⟨3,c78,[.tmp 6,.tmp 7]⟩
def c81:ACode :=
 (.s 0 [M 0 2 (.b false)] [0] (.seq (.s 1 [M 0 6 0,q 1 7 (.range 6 0)] [0,7] (.block 0 (.loop true [0,7] (.s 0 [q 0 8 (.next 7),EX 1 9 8 0] [0,7,8,9] (.seq (.cond 9 .skip (.exit 0)) (.block 1 (.s 0 [EX 0 10 8 1,EX 1 11 8 2,M 2 3 10,M 3 4 11] [0,3,4,7] (.s 0 [M 0 12 4,B 1 13 .leq (.c (.lit (.int .i32 97))) 12,M 2 14 13,G 3 15 14 true (.mv 4),G 4 16 14 true (.bin .leq 15 (.c (.lit (.int .i32 122)))),q 5 17 (.pick 14 16 (.b false)),M 6 5 17] [0,3,4,5,7] (.s 0 [M 0 18 5,q 1 19 (.un .not 18),M 2 20 19,G 3 21 20 true (.mv 3),G 4 22 20 true (.bin .eql 21 (.i 0)),G 5 23 20 true (.mv 22),G 6 24 23 false (.mv 4),G 7 25 23 false (.bin .neq 24 (.c (.lit (.int .i32 46)))),G 8 26 23 false (.mv 25),G 9 27 26 true (.mv 4),G 10 28 26 true (.bin .lss 27 (.c (.lit (.int .i32 48)))),G 11 29 26 true (.mv 28),G 12 30 29 false (.mv 4),G 13 31 29 false (.bin .gtr 30 (.c (.lit (.int .i32 57)))),G 14 32 26 true (.pick 29 (.b true) 31),G 15 33 23 false (.pick 26 32 (.b false)),G 16 34 20 true (.pick 23 (.b true) 33),q 17 35 (.pick 20 34 (.b false))] [0,7,35] (.cond 35 (.s 0 [M 0 2 (.b false)] [2] .ret) .skip)))))))))) (.s 0 [M 0 36 0,B 1 37 .neq 36 (.c (.lit (.string ⟨#[]⟩))),M 2 38 37,G 3 39 38 true (.mv 0),G 4 40 38 true (.lenS 39),G 5 41 38 true (.bin .leq 40 (.i 16)),q 6 42 (.pick 38 41 (.b false)),M 7 2 42] [2] .ret)))
def a81:AFunc:=⟨1,c81,[.tmp 2]⟩
def c82:ACode :=
 (.s 0 [M 0 4 (.b false)] [0,1] (.s 0 [M 0 5 0,M 1 6 1,CL 2 7 110 [5,6],B 3 8 .geq 7 (.i 0),M 4 4 8] [4] .ret))
def a82:AFunc:=⟨2,c82,[.tmp 4]⟩
def c83:ACode :=
 (.s 1 [q 0 4 (.box 8 0 0),M 1 5 (.b false)] [1,2,3,4] (.sd 0 [L 0 6 1,LK 1 7 8 4,q 2 8 (.call 6 [7] [] true),L 3 9 1,L 4 10 2,L 5 11 3,IX 6 12 8 10 11,LK 7 13 8 12,q 8 14 (.call 9 [13] [] false),B 9 15 .eql 8 14,M 10 5 15] [5] .ret))
def a83:AFunc:=⟨4,c83,[.tmp 5]⟩
def c84:ACode :=
 (.s 0 [M 0 4 (.b false)] [0,1] (.s 0 [M 0 5 0,M 1 6 1,CL 2 7 111 [5,6],B 3 8 .geq 7 (.i 0),M 4 4 8] [4] .ret))
def a84:AFunc:=⟨2,c84,[.tmp 4]⟩
def c85:ACode :=
 (.s 1 [q 0 4 (.box 4 0 0),M 1 5 (.b false)] [1,2,3,4] (.sd 0 [L 0 6 1,LK 1 7 4 4,q 2 8 (.call 6 [7] [] true),L 3 9 1,L 4 10 2,L 5 11 3,IX 6 12 4 10 11,LK 7 13 4 12,q 8 14 (.call 9 [13] [] false),B 9 15 .eql 8 14,M 10 5 15] [5] .ret))
def a85:AFunc:=⟨4,c85,[.tmp 5]⟩
def c86:ACode :=
 (.s 0 [M 0 4 (.b false)] [0,1] (.s 0 [M 0 5 0,M 1 6 1,CL 2 7 112 [5,6],B 3 8 .geq 7 (.i 0),M 4 4 8] [4] .ret))
def a86:AFunc:=⟨2,c86,[.tmp 4]⟩
def c87:ACode :=
 (.s 0 [M 0 4 (.b false)] [0,1,2] (.s 0 [M 0 5 0,L 1 6 1,B 2 7 .lss 5 6,M 3 8 7,G 4 9 8 false (.mv 0),G 5 10 8 false (.load none 2),G 6 11 8 false (.bin .gtr 9 10),q 7 12 (.pick 8 (.b true) 11),M 8 4 12] [4] .ret))
def a87:AFunc:=⟨3,c87,[.tmp 4]⟩
def c88:ACode :=
 (.s 0 [M 0 2 (.b false)] [0] (.seq (.s 0 [M 0 6 0,q 1 7 (.lenS 6),B 2 8 .eql 7 (.i 0),M 3 9 8,G 4 10 9 false (.mv 0),G 5 11 9 false (.lenS 10),G 6 12 9 false (.bin .gtr 11 (.i 16)),q 7 13 (.pick 9 (.b true) 12)] [0,13] (.cond 13 (.s 0 [M 0 2 (.b false)] [2] .ret) .skip)) (.seq (.s 0 [M 0 3 (.i 0)] [0,3] (.block 0 (.loop true [0,3] (.seq (.s 0 [M 0 14 3,M 1 15 0,q 2 16 (.lenS 15),B 3 17 .lss 14 16] [0,3,17] (.cond 17 .skip (.exit 0))) (.seq (.block 1 (.s 0 [M 0 20 0,M 1 21 3,q 2 22 (.idxStr 20 21),q 3 23 (.conv .i64 22),CL 4 24 113 [23,.i 97,.i 122],M 5 4 24] [0,3,4] (.s 0 [M 0 25 0,M 1 26 3,q 2 27 (.idxStr 25 26),q 3 28 (.conv .i64 27),CL 4 29 113 [28,.i 48,.i 57],M 5 30 29,G 6 31 30 false (.mv 0),G 7 32 30 false (.mv 3),G 8 33 30 false (.idxStr 31 32),G 9 34 30 false (.bin .eql 33 (.c (.lit (.int .u8 46)))),q 10 35 (.pick 30 (.b true) 34),M 11 5 35] [0,3,4,5] (.s 0 [M 0 36 4,q 1 37 (.un .not 36),M 2 38 37,G 3 39 38 true (.mv 3),G 4 40 38 true (.bin .eql 39 (.i 0)),G 5 41 38 true (.mv 40),G 6 42 41 false (.mv 5),G 7 43 41 false (.un .not 42),G 8 44 38 true (.pick 41 (.b true) 43),q 9 45 (.pick 38 44 (.b false))] [0,3,45] (.cond 45 (.s 0 [M 0 2 (.b false)] [2] .ret) .skip))))) (.g 0 [M 0 18 3,B 1 19 .add 18 (.i 1),M 2 3 19] [0,3])))))) (.s 0 [M 0 2 (.b true)] [2] .ret))))
def a88:AFunc:=⟨1,c88,[.tmp 2]⟩
def c89:ACode :=
 (.s 0 [M 0 4 (.i 0)] [0,1] (.seq (.s 0 [M 0 5 (.i 0)] [0,1,5] (.block 0 (.loop true [0,1,5] (.seq (.s 0 [M 0 6 5,M 1 7 0,LE 2 8 7,B 3 9 .lss 6 8] [0,1,5,9] (.cond 9 .skip (.exit 0))) (.seq (.block 1 (.s 0 [M 0 12 0,M 1 13 5,IX 2 14 1 12 13,L 3 15 14,M 4 16 1,B 5 17 .eql 15 16] [0,1,5,17] (.cond 17 (.s 0 [M 0 18 5,M 1 4 18] [4] .ret) .skip))) (.g 0 [M 0 10 5,B 1 11 .add 10 (.i 1),M 2 5 11] [0,1,5])))))) (.s 0 [M 0 4 (.i (-1))] [4] .ret)))
def a89:AFunc:=⟨2,c89,[.tmp 4]⟩
def c90:ACode :=
 (.s 2 [q 0 3 (.box 8 0 0),q 1 4 (.box 4 1 1),M 2 6 (.i 0)] [] (.s 0 [M 0 6 (.i 0)] [6] .ret))
def a90:AFunc:=⟨3,c90,[.tmp 6]⟩
def c91:ACode :=
 (.s 1 [q 0 2 (.box 4 0 0),M 1 4 (.i 0)] [] (.s 0 [M 0 4 (.i 0)] [4] .ret))
def a91:AFunc:=⟨2,c91,[.tmp 4]⟩
def c92:ACode :=
 (.s 2 [q 0 3 (.box 8 0 0),q 1 4 (.box 4 1 1),M 2 6 (.b false)] [2] (.s 0 [M 0 7 2,B 1 8 .eql 7 (.i 0),M 2 6 8] [6] .ret))
def a92:AFunc:=⟨3,c92,[.tmp 6]⟩
def c93:ACode :=
 (.s 1 [q 0 2 (.box 4 0 0),M 1 4 (.i 0)] [1] (.s 0 [M 0 5 1,M 1 4 5] [4] .ret))
def a93:AFunc:=⟨2,c93,[.tmp 4]⟩
def c94:ACode :=
 (.s 2 [q 0 3 (.box 8 0 0),q 1 4 (.box 4 1 1),M 2 6 (.b false)] [2,3,4] (.s 0 [M 0 7 2,FA 1 8 7 3,L 2 9 8,FA 3 10 1 4,L 4 11 10,q 5 12 (.mm false [9,11]),B 6 13 .leq 7 12,M 7 6 13] [6] .ret))
def a94:AFunc:=⟨3,c94,[.tmp 6]⟩
def c95:ACode :=
 (.s 1 [q 0 2 (.box 4 0 0),M 1 4 (.i 0)] [2] (.s 0 [FA 0 5 1 2,L 1 6 5,M 2 4 6] [4] .ret))
def a95:AFunc:=⟨2,c95,[.tmp 4]⟩
def c96:ACode :=
 (.s 2 [q 0 3 (.box 8 0 0),q 1 4 (.box 4 1 1),M 2 6 (.b false)] [3,4] (.s 0 [FA 0 7 2 4,L 1 8 7,FA 2 9 7 3,L 3 10 9,B 4 11 .leq 8 10,M 5 6 11] [6] .ret))
def a96:AFunc:=⟨3,c96,[.tmp 6]⟩
def c97:ACode :=
 (.s 0 [M 0 3 0,LE 1 4 3,M 2 2 4] [0,2] (.g 0 [M 0 5 0,M 1 6 2,M 2 7 2,q 3 8 (.conv .u64 7),CL 4 9 115 [8],q 5 10 (.call (.f 114) [5,.i 0,6,9] [[],[],[],[],[],[],[],[],[]] false)] []))
def a97:AFunc:=⟨1,c97,[]⟩
def c98:ACode :=
 (.s 1 [q 0 2 (.nil 1 0)] [0] (.seq (.s 0 [M 0 6 0,LE 1 7 6,B 2 8 .lss 7 (.i 2)] [0,8] (.cond 8 (.s 0 [M 0 9 0,M 1 2 9] [2] .ret) .skip)) (.seq (.s 0 [M 0 3 (.i 1)] [0,3] (.block 0 (.loop true [0,3] (.seq (.s 0 [M 0 10 3,M 1 11 0,LE 2 12 11,B 3 13 .lss 10 12] [0,3,13] (.cond 13 .skip (.exit 0))) (.seq (.block 1 (.sd 0 [M 0 16 0,M 1 17 3,IX 2 18 1 16 17,L 3 19 18,M 4 20 0,M 5 21 3,B 6 22 .sub 21 (.i 1),IX 7 23 1 20 22,L 8 24 23,B 9 25 .eql 19 24] [0,3,25] (.cond 25 (.s 0 [M 0 26 0,M 1 27 3,q 2 28 (.sub 1 26 (some 27) none),M 3 4 28] [0,3,4] (.seq (.s 0 [M 0 5 (.i 1)] [0,3,4,5] (.block 2 (.loop true [0,3,4,5] (.seq (.s 0 [M 0 29 5,M 1 30 4,LE 2 31 30,B 3 32 .lss 29 31] [0,3,4,5,32] (.cond 32 .skip (.exit 2))) (.seq (.block 3 (.sd 0 [M 0 35 4,M 1 36 5,IX 2 37 1 35 36,L 3 38 37,M 4 39 4,M 5 40 5,B 6 41 .sub 40 (.i 1),IX 7 42 1 39 41,L 8 43 42,B 9 44 .neq 38 43] [0,3,4,5,44] (.cond 44 (.s 0 [M 0 45 0,M 1 46 3,M 2 47 4,M 3 48 5,IX 4 49 1 47 48,L 5 50 49,IX 6 51 1 45 46,ST 7 1 51 50] [0,3,4,5] (.g 0 [M 0 52 3,B 1 53 .add 52 (.i 1),M 2 3 53] [0,3,4,5])) .skip))) (.g 0 [M 0 33 5,B 1 34 .add 33 (.i 1),M 2 5 34] [0,3,4,5])))))) (.s 0 [M 0 54 0,M 1 55 3,q 2 56 (.sub 1 54 (some 55) none),r 3 (.clear 1 [.lit (.int .i64 0)] 56)] [0,3] (.s 1 [M 0 57 0,M 1 58 3,q 2 59 (.cut 1 57 (some 58) 0),M 3 2 59] [2] .ret)))) .skip))) (.g 0 [M 0 14 3,B 1 15 .add 14 (.i 1),M 2 3 15] [0,3])))))) (.s 0 [M 0 60 0,M 1 2 60] [2] .ret))))
def a98:AFunc:=⟨1,c98,[.tmp 2]⟩
def c99:ACode :=
 (.s 1 [q 0 0 (.alloc [.lit (.int .i64 0),.lit (.int .i64 0),.lit (.int .i64 0)] [] 0)] [0] (.s 0 [q 0 1 (.build [.lit (.int .i64 0),.lit (.int .i64 0),.lit (.int .i64 0)] [(0,1,.i (-1))]),ST 1 3 0 1] [0] .ret))
def a99:AFunc:=⟨0,c99,[.cell 0 (some 3)]⟩
def c100:ACode :=
 (.s 2 [q 0 2 (.box 8 0 0),q 1 3 (.box 3 1 1),M 2 4 (.b false)] [2,3] (.seq (.s 0 [FA 0 5 2 2,L 1 6 5,q 2 7 (.un .not 6)] [3,7] (.cond 7 (.s 0 [FA 0 8 1 3,L 1 9 8,B 2 10 .eql 9 (.i 0),M 3 11 10,G 4 12 11 true (.fieldAddr 2 3),G 5 13 11 true (.load none 12),G 6 14 11 true (.bin .eql 13 (.i 0)),q 7 15 (.pick 11 14 (.b false)),M 8 4 15] [4] .ret) .skip)) (.s 0 [FA 0 16 1 3,L 1 17 16,B 2 18 .eql 17 (.i 2),M 3 19 18,G 4 20 19 true (.fieldAddr 2 3),G 5 21 19 true (.load none 20),G 6 22 19 true (.bin .eql 21 (.i 0)),q 7 23 (.pick 19 22 (.b false)),M 8 24 23,G 9 25 24 false (.fieldAddr 1 3),G 10 26 24 false (.load none 25),G 11 27 24 false (.bin .eql 26 (.i 1)),G 12 28 24 false (.mv 27),G 13 29 28 true (.fieldAddr 2 3),G 14 30 28 true (.load none 29),G 15 31 28 true (.call (.f 50) [30,.i 0,.i 364] [] false),G 16 32 24 false (.pick 28 31 (.b false)),q 17 33 (.pick 24 (.b true) 32),M 18 4 33] [4] .ret)))
def a100:AFunc:=⟨2,c100,[.tmp 4]⟩
def c101:ACode :=
 (.s 2 [q 0 2 (.box 8 0 0),q 1 3 (.box 4 1 1),M 2 4 (.b false)] [2,3] (.seq (.s 0 [M 0 5 (.i 1)] [2,3,5] (.block 0 (.loop true [2,3,5] (.seq (.s 0 [M 0 6 5,B 1 7 .leq 6 (.i 15)] [2,3,5,7] (.cond 7 .skip (.exit 0))) (.seq (.block 1 (.s 0 [FA 0 10 3 3,L 1 11 10,M 2 12 5,B 3 13 .quo 11 12,B 4 14 .rem 13 (.i 2),B 5 15 .eql 14 (.i 1),M 6 16 15,G 7 17 16 true (.fieldAddr 1 2),G 8 18 16 true (.load none 17),G 9 19 16 true (.mv 5),G 10 20 16 true (.bin .quo 18 19),G 11 21 16 true (.bin .rem 20 (.i 2)),G 12 22 16 true (.bin .eql 21 (.i 0)),q 13 23 (.pick 16 22 (.b false))] [2,3,5,23] (.cond 23 (.s 0 [M 0 4 (.b false)] [4] .ret) .skip))) (.g 0 [M 0 8 5,B 1 9 .mul (.i 2) 8,M 2 5 9] [2,3,5])))))) (.s 0 [M 0 4 (.b true)] [4] .ret)))
def a101:AFunc:=⟨2,c101,[.tmp 4]⟩
def c102:ACode :=
 (.s 2 [q 0 2 (.box 1 0 0),q 1 3 (.box 1 1 1),M 2 4 (.b false)] [2,3] (.s 0 [L 0 5 2,L 1 6 3,IX 2 7 3 5 6,FA 3 8 0 7,L 4 9 8,B 5 10 .neq 9 (.i (-1)),M 6 11 10,G 7 12 11 true (.load none 2),G 8 13 11 true (.load none 3),G 9 14 11 true (.sub 3 12 none (some 13)),G 10 15 11 true (.mkfn (.func 116) [] [2,3]),G 11 16 11 true (.call (.f 104) [14,15] [[],[],[],[],[],[],[],[],[]] false),q 12 17 (.pick 11 16 (.b false)),M 13 4 17] [4] .ret))
def a102:AFunc:=⟨2,c102,[.tmp 4]⟩
def c103:ACode :=
 (.s 1 [q 0 5 (.box 3 2 0),M 1 6 (.i 0),M 2 7 (.i 0)] [0,1,5] (.seq (.sd 0 [LK 0 9 3 5,CP 1 10 99 [],q 2 11 (.cmp false [0,0,0] 9 10)] [0,1,5,11] (.cond 11 (.s 0 [M 0 6 (.i 0),M 1 7 (.i 0)] [6,7] .ret) .skip)) (.sd 1 [M 0 12 0,FA 1 13 1 5,⟨some 14,.load none 13,none,[0],[],0,2⟩,NK 3 15 12,FA 4 16 4 15,q 5 17 (.idxA 3 3 16 14),⟨some 18,.load (some 3) 17,none,[0],[],0,6⟩,q 7 8 (.alloc [.lit .nilFunc,.lit .nilFunc,.lit .nilFunc] [] 0),ST 8 3 8 18] [0,1,5,8] (.sd 0 [FA 0 19 0 8,L 1 20 19,M 2 21 0,NK 3 22 21,FA 4 23 0 22,FA 5 24 0 23,L 6 25 24,FA 7 26 0 5,L 8 27 26,IX 9 28 8 25 27,LK 10 29 8 28,M 11 30 0,NK 12 31 30,FA 13 32 0 31,FA 14 33 1 32,L 15 34 33,M 16 35 1,IX 17 36 4 34 35,LK 18 37 4 36,FA 19 38 2 5,L 20 39 38,q 21 40 (.call 20 [29,37,39] [] true),FA 22 41 1 8,L 23 42 41,M 24 43 0,NK 25 44 43,FA 26 45 0 44,FA 27 46 1 45,L 28 47 46,M 29 48 1,IX 30 49 4 47 48,LK 31 50 4 49,FA 32 51 2 5,L 33 52 51,q 34 53 (.call 42 [50,52] [] false),M 35 6 40,M 36 7 53] [6,7] .ret))))
def a103:AFunc:=⟨3,c103,[.tmp 6,.tmp 7]⟩
def c104:ACode :=
 (.s 0 [M 0 4 (.b false)] [0,1] (.s 0 [M 0 5 0,M 1 6 1,q 2 7 (.call (.f 117) [5,6] [[],[],[],[],[],[],[],[],[]] false),B 3 8 .geq 7 (.i 0),M 4 4 8] [4] .ret))
def a104:AFunc:=⟨2,c104,[.tmp 4]⟩
def c105:ACode :=
 (.s 1 [q 0 2 (.box 3 0 0),M 1 3 (.b false)] [1,2] (.s 0 [FA 0 4 0 2,L 1 5 4,L 2 6 1,B 3 7 .eql 5 6,M 4 8 7,G 5 9 8 true (.fieldAddr 1 2),G 6 10 8 true (.load none 9),G 7 11 8 true (.bin .eql 10 (.i 1)),q 8 12 (.pick 8 11 (.b false)),M 9 3 12] [3] .ret))
def a105:AFunc:=⟨2,c105,[.tmp 3]⟩
def c106:ACode :=
 (.s 1 [q 0 2 (.box 1 0 0)] [1,2] (.scope (.seq .skip (.s 0 [L 0 4 1,CL 1 5 75 [4]] [2,5] (.block 0 (.rangeFunc 5 [6] [2] (.g 1 [q 0 3 (.alloc [.seq 3 [],.lit (.int .i64 0),.lit (.int .i64 0),.lit (.int .i64 0),.lit (.int .i64 0),.lit (.int .i64 0),.lit (.int .i64 0)] [] 0),ST 1 7 3 6] [2,3]) (.block 1 (.seq (.s 0 [FA 0 7 3 3,L 1 8 7,B 2 9 .gtr 8 (.i 0)] [2,3,9] (.cond 9 (.exit 1) .skip)) (.s 0 [L 0 10 2,LK 1 11 7 3,q 2 12 (.call 10 [11] [] false),q 3 13 (.un .not 12)] [13] (.cond 13 .ret .skip))))))))))
def a106:AFunc:=⟨2,c106,[]⟩
def c107:ACode :=
 (.s 1 [q 0 2 (.box 4 0 0),M 1 4 (.c (.seq 3 []))] [1,2] (.s 0 [LK 0 11 4 2,CL 1 12 118 [11],M 2 5 12] [1,2,5] (.s 1 [q 0 6 (.nil 3 0)] [1,2,5,6] (.seq (.s 0 [M 0 7 (.i 0)] [1,2,5,6,7] (.block 0 (.loop true [1,2,5,6,7] (.seq (.s 0 [M 0 13 7,FA 1 14 0 2,L 2 15 14,LE 3 16 15,B 4 17 .lss 13 16] [1,2,5,6,7,17] (.cond 17 .skip (.exit 0))) (.seq (.block 1 (.s 0 [M 0 8 (.i 0)] [1,2,5,6,7,8] (.block 2 (.loop true [1,2,5,6,7,8] (.seq (.s 0 [M 0 20 8,B 1 21 .leq 20 (.i 2)] [1,2,5,6,7,8,21] (.cond 21 .skip (.exit 2))) (.seq (.block 3 (.s 0 [M 0 9 (.i 0)] [1,2,5,6,7,8,9] (.block 4 (.loop true [1,2,5,6,7,8,9] (.seq (.s 0 [M 0 24 9,M 1 25 5,LE 2 26 25,B 3 27 .lss 24 26] [1,2,5,6,7,8,9,27] (.cond 27 .skip (.exit 4))) (.seq (.block 5 (.s 1 [M 0 30 7,M 1 31 8,M 2 32 5,M 3 33 9,IX 4 34 1 32 33,L 5 35 34,q 6 36 (.build [.lit (.int .i64 0),.lit (.int .i64 0),.lit (.int .i64 0)] [(0,1,30),(1,1,31),(2,1,35)]),q 7 10 (.alloc [.lit (.int .i64 0),.lit (.int .i64 0),.lit (.int .i64 0)] [] 0),ST 8 3 10 36] [1,2,5,6,7,8,9,10] (.s 0 [LK 0 37 4 2,M 1 38 1,LK 2 39 3 10,CL 3 40 58 [37,38,39],B 4 41 .eql 40 (.i 0)] [1,2,5,6,7,8,9,10,41] (.cond 41 (.g 0 [M 0 42 6,LK 1 43 3 10,q 2 44 (.lits 3 [.lit (.int .i64 0),.lit (.int .i64 0),.lit (.int .i64 0)] 1 [(0,43)] none),q 3 45 (.append 3 24 42 44 none false),M 4 6 45] [1,2,5,6,7,8,9]) .skip)))) (.g 0 [M 0 28 9,B 1 29 .add 28 (.i 1),M 2 9 29] [1,2,5,6,7,8,9]))))))) (.g 0 [M 0 22 8,B 1 23 .add 22 (.i 1),M 2 8 23] [1,2,5,6,7,8]))))))) (.g 0 [M 0 18 7,B 1 19 .add 18
 (.i 1),M 2 7 19] [1,2,5,6,7])))))) (.s 0 [M 0 46 6,q 1 47 (.build [.lit (.int .i64 0),.lit (.int .i64 0),.lit (.int .i64 0)] [(0,1,.i (-1))]),q 2 48 (.lits 3 [.lit (.int .i64 0),.lit (.int .i64 0),.lit (.int .i64 0)] 1 [(0,47)] none),q 3 49 (.append 3 24 46 48 none true),M 4 4 49] [4] .ret)))))
def a107:AFunc:=⟨2,c107,[.tmp 4]⟩
def c108:ACode :=
 (.s 1 [q 0 2 (.box 1 0 0)] [1,2] (.s 0 [L 0 9 1,CL 1 10 109 [9]] [1,2,10] (.block 0 (.rangeFunc 10 [11] [1,2] (.g 0 [M 0 3 11] [1,2,3]) (.block 1 (.s 3 [M 0 12 3,LE 1 13 12,q 2 14 (.mkslice 3 24 [.lit (.int .i64 0),.lit (.int .i64 0),.lit (.int .i64 0)] 13 13 0),q 3 15 (.build [.seq 3 [],.lit (.int .i64 0),.lit (.int .i64 0),.lit (.int .i64 0),.lit (.int .i64 0),.lit (.int .i64 0),.lit (.int .i64 0)] [(0,1,14)]),q 4 4 (.alloc [.nils 3,.lit (.int .i64 0),.lit (.int .i64 0),.lit (.int .i64 0),.lit (.int .i64 0),.lit (.int .i64 0),.lit (.int .i64 0)] [(0,1,3)] 2),ST 5 7 4 15] [1,2,3,4] (.s 0 [FA 0 16 0 4,L 1 17 16,M 2 18 3,q 3 19 (.copy 3 17 18)] [1,2,3,4] (.seq (.s 0 [M 0 20 3,LE 1 21 20,M 2 22 (.i 0)] [1,2,3,4,20,21,22] (.block 2 (.loop true [1,2,3,4,20,21,22] (.s 0 [B 0 23 .lss 22 21] [1,2,3,4,20,21,22,23] (.seq (.cond 23 .skip (.exit 2)) (.seq (.block 3 (.s 1 [M 0 24 22,IX 1 25 3 20 22,LK 2 26 3 25,q 3 6 (.alloc [.lit (.int .i64 0),.lit (.int .i64 0),.lit (.int .i64 0)] [] 0),M 4 5 24,ST 5 3 6 26] [1,2,3,4,5,6,20,21,22] (.s 0 [L 0 28 1,M 1 29 5,LK 2 30 3 6,CL 3 31 103 [28,29,30],M 4 27 31,EX 5 32 27 0,EX 6 33 27 1,M 7 7 32,M 8 8 33] [1,2,3,4,5,6,7,20,21,22] (.s 0 [FA 0 34 2 4,L 1 35 34,M 2 36 7,B 3 37 .add 35 36,FA 4 38 2 4,ST 5 1 38 37] [1,2,3,4,5,6,20,21,22] (.s 0 [M 0 39 5,FA 1 40 0 6,L 2 41 40,B 3 42 .add 41 (.i 1),FA 4 43 4 4,q 5 44 (.idxA 1 3 43 39),ST 6 1 44 42] [1,2,3,4,6,20,21,22] (.sd 0 [LK 0 45 3 6,CP 1 46 99 [],q 2 47 (.cmp false [0,0,0] 45 46)]
 [1,2,3,4,20,21,22,47] (.cond 47 (.g 0 [FA 0 48 1 4,L 1 49 48,B 2 50 .add 49 (.i 1),FA 3 51 1 4,ST 4 1 51 50] [1,2,3,4,20,21,22]) .skip))))))) (.g 0 [B 0 52 .add 22 (.i 1),M 1 22 52] [1,2,3,4,20,21,22]))))))) (.s 0 [L 0 54 1,M 1 55 3,q 2 56 (.call (.f 66) [54,55] [[],[],[],[],[],[],[],[],[]] false),M 3 53 56,EX 4 57 53 0,EX 5 58 53 1,FA 6 59 3 4,ST 7 1 59 57] [2,4] (.s 0 [L 0 60 2,LK 1 61 7 4,q 2 62 (.call 60 [61] [] false),q 3 63 (.un .not 62)] [63] (.cond 63 .ret .skip)))))))))))
def a108:AFunc:=⟨2,c108,[]⟩
def c109:ACode :=
 (.s 1 [q 0 1 (.box 1 0 0),M 1 2 (.c (.lit .nilFunc))] [1] (.s 0 [q 0 3 (.mkfn (.func 119) [] [1]),M 1 2 3] [2] .ret))
def a109:AFunc:=⟨1,c109,[.tmp 2]⟩
def c110:ACode :=
 (.s 0 [M 0 4 (.i 0)] [0,1] (.seq (.s 0 [M 0 6 0,LE 1 7 6,M 2 8 (.i 0)] [0,1,7,8] (.block 0 (.loop true [0,1,7,8] (.s 0 [B 0 9 .lss 8 7] [0,1,7,8,9] (.seq (.cond 9 .skip (.exit 0)) (.seq (.block 1 (.s 0 [M 0 10 8,M 1 5 10] [0,1,5,7,8] (.s 0 [M 0 11 1,M 1 12 0,M 2 13 5,IX 3 14 8 12 13,LK 4 15 8 14,q 5 16 (.call 11 [15] [] false)] [0,1,5,7,8,16] (.cond 16 (.s 0 [M 0 17 5,M 1 4 17] [4] .ret) .skip)))) (.g 0 [B 0 18 .add 8 (.i 1),M 1 8 18] [0,1,7,8]))))))) (.s 0 [M 0 4 (.i (-1))] [4] .ret)))
def a110:AFunc:=⟨2,c110,[.tmp 4]⟩
def c111:ACode :=
 (.s 0 [M 0 4 (.i 0)] [0,1] (.seq (.s 0 [M 0 6 0,LE 1 7 6,M 2 8 (.i 0)] [0,1,7,8] (.block 0 (.loop true [0,1,7,8] (.s 0 [B 0 9 .lss 8 7] [0,1,7,8,9] (.seq (.cond 9 .skip (.exit 0)) (.seq (.block 1 (.s 0 [M 0 10 8,M 1 5 10] [0,1,5,7,8] (.s 0 [M 0 11 1,M 1 12 0,M 2 13 5,IX 3 14 4 12 13,LK 4 15 4 14,q 5 16 (.call 11 [15] [] false)] [0,1,5,7,8,16] (.cond 16 (.s 0 [M 0 17 5,M 1 4 17] [4] .ret) .skip)))) (.g 0 [B 0 18 .add 8 (.i 1),M 1 8 18] [0,1,7,8]))))))) (.s 0 [M 0 4 (.i (-1))] [4] .ret)))
def a111:AFunc:=⟨2,c111,[.tmp 4]⟩
def c112:ACode :=
 (.s 0 [M 0 4 (.i 0)] [0,1] (.seq (.s 0 [M 0 6 0,LE 1 7 6,M 2 8 (.i 0)] [0,1,7,8] (.block 0 (.loop true [0,1,7,8] (.s 0 [B 0 9 .lss 8 7] [0,1,7,8,9] (.seq (.cond 9 .skip (.exit 0)) (.seq (.block 1 (.s 0 [M 0 10 8,M 1 5 10] [0,1,5,7,8] (.s 0 [M 0 11 1,M 1 12 0,M 2 13 5,IX 3 14 1 12 13,L 4 15 14,q 5 16 (.call 11 [15] [] false)] [0,1,5,7,8,16] (.cond 16 (.s 0 [M 0 17 5,M 1 4 17] [4] .ret) .skip)))) (.g 0 [B 0 18 .add 8 (.i 1),M 1 8 18] [0,1,7,8]))))))) (.s 0 [M 0 4 (.i (-1))] [4] .ret)))
def a112:AFunc:=⟨2,c112,[.tmp 4]⟩
def c113:ACode :=
 (.s 0 [M 0 6 (.b false)] [0,1,2] (.s 0 [M 0 7 0,M 1 8 1,B 2 9 .geq 7 8,M 3 10 9,G 4 11 10 true (.mv 0),G 5 12 10 true (.mv 2),G 6 13 10 true (.bin .leq 11 12),q 7 14 (.pick 10 13 (.b false)),M 8 6 14] [6] .ret))
def a113:AFunc:=⟨3,c113,[.tmp 6]⟩
def c114:ACode :=
 (.s 0 [M 0 8 (.b true)] [0,1,2,3,8] (.s 0 [M 0 9 (.b true)] [0,1,2,3,8,9] (.block 0 (.loop true [0,1,2,3,8,9] (.block 1 (.s 0 [M 0 19 2,M 1 20 1,B 2 21 .sub 19 20,M 3 10 21] [0,1,2,3,8,9,10] (.seq (.s 0 [M 0 22 10,B 1 23 .leq 22 (.i 12)] [0,1,2,3,8,9,10,23] (.cond 23 (.s 0 [M 0 24 0,M 1 25 1,M 2 26 2,q 3 27 (.call (.f 121) [24,25,26] [[],[],[],[],[],[],[],[],[]] false)] [] .ret) .skip)) (.seq (.s 0 [M 0 28 3,B 1 29 .eql 28 (.i 0)] [0,1,2,3,8,9,10,29] (.cond 29 (.s 0 [M 0 30 0,M 1 31 1,M 2 32 2,CL 3 33 122 [30,31,32]] [] .ret) .skip)) (.seq (.s 0 [M 0 34 8,q 1 35 (.un .not 34)] [0,1,2,3,8,9,10,35] (.cond 35 (.s 0 [M 0 36 0,M 1 37 1,M 2 38 2,CL 3 39 123 [36,37,38]] [0,1,2,3,8,9,10] (.g 0 [M 0 40 3,B 1 41 .sub 40 (.i 1),M 2 3 41] [0,1,2,3,8,9,10])) .skip)) (.s 0 [M 0 43 0,M 1 44 1,M 2 45 2,CL 3 46 124 [43,44,45],M 4 42 46,EX 5 47 42 0,EX 6 48 42 1,M 7 11 47,M 8 12 48] [0,1,2,3,8,9,10,11,12] (.seq (.s 0 [M 0 49 12,B 1 50 .eql 49 (.i 2)] [0,1,2,3,8,9,10,11,12,50] (.cond 50 (.s 0 [M 0 51 0,M 1 52 1,M 2 53 2,CL 3 54 125 [51,52,53]] [0,1,2,3,8,9,10,11] (.s 0 [M 0 55 2,B 1 56 .sub 55 (.i 1),M 2 57 11,M 3 58 1,B 4 59 .sub 57 58,B 5 60 .sub 56 59,M 6 11 60] [0,1,2,3,8,9,10,11] (.g 0 [M 0 12 (.i 1)] [0,1,2,3,8,9,10,11,12]))) .skip)) (.seq (.s 0 [M 0 61 8,M 1 62 61,G 2 63 62 true (.mv 9),q 3 64 (.pick 62 63 (.b false)),M 4 65 64,G 5 66 65 true (.mv 12),G 6 67 65 true (.bin .eql 66 (.i 1)),q 7 68 (.pick 65 67 (.b false))] [0,1,2,3,8,9,10,11,68] (.cond 68 (.s 0 [M 0 69 0,M 1 70 1,M 2 71
 2,CL 3 72 126 [69,70,71]] [0,1,2,3,8,9,10,11,72] (.cond 72 .ret .skip)) .skip)) (.seq (.sd 0 [M 0 73 1,B 1 74 .gtr 73 (.i 0),M 2 75 74,G 3 76 75 true (.mv 0),G 4 77 75 true (.mv 1),G 5 78 75 true (.bin .sub 77 (.i 1)),G 6 79 75 true (.idxS 1 76 78),G 7 80 75 true (.load none 79),G 8 81 75 true (.mv 0),G 9 82 75 true (.mv 11),G 10 83 75 true (.idxS 1 81 82),G 11 84 75 true (.load none 83),G 12 85 75 true (.call (.f 127) [80,84] [] false),G 13 86 75 true (.un .not 85),q 14 87 (.pick 75 86 (.b false))] [0,1,2,3,8,9,10,11,87] (.cond 87 (.s 0 [M 0 88 0,M 1 89 1,M 2 90 2,M 3 91 11,CL 4 92 128 [88,89,90,91],M 5 13 92] [0,2,3,8,9,13] (.s 0 [M 0 93 13,M 1 1 93] [0,1,2,3,8,9] (.exit 1))) .skip)) (.s 0 [M 0 95 0,M 1 96 1,M 2 97 2,M 3 98 11,CL 4 99 129 [95,96,97,98],M 5 94 99,EX 6 100 94 0,EX 7 101 94 1,M 8 14 100,M 9 15 101] [0,1,2,3,10,14,15] (.s 0 [M 0 102 15,M 1 9 102] [0,1,2,3,9,10,14] (.s 0 [M 0 103 14,M 1 104 1,B 2 105 .sub 103 104,M 3 106 2,M 4 107 14,B 5 108 .sub 106 107,M 6 16 105,M 7 17 108] [0,1,2,3,9,10,14,16,17] (.s 0 [M 0 109 10,B 1 110 .quo 109 (.i 8),M 2 18 110] [0,1,2,3,9,14,16,17,18] (.s 0 [M 0 111 16,M 1 112 17,B 2 113 .lss 111 112] [0,1,2,3,9,14,16,17,18,113] (.cond 113 (.s 0 [M 0 114 16,M 1 115 18,B 2 116 .geq 114 115,M 3 8 116] [0,1,2,3,8,9,14] (.s 0 [M 0 117 0,M 1 118 1,M 2 119 14,M 3 120 3,CL 4 121 114 [117,118,119,120]] [0,2,3,8,9,14] (.g 0 [M 0 122 14,B 1 123 .add 122 (.i 1),M 2 1 123] [0,1,2,3,8,9]))) (.s 0 [M 0 124 17,M 1 125 18,B 2 126 .geq 124 125,M 3 8
 126] [0,1,2,3,8,9,14] (.s 0 [M 0 127 0,M 1 128 14,B 2 129 .add 128 (.i 1),M 3 130 2,M 4 131 3,CL 5 132 114 [127,129,130,131]] [0,1,3,8,9,14] (.g 0 [M 0 133 14,M 1 2 133] [0,1,2,3,8,9]))))))))))))))))))))))
def a114:AFunc:=⟨4,c114,[]⟩
def c115:ACode :=
 (.s 0 [M 0 2 (.i 0)] [0] (.seq (.cond (.b false) (.s 0 [M 0 3 0,q 1 4 (.conv .u32 3),CL 2 5 130 [4],M 3 2 5] [2] .ret) .skip) (.s 0 [M 0 6 0,CL 1 7 131 [6],M 2 2 7] [2] .ret)))
def a115:AFunc:=⟨1,c115,[.tmp 2]⟩
def c116:ACode :=
 (.s 1 [q 0 3 (.box 3 0 0),M 1 4 (.b false)] [1,2,3] (.sd 0 [FA 0 5 0 3,L 1 6 5,L 2 7 1,L 3 8 2,IX 4 9 3 7 8,FA 5 10 0 9,L 6 11 10,B 7 12 .eql 6 11,M 8 4 12] [4] .ret))
def a116:AFunc:=⟨3,c116,[.tmp 4]⟩
def c117:ACode :=
 (.s 0 [M 0 4 (.i 0)] [0,1] (.seq (.s 0 [M 0 6 0,LE 1 7 6,M 2 8 (.i 0)] [0,1,7,8] (.block 0 (.loop true [0,1,7,8] (.s 0 [B 0 9 .lss 8 7] [0,1,7,8,9] (.seq (.cond 9 .skip (.exit 0)) (.seq (.block 1 (.s 0 [M 0 10 8,M 1 5 10] [0,1,5,7,8] (.s 0 [M 0 11 1,M 1 12 0,M 2 13 5,IX 3 14 3 12 13,LK 4 15 3 14,q 5 16 (.call 11 [15] [] false)] [0,1,5,7,8,16] (.cond 16 (.s 0 [M 0 17 5,M 1 4 17] [4] .ret) .skip)))) (.g 0 [B 0 18 .add 8 (.i 1),M 1 8 18] [0,1,7,8]))))))) (.s 0 [M 0 4 (.i (-1))] [4] .ret)))
def a117:AFunc:=⟨2,c117,[.tmp 4]⟩
def c118:ACode :=
 (.s 1 [q 0 1 (.box 4 0 0),M 1 2 (.c (.seq 1 []))] [1] (.s 1 [q 0 6 (.lits 1 [.lit (.int .i64 0)] 1 [(0,.i 0)] (some 0)),M 1 3 6] [1,3] (.seq (.s 0 [M 0 4 (.i 1)] [1,3,4] (.block 0 (.loop true [1,3,4] (.seq (.s 0 [M 0 7 4,B 1 8 .leq 7 (.i 364)] [1,3,4,8] (.cond 8 .skip (.exit 0))) (.seq (.block 1 (.s 0 [M 0 5 (.i 0)] [1,3,4,5] (.block 2 (.loop true [1,3,4,5] (.seq (.s 0 [M 0 11 5,FA 1 12 3 1,L 2 13 12,LE 3 14 13,B 4 15 .lss 11 14] [1,3,4,5,15] (.cond 15 .skip (.exit 2))) (.seq (.block 3 (.seq (.region false 0 [3] [FA 0 18 3 1,L 1 19 18,M 2 20 5,IX 3 21 2 19 20,FA 4 22 0 21,L 5 23 22,M 6 24 4,B 7 25 .eql 23 24,M 8 26 25,G 9 27 26 true (.mv 3),G 10 28 26 true (.mv 4),G 11 29 26 true (.call (.f 40) [27,28] [] false),G 12 30 26 true (.un .not 29),q 13 31 (.pick 26 30 (.b false))] [1,3,4,5,31]) (.cond 31 (.g 0 [M 0 32 3,M 1 33 4,q 2 34 (.lits 1 [.lit (.int .i64 0)] 1 [(0,33)] none),q 3 35 (.append 1 8 32 34 none false),M 4 3 35] [1,3,4,5]) .skip))) (.g 0 [M 0 16 5,B 1 17 .add 16 (.i 1),M 2 5 17] [1,3,4,5]))))))) (.g 0 [M 0 9 4,B 1 10 .add 9 (.i 1),M 2 4 10] [1,3,4])))))) (.seq (.region false 0 [3] [M 0 36 3,M 1 2 36] [2]) .ret))))
def a118:AFunc:=⟨1,c118,[.tmp 2]⟩
def c119:ACode :=
 (.s 1 [q 0 2 (.box 1 0 0)] [1,2] (.s 3 [L 0 5 1,NK 1 6 5,FA 2 7 0 6,FA 3 8 1 7,L 4 9 8,LE 5 10 9,q 6 11 (.mkslice 3 24 [.lit (.int .i64 0),.lit (.int .i64 0),.lit (.int .i64 0)] 10 10 0),q 7 3 (.alloc [.nils 3] [(0,1,3)] 2),ST 8 1 3 11] [1,2,3] (.s 1 [q 0 4 (.alloc [.lit .nilFunc] [] 0)] [1,2,3,4] (.s 0 [q 0 12 (.mkfn (.func 120) [] [3,2,1,4]),ST 1 1 4 12] [4] (.g 0 [L 0 13 4,q 1 14 (.call 13 [.i 0] [] false)] [])))))
def a119:AFunc:=⟨2,c119,[]⟩
def c120:ACode :=
 (.s 0 [M 0 6 (.b false)] [0,1,2,3,4] (.seq (.s 0 [M 0 9 0,L 1 10 1,LE 2 11 10,B 3 12 .eql 9 11] [0,1,2,3,4,12] (.cond 12 (.s 0 [L 0 13 2,L 1 14 1,q 2 15 (.call 13 [14] [[],[],[],[],[],[],[],[],[]] false),M 3 6 15] [6] .ret) .skip)) (.seq (.sd 0 [L 0 16 3,NK 1 17 16,FA 2 18 0 17,FA 3 19 0 18,L 4 20 19,LE 5 21 20,B 6 22 .mul 21 (.i 3),L 7 23 3,NK 8 24 23,FA 9 25 13 24,L 10 26 25,LE 11 27 26,B 12 28 .mul 22 27,M 13 29 (.i 0)] [0,1,3,4,28,29] (.block 0 (.loop true [0,1,3,4,28,29] (.s 0 [B 0 30 .lss 29 28] [0,1,3,4,28,29,30] (.seq (.cond 30 .skip (.exit 0)) (.seq (.block 1 (.s 0 [M 0 31 29,M 1 7 31] [0,1,3,4,7,28,29] (.sd 1 [M 0 32 7,⟨some 33,.load none 3,none,[0],[],0,1⟩,NK 2 34 33,FA 3 35 13 34,⟨some 36,.load none 35,none,[0],[],0,4⟩,⟨some 37,.lenL 36,none,[0],[],0,5⟩,B 6 38 .quo 32 37,B 7 39 .quo 38 (.i 3),M 8 40 7,⟨some 41,.load none 3,none,[0],[],0,9⟩,NK 10 42 41,FA 11 43 13 42,⟨some 44,.load none 43,none,[0],[],0,12⟩,⟨some 45,.lenL 44,none,[0],[],0,13⟩,B 14 46 .quo 40 45,B 15 47 .rem 46 (.i 3),⟨some 48,.load none 3,none,[0],[],0,16⟩,NK 17 49 48,FA 18 50 13 49,⟨some 51,.load none 50,none,[0],[],0,19⟩,M 20 52 7,⟨some 53,.load none 3,none,[0],[],0,21⟩,NK 22 54 53,FA 23 55 13 54,⟨some 56,.load none 55,none,[0],[],0,24⟩,⟨some 57,.lenL 56,none,[0],[],0,25⟩,B 26 58 .rem 52 57,⟨some 59,.idxS 1 51 58,none,[0],[],0,27⟩,⟨some 60,.load none 59,none,[0],[],0,28⟩,q 29 61 (.build [.lit (.int .i64 0),.lit (.int .i64 0),.lit (.int .i64 0)] [(0,1,39),(1,1,47),(2,1,60)]),q 30 8 (.alloc [.lit
 (.int .i64 0),.lit (.int .i64 0),.lit (.int .i64 0)] [] 0),ST 31 3 8 61] [0,1,3,4,8,28,29] (.seq (.s 0 [L 0 62 1,M 1 63 0,LK 2 64 3 8,IX 3 65 3 62 63,ST 4 3 65 64] [0,1,3,4,8,28,29] (.s 0 [L 0 66 3,M 1 67 0,LK 2 68 3 8,CL 3 69 57 [66,67,68],B 4 70 .neq 69 (.i 0),M 5 71 70,G 6 72 71 false (.load none 1),G 7 73 71 false (.mv 0),G 8 74 71 false (.call (.f 102) [72,73] [[],[],[],[],[],[],[],[],[]] false),q 9 75 (.pick 71 (.b true) 74)] [0,1,3,4,28,29,75] (.cond 75 (.exit 1) .skip))) (.s 0 [L 0 76 4,M 1 77 0,B 2 78 .add 77 (.i 1),q 3 79 (.call 76 [78] [[],[],[],[],[],[],[],[],[]] false),q 4 80 (.un .not 79)] [0,1,3,4,28,29,80] (.cond 80 (.s 0 [M 0 6 (.b false)] [6] .ret) .skip)))))) (.g 0 [B 0 81 .add 29 (.i 1),M 1 29 81] [0,1,3,4,28,29]))))))) (.sd 0 [L 0 82 1,M 1 83 0,CP 2 84 99 [],IX 3 85 3 82 83,ST 4 3 85 84] [0,4] (.s 0 [L 0 86 4,M 1 87 0,B 2 88 .add 87 (.i 1),q 3 89 (.call 86 [88] [[],[],[],[],[],[],[],[],[]] false),M 4 6 89] [6] .ret)))))
def a120:AFunc:=⟨5,c120,[.tmp 6]⟩
def c121:ACode :=
 (.s 0 [M 0 8 1,B 1 9 .add 8 (.i 1),M 2 6 9] [0,1,2,6] (.block 0 (.loop true [0,1,2,6] (.seq (.s 0 [M 0 10 6,M 1 11 2,B 2 12 .lss 10 11] [0,1,2,6,12] (.cond 12 .skip (.exit 0))) (.seq (.block 1 (.s 0 [M 0 15 6,M 1 7 15] [0,1,2,6,7] (.block 2 (.loop true [0,1,2,6,7] (.seq (.sd 0 [M 0 16 7,M 1 17 1,B 2 18 .gtr 16 17,M 3 19 18,G 4 20 19 true (.mv 0),G 5 21 19 true (.mv 7),G 6 22 19 true (.idxS 1 20 21),G 7 23 19 true (.load none 22),G 8 24 19 true (.mv 0),G 9 25 19 true (.mv 7),G 10 26 19 true (.bin .sub 25 (.i 1)),G 11 27 19 true (.idxS 1 24 26),G 12 28 19 true (.load none 27),G 13 29 19 true (.call (.f 127) [23,28] [] false),q 14 30 (.pick 19 29 (.b false))] [0,1,2,6,7,30] (.cond 30 .skip (.exit 2))) (.seq (.block 3 (.gd 0 [M 0 33 0,M 1 34 7,M 5 38 0,M 6 39 7,B 7 40 .sub 39 (.i 1),IX 8 41 1 38 40,L 9 42 41,M 10 43 0,M 11 44 7,IX 12 45 1 43 44,L 13 46 45,IX 14 47 1 33 34,ST 15 1 47 42,M 2 35 0,M 3 36 7,B 4 37 .sub 36 (.i 1),IX 16 48 1 35 37,ST 17 1 48 46] [0,1,2,6,7])) (.g 0 [M 0 31 7,B 1 32 .sub 31 (.i 1),M 2 7 32] [0,1,2,6,7]))))))) (.g 0 [M 0 13 6,B 1 14 .add 13 (.i 1),M 2 6 14] [0,1,2,6]))))))
def a121:AFunc:=⟨3,c121,[]⟩
def c122:ACode :=
 (.s 0 [M 0 11 1,M 1 6 11] [0,1,2,6] (.s 0 [M 0 7 (.i 0)] [0,1,2,6,7] (.s 0 [M 0 12 2,M 1 13 1,B 2 14 .sub 12 13,M 3 8 14] [0,6,7,8] (.seq (.s 0 [M 0 15 8,B 1 16 .sub 15 (.i 1),B 2 17 .quo 16 (.i 2),M 3 9 17] [0,6,7,8,9] (.block 0 (.loop true [0,6,7,8,9] (.seq (.s 0 [M 0 18 9,B 1 19 .geq 18 (.i 0)] [0,6,7,8,9,19] (.cond 19 .skip (.exit 0))) (.seq (.block 1 (.g 0 [M 0 22 0,M 1 23 9,M 2 24 8,M 3 25 6,CL 4 26 132 [22,23,24,25]] [0,6,7,8,9])) (.g 0 [M 0 20 9,B 1 21 .sub 20 (.i 1),M 2 9 21] [0,6,7,8,9])))))) (.s 0 [M 0 27 8,B 1 28 .sub 27 (.i 1),M 2 10 28] [0,6,7,10] (.block 2 (.loop true [0,6,7,10] (.seq (.s 0 [M 0 29 10,B 1 30 .geq 29 (.i 0)] [0,6,7,10,30] (.cond 30 .skip (.exit 2))) (.seq (.block 3 (.sd 0 [M 0 33 0,M 1 34 6,M 6 39 0,M 7 40 6,M 8 41 10,B 9 42 .add 40 41,IX 10 43 1 39 42,L 11 44 43,M 12 45 0,M 13 46 6,IX 14 47 1 45 46,L 15 48 47,IX 16 49 1 33 34,ST 17 1 49 44,M 2 35 0,M 3 36 6,M 4 37 10,B 5 38 .add 36 37,IX 18 50 1 35 38,ST 19 1 50 48] [0,6,7,10] (.g 0 [M 0 51 0,M 1 52 7,M 2 53 10,M 3 54 6,CL 4 55 132 [51,52,53,54]] [0,6,7,10]))) (.g 0 [M 0 31 10,B 1 32 .sub 31 (.i 1),M 2 10 32] [0,6,7,10]))))))))))
def a122:AFunc:=⟨3,c122,[]⟩
def c123:ACode :=
 (.s 0 [M 0 11 2,M 1 12 1,B 2 13 .sub 11 12,M 3 6 13] [0,1,6] (.s 0 [M 0 14 6,B 1 15 .geq 14 (.i 8)] [0,1,6,15] (.cond 15 (.s 1 [M 0 16 6,q 1 17 (.conv .u64 16),q 2 7 (.alloc [.lit (.int .u64 0)] [] 0),ST 3 1 7 17] [0,1,6,7] (.s 0 [M 0 18 6,CL 1 19 133 [18],M 2 8 19] [0,1,6,7,8] (.s 0 [M 0 20 1,M 1 21 6,B 2 22 .quo 21 (.i 4),B 3 23 .mul 22 (.i 2),B 4 24 .add 20 23,B 5 25 .sub 24 (.i 1),M 6 9 25] [0,1,6,7,8,9] (.block 0 (.loop true [0,1,6,7,8,9] (.seq (.s 0 [M 0 26 9,M 1 27 1,M 2 28 6,B 3 29 .quo 28 (.i 4),B 4 30 .mul 29 (.i 2),B 5 31 .add 27 30,B 6 32 .add 31 (.i 1),B 7 33 .leq 26 32] [0,1,6,7,8,9,33] (.cond 33 .skip (.exit 0))) (.seq (.block 1 (.s 0 [CL 0 36 134 [7],M 1 37 8,B 2 38 .sub 37 (.c (.lit (.int .u64 1))),B 3 39 .and 36 38,q 4 40 (.conv .i64 39),M 5 10 40] [0,1,6,7,8,9,10] (.seq (.s 0 [M 0 41 10,M 1 42 6,B 2 43 .geq 41 42] [0,1,6,7,8,9,10,43] (.cond 43 (.g 0 [M 0 44 10,M 1 45 6,B 2 46 .sub 44 45,M 3 10 46] [0,1,6,7,8,9,10]) .skip)) (.gd 0 [M 0 47 0,M 1 48 9,M 6 53 0,M 7 54 1,M 8 55 10,B 9 56 .add 54 55,IX 10 57 1 53 56,L 11 58 57,M 12 59 0,M 13 60 9,IX 14 61 1 59 60,L 15 62 61,IX 16 63 1 47 48,ST 17 1 63 58,M 2 49 0,M 3 50 1,M 4 51 10,B 5 52 .add 50 51,IX 18 64 1 49 52,ST 19 1 64 62] [0,1,6,7,8,9])))) (.g 0 [M 0 34 9,B 1 35 .add 34 (.i 1),M 2 9 35] [0,1,6,7,8,9])))))))) .skip)))
def a123:AFunc:=⟨3,c123,[]⟩
def c124:ACode :=
 (.s 0 [M 0 6 (.i 0),M 1 7 (.i 0)] [0,1,2] (.s 0 [M 0 13 2,M 1 14 1,B 2 15 .sub 13 14,M 3 8 15] [0,1,8] (.s 1 [q 0 9 (.alloc [.lit (.int .i64 0)] [] 0)] [0,1,8,9] (.s 0 [M 0 16 1,M 1 17 8,B 2 18 .quo 17 (.i 4),B 3 19 .mul 18 (.i 1),B 4 20 .add 16 19,M 5 10 20] [0,1,8,9,10] (.s 0 [M 0 21 1,M 1 22 8,B 2 23 .quo 22 (.i 4),B 3 24 .mul 23 (.i 2),B 4 25 .add 21 24,M 5 11 25] [0,1,8,9,10,11] (.s 0 [M 0 26 1,M 1 27 8,B 2 28 .quo 27 (.i 4),B 3 29 .mul 28 (.i 3),B 4 30 .add 26 29,M 5 12 30] [0,8,9,10,11,12] (.seq (.s 0 [M 0 31 8,B 1 32 .geq 31 (.i 8)] [0,8,9,10,11,12,32] (.cond 32 (.seq (.s 0 [M 0 33 8,B 1 34 .geq 33 (.i 50)] [0,9,10,11,12,34] (.cond 34 (.s 0 [M 0 35 0,M 1 36 10,CL 2 37 135 [35,36,9],M 3 10 37] [0,9,10,11,12] (.s 0 [M 0 38 0,M 1 39 11,CL 2 40 135 [38,39,9],M 3 11 40] [0,9,10,11,12] (.g 0 [M 0 41 0,M 1 42 12,CL 2 43 135 [41,42,9],M 3 12 43] [0,9,10,11,12]))) .skip)) (.g 0 [M 0 44 0,M 1 45 10,M 2 46 11,M 3 47 12,CL 4 48 136 [44,45,46,47,9],M 5 11 48] [9,11])) .skip)) (.s 0 [L 0 49 9] [11,49] (.block 0 (.s 0 [B 0 52 .eql 49 (.i 0),M 1 51 52] [11,49,51] (.cond 51 (.s 0 [M 0 53 11,M 1 6 53,M 2 7 (.i 1)] [6,7] .ret) (.s 0 [B 0 55 .eql 49 (.i 12),M 1 54 55] [11,54] (.cond 54 (.s 0 [M 0 56 11,M 1 6 56,M 2 7 (.i 2)] [6,7] .ret) (.s 0 [M 0 50 11,M 1 6 50,M 2 7 (.i 0)] [6,7] .ret))))))))))))))
def a124:AFunc:=⟨3,c124,[.tmp 6,.tmp 7]⟩
def c125:ACode :=
 (.s 0 [M 0 8 1,M 1 6 8] [0,2,6] (.s 0 [M 0 9 2,B 1 10 .sub 9 (.i 1),M 2 7 10] [0,6,7] (.block 0 (.loop true [0,6,7] (.seq (.s 0 [M 0 11 6,M 1 12 7,B 2 13 .lss 11 12] [0,6,7,13] (.cond 13 .skip (.exit 0))) (.block 1 (.sd 0 [M 0 14 0,M 1 15 6,M 4 18 0,M 5 19 7,IX 6 20 1 18 19,L 7 21 20,M 8 22 0,M 9 23 6,IX 10 24 1 22 23,L 11 25 24,IX 12 26 1 14 15,ST 13 1 26 21,M 2 16 0,M 3 17 7,IX 14 27 1 16 17,ST 15 1 27 25] [0,6,7] (.s 0 [M 0 28 6,B 1 29 .add 28 (.i 1),M 2 6 29] [0,6,7] (.g 0 [M 0 30 7,B 1 31 .sub 30 (.i 1),M 2 7 31] [0,6,7])))))))))
def a125:AFunc:=⟨3,c125,[]⟩
def c126:ACode :=
 (.s 0 [M 0 6 (.b false)] [0,1,2] (.s 0 [M 0 11 1,B 1 12 .add 11 (.i 1),M 2 7 12] [0,1,2,7] (.seq (.s 0 [M 0 8 (.i 0)] [0,1,2,7,8] (.block 0 (.loop true [0,1,2,7,8] (.seq (.s 0 [M 0 13 8,B 1 14 .lss 13 (.i 5)] [0,1,2,7,8,14] (.cond 14 .skip (.exit 0))) (.seq (.block 1 (.seq (.block 2 (.loop true [0,1,2,7,8] (.seq (.sd 0 [M 0 17 7,M 1 18 2,B 2 19 .lss 17 18,M 3 20 19,G 4 21 20 true (.mv 0),G 5 22 20 true (.mv 7),G 6 23 20 true (.idxS 1 21 22),G 7 24 20 true (.load none 23),G 8 25 20 true (.mv 0),G 9 26 20 true (.mv 7),G 10 27 20 true (.bin .sub 26 (.i 1)),G 11 28 20 true (.idxS 1 25 27),G 12 29 20 true (.load none 28),G 13 30 20 true (.call (.f 127) [24,29] [] false),G 14 31 20 true (.un .not 30),q 15 32 (.pick 20 31 (.b false))] [0,1,2,7,8,32] (.cond 32 .skip (.exit 2))) (.block 3 (.g 0 [M 0 33 7,B 1 34 .add 33 (.i 1),M 2 7 34] [0,1,2,7,8]))))) (.seq (.s 0 [M 0 35 7,M 1 36 2,B 2 37 .eql 35 36] [0,1,2,7,8,37] (.cond 37 (.s 0 [M 0 6 (.b true)] [6] .ret) .skip)) (.seq (.s 0 [M 0 38 2,M 1 39 1,B 2 40 .sub 38 39,B 3 41 .lss 40 (.i 50)] [0,1,2,7,8,41] (.cond 41 (.s 0 [M 0 6 (.b false)] [6] .ret) .skip)) (.sd 0 [M 0 42 0,M 1 43 7,M 5 47 0,M 6 48 7,B 7 49 .sub 48 (.i 1),IX 8 50 1 47 49,L 9 51 50,M 10 52 0,M 11 53 7,IX 12 54 1 52 53,L 13 55 54,IX 14 56 1 42 43,ST 15 1 56 51,M 2 44 0,M 3 45 7,B 4 46 .sub 45 (.i 1),IX 16 57 1 44 46,ST 17 1 57 55] [0,1,2,7,8] (.seq (.s 0 [M 0 58 7,M 1 59 1,B 2 60 .sub 58 59,B 3 61 .geq 60 (.i 2)] [0,1,2,7,8,61] (.cond 61 (.s 0 [M 0 62 7,B 1 63 .sub 62 (.i
 1),M 2 9 63] [0,1,2,7,8,9] (.block 4 (.loop true [0,1,2,7,8,9] (.seq (.s 0 [M 0 64 9,B 1 65 .geq 64 (.i 1)] [0,1,2,7,8,9,65] (.cond 65 .skip (.exit 4))) (.seq (.block 5 (.seq (.sd 0 [M 0 68 0,M 1 69 9,IX 2 70 1 68 69,L 3 71 70,M 4 72 0,M 5 73 9,B 6 74 .sub 73 (.i 1),IX 7 75 1 72 74,L 8 76 75,CL 9 77 127 [71,76],q 10 78 (.un .not 77)] [0,1,2,7,8,9,78] (.cond 78 (.exit 4) .skip)) (.gd 0 [M 0 79 0,M 1 80 9,M 5 84 0,M 6 85 9,B 7 86 .sub 85 (.i 1),IX 8 87 1 84 86,L 9 88 87,M 10 89 0,M 11 90 9,IX 12 91 1 89 90,L 13 92 91,IX 14 93 1 79 80,ST 15 1 93 88,M 2 81 0,M 3 82 9,B 4 83 .sub 82 (.i 1),IX 16 94 1 81 83,ST 17 1 94 92] [0,1,2,7,8,9]))) (.g 0 [M 0 66 9,B 1 67 .sub 66 (.i 1),M 2 9 67] [0,1,2,7,8,9])))))) .skip)) (.s 0 [M 0 95 2,M 1 96 7,B 2 97 .sub 95 96,B 3 98 .geq 97 (.i 2)] [0,1,2,7,8,98] (.cond 98 (.s 0 [M 0 99 7,B 1 100 .add 99 (.i 1),M 2 10 100] [0,1,2,7,8,10] (.block 6 (.loop true [0,1,2,7,8,10] (.seq (.s 0 [M 0 101 10,M 1 102 2,B 2 103 .lss 101 102] [0,1,2,7,8,10,103] (.cond 103 .skip (.exit 6))) (.seq (.block 7 (.seq (.sd 0 [M 0 106 0,M 1 107 10,IX 2 108 1 106 107,L 3 109 108,M 4 110 0,M 5 111 10,B 6 112 .sub 111 (.i 1),IX 7 113 1 110 112,L 8 114 113,CL 9 115 127 [109,114],q 10 116 (.un .not 115)] [0,1,2,7,8,10,116] (.cond 116 (.exit 6) .skip)) (.gd 0 [M 0 117 0,M 1 118 10,M 5 122 0,M 6 123 10,B 7 124 .sub 123 (.i 1),IX 8 125 1 122 124,L 9 126 125,M 10 127 0,M 11 128 10,IX 12 129 1 127 128,L 13 130 129,IX 14 131 1 117 118,ST 15 1 131 126,M 2 119 0,M 3 120 10,B 4 121 .sub
 120 (.i 1),IX 16 132 1 119 121,ST 17 1 132 130] [0,1,2,7,8,10]))) (.g 0 [M 0 104 10,B 1 105 .add 104 (.i 1),M 2 10 105] [0,1,2,7,8,10])))))) .skip)))))))) (.g 0 [M 0 15 8,B 1 16 .add 15 (.i 1),M 2 8 16] [0,1,2,7,8])))))) (.s 0 [M 0 6 (.b false)] [6] .ret))))
def a126:AFunc:=⟨3,c126,[.tmp 6]⟩
def c127:ACode :=
 (.s 0 [M 0 4 (.b false)] [0,1] (.s 0 [M 0 5 0,CL 1 6 137 [5],M 2 7 6,G 3 8 7 true (.mv 1),G 4 9 7 true (.call (.f 137) [8] [] false),G 5 10 7 true (.un .not 9),q 6 11 (.pick 7 10 (.b false)),M 7 12 11,G 8 13 12 false (.mv 0),G 9 14 12 false (.mv 1),G 10 15 12 false (.bin .lss 13 14),q 11 16 (.pick 12 (.b true) 15),M 12 4 16] [4] .ret))
def a127:AFunc:=⟨2,c127,[.tmp 4]⟩
def c128:ACode :=
 (.s 0 [M 0 8 (.i 0)] [0,1,2,3] (.sd 0 [M 0 11 0,M 1 12 1,M 4 15 0,M 5 16 3,IX 6 17 1 15 16,L 7 18 17,M 8 19 0,M 9 20 1,IX 10 21 1 19 20,L 11 22 21,IX 12 23 1 11 12,ST 13 1 23 18,M 2 13 0,M 3 14 3,IX 14 24 1 13 14,ST 15 1 24 22] [0,1,2] (.s 0 [M 0 25 1,B 1 26 .add 25 (.i 1),M 2 27 2,B 3 28 .sub 27 (.i 1),M 4 9 26,M 5 10 28] [0,1,9,10] (.seq (.block 0 (.loop true [0,1,9,10] (.block 1 (.seq (.block 2 (.loop true [0,1,9,10] (.seq (.sd 0 [M 0 29 9,M 1 30 10,B 2 31 .leq 29 30,M 3 32 31,G 4 33 32 true (.mv 0),G 5 34 32 true (.mv 1),G 6 35 32 true (.idxS 1 33 34),G 7 36 32 true (.load none 35),G 8 37 32 true (.mv 0),G 9 38 32 true (.mv 9),G 10 39 32 true (.idxS 1 37 38),G 11 40 32 true (.load none 39),G 12 41 32 true (.call (.f 127) [36,40] [] false),G 13 42 32 true (.un .not 41),q 14 43 (.pick 32 42 (.b false))] [0,1,9,10,43] (.cond 43 .skip (.exit 2))) (.block 3 (.g 0 [M 0 44 9,B 1 45 .add 44 (.i 1),M 2 9 45] [0,1,9,10]))))) (.seq (.block 4 (.loop true [0,1,9,10] (.seq (.sd 0 [M 0 46 9,M 1 47 10,B 2 48 .leq 46 47,M 3 49 48,G 4 50 49 true (.mv 0),G 5 51 49 true (.mv 1),G 6 52 49 true (.idxS 1 50 51),G 7 53 49 true (.load none 52),G 8 54 49 true (.mv 0),G 9 55 49 true (.mv 10),G 10 56 49 true (.idxS 1 54 55),G 11 57 49 true (.load none 56),G 12 58 49 true (.call (.f 127) [53,57] [] false),q 13 59 (.pick 49 58 (.b false))] [0,1,9,10,59] (.cond 59 .skip (.exit 4))) (.block 5 (.g 0 [M 0 60 10,B 1 61 .sub 60 (.i 1),M 2 10 61] [0,1,9,10]))))) (.seq (.s 0 [M 0 62 9,M 1 63 10,B 2 64 .gtr 62
 63] [0,1,9,10,64] (.cond 64 (.exit 0) .skip)) (.sd 0 [M 0 65 0,M 1 66 9,M 4 69 0,M 5 70 10,IX 6 71 1 69 70,L 7 72 71,M 8 73 0,M 9 74 9,IX 10 75 1 73 74,L 11 76 75,IX 12 77 1 65 66,ST 13 1 77 72,M 2 67 0,M 3 68 10,IX 14 78 1 67 68,ST 15 1 78 76] [0,1,9,10] (.s 0 [M 0 79 9,B 1 80 .add 79 (.i 1),M 2 9 80] [0,1,9,10] (.g 0 [M 0 81 10,B 1 82 .sub 81 (.i 1),M 2 10 82] [0,1,9,10]))))))))) (.s 0 [M 0 83 9,M 1 8 83] [8] .ret)))))
def a128:AFunc:=⟨4,c128,[.tmp 8]⟩
def c129:ACode :=
 (.s 0 [M 0 8 (.i 0),M 1 9 (.b false)] [0,1,2,3] (.sd 0 [M 0 12 0,M 1 13 1,M 4 16 0,M 5 17 3,IX 6 18 1 16 17,L 7 19 18,M 8 20 0,M 9 21 1,IX 10 22 1 20 21,L 11 23 22,IX 12 24 1 12 13,ST 13 1 24 19,M 2 14 0,M 3 15 3,IX 14 25 1 14 15,ST 15 1 25 23] [0,1,2] (.s 0 [M 0 26 1,B 1 27 .add 26 (.i 1),M 2 28 2,B 3 29 .sub 28 (.i 1),M 4 10 27,M 5 11 29] [0,1,10,11] (.seq (.block 0 (.loop true [0,1,10,11] (.seq (.sd 0 [M 0 30 10,M 1 31 11,B 2 32 .leq 30 31,M 3 33 32,G 4 34 33 true (.mv 0),G 5 35 33 true (.mv 10),G 6 36 33 true (.idxS 1 34 35),G 7 37 33 true (.load none 36),G 8 38 33 true (.mv 0),G 9 39 33 true (.mv 1),G 10 40 33 true (.idxS 1 38 39),G 11 41 33 true (.load none 40),G 12 42 33 true (.call (.f 127) [37,41] [] false),q 13 43 (.pick 33 42 (.b false))] [0,1,10,11,43] (.cond 43 .skip (.exit 0))) (.block 1 (.g 0 [M 0 44 10,B 1 45 .add 44 (.i 1),M 2 10 45] [0,1,10,11]))))) (.seq (.block 2 (.loop true [0,1,10,11] (.seq (.sd 0 [M 0 46 10,M 1 47 11,B 2 48 .leq 46 47,M 3 49 48,G 4 50 49 true (.mv 0),G 5 51 49 true (.mv 11),G 6 52 49 true (.idxS 1 50 51),G 7 53 49 true (.load none 52),G 8 54 49 true (.mv 0),G 9 55 49 true (.mv 1),G 10 56 49 true (.idxS 1 54 55),G 11 57 49 true (.load none 56),G 12 58 49 true (.call (.f 127) [53,57] [] false),G 13 59 49 true (.un .not 58),q 14 60 (.pick 49 59 (.b false))] [0,1,10,11,60] (.cond 60 .skip (.exit 2))) (.block 3 (.g 0 [M 0 61 11,B 1 62 .sub 61 (.i 1),M 2 11 62] [0,1,10,11]))))) (.seq (.s 0 [M 0 63 10,M 1 64 11,B 2 65 .gtr 63 64]
 [0,1,10,11,65] (.cond 65 (.sd 0 [M 0 66 0,M 1 67 11,M 4 70 0,M 5 71 1,IX 6 72 1 70 71,L 7 73 72,M 8 74 0,M 9 75 11,IX 10 76 1 74 75,L 11 77 76,IX 12 78 1 66 67,ST 13 1 78 73,M 2 68 0,M 3 69 1,IX 14 79 1 68 69,ST 15 1 79 77] [11] (.s 0 [M 0 80 11,M 1 8 80,M 2 9 (.b true)] [8,9] .ret)) .skip)) (.sd 0 [M 0 81 0,M 1 82 10,M 4 85 0,M 5 86 11,IX 6 87 1 85 86,L 7 88 87,M 8 89 0,M 9 90 10,IX 10 91 1 89 90,L 11 92 91,IX 12 93 1 81 82,ST 13 1 93 88,M 2 83 0,M 3 84 11,IX 14 94 1 83 84,ST 15 1 94 92] [0,1,10,11] (.s 0 [M 0 95 10,B 1 96 .add 95 (.i 1),M 2 10 96] [0,1,10,11] (.s 0 [M 0 97 11,B 1 98 .sub 97 (.i 1),M 2 11 98] [0,1,10,11] (.seq (.block 4 (.loop true [0,1,10,11] (.block 5 (.seq (.block 6 (.loop true [0,1,10,11] (.seq (.sd 0 [M 0 99 10,M 1 100 11,B 2 101 .leq 99 100,M 3 102 101,G 4 103 102 true (.mv 0),G 5 104 102 true (.mv 10),G 6 105 102 true (.idxS 1 103 104),G 7 106 102 true (.load none 105),G 8 107 102 true (.mv 0),G 9 108 102 true (.mv 1),G 10 109 102 true (.idxS 1 107 108),G 11 110 102 true (.load none 109),G 12 111 102 true (.call (.f 127) [106,110] [] false),q 13 112 (.pick 102 111 (.b false))] [0,1,10,11,112] (.cond 112 .skip (.exit 6))) (.block 7 (.g 0 [M 0 113 10,B 1 114 .add 113 (.i 1),M 2 10 114] [0,1,10,11]))))) (.seq (.block 8 (.loop true [0,1,10,11] (.seq (.sd 0 [M 0 115 10,M 1 116 11,B 2 117 .leq 115 116,M 3 118 117,G 4 119 118 true (.mv 0),G 5 120 118 true (.mv 11),G 6 121 118 true (.idxS 1 119 120),G 7 122 118 true (.load none 121),G 8 123 118 true (.mv 0),G
 9 124 118 true (.mv 1),G 10 125 118 true (.idxS 1 123 124),G 11 126 118 true (.load none 125),G 12 127 118 true (.call (.f 127) [122,126] [] false),G 13 128 118 true (.un .not 127),q 14 129 (.pick 118 128 (.b false))] [0,1,10,11,129] (.cond 129 .skip (.exit 8))) (.block 9 (.g 0 [M 0 130 11,B 1 131 .sub 130 (.i 1),M 2 11 131] [0,1,10,11]))))) (.seq (.s 0 [M 0 132 10,M 1 133 11,B 2 134 .gtr 132 133] [0,1,10,11,134] (.cond 134 (.exit 4) .skip)) (.sd 0 [M 0 135 0,M 1 136 10,M 4 139 0,M 5 140 11,IX 6 141 1 139 140,L 7 142 141,M 8 143 0,M 9 144 10,IX 10 145 1 143 144,L 11 146 145,IX 12 147 1 135 136,ST 13 1 147 142,M 2 137 0,M 3 138 11,IX 14 148 1 137 138,ST 15 1 148 146] [0,1,10,11] (.s 0 [M 0 149 10,B 1 150 .add 149 (.i 1),M 2 10 150] [0,1,10,11] (.g 0 [M 0 151 11,B 1 152 .sub 151 (.i 1),M 2 11 152] [0,1,10,11]))))))))) (.sd 0 [M 0 153 0,M 1 154 11,M 4 157 0,M 5 158 1,IX 6 159 1 157 158,L 7 160 159,M 8 161 0,M 9 162 11,IX 10 163 1 161 162,L 11 164 163,IX 12 165 1 153 154,ST 13 1 165 160,M 2 155 0,M 3 156 1,IX 14 166 1 155 156,ST 15 1 166 164] [11] (.s 0 [M 0 167 11,M 1 8 167,M 2 9 (.b false)] [8,9] .ret))))))))))))
def a129:AFunc:=⟨4,c129,[.tmp 8,.tmp 9]⟩
def c130:ACode :=
 (.s 0 [M 0 2 (.i 0)] [0,2] (.seq (.s 0 [M 0 3 0,B 1 4 .geq 3 (.c (.lit (.int .u32 65536)))] [0,2,4] (.cond 4 (.s 0 [M 0 5 0,B 1 6 .shr 5 (.c (.lit (.int .u64 16))),M 2 0 6] [0] (.g 0 [M 0 2 (.i 16)] [0,2])) .skip)) (.seq (.s 0 [M 0 7 0,B 1 8 .geq 7 (.c (.lit (.int .u32 256)))] [0,2,8] (.cond 8 (.s 0 [M 0 9 0,B 1 10 .shr 9 (.c (.lit (.int .u64 8))),M 2 0 10] [0,2] (.g 0 [M 0 11 2,B 1 12 .add 11 (.i 8),M 2 2 12] [0,2])) .skip)) (.s 0 [M 0 13 2,M 1 14 0,q 2 15 (.conv .u8 14),q 3 16 (.idxStr (.c (.lit (.string ⟨#[0,1,2,2,3,3,3,3,4,4,4,4,4,4,4,4,5,5,5,5,5,5,5,5,5,5,5,5,5,5,5,5,6,6,6,6,6,6,6,6,6,6,6,6,6,6,6,6,6,6,6,6,6,6,6,6,6,6,6,6,6,6,6,6,7,7,7,7,7,7,7,7,7,7,7,7,7,7,7,7,7,7,7,7,7,7,7,7,7,7,7,7,7,7,7,7,7,7,7,7,7,7,7,7,7,7,7,7,7,7,7,7,7,7,7,7,7,7,7,7,7,7,7,7,7,7,7,7,8,8,8,8,8,8,8,8,8,8,8,8,8,8,8,8,8,8,8,8,8,8,8,8,8,8,8,8,8,8,8,8,8,8,8,8,8,8,8,8,8,8,8,8,8,8,8,8,8,8,8,8,8,8,8,8,8,8,8,8,8,8,8,8,8,8,8,8,8,8,8,8,8,8,8,8,8,8,8,8,8,8,8,8,8,8,8,8,8,8,8,8,8,8,8,8,8,8,8,8,8,8,8,8,8,8,8,8,8,8,8,8,8,8,8,8,8,8,8,8,8,8,8,8,8,8,8,8]⟩))) 15),q 4 17 (.conv .i64 16),B 5 18 .add 13 17,M 6 2 18] [2] .ret))))
def a130:AFunc:=⟨1,c130,[.tmp 2]⟩
def c131:ACode :=
 (.s 0 [M 0 2 (.i 0)] [0,2] (.seq (.s 0 [M 0 3 0,B 1 4 .geq 3 (.c (.lit (.int .u64 4294967296)))] [0,2,4] (.cond 4 (.s 0 [M 0 5 0,B 1 6 .shr 5 (.c (.lit (.int .u64 32))),M 2 0 6] [0] (.g 0 [M 0 2 (.i 32)] [0,2])) .skip)) (.seq (.s 0 [M 0 7 0,B 1 8 .geq 7 (.c (.lit (.int .u64 65536)))] [0,2,8] (.cond 8 (.s 0 [M 0 9 0,B 1 10 .shr 9 (.c (.lit (.int .u64 16))),M 2 0 10] [0,2] (.g 0 [M 0 11 2,B 1 12 .add 11 (.i 16),M 2 2 12] [0,2])) .skip)) (.seq (.s 0 [M 0 13 0,B 1 14 .geq 13 (.c (.lit (.int .u64 256)))] [0,2,14] (.cond 14 (.s 0 [M 0 15 0,B 1 16 .shr 15 (.c (.lit (.int .u64 8))),M 2 0 16] [0,2] (.g 0 [M 0 17 2,B 1 18 .add 17 (.i 8),M 2 2 18] [0,2])) .skip)) (.s 0 [M 0 19 2,M 1 20 0,q 2 21 (.conv .u8 20),q 3 22 (.idxStr (.c (.lit (.string ⟨#[0,1,2,2,3,3,3,3,4,4,4,4,4,4,4,4,5,5,5,5,5,5,5,5,5,5,5,5,5,5,5,5,6,6,6,6,6,6,6,6,6,6,6,6,6,6,6,6,6,6,6,6,6,6,6,6,6,6,6,6,6,6,6,6,7,7,7,7,7,7,7,7,7,7,7,7,7,7,7,7,7,7,7,7,7,7,7,7,7,7,7,7,7,7,7,7,7,7,7,7,7,7,7,7,7,7,7,7,7,7,7,7,7,7,7,7,7,7,7,7,7,7,7,7,7,7,7,7,8,8,8,8,8,8,8,8,8,8,8,8,8,8,8,8,8,8,8,8,8,8,8,8,8,8,8,8,8,8,8,8,8,8,8,8,8,8,8,8,8,8,8,8,8,8,8,8,8,8,8,8,8,8,8,8,8,8,8,8,8,8,8,8,8,8,8,8,8,8,8,8,8,8,8,8,8,8,8,8,8,8,8,8,8,8,8,8,8,8,8,8,8,8,8,8,8,8,8,8,8,8,8,8,8,8,8,8,8,8,8,8,8,8,8,8,8,8,8,8,8,8,8,8,8,8,8,8]⟩))) 21),q 4 23 (.conv .i64 22),B 5 24 .add 19 23,M 6 2 24] [2] .ret)))))
def a131:AFunc:=⟨1,c131,[.tmp 2]⟩
def c132:ACode :=
 (.s 0 [M 0 10 1,M 1 8 10] [0,2,3,8] (.block 0 (.loop true [0,2,3,8] (.block 1 (.s 0 [M 0 11 8,B 1 12 .mul (.i 2) 11,B 2 13 .add 12 (.i 1),M 3 9 13] [0,2,3,8,9] (.seq (.s 0 [M 0 14 9,M 1 15 2,B 2 16 .geq 14 15] [0,2,3,8,9,16] (.cond 16 (.exit 0) .skip)) (.seq (.sd 0 [M 0 17 9,B 1 18 .add 17 (.i 1),M 2 19 2,B 3 20 .lss 18 19,M 4 21 20,G 5 22 21 true (.mv 0),G 6 23 21 true (.mv 3),G 7 24 21 true (.mv 9),G 8 25 21 true (.bin .add 23 24),G 9 26 21 true (.idxS 1 22 25),G 10 27 21 true (.load none 26),G 11 28 21 true (.mv 0),G 12 29 21 true (.mv 3),G 13 30 21 true (.mv 9),G 14 31 21 true (.bin .add 29 30),G 15 32 21 true (.bin .add 31 (.i 1)),G 16 33 21 true (.idxS 1 28 32),G 17 34 21 true (.load none 33),G 18 35 21 true (.call (.f 127) [27,34] [] false),q 19 36 (.pick 21 35 (.b false))] [0,2,3,8,9,36] (.cond 36 (.g 0 [M 0 37 9,B 1 38 .add 37 (.i 1),M 2 9 38] [0,2,3,8,9]) .skip)) (.seq (.sd 0 [M 0 39 0,M 1 40 3,M 2 41 8,B 3 42 .add 40 41,IX 4 43 1 39 42,L 5 44 43,M 6 45 0,M 7 46 3,M 8 47 9,B 9 48 .add 46 47,IX 10 49 1 45 48,L 11 50 49,CL 12 51 127 [44,50],q 13 52 (.un .not 51)] [0,2,3,8,9,52] (.cond 52 .ret .skip)) (.sd 0 [M 0 53 0,M 1 54 3,M 2 55 8,B 3 56 .add 54 55,M 8 61 0,M 9 62 3,M 10 63 9,B 11 64 .add 62 63,IX 12 65 1 61 64,L 13 66 65,M 14 67 0,M 15 68 3,M 16 69 8,B 17 70 .add 68 69,IX 18 71 1 67 70,L 19 72 71,IX 20 73 1 53 56,ST 21 1 73 66,M 4 57 0,M 5 58 3,M 6 59 9,B 7 60 .add 58 59,IX 22 74 1 57 60,ST 23 1 74 72] [0,2,3,9] (.g 0 [M 0 75 9,M 1 8 75] [0,2,3,8]))))))))))
def a132:AFunc:=⟨4,c132,[]⟩
def c133:ACode :=
 (.s 0 [M 0 2 (.c (.lit (.int .u64 0)))] [0] (.s 0 [M 0 3 0,q 1 4 (.conv .u64 3),CL 2 5 115 [4],B 3 6 .shl (.c (.lit (.int .u64 1))) 5,M 4 2 6] [2] .ret))
def a133:AFunc:=⟨1,c133,[.tmp 2]⟩
def c134:ACode :=
 (.s 0 [M 0 2 (.c (.lit (.int .u64 0)))] [0] (.sd 0 [M 0 3 0,NK 1 4 3,L 2 5 4,M 3 6 0,NK 4 7 6,L 5 8 7,B 6 9 .shl 8 (.c (.lit (.int .u64 13))),B 7 10 .xor 5 9,NK 8 11 3,ST 9 1 11 10] [0] (.sd 0 [M 0 12 0,NK 1 13 12,L 2 14 13,M 3 15 0,NK 4 16 15,L 5 17 16,B 6 18 .shr 17 (.c (.lit (.int .u64 7))),B 7 19 .xor 14 18,NK 8 20 12,ST 9 1 20 19] [0] (.sd 0 [M 0 21 0,NK 1 22 21,L 2 23 22,M 3 24 0,NK 4 25 24,L 5 26 25,B 6 27 .shl 26 (.c (.lit (.int .u64 17))),B 7 28 .xor 23 27,NK 8 29 21,ST 9 1 29 28] [0] (.s 0 [M 0 30 0,NK 1 31 30,L 2 32 31,M 3 2 32] [2] .ret)))))
def a134:AFunc:=⟨1,c134,[.tmp 2]⟩
def c135:ACode :=
 (.s 0 [M 0 6 (.i 0)] [0,1,2] (.s 0 [M 0 7 0,M 1 8 1,B 2 9 .sub 8 (.i 1),M 3 10 1,M 4 11 1,B 5 12 .add 11 (.i 1),M 6 13 2,CL 7 14 136 [7,9,10,12,13],M 8 6 14] [6] .ret))
def a135:AFunc:=⟨3,c135,[.tmp 6]⟩
def c136:ACode :=
 (.s 0 [M 0 10 (.i 0)] [0,1,2,3,4] (.s 0 [M 0 12 0,M 1 13 1,M 2 14 2,M 3 15 4,CL 4 16 138 [12,13,14,15],M 5 11 16,EX 6 17 11 0,EX 7 18 11 1,M 8 1 17,M 9 2 18] [0,1,2,3,4] (.s 0 [M 0 20 0,M 1 21 2,M 2 22 3,M 3 23 4,CL 4 24 138 [20,21,22,23],M 5 19 24,EX 6 25 19 0,EX 7 26 19 1,M 8 2 25,M 9 3 26] [0,1,2,4] (.s 0 [M 0 28 0,M 1 29 1,M 2 30 2,M 3 31 4,CL 4 32 138 [28,29,30,31],M 5 27 32,EX 6 33 27 0,EX 7 34 27 1,M 8 1 33,M 9 2 34] [2] (.s 0 [M 0 35 2,M 1 10 35] [10] .ret)))))
def a136:AFunc:=⟨5,c136,[.tmp 10]⟩
def c137:ACode :=
 (.s 0 [M 0 2 (.b false)] [0] (.s 0 [M 0 3 0,M 1 4 0,B 2 5 .neq 3 4,M 3 2 5] [2] .ret))
def a137:AFunc:=⟨1,c137,[.tmp 2]⟩
def c138:ACode :=
 (.s 0 [M 0 8 (.i 0),M 1 9 (.i 0)] [0,1,2,3] (.seq (.sd 0 [M 0 10 0,M 1 11 2,IX 2 12 1 10 11,L 3 13 12,M 4 14 0,M 5 15 1,IX 6 16 1 14 15,L 7 17 16,CL 8 18 127 [13,17]] [1,2,3,18] (.cond 18 (.s 0 [M 0 19 3,NK 1 20 19,L 2 21 20,B 3 22 .add 21 (.i 1),NK 4 23 19,ST 5 1 23 22] [1,2] (.s 0 [M 0 24 2,M 1 25 1,M 2 8 24,M 3 9 25] [8,9] .ret)) .skip)) (.s 0 [M 0 26 1,M 1 27 2,M 2 8 26,M 3 9 27] [8,9] .ret)))
def a138:AFunc:=⟨4,c138,[.tmp 8,.tmp 9]⟩
def tab:Tab:=fun n=>match n with
 | 8=>some a8
 | 10=>some a10
 | 11=>some a11
 | 12=>some a12
 | 14=>some a14
 | 16=>some a16
 | 18=>some a18
 | 19=>some a19
 | 20=>some a20
 | 22=>some a22
 | 24=>some a24
 | 26=>some a26
 | 27=>some a27
 | 28=>some a28
 | 29=>some a29
 | 31=>some a31
 | 33=>some a33
 | 35=>some a35
 | 36=>some a36
 | 37=>some a37
 | 40=>some a40
 | 41=>some a41
 | 42=>some a42
 | 43=>some a43
 | 44=>some a44
 | 45=>some a45
 | 46=>some a46
 | 47=>some a47
 | 48=>some a48
 | 49=>some a49
 | 50=>some a50
 | 51=>some a51
 | 52=>some a52
 | 54=>some a54
 | 55=>some a55
 | 56=>some a56
 | 57=>some a57
 | 58=>some a58
 | 59=>some a59
 | 60=>some a60
 | 61=>some a61
 | 62=>some a62
 | 63=>some a63
 | 65=>some a65
 | 66=>some a66
 | 67=>some a67
 | 68=>some a68
 | 69=>some a69
 | 70=>some a70
 | 71=>some a71
 | 72=>some a72
 | 73=>some a73
 | 74=>some a74
 | 75=>some a75
 | 76=>some a76
 | 77=>some a77
 | 78=>some a78
 | 81=>some a81
 | 82=>some a82
 | 83=>some a83
 | 84=>some a84
 | 85=>some a85
 | 86=>some a86
 | 87=>some a87
 | 88=>some a88
 | 89=>some a89
 | 90=>some a90
 | 91=>some a91
 | 92=>some a92
 | 93=>some a93
 | 94=>some a94
 | 95=>some a95
 | 96=>some a96
 | 97=>some a97
 | 98=>some a98
 | 99=>some a99
 | 100=>some a100
 | 101=>some a101
 | 102=>some a102
 | 103=>some a103
 | 104=>some a104
 | 105=>some a105
 | 106=>some a106
 | 107=>some a107
 | 108=>some a108
 | 109=>some a109
 | 110=>some a110
 | 111=>some a111
 | 112=>some a112
 | 113=>some a113
 | 114=>some a114
 | 115=>some a115
 | 116=>some a116
 | 117=>some a117
 | 118=>some a118
 | 119=>some a119
 | 120=>some a120
 | 121=>some a121
 | 122=>some a122
 | 123=>some a123
 | 124=>some a124
 | 125=>some a125
 | 126=>some a126
 | 127=>some a127
 | 128=>some a128
 | 129=>some a129
 | 130=>some a130
 | 131=>some a131
 | 132=>some a132
 | 133=>some a133
 | 134=>some a134
 | 135=>some a135
 | 136=>some a136
 | 137=>some a137
 | 138=>some a138
 | _=>none
end Cd
end Go.Proofs.YtjpjdglddmhplaaGreat
end
