/- Texts that the claim stands on, one behind another. -/
import Derived.Test.YtjpjdglddmhplaaA6
set_option linter.unusedVariables false
set_option linter.unusedSimpArgs false
set_option linter.unnecessarySimpa false
open And renaming intro→ZP
open Bool renaming and_eq_true→Zc,eq_iff_iff→Z03,true_and→Z1e
open Int renaming le_of_eq→Z5q,le_refl→Z00,le_trans→Z5p
open List renaming all_eq_true→Zq,any_eq_false→Z3t,any_eq_true→Z22,append_assoc→ZB,append_nil→ZY,filter_append→Z4z,filter_cons→Z23,filter_eq_nil_iff→Z2y,getElem?_eq_some_iff→Zd,getElem_map→Z34,getElem_mem→Z1z,getElem_zip→Z43,length_append→Zo,length_cons→ZX,length_eq_zero_iff→Z0j,length_filter_le→Z1g,length_map→Zi,length_replicate→Z1r,length_take→ZF,length_zip→Z4a,length→Zh,map_congr_left→Z1c,map_map→Z0v,map_reverse→Z1n,map→Zg,mem_append→ZA,mem_cons_of_mem→Zt,mem_cons_self→Zx,mem_cons→Zv,mem_filter→Z0l,mem_flatMap→Z2l,mem_iff_getElem→ZV,mem_map_of_mem→Z10,mem_map→ZG,mem_singleton→Z07,mem_take_iff_getElem→Z0c,nil_append→ZZ,pairwise_append→Z0u,pairwise_iff_getElem→Z0b,pairwise_map→Z3u,range→Z08,replicate→Zw,take_left→Z09,take_succ_cons→Z24,zipWith→Z42
open Nat renaming div_add_mod→Z47,le_add_right→ZJ,le_trans→Z01,min_eq_left→Z1q,mod_lt→Z1u,mul_comm→Z1y,mul_le_mul_right→ZO,mul_le_mul→Z2i,succ_mul→Z20
open Option renaming bind_some→Zf
section
namespace Pw
open Go Am
def ku (u:PaUse):Int:=(if u.Gown = -1 then 100 else u.Gown)*10000+u.How*1000+u.Day
def A0u:List PaUse→List PaUse→Bool
 | [],[]=>false
 | [],_::_=>true
 | _::_,[]=>false
 | a::l,b::m=>if ku a=ku b then A0u l m else decide (ku a<ku b)
theorem B68:∀l:List PaUse,A0u l l=false
 | []=>rfl
 | a::l=>by unfold A0u;rw[if_pos Z];exact B68 l
theorem B3e:∀q a b:List PaUse,A0u (q++a) (q++b)=A0u a b
 | [],a,b=>rfl
 | x::q,a,b=>by
  show (if ku x=ku x then A0u (q++a) (q++b) else decide (ku x<ku x))=_
  rw[if_pos Z];exact B3e q a b
theorem B4f:∀a b c:List PaUse,a.length=b.length→b.length=c.length→A0u a b=false→A0u b c=false→A0u a c=false
 | [],[],[],_,_,_,_=>rfl
 | x::a,y::b,z::c,h1,h2,h3,h4=>by
  unfold A0u at h3 h4 ⊢
  by_cases e1:ku x=ku y
  ·rw[if_pos e1]at h3
   by_cases e2:ku y=ku z
   ·rw[if_pos e2]at h4
    rw[if_pos (by omega)]
    exact B4f a b c (by simpa using h1) (by simpa using h2) h3 h4
   ·rw[if_neg e2]at h4
    rw[if_neg (by omega)]
    simp at h4 ⊢; omega
  ·rw[if_neg e1]at h3
   simp at h3
   by_cases e2:ku y=ku z
   ·rw[if_neg (by omega)];simp;omega
   ·rw[if_neg e2]at h4
    simp at h4
    rw[if_neg (by omega)];simp;omega
theorem C0f (f:PaUse→PaUse):∀l:List PaUse,(∀ x∈l,ku (f x)≤ku x)→A0u l (l.map f)=false
 | [],_=>rfl
 | x::l,h=>by
  rw[List.map_cons]
  unfold A0u
  have:=h x (Zx ..)
  split
  ·exact C0f f l fun y hy=>h y (Zt _ hy)
  ·simp;omega
structure DyOk (D:List Int):Prop where
 pos:0<D.length
 len:D.length≤365
 str:Str D
 bd:∀x∈D,0≤x∧x≤364
 zero:(0:Int)∈D
theorem A1q {s:PaShow} (hs:ShOk s):DyOk (M4 s):=⟨B09.1,B09.2,B9o s,fun x hx=>by
  rcases (A8z hs x).mp hx with rfl|⟨y,hy,rfl⟩
  ·exact⟨by decide,by decide⟩
  ·exact(hs.income y hy).day,(A8z hs 0).mpr (.inl Z)⟩
theorem D9h {s:PaShow} (hs:ShOk s) {D:List Int} (hD:DyOk D) {n:Nat} (h:n<nU s D):n / D.length / 3<s.Gowns.length∧n<6000:= by
 have hG:=hs.gowns
 constructor
 ·rw[Nat.div_div_eq_div_mul]
  refine Nat.div_lt_of_lt_mul ?_
  unfold nU at h
  have:s.Gowns.length*3*D.length=D.length*3*s.Gowns.length:= by
   rw[Nat.mul_assoc,Z1y s.Gowns.length,Z1y 3]
  omega
 ·have:s.Gowns.length*3*D.length≤15*365:=Z2i (by omega) hD.len
  unfold nU at h
  omega
theorem D4r {D:List Int} (hD:DyOk D) {n m:Nat} (h:n<m):ku (R3 D n)<ku (R3 D m):= by
 have hp:=hD.pos
 have b1:=hD.bd _ (M2 (l:=D) (Z1u n hp))
 have b2:=hD.bd _ (M2 (l:=D) (Z1u m hp))
 have hn:=Z47 n D.length
 have hm:=Z47 m D.length
 have r1:=Z1u n hp
 have r2:=Z1u m hp
 have hle:n / D.length≤m / D.length:=Nat.div_le_div_right (Nat.le_of_lt h)
 have hc:n / D.length=m / D.length→D[n % D.length]! < D[m % D.length]!:=fun e=>by
  rw[e]at hn
  have hr:n % D.length<m % D.length:= by omega
  have:=Z0b.mp hD.str _ _ r1 r2 hr
  rwa [getElem!_pos D _ r1,getElem!_pos D _ r2]
 unfold ku R3
 simp only
 clear hn hm
 generalize D[n % D.length]! = x at *
 generalize D[m % D.length]! = y at *
 generalize n / D.length=a at *
 generalize m / D.length=c at *
 rw[if_neg (by omega),if_neg (by omega)]
 by_cases e:a=c
 ·have:=hc e
  subst e
  omega
 ·omega
theorem B7e {s:PaShow} {D:List Int} {q:List PaUse} {u:PaUse}:u∈cand s D q↔(∃ n,n<nU s D∧R3 D n=u)∧okU s q u=true:= by
 unfold cand
 rw[Z0l,ZG]
 constructor
 ·rintro⟨⟨n,hn,e⟩,h⟩;exact⟨⟨n,by simpa using hn,e⟩,h⟩
 ·rintro⟨⟨n,hn,e⟩,h⟩;exact⟨⟨n,by simpa using hn,e⟩,h⟩
def Ext (s:PaShow) (D:List Int):List PaUse→List PaUse→Prop
 | _,[]=>True
 | q,u::r=>(u=bare0∨u∈cand s D q)∧Ext s D (q++[u]) r
theorem A8c {s:PaShow} {D:List Int}:∀{d:Nat} {q p:List PaUse},p∈PL s D d q↔∃ r,p=q++r∧r.length=d∧Ext s D q r
 | 0,q,p=>by
  unfold PL
  rw[Z07]
  constructor
  ·intro h;exact⟨[],by simp[h],Z,trivial⟩
  ·rintro⟨r,rfl,hr,_⟩
   rw[Z0j.mp hr,ZY]
 | d+1,q,p=>by
  unfold PL
  rw[ZA,Z2l]
  constructor
  ·rintro (⟨u,hu,hp⟩|hp)
   ·obtain⟨r,rfl,hr,he⟩:=A8c.mp hp
    exact⟨u::r,by simp,by simp[hr],.inr hu,he⟩
   ·obtain⟨r,rfl,hr,he⟩:=A8c.mp hp
    exact⟨bare0::r,by simp,by simp[hr],.inl Z,he⟩
  ·rintro⟨r,rfl,hr,he⟩
   cases r with
   | nil=>cases hr
   | cons u r =>
    obtain⟨hu,he⟩:=he
    have hmem:q++u::r∈PL s D d (q++[u]):=A8c.mpr ⟨r,by simp,by simpa using hr,he⟩
    rcases hu with rfl|hu
    ·exact .inr hmem
    ·exact .inl ⟨u,hu,hmem⟩
theorem C06 {s:PaShow} (hs:ShOk s) {D:List Int} (hD:DyOk D):∀(d:Nat) (q:List PaUse),(PL s D d q).Pairwise fun a b=>A0u b a=false
 | 0,q=>by unfold PL;simp
 | d+1,q=>by
  have hG:=hs.gowns
  unfold PL
  rw[Z0u]
  refine⟨?_,C06 hs hD d _,?_⟩
  ·rw[List.pairwise_flatMap]
   refine⟨fun u _=>C06 hs hD d _,?_⟩
   have hp:(cand s D q).Pairwise fun a b=>ku a<ku b:= by
    unfold cand
    refine List.Pairwise.filter _ ?_
    rw[Z3u]
    exact List.pairwise_lt_range.imp fun h=>D4r hD h
   refine hp.imp fun {f g} hfg x hx y hy=>?_
   obtain⟨s',rfl,-⟩:=A8c.mp hx
   obtain⟨t,rfl,-⟩:=A8c.mp hy
   rw[ZB,ZB,B3e]
   show A0u (g::t) (f::s')=false
   unfold A0u
   rw[if_neg (by omega),decide_eq_false (by omega)]
  ·intro a ha b hb
   obtain⟨u,hu,hx⟩:=Z2l.mp ha
   obtain⟨s',rfl,-⟩:=A8c.mp hx
   obtain⟨t,rfl,-⟩:=A8c.mp hb
   rw[ZB,ZB,B3e]
   show A0u (bare0::t) (u::s')=false
   obtain⟨⟨n,hn,rfl⟩,_⟩:=B7e.mp hu
   have h1:=D9h hs hD hn
   have b1:=hD.bd _ (M2 (l:=D) (Z1u n hD.pos))
   have hk:ku (R3 D n)<ku bare0:= by
    have e:ku bare0=1000000:=rfl
    rw[e]
    unfold ku R3
    simp only
    generalize D[n % D.length]! = x at *
    generalize n / D.length=a at *
    rw[if_neg (by omega)]
    omega
   unfold A0u
   rw[if_neg (by omega),decide_eq_false (by omega)]
def C2s (s:PaShow) (D:List Int) (q:List PaUse) (u:PaUse):Prop:=A2r s.Gowns s.Figures[q.length]! u=0∧D2d q u=false∧(u.Gown = -1∨u.Day∈D)
theorem D1r {s:PaShow} (hs:ShOk s) {D:List Int} (hD:DyOk D) {q:List PaUse} {u:PaUse}:(u=bare0∨u∈cand s D q)↔C2s s D q u:= by
 unfold C2s
 constructor
 ·rintro (rfl|h)
  ·exact⟨U3.mpr (.inl Z),Z,.inl Z⟩
  ·obtain⟨⟨n,hn,rfl⟩,h2⟩:=B7e.mp h
   unfold okU at h2
   rw[Zc,beq_iff_eq,Bool.not_eq_true']at h2
   exact⟨h2.1,h2.2,.inr (M2 (Z1u n hD.pos))⟩
 ·rintro⟨h1,h2,h3⟩
  rcases U3.mp h1 with e|e
  ·exact .inl e
  ·right
   have hlo:=e.lo
   have hhi:=e.hi
   obtain⟨k,hk,hkd⟩:=A1u (h3.resolve_left (by omega))
   have hh:0≤u.How∧u.How≤2:= by
    rcases form1 e.form with h|⟨_,h|h⟩ <;> omega
   refine B7e.mpr ⟨⟨(u.Gown.toNat*3+u.How.toNat)*D.length+k,?_,?_⟩,?_⟩
   ·unfold nU
    have:(u.Gown.toNat*3+u.How.toNat)*D.length+D.length≤s.Gowns.length*3*D.length:= by
     rw[← Z20]
     exact ZO _ (by omega)
    omega
   ·have d1:((u.Gown.toNat*3+u.How.toNat)*D.length+k) / D.length=u.Gown.toNat*3+u.How.toNat:= by
     rw[Z1y,Nat.mul_add_div hD.pos,Nat.div_eq_of_lt hk,Nat.add_zero]
    have d2:((u.Gown.toNat*3+u.How.toNat)*D.length+k) % D.length=k:= by
     rw[Z1y,Nat.mul_add_mod,Nat.mod_eq_of_lt hk]
    unfold R3
    rw[d1,d2,hkd]
    obtain⟨g,h,d⟩:=u
    simp only at hlo hhi hh ⊢
    congr 1
    ·omega
    ·omega
   ·unfold okU
    rw[h1,h2];rfl
theorem C1k {s:PaShow} (hs:ShOk s) {D:List Int} (hD:DyOk D):∀(r q:List PaUse),Ext s D q r↔∀ i,i<r.length→C2s s D (q++r.take i) r[i]!
 | [],q=>by unfold Ext;simp
 | u::r,q=>by
  unfold Ext
  rw[C1k hs hD r (q++[u]),D1r hs hD]
  constructor
  ·rintro⟨h1,h2⟩ i hi
   cases i with
   | zero=>simpa using h1
   | succ i =>
    have:=h2 i (by simpa using hi)
    rw[Z24,show q++u::r.take i=q++[u]++r.take i by simp]
    exact this
  ·intro h
   refine⟨by simpa using h 0 (by simp),fun i hi=>?_⟩
   have:=h (i+1) (by simpa using hi)
   rw[Z24,show q++u::r.take i=q++[u]++r.take i by simp]at this
   exact this
theorem B1w {s:PaShow} (hs:ShOk s) {D:List Int} (hD:DyOk D) {p:List PaUse}:p∈PL s D s.Figures.length []↔PlOk s p∧∀ x∈p,x.Gown = -1∨x.Day∈D:= by
 rw[A8c]
 constructor
 ·rintro⟨r,e,hr,he⟩
  rw[ZZ]at e
  rw[e]
  have h:=(C1k hs hD r []).mp he
  have h':∀i,i<r.length→A2r s.Gowns s.Figures[i]! r[i]! = 0∧twP r i=false∧(r[i]!.Gown = -1∨r[i]!.Day∈D):=fun i hi=>by
   have:=h i hi
   unfold C2s at this
   rw[ZZ,ZF,Z1q (by omega)]at this
   exact this
  refine⟨⟨⟨hr,fun i hi=>(h' i hi).1⟩,fun i hi=>(h' i hi).2.1⟩,fun x hx=>?_⟩
  obtain⟨i,hi,rfl⟩:=A1u hx
  exact(h' i hi).2.2
 ·rintro⟨h1,h2⟩
  refine⟨p,Z,h1.u.len,(C1k hs hD p []).mpr fun i hi=>?_⟩
  unfold C2s
  rw[ZZ,ZF,Z1q (by omega)]
  exact⟨h1.u.use i hi,h1.tw i hi,h2 _ (M2 hi)⟩
theorem C83 {s:PaShow} (hs:ShOk s):∀p∈PL s (M4 s) s.Figures.length [],PlU s p:=fun _ hp=>((B1w hs (A1q hs)).mp hp).1.u
structure Pay (s:PaShow) (p:List PaUse):Prop where
 ok:PlOk s p
 left:∀d,0≤d→0≤N2 s p d
theorem D0f {s:PaShow} (hs:ShOk s) {p:List PaUse} (h:PlU s p):(M1 s p).1=0↔∀ d,0≤d→0≤N2 s p d:= by
 obtain⟨a1,a2,a3,_⟩:=A7e s p
 constructor
 ·intro hz d hd
  refine Int.not_lt.mp fun hc=>?_
  obtain⟨y,hy,hyd,hyn⟩:=D43 hs h hc
  have:=a2 y hy hyn
  omega
 ·intro hp
  rcases a3 with e|⟨y,hy,hyn,_⟩
  ·exact e
  ·have:=hp y.2 (A68 hs h y hy).2.1
   omega
theorem A4i {s:PaShow} (hs:ShOk s) {p:List PaUse}:p∈PA s↔Pay s p∧∀ x∈p,x.Gown = -1∨x.Day∈M4 s:= by
 unfold PA D5m
 rw[Z0l,B1w hs (A1q hs)]
 have key:PlOk s p→((!decide ((M1 s p).1>0))=true↔∀ d,0≤d→0≤N2 s p d):=fun h=>by
  rw[← D0f hs h.u]
  have:=(A7e s p).1
  simp;omega
 constructor
 ·rintro⟨⟨h1,h2⟩,h3⟩;exact⟨⟨h1,(key h1).mp h3⟩,h2⟩
 ·rintro⟨⟨h1,h3⟩,h2⟩;exact⟨⟨h1,h2⟩,(key h1).mpr h3⟩
def B66 (d:Int) (a z:Int):Int:=if z≤d∧a<z then z else a
def A53 (D:List Int) (d:Int):Int:=D.foldl (B66 d) 0
theorem C10 (d:Int):∀(D:List Int) (a:Int),a≤d→a≤D.foldl (B66 d) a∧D.foldl (B66 d) a≤d∧(D.foldl (B66 d) a=a∨D.foldl (B66 d) a∈D)∧∀ z∈D,z≤d→z≤D.foldl (B66 d) a
 | [],a,h=>⟨Z00 _,h,.inl Z,by simp⟩
 | x::D,a,h=>by
  rw[List.foldl_cons]
  have hs:B66 d a x=if x≤d∧a<x then x else a:=rfl
  by_cases c:x≤d∧a<x
  ·rw[hs,if_pos c]
   obtain⟨h1,h2,h3,h4⟩:=C10 d D x c.1
   refine⟨by omega,h2,?_,fun z hz hzd=>?_⟩
   ·rcases h3 with e|e
    ·rw[e];exact .inr (Zx ..)
    ·exact .inr (Zt _ e)
   ·rcases Zv.mp hz with rfl|hz
    ·exact h1
    ·exact h4 z hz hzd
  ·rw[hs,if_neg c]
   obtain⟨h1,h2,h3,h4⟩:=C10 d D a h
   refine⟨h1,h2,?_,fun z hz hzd=>?_⟩
   ·rcases h3 with e|e
    ·exact .inl e
    ·exact .inr (Zt _ e)
   ·rcases Zv.mp hz with rfl|hz
    ·have:z≤a:= by
      by_cases hc:a<z
      ·exact absurd ⟨hzd,hc⟩ c
      ·omega
     omega
    ·exact h4 z hz hzd
theorem B3d {D:List Int} (h0:(0:Int)∈D) {d:Int} (hd:0≤d):0≤A53 D d∧A53 D d≤d∧A53 D d∈D∧∀ z∈D,z≤d→z≤A53 D d:= by
 obtain⟨h1,h2,h3,h4⟩:=C10 d D 0 hd
 refine⟨h1,h2,?_,h4⟩
 rcases h3 with e|e
 ·unfold A53;rw[e];exact h0
 ·exact e
def nuU (D:List Int) (x:PaUse):PaUse:=if x.Gown ≠ -1∧x.How=1 then ⟨x.Gown,x.How,A53 D x.Day⟩ else x
theorem A9c (D:List Int) (x:PaUse):(nuU D x).Gown=x.Gown:= by unfold nuU;split <;> rfl
theorem C6s {g:PaGown} (h:GwOk g) {a b:Int} (ha:a≤b):price g a≤price g b:= by
 unfold price
 have:=Int.mul_le_mul_of_nonneg_left (show 1+(g.Ago+a) / 30≤1+(g.Ago+b) / 30 by omega) h.rate.1
 omega
theorem B3j {G:List PaGown} (hG:∀g∈G,GwOk g) {y:PaFigure} (hy:FgOk y) {D:List Int} (hD:(0:Int)∈D) {x:PaUse} (h:A2r G y x=0) :
  A2r G y (nuU D x)=0∧((nuU D x).Gown = -1∨(nuU D x).Day∈D)∧ku (nuU D x)≤ku x∧(A2j G y (nuU D x)).1≤(A2j G y x).1 ∧
   ∀ e E,(x.How=1→A53 D x.Day≤e→x.Day≤E)→e≤E→(A2j G y (nuU D x)).2≤e→(A2j G y x).2≤E:= by
 by_cases c:x.Gown ≠ -1∧x.How=1
 ·have e:nuU D x=⟨x.Gown,x.How,A53 D x.Day⟩:=if_pos c
  rcases U3.mp h with h' | h'
  ·rw[h']at c;exact absurd Z c.1
  ·have hd:0≤x.Day∧x.Day≤364:= by
    rcases form1 h'.form with q|⟨_,q|q⟩ <;> omega
   obtain⟨l1,l2,l3,l4⟩:=B3d hD hd.1
   have hpw:G[x.Gown.toNat]!.Pawn=true:= by
    rcases form1 h'.form with q|q
    ·omega
    ·exact q.1
   have hlate:=h'.late
   unfold A9r at hlate
   rw[c.2]at hlate
   simp at hlate
   have hlo:=h'.lo
   have hhi:=h'.hi
   have hgw:=hG _ (M2 (l:=G) (i:=x.Gown.toNat) (by omega))
   have hpay:A2j G y x=(price G[x.Gown.toNat]! x.Day,x.Day):= by
    unfold A2j;rw[if_neg c.1,if_pos c.2]
   have hpay2:A2j G y (nuU D x)=(price G[x.Gown.toNat]! (A53 D x.Day),A53 D x.Day):= by
    rw[e];unfold A2j;simp only;rw[if_neg c.1,if_pos c.2]
   refine⟨U3.mpr (.inr ?_),.inr (by rw[e];exact l3),?_,?_,?_⟩
   ·rw[e]
    refine⟨hlo,hhi,?_,?_,h'.look⟩
    ·unfold A70
     simp only
     rw[hpw,c.2,S7.mpr ⟨l1,by omega⟩];rfl
    ·unfold A9r
     simp only
     rw[c.2]
     simp
     omega
   ·rw[e];unfold ku;simp only;split <;> omega
   ·rw[hpay,hpay2];exact C6s hgw l2
   ·intro e' E h1 h2 h3
    rw[hpay2]at h3
    rw[hpay]
    exact h1 c.2 h3
 ·have e:nuU D x=x:=if_neg c
  rw[e]
  refine⟨h,?_,Z00 _,Z00 _,?_⟩
  ·rcases U3.mp h with h' | h'
   ·left;rw[h'];rfl
   ·right
    have hlo:=h'.lo
    have:x.Day=0:= by
     rcases form1 h'.form with q|⟨_,q|q⟩
     ·exact q.2.2
     ·exact q.2
     ·exact absurd ⟨by omega,q.1⟩ c
    rw[this];exact hD
  ·intro e' E _ h2 h3;omega
theorem C82 {s:PaShow} (hs:ShOk s) {p:List PaUse} (h:PlU s p):∀z∈s.Figures.zip p,FgOk z.1∧A2r s.Gowns z.1 z.2=0∧z.2∈p:= by
 intro z hz
 obtain⟨i,hi,e⟩:=ZV.mp hz
 rw[Z43]at e
 rw[Z4a]at hi
 subst e
 have hip:i<p.length:= by omega
 have hif:i<s.Figures.length:= by omega
 refine⟨hs.figure _ (Z1z hif),?_,Z1z hip⟩
 have:=h.use i hip
 rwa [getElem!_pos s.Figures i hif,getElem!_pos p i hip]at this
theorem B44 {α β γ:Type} (f:α→β→γ):∀(l:List α) (m:List β),Z42 f l m=(l.zip m).map fun z=>f z.1 z.2
 | [],_=>by simp
 | _::_,[]=>by simp
 | a::l,b::m=>by simp[B44 f l m]
theorem C2p {α β:Type} (g:β→β):∀(l:List α) (m:List β),l.zip (m.map g)=(l.zip m).map fun z=>(z.1,g z.2)
 | [],_=>by simp
 | _::_,[]=>by simp
 | a::l,b::m=>by simp[C2p g l m]
theorem A8j (s:PaShow) (p:List PaUse):pays s p=(s.Figures.zip p).map fun z=>A2j s.Gowns z.1 z.2:=B44 _ _ _
theorem C8o (s:PaShow) (D:List Int) (p:List PaUse):pays s (p.map (nuU D))=(s.Figures.zip p).map fun z=>A2j s.Gowns z.1 (nuU D z.2):= by
 rw[A8j,C2p,Z0v];rfl
theorem B67 (D:List Int) (e:Int) (he:0≤e) (h0:(0:Int)∈D):∀q:List PaUse,∃ E,e≤E∧A53 D E≤e∧∀ x∈q,A53 D x.Day≤e→x.Day≤E
 | []=>⟨e,Z00 _,(B3d h0 he).2.1,by simp⟩
 | x::q=>by
  obtain⟨E,h1,h2,h3⟩:=B67 D e he h0 q
  by_cases c:A53 D x.Day≤e∧E<x.Day
  ·refine⟨x.Day,by omega,c.1,fun z hz hzd=>?_⟩
   rcases Zv.mp hz with rfl|hz
   ·exact Z00 _
   ·have:=h3 z hz hzd;omega
  ·refine⟨E,h1,h2,fun z hz hzd=>?_⟩
   rcases Zv.mp hz with rfl|hz
   ·by_cases hc:E<z.Day
    ·exact absurd ⟨hzd,hc⟩ c
    ·omega
   ·exact h3 z hz hzd
theorem D3u {f:PaUse→PaUse} (hf:∀x,(f x).Gown=x.Gown) {p:List PaUse} {i:Nat} (hi:i<p.length):twP (p.map f) i=twP p i:= by
 unfold twP
 rw[getElem!_pos (p.map f) i (by simpa using hi),Z34,hf,← List.map_take,List.any_map,getElem!_pos p i hi]
 congr 2
 funext x
 show ((f x).Gown==_)=_
 rw[hf]
theorem D67 {s:PaShow} (hs:ShOk s) {q:List PaUse} (h:PlU s q):PlU s (q.map (nuU (M4 s))):= by
 refine⟨by rw[Zi];exact h.len,fun i hi=>?_⟩
 rw[Zi]at hi
 have:=h.len
 rw[getElem!_pos (q.map _) i (by simpa using hi),Z34,← getElem!_pos q i hi]
 exact(B3j hs.gown (hs.figure _ (M2 (by omega))) (A1q hs).zero (h.use i hi)).1
theorem C8j {s:PaShow} (hs:ShOk s) {q:List PaUse} (h:PlU s q) {e:Int} (he:0≤e):∃E,e≤E∧N2 s q E≤N2 s (q.map (nuU (M4 s))) e:= by
 have h0:=(A1q hs).zero
 obtain⟨E,h1,h2,h3⟩:=B67 (M4 s) e he h0 q
 refine⟨E,h1,?_⟩
 have hinc:S9 (incs s) E=S9 (incs s) e:= by
  unfold S9
  refine congrArg sm (Z1c fun z hz=>?_)
  have hzD:z.2∈M4 s:= by
   obtain⟨x,hx,rfl⟩:=ZG.mp hz
   exact(A8z hs _).mpr (.inr ⟨x,hx,Z⟩)
  by_cases c:z.2≤E
  ·have:=(B3d h0 (by omega:0≤E)).2.2.2 z.2 hzD c
   rw[if_pos c,if_pos (by omega)]
  ·rw[if_neg c,if_neg (by omega)]
 have hpay:S9 (pays s (q.map (nuU (M4 s)))) e≤S9 (pays s q) E:= by
  rw[C8o,A8j]
  unfold S9
  rw[Z0v,Z0v]
  refine C5b fun z hz=>?_
  obtain⟨hy,hu,hm⟩:=C82 hs h z hz
  obtain⟨_,_,_,n4,n5⟩:=B3j hs.gown hy h0 hu
  have hb:=(D3e hs.gown hy hu).1.1
  simp only[Function.comp]
  by_cases c:(A2j s.Gowns z.1 (nuU (M4 s) z.2)).2≤e
  ·rw[if_pos c,if_pos (n5 e E (fun _=>h3 z.2 hm) h1 c)]
   exact n4
  ·rw[if_neg c];split <;> omega
 unfold N2
 omega
theorem B7j {s:PaShow} (hs:ShOk s) {q:List PaUse} (h:Pay s q):q.map (nuU (M4 s))∈PA s∧F8 (q.map (nuU (M4 s)))=F8 q∧T8 s (q.map (nuU (M4 s)))≤T8 s q∧A0u q (q.map (nuU (M4 s)))=false:= by
 have h0:=(A1q hs).zero
 have hall:∀x∈q,∃ y,FgOk y∧A2r s.Gowns y x=0:=fun x hx=>by
  obtain⟨i,hi,rfl⟩:=A1u hx
  have:=h.ok.u.len
  exact⟨_,hs.figure _ (M2 (by omega)),h.ok.u.use i hi⟩
 refine⟨(A4i hs).mpr ⟨⟨⟨D67 hs h.ok.u,fun i hi=>?_⟩,fun d hd=>?_⟩,fun x hx=>?_⟩,?_,?_,?_⟩
 ·rw[Zi]at hi
  rw[D3u (A9c _) hi];exact h.ok.tw i hi
 ·obtain⟨E,h1,h2⟩:=C8j hs h.ok.u hd
  have:=h.left E (by omega)
  omega
 ·obtain⟨z,hz,e⟩:=ZG.mp hx
  obtain⟨y,hy,hu⟩:=hall z hz
  rw[← e]
  exact(B3j hs.gown hy h0 hu).2.1
 ·unfold F8
  rw[Z0v]
  refine congrArg sm (Z1c fun x _=>?_)
  simp only[Function.comp,A9c]
 ·unfold T8
  rw[C8o,A8j,Z0v,Z0v]
  refine C5b fun z hz=>?_
  obtain⟨hy,hu,_⟩:=C82 hs h.ok.u z hz
  exact(B3j hs.gown hy h0 hu).2.2.2.1
 ·refine C0f _ _ fun x hx=>?_
  obtain⟨y,hy,hu⟩:=hall x hx
  exact(B3j hs.gown hy h0 hu).2.2.1
theorem B59 {s:PaShow} (hs:ShOk s):Pay s (Zw s.Figures.length bare0)∧∀ x∈Zw s.Figures.length bare0,x.Gown = -1∨x.Day∈M4 s:= by
 have hget:∀i,i<s.Figures.length→(Zw s.Figures.length bare0)[i]! = bare0:=fun i hi=>by
  rw[getElem!_pos _ i (by simpa using hi),List.getElem_replicate]
 have hu:PlU s (Zw s.Figures.length bare0):=⟨by simp,fun i hi=>by
  rw[Z1r]at hi
  rw[hget i hi];exact U3.mpr (.inl Z)⟩
 refine⟨⟨⟨hu,fun i hi=>?_⟩,fun d hd=>?_⟩,fun x hx=>?_⟩
 ·rw[Z1r]at hi
  unfold twP
  rw[hget i hi];rfl
 ·have h1:S9 (pays s (Zw s.Figures.length bare0)) d=0:= by
   unfold S9
   refine C2l fun x hx=>?_
   obtain⟨i,hi,rfl⟩:=A1u hx
   rw[P4 hu]at hi
   rw[A58 hu hi,hget i (by simpa using hi)]
   show (if (0:Int)≤d then (0:Int) else 0)=0
   split <;> rfl
  have h2:=(A7f (fun x hx=>(A49 hs x hx).1) d).1
  have h3:=hs.purse
  unfold N2
  omega
 ·rw[(List.mem_replicate.mp hx).2];exact .inl Z
theorem A5v {s:PaShow} (hs:ShOk s) {p:List PaUse} (h:PlU s p):0≤T8 s p∧T8 s p≤300000:= by
 have:=C7k hs h (pays s p).length
 rwa [List.take_length]at this
theorem B2v {s:PaShow} (hs:ShOk s):∃b,fm (A3o s) (PA s)=some b∧Pay s b∧(∀ q,Pay s q→A3o s b≤A3o s q)∧∀ q,Pay s q→A3o s q=A3o s b→A0u q b=false:= by
 obtain⟨b,hb⟩:=C1n (k:=A3o s) ((A4i hs).mpr (B59 hs))
 have hbp:=((A4i hs).mp (B6r hb)).1
 have hkey:∀q,Pay s q→A3o s (q.map (nuU (M4 s)))≤A3o s q:=fun q hq=>by
  obtain⟨_,h2,h3,_⟩:=B7j hs hq
  unfold A3o
  omega
 refine⟨b,hb,hbp,fun q hq=>Z5p (C7r hb (B7j hs hq).1) (hkey q hq),fun q hq he=>?_⟩
 obtain⟨h1,h2,h3,h4⟩:=B7j hs hq
 have hle:=C7r hb h1
 have hle2:=hkey q hq
 have e:A3o s (q.map (nuU (M4 s)))=A3o s b:= by omega
 have hb2:A0u (q.map (nuU (M4 s))) b=false:= by
  obtain⟨-,A,B,hAL,h5⟩:=B5m hb
  have hp:(PA s).Pairwise fun a b=>A0u b a=false:=(C06 hs (A1q hs) _ _).filter _
  rw[hAL]at hp h1
  rcases ZA.mp h1 with h1|h1
  ·have:=h5 _ h1;omega
  ·rcases Zv.mp h1 with h1|h1
   ·rw[h1];exact B68 _
   ·exact(List.pairwise_cons.mp (Z0u.mp hp).2.1).1 _ h1
 have l1:=hq.ok.u.len
 have l2:=hbp.ok.u.len
 exact B4f _ _ _ (by simp) (by simp;omega) h4 hb2
theorem D61 {s:PaShow} (hs:ShOk s) {p q:List PaUse} (hp:PlU s p) (hq:PlU s q):A3o s p<A3o s q↔F8 p<F8 q∨(F8 p=F8 q∧T8 s p<T8 s q):= by
 have h1:=A5v hs hp
 have h2:=A5v hs hq
 unfold A3o
 omega
theorem D03 {s:PaShow} (hs:ShOk s):∀p∈PA s,∀ q∈PA s,∃ r,A25 (fdP s p) (fdP s q)=some r∧(r<0↔A3o s p<A3o s q):= by
 intro p hp q hq
 have hp':=((A4i hs).mp hp).1.ok.u
 have hq':=((A4i hs).mp hq).1.ok.u
 have h1:=A5v hs hp'
 have h2:=A5v hs hq'
 have h3:=A7g p
 have h4:=A7g q
 have h5:=hp'.len
 have h6:=hq'.len
 have h7:=hs.figures
 refine⟨if F8 p-F8 q=0 then T8 s p-T8 s q else F8 p-F8 q,?_,?_⟩
 ·unfold A25 fdP
  simp only
  rw[G1 (by omega),G1 (by omega),or2]
  rfl
 ·rw[D61 hs hp' hq']
  split <;> omega
theorem D35 (s:PaShow) (hb:NB s):A0f s=some (if (chk s).2.2=0 then (match fm (A3o s) (PA s) with|some b=>(b,F8 b,T8 s b,0)|none=>([],0,0,0)) else ([],0,0,(chk s).2.2)):= by
 unfold A0f
 rw[A5w s hb]
 simp only[Zf]
 by_cases h:(chk s).2.2=0
 ·have hs:=(A2s s).mp h
  simp only[h,if_true,BEq.rfl]
  rw[C1b (k:=A3o s) (L:=PA s) (F:=fdP s) (fun σ ρ body st X hX=>B71 hs (C83 hs) body hX) (D03 hs)]
  cases fm (A3o s) (PA s) <;> rfl
 ·rw[if_neg h,if_neg (by simpa using h),if_neg h]
end Pw
end
section
set_option maxRecDepth 100000
set_option maxHeartbeats 0
namespace Am
open Go
section
variable {T:Tab} {s:A7} {H0 H:A1} {l:List AO} {c:Sc} {n0 k0:Nat}
theorem D2w {x:Opd} {b r:Nat} {es:List (AV×AV)} (hx:ev s x=some (.mp b)) (hm:hmap (H0++l) b=some es):One T c (H0.length+k0) s (H0++l) (.rangeM x r) (.itr (H0.length+(k0+r))) (H0++l.set (k0+r) (.mit b es.length [])) :=
 ⟨0,by simp only[core,prim,hx,hm,Nat.add_assoc,F2]⟩
theorem C9u {H L:A1} {b m n:Nat} {seen:List Nat} {e:AV×AV} {es:List (AV×AV)} (hg:hget H b=some (.mit m n seen)) (hm:hmap H m=some es) (h:A7j H b=some e):A7j (H++L) b=some e:= by
 have h1:hget (H++L) b=some (.mit m n seen):=C9k hg L
 have h2:hmap (H++L) m=some es:= by
  have:m<H.length:= by
   unfold hmap hget at hm
   cases e:H[m]? with
   | none=>rw[e]at hm;cases hm
   | some o=>exact(Zd.1 e).1
  unfold hmap hget at hm ⊢
  rw[List.getElem?_append_left this];exact hm
 unfold A7j at h ⊢
 rw[h1]
 rw[hg]at h
 simp only[h2,hm]at h ⊢
 exact h
theorem D46 {x:Opd} {b:Nat} {e:AV×AV} (hx:ev s x=some (.itr b)) (hm:A7j H b=some e):One T c n0 s H (.entry x) (.tup [e.1,e.2]) H:=⟨0,by simp only[core,prim,hx,hm]⟩
end
end Am
namespace Pw
open Go Am Go.Proofs.Ytjpjdglddmhplaa.Cd
abbrev Had:=Ar3 Int
theorem C8b:KeyOk (κ:=Had) true [0,0,0] (fun x=>.agg (C27 cI x)) (fun x=>C27 cI x):=⟨fun _=>rfl,fun _=>rfl,fun a b=>by
 obtain⟨a1,a2,a3⟩:=a
 obtain⟨b1,b2,b3⟩:=b
 show E9 [.lit (.int .i64 a1),.lit (.int .i64 a2),.lit (.int .i64 a3)] [.lit (.int .i64 b1),.lit (.int .i64 b2),.lit (.int .i64 b3)]=_
 simp only[C52,Ar3.mk.injEq]
 by_cases h1:a1=b1 <;> by_cases h2:a2=b2 <;> by_cases h3:a3=b3 <;> simp[h1,h2,h3,E9]⟩
abbrev Met:=List (Had×Int)
def C37 (m:Met):List (AV×AV):=m.map (kE (fun x=>.agg (C27 cI x)) (fun n=>.i n))
def C4r (h:Had) (f:Int):Option Bool :=
 if (!((h.x0==0)&&((h.x1==0)&&((h.x2==0)&&true))))=true then (idx h.l f).bind fun v=>some (decide (v>0)) else some false
def C0u (f:Int):Met→Option (List Bool)
 | []=>some []
 | e::l=>(C4r e.1 f).bind fun b=>(C0u f l).bind fun r=>some (b::r)
def cnt (bs:List Bool) (seen:List Nat):Int:=((seen.filter fun i=>bs.getD i false).length:Int)
def B6f (m:Met) (f:Int):Option Int :=
 if m.length<4611686018427387904 then (C0u f m).bind fun bs=>some ((bs.filter fun b=>b).length:Int) else none
theorem C0v {f:Int}:∀{m:Met} {bs:List Bool},C0u f m=some bs→bs.length=m.length∧∀ (i:Nat) (e:Had×Int),m[i]? = some e→C4r e.1 f=some (bs.getD i false)
 | [],bs,h=>by cases h;exact⟨Z,fun i e he=>by simp at he⟩
 | x::m,bs,h=>by
  unfold C0u at h
  refine oB h fun b hb h=>oB h fun r hr h=>?_
  obtain rfl:=os h
  obtain⟨h1,h2⟩:=C0v hr
  refine⟨by simp[h1],fun i e he=>?_⟩
  cases i with
  | zero=>simp at he;subst he;simpa using hb
  | succ i=>simp at he;simpa using h2 i e he
theorem B1e:∀(bs:List Bool),((Z08 bs.length).filter fun i=>bs.getD i false).length=(bs.filter fun b=>b).length
 | []=>rfl
 | b::bs=>by
  rw[ZX,List.range_succ_eq_map,Z23,List.filter_map,Z23]
  have ih:=B1e bs
  have e:(fun i=>(b::bs).getD i false)∘Nat.succ=fun i=>bs.getD i false:= by funext i;simp
  rw[e]
  cases b <;> simp at ih ⊢ <;> exact ih
theorem D39 {bs:List Bool} {seen:List Nat} (hn:seen.Nodup) (hm:∀j,j∈seen↔j<bs.length):cnt bs seen=((bs.filter fun b=>b).length:Int):= by
 have hp:seen.Perm (Z08 bs.length):=(List.perm_ext_iff_of_nodup hn List.nodup_range).mpr fun j=>by rw[hm,List.mem_range]
 unfold cnt
 rw[(hp.filter _).length_eq,B1e]
theorem D6n (bs:List Bool) (seen:List Nat):cnt bs seen≤seen.length:= by
 unfold cnt
 have:=Z1g (fun i=>bs.getD i false) seen
 omega
theorem D1b (bs:List Bool) (seen:List Nat) (i:Nat):cnt bs (seen++[i])=cnt bs seen+(if bs.getD i false=true then 1 else 0):= by
 unfold cnt
 rw[Z4z,Zo,Z23]
 by_cases h:bs.getD i false=true
 ·rw[if_pos h,if_pos h];rfl
 ·rw[if_neg h,if_neg h];simp
theorem C0k:∀(n:Nat) (l:List Nat),l.Nodup→(∀ x∈l,x<n)→l.length≤n
 | 0,l,_,h=>by
  cases l with
  | nil=>simp
  | cons x l=>exact absurd (h x (Zx ..)) (Nat.not_lt_zero x)
 | n+1,l,hd,h=>by
  have h1:=C0k n (l.filter fun x=>x != n) (hd.filter _) fun x hx=>by
   have:=Z0l.mp hx
   have h2:=h x this.1
   have h3:x≠n:= by simpa using this.2
   omega
  have h2:(l.filter fun x=>!(x != n)).length≤1:= by
   have hn:(l.filter fun x=>!(x != n)).Nodup:=hd.filter _
   cases hl:l.filter fun x=>!(x != n) with
   | nil=>simp
   | cons a t =>
    cases t with
    | nil=>simp
    | cons b t =>
     rw[hl]at hn
     have ha:a∈l.filter fun x=>!(x != n):= by rw[hl];simp
     have hb:b∈l.filter fun x=>!(x != n):= by rw[hl];simp
     have ea:a=n:= by simpa using (Z0l.mp ha).2
     have eb:b=n:= by simpa using (Z0l.mp hb).2
     subst ea;subst eb
     simp at hn
  have h3:l.length=(l.filter fun x=>x != n).length+(l.filter fun x=>!(x != n)).length:= by
   clear h1 h2 hd h
   induction l with
   | nil=>rfl
   | cons x l ih =>
    rw[Z23,Z23]
    cases x != n <;> simp[ih] <;> omega
  omega
theorem D3m {n:Nat} {seen:List Nat} (hn:seen.Nodup) (hm:∀j∈seen,j<n):seen.length≤n:=C0k n seen hn hm
def C7j:ACode:=(.seq (.cond 69 .skip (.exit 4)) (.block 5 (.s 1 [q 0 70 (.entry 67),EX 1 71 70 0,q 2 14 (.alloc [.lit (.int .i64 0),.lit (.int .i64 0),.lit (.int .i64 0)] [] 0),ST 3 3 14 71] [2,3,8,12,13,14,62,63,67] (.s 0 [LK 0 72 3 14,q 1 73 (.build [.lit (.int .i64 0),.lit (.int .i64 0),.lit (.int .i64 0)] []),q 2 74 (.cmp true [0,0,0] 72 73),M 3 75 74,G 4 76 75 true (.mv 12),G 5 77 75 true (.idxA 1 3 14 76),G 6 78 75 true (.load none 77),G 7 79 75 true (.bin .gtr 78 (.i 0)),q 8 80 (.pick 75 79 (.b false))] [2,3,8,12,13,62,63,67,80] (.cond 80 (.g 0 [M 0 81 13,B 1 82 .add 81 (.i 1),M 2 13 82] [2,3,8,12,13,62,63,67]) .skip)))))
theorem C5z {c:Sc} {Hh:A1} {l m:Nat} {met:Met} {f r:Int} {a2 a3 a8 a62 a63:AV} (hl:hget Hh l=some (.mit m met.length [])) (hm:hmap Hh m=some (C37 met)) (hlm:l≠m) (h:B6f met f=some r)
  (hb2:a2.bd Hh.length=true) (hb3:a3.bd Hh.length=true) (hb8:a8.bd Hh.length=true) (hb62:a62.bd Hh.length=true) (hb63:a63.bd Hh.length=true) :
  WP tab (.loopM 67 68 69 [2,3,8,12,13,62,63,67] [2,3,8,12,13,62,63,67] [2,3,8,12,13,62,63] C7j) [(2,a2),(3,a3),(8,a8),(12,.i f),(13,.i 0),(62,a62),(63,a63),(67,.itr l)] Hh c
   (fun e s' H'=>e=.exit 4∧s'=[(2,a2),(3,a3),(8,a8),(12,.i f),(13,.i r),(62,a62),(63,a63)]∧H'=hset Hh l .dead):= by
 unfold B6f at h
 split at h
 ·next hlen =>
  refine oB h fun bs hbs h=>?_
  obtain rfl:=os h
  obtain⟨hbl,hbg⟩:=C0v hbs
  have hlt:l<Hh.length:= by unfold hget at hl;exact(Zd.1 hl).1
  have hset0:hset Hh l (.mit m met.length [])=Hh:= by
   unfold hset
   unfold hget at hl
   obtain⟨h1,h2⟩:=Zd.1 hl
   rw[← h2];exact List.set_getElem_self h1
  have hmm:∀o,hmap (hset Hh l o) m=some (C37 met):=fun o=>by
   rw[← hm];unfold hmap hget hset;rw[List.getElem?_set_ne hlm]
  have hss:∀o o',hset (hset Hh l o) l o'=hset Hh l o':=fun o o'=>by unfold hset;rw[List.set_set]
  have hgl:∀o,hget (hset Hh l o) l=some o:=fun o=>by unfold hget hset;rw[List.getElem?_set_self hlt]
  have hle:∀o,(hset Hh l o).length=Hh.length:=fun o=>F0 _ _ _
  have key:=D0o (T:=tab) (c:=c) (x:=67) (nx:=68) (ok:=69) (l:=l) (m:=m) (n:=met.length) (live0:=[2,3,8,12,13,62,63,67]) (live:=[2,3,8,12,13,62,63,67]) (liveX:=[2,3,8,12,13,62,63]) (rest:=C7j) (es:=C37 met) (e0:=.exit 4)
   (fun seen=>[(2,a2),(3,a3),(8,a8),(12,.i f),(13,.i (cnt bs seen)),(62,a62),(63,a63),(67,.itr l)]) (fun seen=>hset Hh l (.mit m met.length seen)) [(2,a2),(3,a3),(8,a8),(12,.i f),(13,.i ((bs.filter fun b=>b).length:Int)),(62,a62),(63,a63)] (hset Hh l .dead)
   (fun _=>rfl) (by decide) Z (by decide) (fun _=>rfl) (fun _=>hgl _) (fun _=>hmm _) (by rw[C37,Zi,decide_eq_true Z];rfl) ?_ ?_ ?_
  ·refine A0n (B43 hset0.symm key) ?_
   rintro e s' H' ⟨h1,h2,h3⟩
   exact⟨h1,h2,h3⟩
  ·intro seen i hnd hsl hi hni
   rw[hss,hle]
   obtain⟨e,he⟩:∃e,met[i]? = some e:=⟨_,List.getElem?_eq_getElem hi⟩
   have hpo:=hbg i e he
   have hent:A7j (hset Hh l (.mit m met.length (seen++[i]))) l=some (.agg (C27 cI e.1),.i e.2):= by
    unfold A7j
    simp only[hgl,hmm,C37,Zi,if_true,List.getLast?_append,List.getLast?_singleton,Option.some_or,Zf,List.getElem?_map,he,Option.map_some,kE]
   have hw:w64 (cnt bs seen+1)=cnt bs seen+1:= by
    have h1:=D6n bs seen
    have h2:=D3m hnd hsl
    have h3:0≤cnt bs seen:=Int.natCast_nonneg _
    unfold w64 IntKind.wrap
    simp[IntKind.bits,IntKind.signed]
    omega
   have hsn:=D1b bs seen i
   have htk:∀Y:List AO,(hset Hh l (.mit m met.length (seen++[i]))++Y).take Hh.length=hset Hh l (.mit m met.length (seen++[i])):=fun Y=>by
    rw[← hle (.mit m met.length (seen++[i]))];exact Z09
   unfold C4r at hpo
   refine U4<|C3<|N7 Z Z<|C6<|C5<|sg 0 Z<|O2 (D46 Z (C9u (hgl _) (hmm _) hent)) Z<|A0 (A9 Z Z) Z<|A0 I4 Z<|N5 (E4 (ds:=C27 cI e.1) Z Z Z Z (D9 Z) Z) Z<|es (ra9 Z Z Z Z Z Z Z Z Z)<|s0<|A0 (E8 Z Z Z) Z<|A0 (Q7 (cs:=[.i 0,.i 0,.i 0]) Z Z) Z<|A0 (D2q (a:=C27 cI e.1) (b:=[.i 0,.i 0,.i 0]) Z Z Z Z (V5 (V5 (V5 B1b)))) Z<|qm Z<|gp 5 80 (.b (bs.getD i false)) 75 Z Z (fun hc1=>?_) (fun hc1=>?_) ?_
   ·refine oB (bt hpo hc1) fun v hv hpo=>?_
    have hz:=os hpo
    rw[← hz]
    exact gT Z hc1<|qm Z<|gT Z hc1<|A0 (D2r (e:=Ar3.l e.1) Z Z Z hv) Z<|gT Z hc1<|A0 (D2t (f:=cI) (g:=fun n=>.i n) (e:=Ar3.l e.1) (fun _=>rfl) Z (D6 Z) Z hv) Z<|gT Z hc1<|A0 (A20 Z Z) Z<|A0 (D0 Z hc1 Z) Z<|ge 5 Z Z Z
   ·have hz:=os (bf hpo hc1)
    rw[← hz]
    exact nT Z hc1 Z<|nT Z hc1 Z<|nT Z hc1 Z<|nT Z hc1 Z<|A0 (C9 Z hc1 Z) Z<|ge 5 Z Z Z
   ·refine es (ra9 Z Z Z Z Z Z Z Z Z) ?_
    rw[hsn]
    by_cases hbi:bs.getD i false=true
    ·rw[if_pos hbi,← hw]
     refine N7 Z hbi<|r0<|qm Z<|A0 (H6 Z Z) Z<|qm Z<|en (ra8 Z Z Z Z Z Z Z Z) ?_
     exact⟨Z,su8 Z Z Z Z Z Z Z Z,htk _⟩
    ·rw[if_neg hbi,Int.add_zero]
     refine P9 Z (by simpa using hbi)<|C6 ?_
     exact⟨Z,su8 Z Z Z Z Z Z Z Z,htk _⟩
  ·intro seen i
   simp only[hle]
   have hbl':(AV.itr l).bd Hh.length=true:= by simp only[AV.bd];exact Nat.ble_eq_true_of_le hlt
   exact bdc hb2 (bdc hb3 (bdc hb8 (bdc A5 (bdc A5 (bdc hb62 (bdc hb63 (bdc hbl' bdn)))))))
  ·intro seen hnd hall
   refine C3<|P9 Z Z<|J1 ?_
   refine⟨Z,Z,?_,⟨_,_,_,hgl _⟩,hss _ _⟩
   rw[← D39 hnd (by rw[hbl];exact hall)]
   exact su7 Z Z Z Z Z Z Z
 ·cases h
end Pw
end
section
set_option maxRecDepth 100000
set_option maxHeartbeats 0
namespace Pw
open Go Am Go.Proofs.Ytjpjdglddmhplaa.Cd
def C9t (few:pawn_found) (x:pawn_found) (m:Met):Option (Met⊕Unit) :=
 (if (x.without_==few.without_)=true then
  (if (!(kget m x.had_).isSome)=true then some true else some (decide (x.cost_<(kget m x.had_).getD 0))).bind fun w=>some w
 else some false).bind fun g =>
 if g=true then some (.inl (kset m x.had_ x.cost_)) else some (.inl m)
def B58 (figs:List PaFigure) (m:Met) (s:List Int×List Int×Int):Option ((List Int×List Int×Int)⊕(List Int×List Int)) :=
 if (decide (s.2.2<(Zh figs:Int)))=true then
  (B6f m s.2.2).bind fun n =>
  (if (n==0)=true then (app 8 s.1 [s.2.2]).bind fun l=>some l else some s.1).bind fun l1 =>
  (if (decide (n<(Zh m:Int)))=true then (app 8 s.2.1 [s.2.2]).bind fun l=>some l else some s.2.1).bind fun l2 =>
  some (.inl (l1,l2,w64 (s.2.2+1)))
 else some (.inr (s.1,s.2.1))
def A2e (a0:PaShow):Option (List Int×List Int×Int) :=
 (A08 a0).bind fun x1 =>
 if (x1.1==0)=true then
  (B6b (B4r a0 x1.2) A5d).bind fun few =>
  (B4r a0 x1.2 Met Unit (C9t few.1) []).bind fun o =>
  match o with
  | .inl m=>(loop (B58 a0.Figures m) ([],[],0)).bind fun y=>some (y.1,y.2,0)
  | .inr _=>none
 else some ([],[],x1.1)
theorem D8v {H:A1} {l:List AO} {j n:Nat} (h:Nat.ble (j+1) l.length=true):(AV.asl (H.length+j) n).bd (H++l).length=true:= by rw[Zo];exact A3b h
def A3i (H:A1) (t:PaShow) (X:AO) (days:List Int) (few:pawn_found) (l1 l2:List Int) (m:Met):List AO :=
 [.cells (B3 t),.arr 1 false (l1.map cI),.arr 1 false (l2.map cI),.cells (B3 t),X,.cells (A12 t days),.cells (B5 few),.cells [.ptr (H.length+5) 0],.map (C37 m),.cells [.mp (H.length+8)],.cells [.ptr (H.length+5) 0]]
theorem A61 {c:Sc} {H:A1} (hscv:R5 c H=true) {a0:PaShow} {r:List Int×List Int×Int} (h:A2e a0=some r) :
  E7 tab c H (.fn (.func 21) [] []) [.agg (B3 a0)] [.fresh 1 (r.1.map cI),.fresh 1 (r.2.1.map cI),.i r.2.2]:= by
 unfold A2e at h
 refine oB h fun x1 hx1 h=>?_
 refine cE Z Z<|sg 0 Z<|A0 (F9 (cs:=B3 a0) Z Z Z) Z<|A0 A7k Z<|A0 A7k Z<|qm Z<|es (ra3 Z Z Z)<|s0<|A0 (E8 Z Z Z) Z ?_
 by_cases hc2:(x1.1==0)=true
 ·rw[if_pos hc2]at h
  refine oB h fun few hfew h=>oB h fun o ho h=>?_
  obtain⟨X,hX⟩:=A1e hx1 hc2
  refine O2 (A2x hX Z Z (A2 (E1 Z) B9) Z) Z<|qm Z<|A0 (A9 Z Z) Z<|A0 (A9 Z Z) Z<|qm Z<|qm Z<|es (ra5 Z Z Z Z Z)<|C3<|s0<|qm Z<|A0 (Q2 Z Z) Z<|es (ra6 Z Z Z Z Z Z)<|P9 Z Z<|C6<|sg 6 Z<|qm Z<|A34 (as2:=[(.ptr (H.length+5) 0)]) (H1:=H++[.cells (B3 a0),.arr 1 false [],.arr 1 false [],.cells (B3 a0),X,.cells (A12 a0 x1.2),.dead]) Z Z (A2 Z B9) Z Z Z (A89 Z)<|sg 7 Z<|A0 (F9 (cs:=[.ptr (H.length+5) 0]) Z Z Z) Z<|qm Z<|es (ra1 Z)<|s0<|A0 (A2b Z Z) Z<|qm Z<|es (ra1 Z)<|C7<|InlQ.mk trivial ⟨_,_,_,[(.fn (.func 55) [] [(.ptr (H.length+7) 0)])],_,(A6 Z B8),(A4 Z B7),(A87 (T7 (B2u (T7 (A43 Z)))) (A86 Z B24)),?_⟩
  refine C2 (rs:=[(.agg (B5 few.1)),.b few.2]) Z Z (A2 Z (A2 Z B9)) (C1c (C6p (t:=a0) (days:=x1.2) (bS:=H.length+7) (b:=H.length+5)) (fun h=>(B7o h).frz) (ZP (D6 Z) (D6 Z)) (A8p hscv) hfew)<|qm Z<|A0 (A9 Z Z) Z<|A0 (A9 Z Z) Z<|A0 I4 Z<|N5 (E4 (ds:=(B5 few.1)) Z Z Z Z (D9 Z) Z) Z<|qm Z<|es (ra5 Z Z Z Z Z) ?_
  refine sg 8 Z<|A0 D5b Z<|A0 I4 Z<|N5 (E4 (ds:=[.mp (H.length+8)]) Z Z Z Z (A0d (ZJ _ _)) Z) Z<|es (ra6 Z Z Z Z Z Z)<|C3<|s0<|qm Z<|A34 (as2:=[(.ptr (H.length+5) 0)]) (H1:=H++[.cells (B3 a0),.arr 1 false [],.arr 1 false [],.cells (B3 a0),X,.cells (A12 a0 x1.2),.cells (B5 few.1),.cells [.ptr (H.length+5) 0],.map [],.cells [.mp (H.length+8)]]) Z Z (A2 Z B9) Z Z Z (A89 Z)<|sg 10 Z<|A0 (F9 (cs:=[.ptr (H.length+5) 0]) Z Z Z) Z<|qm Z<|es (ra1 Z)<|s0<|A0 (A2b Z Z) Z<|qm Z<|es (ra1 Z)<|C7<|InlQ.mk trivial ⟨_,_,_,[(.fn (.func 55) [] [(.ptr (H.length+10) 0)])],_,(A6 Z B8),(A4 Z B7),(A87 (T7 (B2u (T7 (A43 Z)))) (A86 Z B24)),?_⟩
  refine es (ra6 Z Z Z Z Z Z)<|C5 ?_
  have hl11:∀m,(H++A3i H a0 X x1.2 few.1 [] [] m).length=H.length+11:=fun m=>by rw[Zo];rfl
  refine B2m (it:=B4r a0 x1.2) (sh:=shF) (pre:=B3w a0 x1.2 (H.length+10) (H.length+5)) C6p (K:=H.length+11) [(6,.ptr (H.length+6) 0),(8,.ptr (H.length+9) 0)] (fun m=>H++A3i H a0 X x1.2 few.1 [] [] m) (fun (_:Unit)=>H++A3i H a0 X x1.2 few.1 [] [] []) (fun _=>.ret) ho (fun _=>rfl) Z (fun S hS=>N6 (live:=[6,8]) Z (by decide) (Sub.trans (su2 Z Z) hS)) Z (fun _=>hl11 _) (fun _=>hl11 _) ⟨fun _ _=>B3w.app ⟨D6 Z,D6 Z⟩,fun _ _=>B3w.app ⟨D6 Z,D6 Z⟩⟩ (A8p hscv) (fun c' x m o' L v hsc hgr hv hbo y0 y1 hy0 hy1=>?_) ?_
  ·obtain rfl:v=.agg (B5 x):=hv
   have hGl:∀m z,(H++A3i H a0 X x1.2 few.1 [] [] m++z::L).length=H.length+11+1+L.length:=fun m z=>by rw[Zo,hl11];simp;omega
   refine U4<|rg 0 Z<|A0 I4 Z<|N5 (E4 (ds:=B5 x) Z Z Z Z (A0d (by rw[hGl];exact ZJ _ _)) Z) Z<|en (ra3 Z Z Z) ⟨Z,L++[.cells (B5 x)],by simp,?_⟩
   refine B43 (show _=H++(A3i H a0 X x1.2 few.1 [] [] m++(y1::(L++[AO.cells (B5 x)]))) by simp) ?_
   rw[show (AV.ptr ((H++A3i H a0 X x1.2 few.1 [] [] m++y0::L).length+(0+0)) 0)=.ptr (H.length+11+1+L.length) 0 by rw[hGl];rfl]
   have q9:∀m,hcells (H++(A3i H a0 X x1.2 few.1 [] [] m++(y1::(L++[AO.cells (B5 x)])))) (H.length+11+1+L.length)=some (B5 x):=fun m=>by
    rw[show H++(A3i H a0 X x1.2 few.1 [] [] m++(y1::(L++[AO.cells (B5 x)])))=(H++A3i H a0 X x1.2 few.1 [] [] m++y1::L)++[AO.cells (B5 x)] by simp,← hGl m y1]
    exact D6 (j:=0) Z
   have htk:∀m,(H++(A3i H a0 X x1.2 few.1 [] [] m++(y1::(L++[AO.cells (B5 x)])))).take (H.length+11+1+L.length)=H++A3i H a0 X x1.2 few.1 [] [] m++y1::L:=fun m=>by
    rw[show H++(A3i H a0 X x1.2 few.1 [] [] m++(y1::(L++[AO.cells (B5 x)])))=(H++A3i H a0 X x1.2 few.1 [] [] m++y1::L)++[AO.cells (B5 x)] by simp,← hGl m y1]
    exact Z09
   unfold C9t at hbo
   refine oB hbo fun g hg hbo=>?_
   refine C5<|s0<|A0 (B4 (x:=.mp (H.length+8)) Z Z Z) Z<|A0 (C1 Z) Z<|A0 (A54 (ds:=C27 cI x.had_) Z (q9 m) Z Z) Z<|A0 (D47 (k:=x.had_) (es:=m) (gv:=fun n=>.i n) (z:=0) C8b Z (A76 Z) Z Z) Z<|qm Z<|A0 (A9 Z Z) Z<|A0 (A9 Z Z) Z<|qm Z<|qm Z<|es (ra5 Z Z Z Z Z)<|s0<|A0 (C1 Z) Z<|A0 (A3r (x:=.i x.without_) Z (q9 m) Z) Z<|A0 (C1 Z) Z<|A0 (B4 (x:=.i few.1.without_) Z Z Z) Z<|A0 (I3 Z Z) Z<|qm Z<|gp 9 54 (.b g) 45 Z Z (fun hc1=>?_) (fun hc1=>?_) ?_
   ·refine oB (bt hg hc1) fun w hw hg=>?_
    obtain rfl:=os hg
    refine gT Z hc1<|qm Z<|gT Z hc1<|A0 (C4e Z Z) Z<|gT Z hc1<|qm Z<|gq 5 53 (.b w) 48 Z Z (fun hc3=>?_) (fun hc3=>?_) ?_
    ·obtain rfl:=os (bt hw hc3)
     exact nF Z hc3 Z<|nF Z hc3 Z<|nF Z hc3 Z<|nF Z hc3 Z<|gT Z hc1<|A0 (D0 Z hc3 Z) Z<|ge 5 Z Z Z
    ·obtain rfl:=os (bf hw hc3)
     exact gF Z hc3<|A0 (C1 Z) Z<|gF Z hc3<|A0 (A3r (x:=.i x.cost_) Z (q9 m) Z) Z<|gF Z hc3<|qm Z<|gF Z hc3<|A0 (L8 Z Z) Z<|gT Z hc1<|A0 (C9 Z hc3 Z) Z<|ge 5 Z Z Z
    ·exact A0 (D0 Z hc1 Z) Z<|ge 5 Z Z Z
   ·obtain rfl:=os (bf hg hc1)
    exact nT Z hc1 Z<|nT Z hc1 Z<|nT Z hc1 Z<|nX Z Z<|nX Z Z<|nX Z Z<|nX Z Z<|nT Z hc1 Z<|A0 (C9 Z hc1 Z) Z<|ge 9 Z Z Z
   ·refine es (ra3 Z Z Z)<|wi hbo Z (fun hc4 hbo=>?_) fun hc4 hbo=>?_
    ·cases hbo
     refine r0<|A0 (B4 (x:=.mp (H.length+8)) Z Z Z) Z<|A0 (C1 Z) Z<|A0 (A54 (ds:=C27 cI x.had_) Z (q9 m) Z Z) Z<|A0 (C1 Z) Z<|A0 (A3r (x:=.i x.cost_) Z (q9 m) Z) Z<|N5 (D48 (k:=x.had_) (v:=x.cost_) (es:=m) (gv:=fun n=>.i n) C8b Z Z Z Z Z) Z<|en .n ⟨Z,htk _⟩
    ·cases hbo
     exact C6 ⟨Z,htk _⟩
  ·rcases o with m|m
   ·refine oB h fun y hy h=>?_
    obtain rfl:=os h
    refine B43 (show _=H++(A3i H a0 X x1.2 few.1 [] [] m++[.dead]) by simp) ?_
    refine C3<|s0<|A0 (C1 Z) Z<|A0 (B4 Z Z Z) Z<|A0 (G0 (f:=B2) Z) Z<|qm Z<|es (ra5 Z Z Z Z Z)<|C5<|wl (fun s=>[(2,.asl (H.length+1) s.1.length),(3,.asl (H.length+2) s.2.1.length),(8,.ptr (H.length+9) 0),(62,.i a0.Figures.length),(63,.i s.2.2)]) (fun (_:Unit) s=>A3i H a0 X x1.2 few.1 s.1 s.2.1 m++[.dead]) 12 (fun r e s' H'=>PX 2 [(2,.asl (H.length+1) r.1.length),(3,.asl (H.length+2) r.2.length)] (H++(A3i H a0 X x1.2 few.1 r.1 r.2 m++[.dead])) e s' H') () hy Z Z (fun _ _=>rfl) (fun _=>rfl) Z (fun _=>bdc (A3b Z) (bdc (A3b Z) (bdc (N1 Z) (bdc A5 (bdc A5 bdn))))) (fun _ s o hs=>?_) ?_
    ·obtain⟨l1,l2,i⟩:=s
     unfold B58 at hs
     refine s0<|A0 (L8 Z Z) Z<|es (ra6 Z Z Z Z Z Z)<|C3<|wi hs Z (fun hc hs=>?_) fun hc hs=>?_
     ·refine oB hs fun n hn hs=>oB hs fun k1 hl1 hs=>oB hs fun k2 hl2 hs=>?_
      simp only at hn hl1 hl2 hs
      refine C6<|C3<|C5<|s0<|qm Z<|qm Z<|es (ra6 Z Z Z Z Z Z)<|s0<|qm Z<|es (ra7 Z Z Z Z Z Z Z)<|C3<|sg 12 Z<|A0 (B4 (x:=.mp (H.length+8)) Z Z Z) Z<|O2 (D2w Z (A76 Z)) Z<|es (ra8 Z Z Z Z Z Z Z Z)<|C5<|A0n (C5z (l:=H.length+12) (m:=H.length+8) (met:=m) (f:=i) (r:=n) (by rw[R8];show some (AO.mit _ (C37 m).length [])=_;rw[C37,Zi]) (A76 Z) (by omega) hn (D8v Z) (D8v Z) (by rw[Zo];exact N1 Z) A5 A5) ?_
      rintro e s' H' ⟨rfl,rfl,rfl⟩
      rw[F2]
      refine C3<|s0<|qm Z<|A0 (I3 Z Z) Z<|es (ra8 Z Z Z Z Z Z Z Z)<|wi hl1 Z (fun hc5 hl1=>?_) fun hc5 hl1=>?_
      ·refine oB hl1 fun l1' hl1' hl1=>?_
       obtain rfl:=os hl1
       refine r0<|qm Z<|qm Z<|A0 (I9 (rows:=Zg cI [i]) Z Z (D8 (fun _=>rfl) _)) Z<|O2 (A4l (f:=cI) (j:=1) Z Z Z Z A1w (fun _=>rfl) hl1') Z<|qm Z<|en (ra7 Z Z Z Z Z Z Z) ?_
       refine s0<|qm Z<|A0 (B4 (x:=.mp (H.length+8)) Z Z Z) Z<|A0 (D2s (es:=m) Z (A76 Z)) Z<|A0 (L8 Z Z) Z<|es (ra7 Z Z Z Z Z Z Z)<|wi hl2 Z (fun hc6 hl2=>?_) fun hc6 hl2=>?_
       ·refine oB hl2 fun l2' hl2' hl2=>?_
        obtain rfl:=os hl2
        refine r0<|qm Z<|qm Z<|A0 (I9 (rows:=Zg cI [i]) Z Z (D8 (fun _=>rfl) _)) Z<|O2 (A4l (f:=cI) (j:=2) Z Z Z Z A1w (fun _=>rfl) hl2') Z<|qm Z<|en (ra5 Z Z Z Z Z) ?_
        obtain rfl:=os hs
        refine r0<|A0 (H6 Z Z) Z<|qm Z<|en (ra5 Z Z Z Z Z) ?_
        exact lnT () Z (su5 Z Z Z Z Z)
       ·obtain rfl:=os hl2
        obtain rfl:=os hs
        refine C6<|r0<|A0 (H6 Z Z) Z<|qm Z<|en (ra5 Z Z Z Z Z) ?_
        exact lnT () Z (su5 Z Z Z Z Z)
      ·obtain rfl:=os hl1
       refine C6 ?_
       refine s0<|qm Z<|A0 (B4 (x:=.mp (H.length+8)) Z Z Z) Z<|A0 (D2s (es:=m) Z (A76 Z)) Z<|A0 (L8 Z Z) Z<|es (ra7 Z Z Z Z Z Z Z)<|wi hl2 Z (fun hc6 hl2=>?_) fun hc6 hl2=>?_
       ·refine oB hl2 fun l2' hl2' hl2=>?_
        obtain rfl:=os hl2
        refine r0<|qm Z<|qm Z<|A0 (I9 (rows:=Zg cI [i]) Z Z (D8 (fun _=>rfl) _)) Z<|O2 (A4l (f:=cI) (j:=2) Z Z Z Z A1w (fun _=>rfl) hl2') Z<|qm Z<|en (ra5 Z Z Z Z Z) ?_
        obtain rfl:=os hs
        refine r0<|A0 (H6 Z Z) Z<|qm Z<|en (ra5 Z Z Z Z Z) ?_
        exact lnT () Z (su5 Z Z Z Z Z)
       ·obtain rfl:=os hl2
        obtain rfl:=os hs
        refine C6<|r0<|A0 (H6 Z Z) Z<|qm Z<|en (ra5 Z Z Z Z Z) ?_
        exact lnT () Z (su5 Z Z Z Z Z)
     ·refine J1 ?_
      obtain rfl:=os hs
      exact lx Z px (su2 Z Z)
    ·rintro e s' H'-⟨rfl,rfl,rfl⟩
     refine s0<|qm Z<|qm Z<|qm Z<|qm Z<|qm Z<|es (ra3 Z Z Z)<|C7 ?_
     exact retq trivial (A6 Z (A6 Z (A6 Z B8))) (A4 (A63 Z (Zi _)) (A4 (A63 Z (Zi _)) (A4 Z B7))) (A3 A0o (A3 A0o (A3 A5 A8)))
   ·cases h
 ·rw[if_neg hc2]at h
  obtain rfl:=os h
  refine O2 (P6 (rs:=[.lit (.pointer none),.i x1.1]) Z Z (A2 (E1 Z) B9) (A15 hx1 (by simpa using hc2)) Z) Z<|qm Z<|A0 (A9 Z Z) Z<|A0 (A9 Z Z) Z<|qm Z<|qm Z<|es (ra5 Z Z Z Z Z)<|C3<|s0<|qm Z<|A0 (Q2 Z Z) Z<|es (ra6 Z Z Z Z Z Z)<|N7 Z (nef hc2)<|sg 3 Z<|qm Z<|A0 A7k Z<|A0 A7k Z<|qm Z<|es (ra3 Z Z Z)<|C7 ?_
  exact retq trivial (A6 Z (A6 Z (A6 Z B8))) (A4 (A63 Z Z) (A4 (A63 Z Z) (A4 Z B7))) (A3 A0o (A3 A0o (A3 A5 A8)))
end Pw
end
section
namespace Pw
open Go Am
section
variable {α σ ρ:Type}
theorem B9v {f:α→σ→Option (σ⊕ρ)} (I:List α→σ→Prop):∀(l pre:List α) (s:σ),I pre s→(∀ pre a s,a∈l→I pre s→∃ s',f a s=some (.inl s')∧I (pre++[a]) s')→∃ s',T1 f l s=some (.inl s')∧I (pre++l) s'
 | [],pre,s,h,_=>⟨s,Z,by rwa [ZY]⟩
 | a::l,pre,s,h,hs=>by
  obtain⟨s',h1,h2⟩:=hs pre a s (Zx ..) h
  obtain⟨s'',h3,h4⟩:=B9v I l (pre++[a]) s' h2 fun pre b s hb=>hs pre b s (Zt _ hb)
  refine⟨s'',?_,by rwa [ZB]at h4⟩
  show (f a s).bind _=_
  rw[h1];exact h3
end
theorem A5y {α β:Type} {f:α→List β} {k:Nat}:∀{l:List α},(∀ x∈l,(f x).length≤k)→(l.flatMap f).length≤l.length*k
 | [],_=>by simp
 | x::l,h=>by
  have h1:=h x (Zx ..)
  have h2:=A5y (l:=l) fun y hy=>h y (Zt _ hy)
  rw[List.flatMap_cons,Zo,ZX,Z20]
  omega
theorem C5p {s:PaShow} (hs:ShOk s) {D:List Int} (hD:DyOk D):∀(d:Nat) (q:List PaUse),(PL s D d q).length≤6000 ^ d
 | 0,q=>by unfold PL;simp
 | d+1,q=>by
  unfold PL
  have hc:(cand s D q).length≤5999:= by
   unfold cand
   refine Z01 (Z1g _ _) ?_
   rw[Zi,List.length_range]
   have:s.Gowns.length*3*D.length≤15*365:=Z2i (by have:=hs.gowns;omega) hD.len
   unfold nU;omega
  have h1:=A5y (f:=fun u=>PL s D d (q++[u])) (k:=6000 ^ d) (l:=cand s D q) fun u _=>C5p hs hD d _
  have h2:=C5p hs hD d (q++[bare0])
  have h3:=ZO (6000 ^ d) hc
  rw[Zo,Nat.pow_succ]
  generalize 6000 ^ d=k at *
  omega
theorem D6f {s:PaShow} (hs:ShOk s):(PA s).length≤216000000000:= by
 have h1:=Z1g (D5m s) (PL s (M4 s) s.Figures.length [])
 have h2:=C5p hs (A1q hs) s.Figures.length []
 have h3:6000 ^ s.Figures.length≤6000 ^ 3:=Nat.pow_le_pow_right (by decide) hs.figures
 unfold PA
 omega
section
theorem C3z {k:Had} {v:Int}:∀{m:Met},(∀ e∈kset m k v,e.1=k∨e∈m)∧(∃ e∈kset m k v,e.1=k)∧∀ e∈m,∃ e' ∈ kset m k v,e'.1=e.1
 | []=>by
  have:kset ([]:Met) k v=[(k,v)]:=rfl
  rw[this]
  exact⟨fun e he=>.inl (by rw[Z07.mp he]),⟨_,Z07.mpr Z,Z⟩,by simp⟩
 | x::m=>by
  rw[B3c]
  by_cases h:k=x.1
  ·rw[if_pos h]
   refine⟨fun e he=>?_,⟨_,Zx ..,Z⟩,fun e he=>?_⟩
   ·rcases Zv.mp he with rfl|he
    ·exact .inl Z
    ·exact .inr (Zt _ he)
   ·rcases Zv.mp he with rfl|he
    ·exact⟨_,Zx ..,h⟩
    ·exact⟨e,Zt _ he,Z⟩
  ·rw[if_neg h]
   obtain⟨h1,⟨e0,h2,h2'⟩,h3⟩:=C3z (k:=k) (v:=v) (m:=m)
   refine⟨fun e he=>?_,⟨e0,Zt _ h2,h2'⟩,fun e he=>?_⟩
   ·rcases Zv.mp he with rfl|he
    ·exact .inr (Zx ..)
    ·exact(h1 e he).imp id (Zt _)
   ·rcases Zv.mp he with rfl|he
    ·exact⟨_,Zx ..,Z⟩
    ·obtain⟨e',g1,g2⟩:=h3 e he
     exact⟨e',Zt _ g1,g2⟩
theorem C3y {k:Had} {v:Int}:∀{m:Met},(kset m k v).length≤m.length+1
 | []=>by
  have:kset ([]:Met) k v=[(k,v)]:=rfl
  rw[this];simp
 | x::m=>by
  rw[B3c]
  have:=C3y (k:=k) (v:=v) (m:=m)
  split <;> simp <;> omega
theorem C0e {k:Had}:∀{m:Met},(kget m k).isSome=true→∃ e∈m,e.1=k
 | [],h=>by cases h
 | x::m,h=>by
  rw[A31]at h
  by_cases c:k=x.1
  ·exact⟨x,Zx ..,c.symm⟩
  ·rw[if_neg c]at h
   obtain⟨e,h1,h2⟩:=C0e h
   exact⟨e,Zt _ h1,h2⟩
end
structure MetI (w:Int) (l:List (List PaUse)) (m:Met):Prop where
 len:m.length≤l.length
 of:∀e∈m,∃ p∈l,F8 p=w∧A40 p=e.1
 all:∀p∈l,F8 p=w→∃ e∈m,e.1=A40 p
theorem D2e {s:PaShow} {few:pawn_found} {l:List (List PaUse)} {p:List PaUse} {m:Met} (h:MetI few.without_ l m):∃m',C9t few (fdP s p) m=some (.inl m')∧MetI few.without_ (l++[p]) m':= by
 obtain⟨h1,h2,h3⟩:=h
 unfold C9t fdP
 simp only
 have hof:∀e∈m,∃ q∈l++[p],F8 q=few.without_∧A40 q=e.1:=fun e he=>by
  obtain⟨q,g1,g2⟩:=h2 e he
  exact⟨q,List.mem_append_left _ g1,g2⟩
 have hset:F8 p=few.without_→MetI few.without_ (l++[p]) (kset m (A40 p) (T8 s p)):=fun hw=>by
  obtain⟨k1,k2,k3⟩:=C3z (k:=A40 p) (v:=T8 s p) (m:=m)
  refine⟨?_,fun e he=>?_,fun q hq hqw=>?_⟩
  ·have:=C3y (k:=A40 p) (v:=T8 s p) (m:=m)
   rw[Zo,List.length_singleton];omega
  ·rcases k1 e he with e1|e1
   ·exact⟨p,by simp,hw,e1.symm⟩
   ·exact hof e e1
  ·rcases ZA.mp hq with hq|hq
   ·obtain⟨e,g1,g2⟩:=h3 q hq hqw
    obtain⟨e',g3,g4⟩:=k3 e g1
    exact⟨e',g3,by rw[g4,g2]⟩
   ·rw[Z07.mp hq];exact k2
 have hkeep:(F8 p=few.without_→∃ e∈m,e.1=A40 p)→MetI few.without_ (l++[p]) m:=fun hw=>by
  refine⟨by rw[Zo];omega,hof,fun q hq hqw=>?_⟩
  rcases ZA.mp hq with hq|hq
  ·exact h3 q hq hqw
  ·rw[Z07.mp hq]at hqw ⊢; exact hw hqw
 by_cases hw:F8 p=few.without_
 ·rw[if_pos (beq_iff_eq.mpr hw)]
  cases hk:(kget m (A40 p)).isSome with
  | false=>exact⟨_,Z,hset hw⟩
  | true =>
   simp only[Bool.not_true,Bool.false_eq_true,if_false,Zf]
   by_cases hc:T8 s p<(kget m (A40 p)).getD 0
   ·rw[if_pos (decide_eq_true hc)];exact⟨_,Z,hset hw⟩
   ·rw[if_neg (by simpa using hc)];exact⟨_,Z,hkeep fun _=>C0e hk⟩
 ·rw[if_neg (by rw[beq_iff_eq];exact hw)]
  exact⟨_,Z,hkeep fun c=>absurd c hw⟩
def A7p (h:Had) (f:Nat):Bool:=decide (h.l[f]! > 0)
theorem D5o (h:Had) {f:Nat} (hf:f<3):C4r h (f:Int)=some (A7p h f):= by
 unfold C4r A7p
 have hi:idx h.l (f:Int)=some h.l[f]!:=K2 (by unfold Ar3.l;simpa using hf)
 by_cases hz:h.x0=0∧h.x1=0∧h.x2=0
 ·rw[if_neg (by simp[hz])]
  have:h.l[f]! = 0:= by
   unfold Ar3.l
   rw[hz.1,hz.2.1,hz.2.2]
   rcases (by omega:f=0∨f=1∨f=2) with rfl|rfl|rfl <;> rfl
  rw[this];rfl
 ·rw[if_pos (by simp;omega),hi];rfl
theorem C4q {f:Nat} (hf:f<3):∀m:Met,C0u (f:Int) m=some (m.map fun e=>A7p e.1 f)
 | []=>rfl
 | e::m=>by
  unfold C0u
  rw[D5o e.1 hf,C4q hf m];rfl
theorem D1e {m:Met} (hm:m.length<4611686018427387904) {f:Nat} (hf:f<3):B6f m (f:Int)=some (((m.map fun e=>A7p e.1 f).filter fun b=>b).length:Int):= by
 unfold B6f
 rw[if_pos hm,C4q hf];rfl
theorem C1r {s:PaShow} {p:List PaUse} (h:PlU s p) {f:Nat} (hf:f<p.length) (h3:f<3):A7p (A40 p) f = !(p[f]!.Gown == -1):= by
 have hg:-1≤p[f]!.Gown:= by
  rcases U3.mp (h.use f hf) with e|e
  ·rw[e];exact Z00 _
  ·have:=e.lo;omega
 have e:(A40 p).l[f]! = p[f]!.Gown+1:= by
  unfold A40 Ar3.l gv
  rcases (by omega:f=0∨f=1∨f=2) with rfl|rfl|rfl
  ·show (if 0<p.length then p[0]!.Gown+1 else 0)=_;rw[if_pos hf]
  ·show (if 1<p.length then p[1]!.Gown+1 else 0)=_;rw[if_pos hf]
  ·show (if 2<p.length then p[2]!.Gown+1 else 0)=_;rw[if_pos hf]
 unfold A7p
 rw[e,Z03]
 clear e
 generalize p[f]!.Gown=g at hg ⊢
 simp;omega
def A3d (s:PaShow):Int:=match fm (A3o s) (PA s) with|some b=>F8 b|none=>0
theorem B6o {s:PaShow} (hs:ShOk s):(∀ q,Pay s q→A3d s≤F8 q)∧∃ b,fm (A3o s) (PA s)=some b∧Pay s b∧F8 b=A3d s:= by
 obtain⟨b,e,hb,hmin,_⟩:=B2v hs
 have hf:A3d s=F8 b:= by unfold A3d;rw[e]
 refine⟨fun q hq=>?_,b,e,hb,hf.symm⟩
 have h1:=hmin q hq
 have h2:=A5v hs hb.ok.u
 have h3:=A5v hs hq.ok.u
 unfold A3o at h1
 omega
def A3j (s:PaShow) (f:Nat):Bool:=(PA s).all fun p=>!(F8 p==A3d s)||p[f]!.Gown == -1
def A9l (s:PaShow) (f:Nat):Bool:=(PA s).any fun p=>F8 p==A3d s&&p[f]!.Gown == -1
def fsL (q:Nat→Bool) (n:Nat):List Int:=((Z08 n).filter q).map fun (i:Nat)=>(i:Int)
theorem A50 (q:Nat→Bool) (n:Nat):fsL q (n+1)=if q n then fsL q n++[(n:Int)] else fsL q n:= by
 unfold fsL
 rw[List.range_succ,Z4z,List.map_append]
 cases h:q n <;> simp[h]
theorem C7x (q:Nat→Bool) (n:Nat):(fsL q n).length≤n:= by
 unfold fsL
 rw[Zi]
 exact Z01 (Z1g _ _) (by simp)
theorem C7a (s:PaShow) (hb:NB s):A2e s=some (if (chk s).2.2=0 then (fsL (A3j s) s.Figures.length,fsL (A9l s) s.Figures.length,0) else ([],[],(chk s).2.2)):= by
 unfold A2e
 rw[A5w s hb]
 simp only[Zf]
 by_cases h:(chk s).2.2=0
 ·have hs:=(A2s s).mp h
  have hF:=hs.figures
  simp only[h,if_true,BEq.rfl]
  rw[C1b (k:=F8) (L:=PA s) (F:=fdP s) (fun σ ρ body st X hX=>B71 hs (C83 hs) body hX) (fun p hp q hq=>by
   have h3:=A7g p
   have h4:=A7g q
   have h5:=((A4i hs).mp hp).1.ok.u.len
   have h6:=((A4i hs).mp hq).1.ok.u.len
   refine⟨F8 p-F8 q,?_,by omega⟩
   unfold A5d fdP
   simp only
   rw[G1 (by omega)])]
  obtain⟨hmin,b,he,hbp,hbw⟩:=B6o hs
  obtain⟨c,hc⟩:=C1n (k:=F8) (B6r he)
  have hcw:F8 c=A3d s:= by
   have h1:=C7r hc (B6r he)
   have h2:=hmin c ((A4i hs).mp (B6r hc)).1
   omega
  rw[hc]
  simp only[Zf,stO]
  obtain⟨m,h1,h2⟩:=B9v (f:=fun p st=>C9t (fdP s c) (fdP s p) st) (ρ:=Unit) (MetI (fdP s c).without_) (PA s) [] [] ⟨Nat.le_refl _,by simp,by simp⟩ fun pre p st _ hI=>D2e hI
  rw[B71 hs (C83 hs) (C9t (fdP s c)) h1]
  simp only[Zf]
  rw[ZZ]at h2
  have hw:(fdP s c).without_=A3d s:=hcw
  rw[hw]at h2
  have hmlen:m.length<4611686018427387904:= by
   have:=D6f hs
   have:=h2.len
   omega
  have hpu:∀p∈PA s,PlU s p:=fun p hp=>((A4i hs).mp hp).1.ok.u
  have hmust:∀f,f<s.Figures.length→((((m.map fun e=>A7p e.1 f).filter fun b=>b).length:Int)==0)=A3j s f:=fun f hf=>by
   rw[Z03,beq_iff_eq]
   unfold A3j
   rw[Zq]
   constructor
   ·intro h0 p hp
    by_cases hw:F8 p=A3d s
    ·obtain⟨e,g1,g2⟩:=h2.all p hp hw
     have hnil:((m.map fun e=>A7p e.1 f).filter fun b=>b)=[]:=Z0j.mp (by omega)
     have:=(Z2y.mp hnil) _ (Z10 (f:=fun e=>A7p e.1 f) g1)
     rw[g2,C1r (hpu p hp) (by have:=(hpu p hp).len;omega) (by omega)]at this
     have:(p[f]!.Gown == -1)=true:= by simpa using this
     rw[this,Bool.or_true]
    ·have:(F8 p==A3d s)=false:=beq_eq_false_iff_ne.mpr hw
     rw[this];rfl
   ·intro hall
    have:((m.map fun e=>A7p e.1 f).filter fun b=>b)=[]:=Z2y.mpr fun x hx=>by
     obtain⟨e,he,rfl⟩:=ZG.mp hx
     obtain⟨p,hp,hw,g2⟩:=h2.of e he
     have:=hall p hp
     rw[beq_iff_eq.mpr hw]at this
     rw[← g2,C1r (hpu p hp) (by have:=(hpu p hp).len;omega) (by omega)]
     simpa using this
    rw[this];rfl
  have hmay:∀f,f<s.Figures.length→decide ((((m.map fun e=>A7p e.1 f).filter fun b=>b).length:Int)<(m.length:Int))=A9l s f:=fun f hf=>by
   have hlt:((((m.map fun e=>A7p e.1 f).filter fun b=>b).length:Int)<(m.length:Int))↔∃ e∈m,A7p e.1 f=false:= by
    have hle:=Z1g (fun b=>b) (m.map fun e=>A7p e.1 f)
    have hiff:=List.length_filter_eq_length_iff (p:=fun b=>b) (l:=m.map fun e=>A7p e.1 f)
    rw[Zi]at hle hiff
    constructor
    ·intro hlt
     refine Classical.byContradiction fun hn=>?_
     have:=hiff.mpr fun x hx=>by
      obtain⟨e,he,rfl⟩:=ZG.mp hx
      cases hh:A7p e.1 f
      ·exact absurd ⟨e,he,hh⟩ hn
      ·rfl
     omega
    ·rintro⟨e,he,hh⟩
     have:((m.map fun e=>A7p e.1 f).filter fun b=>b).length≠m.length:=fun heq=>by
      have:=hiff.mp heq _ (Z10 (f:=fun e=>A7p e.1 f) he)
      rw[hh]at this;cases this
     omega
   rw[Z03,decide_eq_true_eq,hlt]
   unfold A9l
   rw[Z22]
   constructor
   ·rintro⟨e,he,hh⟩
    obtain⟨p,hp,hw,g2⟩:=h2.of e he
    refine⟨p,hp,?_⟩
    rw[← g2,C1r (hpu p hp) (by have:=(hpu p hp).len;omega) (by omega)]at hh
    rw[beq_iff_eq.mpr hw]
    simpa using hh
   ·rintro⟨p,hp,hq⟩
    rw[Zc,beq_iff_eq]at hq
    obtain⟨e,g1,g2⟩:=h2.all p hp hq.1
    refine⟨e,g1,?_⟩
    rw[g2,C1r (hpu p hp) (by have:=(hpu p hp).len;omega) (by omega),hq.2];rfl
  rw[show (([]:List Int),([]:List Int),(0:Int))=(fsL (A3j s) 0,fsL (A9l s) 0,((0:Nat):Int)) from Z]
  rw[A4g (b:=B58 s.Figures m) (fun i=>(fsL (A3j s) i,fsL (A9l s) i,(i:Int))) s.Figures.length (r:=(fsL (A3j s) s.Figures.length,fsL (A9l s) s.Figures.length)) (by omega) (fun i hi=>by
   have l1:=C7x (A3j s) i
   have l2:=C7x (A9l s) i
   unfold B58
   simp only[]
   rw[if_pos (by simpa using hi),D1e hmlen (by omega)]
   simp only[Zf]
   rw[hmust i hi,hmay i hi,B57 (by omega) (by simp;omega),B57 (by omega) (by simp;omega),A50,A50,G1 (by omega)]
   cases A3j s i <;> cases A9l s i <;> rfl) (by
   unfold B58
   simp only[]
   rw[if_neg (by simp)])]
  rfl
 ·rw[if_neg h,if_neg (by simpa using h),if_neg h]
theorem C12 {f:PaUse→PaUse} {p:List PaUse} {i:Nat} (hi:i<p.length):(p.map f)[i]! = f p[i]!:= by
 rw[getElem!_pos (p.map f) i (by simpa using hi),Z34,getElem!_pos p i hi]
theorem C38 {s:PaShow} (hs:ShOk s) {f:Nat} (hf:f<s.Figures.length):A3j s f=true↔∀ p,Pay s p→F8 p=A3d s→p[f]!.Gown = -1:= by
 unfold A3j
 rw[Zq]
 constructor
 ·intro h p hp hw
  obtain⟨h1,h2,_,_⟩:=B7j hs hp
  have:=h _ h1
  have hl:=hp.ok.u.len
  rw[beq_iff_eq.mpr (h2.trans hw),C12 (by omega),A9c]at this
  simpa using this
 ·intro h p hp
  by_cases hw:F8 p=A3d s
  ·rw[h p ((A4i hs).mp hp).1 hw];simp
  ·rw[beq_eq_false_iff_ne.mpr hw];rfl
theorem C8g {s:PaShow} (hs:ShOk s) {f:Nat} (hf:f<s.Figures.length):A9l s f=true↔∃ p,Pay s p∧F8 p=A3d s∧p[f]!.Gown = -1:= by
 unfold A9l
 rw[Z22]
 constructor
 ·rintro⟨p,hp,h⟩
  rw[Zc,beq_iff_eq,beq_iff_eq]at h
  exact⟨p,((A4i hs).mp hp).1,h⟩
 ·rintro⟨p,hp,hw,hg⟩
  obtain⟨h1,h2,_,_⟩:=B7j hs hp
  have hl:=hp.ok.u.len
  refine⟨_,h1,?_⟩
  rw[beq_iff_eq.mpr (h2.trans hw),C12 (by omega),A9c,hg];rfl
def NT (a b:PaUse):Prop:=a.Gown = -1∨b.Gown = -1∨a.Gown≠b.Gown
theorem NT.symm {a b:PaUse} (h:NT a b):NT b a:= by
 rcases h with h|h|h
 ·exact .inr (.inl h)
 ·exact .inl h
 ·exact .inr (.inr (Ne.symm h))
theorem D3t (p:List PaUse):(∀ i,i<p.length→twP p i=false)↔p.Pairwise NT:= by
 rw[Z0b]
 constructor
 ·intro h i j hi hj hij
  have:=h j hj
  unfold twP at this
  rw[getElem!_pos p j hj]at this
  unfold NT
  by_cases c:p[j].Gown = -1
  ·exact .inr (.inl c)
  ·right;right
   rw[show (p[j].Gown != -1)=true from bne_iff_ne.mpr c,Z1e,Z3t]at this
   have:=this p[i] (by rw[Z0c];exact⟨i,by omega,Z⟩)
   simpa using this
 ·intro h j hj
  unfold twP
  rw[getElem!_pos p j hj]
  by_cases c:p[j].Gown = -1
  ·rw[show (p[j].Gown != -1)=false by rw[c];rfl];rfl
  ·rw[show (p[j].Gown != -1)=true from bne_iff_ne.mpr c,Z1e,Z3t]
   intro x hx
   rw[Z0c]at hx
   obtain⟨i,hi,rfl⟩:=hx
   have:=h i j (by omega) hj (by omega)
   unfold NT at this
   rw[beq_iff_eq]
   omega
theorem C2e {s:PaShow} {p:List PaUse}:PlU s p↔p.length=s.Figures.length∧∀ z∈s.Figures.zip p,A2r s.Gowns z.1 z.2=0:= by
 constructor
 ·intro h
  refine⟨h.len,fun z hz=>?_⟩
  obtain⟨i,hi,e⟩:=ZV.mp hz
  rw[Z43]at e
  rw[Z4a]at hi
  subst e
  have:=h.use i (by omega)
  rwa [getElem!_pos s.Figures i (by omega),getElem!_pos p i (by omega)]at this
 ·rintro⟨h1,h2⟩
  refine⟨h1,fun i hi=>?_⟩
  rw[getElem!_pos s.Figures i (by omega),getElem!_pos p i hi]
  exact h2 _ (ZV.mpr ⟨i,by rw[Z4a];omega,by rw[Z43]⟩)
theorem C4p {s:PaShow} {p:List PaUse}:PlOk s p↔p.length=s.Figures.length∧(∀ z∈s.Figures.zip p,A2r s.Gowns z.1 z.2=0)∧p.Pairwise NT:= by
 constructor
 ·intro h
  obtain⟨h1,h2⟩:=C2e.mp h.u
  exact⟨h1,h2,(D3t p).mp h.tw⟩
 ·rintro⟨h1,h2,h3⟩
  exact⟨C2e.mpr ⟨h1,h2⟩,(D3t p).mpr h3⟩
theorem D4u {s:PaShow} (hs:ShOk s) {p:List PaUse} (h:PlU s p) {d:Int} (hn:N2 s p d<0):∃x∈pays s p,N2 s p x.2≤N2 s p d:= by
 have hi0:∀x∈incs s,0≤x.1:=fun x hx=>(A49 hs x hx).1.1
 have hpu:=hs.purse
 by_cases he:∃x∈pays s p,x.2≤d
 ·obtain⟨x,hx,hd,hm⟩:=C30 he
  refine⟨x,hx,?_⟩
  have e:S9 (pays s p) d=S9 (pays s p) x.2:= by
   unfold S9
   refine congrArg sm (Z1c fun y hy=>?_)
   by_cases hy2:y.2≤d
   ·rw[if_pos hy2,if_pos (hm y hy hy2)]
   ·rw[if_neg hy2,if_neg (by omega)]
  have:=C80 hi0 hd
  unfold N2
  omega
 ·have e:S9 (pays s p) d=0:= by
   unfold S9
   exact C2l fun x hx=>if_neg fun hc=>he ⟨x,hx,hc⟩
  have:=(A7f (fun x hx=>(A49 hs x hx).1) d).1
  unfold N2 at hn
  omega
theorem A8u {s:PaShow} (hs:ShOk s) {p:List PaUse} (h:PlU s p) {n:Int}:(M1 s p).1≤n↔0≤n∧∀ d,0≤d→-N2 s p d≤n:= by
 obtain⟨a1,a2,a3,_⟩:=A7e s p
 constructor
 ·intro hn
  refine⟨by omega,fun d hd=>?_⟩
  by_cases hc:N2 s p d<0
  ·obtain⟨y,hy,hyn⟩:=D4u hs h hc
   have:=a2 y hy (by omega)
   omega
  ·omega
 ·rintro⟨hn,hp⟩
  rcases a3 with e|⟨y,hy,hyn,e⟩
  ·omega
  ·have:=hp y.2 (A68 hs h y hy).2.1
   omega
theorem D2m {s:PaShow} (hs:ShOk s) {q:List PaUse} (h:PlU s q):(M1 s (q.map (nuU (M4 s)))).1≤(M1 s q).1:= by
 obtain⟨h1,h2⟩:=(A8u hs h).mp (Z00 _)
 refine(A8u hs (D67 hs h)).mpr ⟨h1,fun d hd=>?_⟩
 obtain⟨E,g1,g2⟩:=C8j hs h hd
 have:=h2 E (by omega)
 omega
theorem D9i {s:PaShow} (hs:ShOk s) {q:List PaUse} (h:PlOk s q):q.map (nuU (M4 s))∈PL s (M4 s) s.Figures.length []∧F8 (q.map (nuU (M4 s)))=F8 q:= by
 refine⟨(B1w hs (A1q hs)).mpr ⟨⟨D67 hs h.u,fun i hi=>?_⟩,fun x hx=>?_⟩,?_⟩
 ·rw[Zi]at hi
  rw[D3u (A9c _) hi];exact h.tw i hi
 ·obtain⟨z,hz,e⟩:=ZG.mp hx
  obtain⟨i,hi,e2⟩:=A1u hz
  have:=h.u.len
  rw[← e,← e2]
  exact(B3j hs.gown (hs.figure _ (M2 (by omega))) (A1q hs).zero (h.u.use i hi)).2.1
 ·unfold F8
  rw[Z0v]
  refine congrArg sm (Z1c fun x _=>?_)
  simp only[Function.comp,A9c]
theorem B2j {s:PaShow} (hs:ShOk s) {p:List PaUse} (h:PlU s p):0≤(M1 s p).1∧(M1 s p).1≤300000:=⟨(A7e s p).1,(A8u hs h).mpr ⟨by decide,fun d _=>by have:=C8c hs h d;omega⟩⟩
def A3k (s:PaShow):Int×Int:=match fm (C9q s) (PL s (M4 s) s.Figures.length []) with|some b=>(F8 b,(M1 s b).1)|none=>(1,0)
theorem B3i {s:PaShow} (hs:ShOk s):∃b,PlOk s b∧fm (C9q s) (PL s (M4 s) s.Figures.length [])=some b∧A3k s=(F8 b,(M1 s b).1)∧∀ q,PlOk s q→F8 b<F8 q∨(F8 b=F8 q∧(M1 s b).1≤(M1 s q).1):= by
 obtain⟨b,hb⟩:=C1n (k:=C9q s) ((B1w hs (A1q hs)).mpr ⟨(B59 hs).1.ok,(B59 hs).2⟩)
 have hbp:=((B1w hs (A1q hs)).mp (B6r hb)).1
 refine⟨b,hbp,hb,by unfold A3k;rw[hb],fun q hq=>?_⟩
 obtain⟨h1,h2⟩:=D9i hs hq
 have h3:=D2m hs hq.u
 have h4:=C7r hb h1
 have h5:=B2j hs hbp.u
 have h6:=B2j hs hq.u
 unfold C9q at h4
 omega
def C39 (s:PaShow):Int×Int:=if (A3k s).1>0∨(A3k s).2>10000 then (0,9) else if (A3k s).2=0 then (0,4) else ((A3k s).2,0)
theorem C7c (s:PaShow) (hb:NB s):A2g s=some (if (chk s).2.2=0 then C39 s else (0,(chk s).2.2)):= by
 unfold A2g
 rw[A5w s hb]
 simp only[Zf]
 by_cases h:(chk s).2.2=0
 ·have hs:=(A2s s).mp h
  simp only[h,if_true,BEq.rfl]
  rw[C1b (k:=C9q s) (L:=PL s (M4 s) s.Figures.length []) (F:=fdP s) (fun σ ρ body st X hX=>C21 hs (C83 hs) body hX) (fun p hp q hq=>by
   have h1:=C83 hs p hp
   have h2:=C83 hs q hq
   have h3:=A7g p
   have h4:=A7g q
   have h5:=h1.len
   have h6:=h2.len
   have h7:=B2j hs h1
   have h8:=B2j hs h2
   have h9:=hs.figures
   refine⟨if F8 p-F8 q=0 then (M1 s p).1-(M1 s q).1 else F8 p-F8 q,?_,?_⟩
   ·unfold A5e fdP
    simp only
    rw[G1 (by omega),G1 (by omega),or2]
    rfl
   ·unfold C9q
    split <;> omega)]
  obtain⟨b,_,e,hn,_⟩:=B3i hs
  rw[e]
  unfold C39
  rw[hn]
  simp only[Zf,stO,fdP]
  by_cases c:F8 b>0∨(M1 s b).1>10000
  ·rw[if_pos c,if_pos (by simpa using c)]
  ·rw[if_neg c,if_neg (by simpa using c)]
   by_cases hz:(M1 s b).1=0
   ·rw[if_pos hz,if_pos (by simpa using hz)]
   ·rw[if_neg hz,if_neg (by simpa using hz)]
 ·rw[if_neg h,if_neg (by simpa using h),if_neg h]
def Dom (s t:PaShow):Prop:=∀ p,PlOk s p→∃ q,PlOk t q∧F8 q=F8 p∧T8 t q≤T8 s p∧∀ d,0≤d→N2 s p d≤N2 t q d
theorem Dom.pay {s t:PaShow} (h:Dom s t) {p:List PaUse} (hp:Pay s p):∃q,Pay t q∧F8 q=F8 p∧T8 t q≤T8 s p:= by
 obtain⟨q,h1,h2,h3,h4⟩:=h p hp.ok
 exact⟨q,⟨h1,fun d hd=>Z5p (hp.left d hd) (h4 d hd)⟩,h2,h3⟩
theorem C7l {s t:PaShow} (hs:ShOk s) (ht:ShOk t) (h:Dom s t):A3d t≤A3d s:= by
 obtain⟨_,b,_,hb,hw⟩:=B6o hs
 obtain⟨hm,_⟩:=B6o ht
 obtain⟨q,h1,h2,_⟩:=h.pay hb
 have:=hm q h1
 omega
def bcost (s:PaShow):Int:=match fm (A3o s) (PA s) with|some b=>T8 s b|none=>0
theorem B6a {s:PaShow} (hs:ShOk s):(∃ b,Pay s b∧F8 b=A3d s∧T8 s b=bcost s)∧∀ q,Pay s q→F8 q=A3d s→bcost s≤T8 s q:= by
 obtain⟨b,e,hb,hmin,_⟩:=B2v hs
 have e1:A3d s=F8 b:= by unfold A3d;rw[e]
 have e2:bcost s=T8 s b:= by unfold bcost;rw[e]
 refine⟨⟨b,hb,e1.symm,e2.symm⟩,fun q hq hw=>?_⟩
 have:=hmin q hq
 unfold A3o at this
 omega
theorem C3h {s t:PaShow} (hs:ShOk s) (ht:ShOk t) (h:Dom s t) (hf:A3d t=A3d s):bcost t≤bcost s:= by
 obtain⟨⟨b,hb,hw,hc⟩,_⟩:=B6a hs
 obtain⟨_,hm⟩:=B6a ht
 obtain⟨q,h1,h2,h3⟩:=h.pay hb
 have:=hm q h1 (by omega)
 omega
theorem C2q {s:PaShow} (hb:NB s) (hs:ShOk s):∃b,A0f s=some (b,A3d s,bcost s,0):= by
 obtain⟨b,e,_⟩:=B2v hs
 refine⟨b,?_⟩
 rw[D35 s hb,(A2s s).mpr hs]
 unfold A3d bcost
 rw[e];rfl
theorem C3i {s t:PaShow} (hs:ShOk s) (ht:ShOk t) (h:Dom s t):(A3k t).1<(A3k s).1∨((A3k t).1=(A3k s).1∧(A3k t).2≤(A3k s).2):= by
 obtain⟨b,hb,_,e1,_⟩:=B3i hs
 obtain⟨c,hc,_,e2,hm⟩:=B3i ht
 rw[e1,e2]
 obtain⟨q,h1,h2,_,h4⟩:=h b hb
 have hq:=hm q h1
 have:(M1 t q).1≤(M1 s b).1:= by
  obtain⟨g1,g2⟩:=(A8u hs hb.u).mp (Z00 _)
  refine(A8u ht h1.u).mpr ⟨g1,fun d hd=>?_⟩
  have:=g2 d hd
  have:=h4 d hd
  omega
 show F8 c<F8 b∨(F8 c=F8 b∧_)
 omega
theorem B0y (l:List Int):sm l.reverse=sm l:= by
 induction l with
 | nil=>rfl
 | cons x l ih=>rw[List.reverse_cons,A6f,ih];simp only[sm];omega
def C6x (n:Nat) (u:PaUse):PaUse:=if u.Gown = -1 then u else ⟨(n:Int)-1-u.Gown,u.How,u.Day⟩
def V0 (s:PaShow):PaShow:=⟨s.Gowns.reverse,s.Figures.reverse,s.Purse,s.Incomes.reverse⟩
def A9n (s:PaShow) (p:List PaUse):List PaUse:=(p.map (C6x s.Gowns.length)).reverse
theorem C0y (s:PaShow):V0 (V0 s)=s:= by
 unfold V0
 simp only[List.reverse_reverse]
theorem A1z {s:PaShow} (hs:ShOk s):ShOk (V0 s):= by
 unfold V0
 refine⟨by simpa using hs.gowns,fun g hg=>hs.gown g (by simpa using hg),?_,by simpa using hs.figures,fun f hf=>hs.figure f (by simpa using hf),?_,hs.purse,by simpa using hs.incomes,fun x hx=>hs.income x (by simpa using hx)⟩
 ·show NmOk (s.Gowns.reverse.map _)
  rw[Z1n];exact hs.gname.reverse
 ·show NmOk (s.Figures.reverse.map _)
  rw[Z1n];exact hs.fname.reverse
theorem C2j {α:Type} [Inhabited α] {l:List α} {k:Nat} (h:k<l.length):l.reverse[k]! = l[l.length-1-k]!:= by
 rw[getElem!_pos _ k (by simpa using h),List.getElem_reverse,getElem!_pos l _ (by omega)]
theorem A9h {G:List PaGown} {y:PaFigure} {u:PaUse} (h:A2r G y u=0):A2r G.reverse y (C6x G.length u)=0∧A2j G.reverse y (C6x G.length u)=A2j G y u∧((C6x G.length u).Gown = -1↔u.Gown = -1):= by
 rcases U3.mp h with rfl|h'
 ·exact⟨U3.mpr (.inl Z),Z,Iff.rfl⟩
 ·have h1:=h'.lo
  have h2:=h'.hi
  have e:C6x G.length u=⟨(G.length:Int)-1-u.Gown,u.How,u.Day⟩:=if_neg (by omega)
  have eg:G.reverse[((G.length:Int)-1-u.Gown).toNat]! = G[u.Gown.toNat]!:= by
   rw[C2j (by omega)]
   congr 1
   omega
  refine⟨U3.mpr (.inr ?_),?_,?_⟩
  ·rw[e]
   refine⟨by show 0≤(G.length:Int)-1-u.Gown;omega,by rw[List.length_reverse];show (G.length:Int)-1-u.Gown<_;omega,?_,?_,?_⟩
   ·show A70 G.reverse[((G.length:Int)-1-u.Gown).toNat]! _=true
    rw[eg];exact h'.form
   ·show A9r G.reverse[((G.length:Int)-1-u.Gown).toNat]! _ _=false
    rw[eg];exact h'.late
   ·show B4g G.reverse[((G.length:Int)-1-u.Gown).toNat]! _=true
    rw[eg];exact h'.look
  ·rw[e]
   unfold A2j
   simp only
   have n1:¬ ((G.length:Int)-1-u.Gown = -1):= by omega
   have n2:¬ u.Gown = -1:= by omega
   simp only[n1,n2,if_false,eg]
  ·rw[e]
   show (G.length:Int)-1-u.Gown = -1↔_
   omega
theorem D51 {α β:Type} {l:List α} {m:List β} (h:l.length=m.length):l.reverse.zip m.reverse=(l.zip m).reverse:= by
 show Z42 Prod.mk l.reverse m.reverse=(Z42 Prod.mk l m).reverse
 rw[List.reverse_zipWith h]
theorem C8t {s:PaShow} {p:List PaUse} (h:p.length=s.Figures.length):(V0 s).Figures.zip (A9n s p)=((s.Figures.zip p).map fun z=>(z.1,C6x s.Gowns.length z.2)).reverse:= by
 unfold V0 A9n
 simp only
 rw[D51 (by simpa using h.symm),C2p]
theorem C43 {s:PaShow} {p:List PaUse} (h:PlU s p):pays (V0 s) (A9n s p)=(pays s p).reverse:= by
 obtain⟨h1,h2⟩:=C2e.mp h
 rw[A8j,A8j,C8t h1,Z1n,Z0v]
 congr 1
 exact Z1c fun z hz=>(A9h (h2 z hz)).2.1
theorem C5e (l:List (Int×Int)) (d:Int):S9 l.reverse d=S9 l d:= by
 unfold S9
 rw[Z1n,B0y]
theorem C42 {s:PaShow} {p:List PaUse} (h:PlU s p) (d:Int):N2 (V0 s) (A9n s p) d=N2 s p d:= by
 have e:incs (V0 s)=(incs s).reverse:= by
  unfold incs V0
  simp only
  rw[Z1n]
 unfold N2
 rw[C43 h,e,C5e,C5e];rfl
theorem B3y {s:PaShow} {p:List PaUse} (h:PlOk s p):PlOk (V0 s) (A9n s p)∧F8 (A9n s p)=F8 p∧T8 (V0 s) (A9n s p)=T8 s p:= by
 obtain⟨h1,h2,h3⟩:=C4p.mp h
 have hmem:∀u∈p,∃ y,A2r s.Gowns y u=0:=fun u hu=>by
  obtain⟨i,hi,rfl⟩:=A1u hu
  exact⟨_,h.u.use i hi⟩
 refine⟨C4p.mpr ⟨?_,fun z hz=>?_,?_⟩,?_,?_⟩
 ·unfold A9n V0;simpa using h1
 ·rw[C8t h1,List.mem_reverse]at hz
  obtain⟨w,hw,e⟩:=ZG.mp hz
  rw[← e]
  exact(A9h (h2 w hw)).1
 ·unfold A9n
  rw[List.pairwise_reverse,Z3u]
  refine h3.imp_of_mem fun {a b} ha hb hn=>?_
  obtain⟨y,hy⟩:=hmem a ha
  obtain⟨z,hz⟩:=hmem b hb
  have ra:=(A9h hy).2.2
  have rb:=(A9h hz).2.2
  unfold NT at hn ⊢
  rcases hn with e|e|e
  ·exact .inr (.inl (ra.mpr e))
  ·exact .inl (rb.mpr e)
  ·by_cases ca:a.Gown = -1
   ·exact .inr (.inl (ra.mpr ca))
   ·by_cases cb:b.Gown = -1
    ·exact .inl (rb.mpr cb)
    ·right;right
     unfold C6x
     rw[if_neg ca,if_neg cb]
     show (s.Gowns.length:Int)-1-b.Gown≠(s.Gowns.length:Int)-1-a.Gown
     omega
 ·unfold F8 A9n
  rw[Z1n,B0y,Z0v]
  refine congrArg sm (Z1c fun u hu=>?_)
  obtain⟨y,hy⟩:=hmem u hu
  have:=(A9h hy).2.2
  simp only[Function.comp,this]
 ·unfold T8
  rw[C43 h.u,Z1n,B0y]
theorem C8s {s:PaShow} {p:List PaUse} (h:Pay s p):Pay (V0 s) (A9n s p):=⟨(B3y h.ok).1,fun d hd=>by rw[C42 h.ok.u];exact h.left d hd⟩
theorem B5j (s:PaShow):Dom s (V0 s):=fun p hp=>⟨A9n s p,(B3y hp).1,(B3y hp).2.1,Z5q (B3y hp).2.2,fun d _=>Z5q (C42 hp.u d).symm⟩
theorem B6h (s:PaShow):Dom (V0 s) s:= by
 have:=B5j (V0 s)
 rwa [C0y]at this
theorem B1d {s:PaShow} (hs:ShOk s):A3d (V0 s)=A3d s:= by
 have h1:=C7l hs (A1z hs) (B5j s)
 have h2:=C7l (A1z hs) hs (B6h s)
 omega
theorem D1d {s:PaShow} (hs:ShOk s):bcost (V0 s)=bcost s:= by
 have h1:=C3h hs (A1z hs) (B5j s) (B1d hs)
 have h2:=C3h (A1z hs) hs (B6h s) (B1d hs).symm
 omega
theorem D2f {s:PaShow} (hs:ShOk s):C39 (V0 s)=C39 s:= by
 have h1:=C3i hs (A1z hs) (B5j s)
 have h2:=C3i (A1z hs) hs (B6h s)
 have e1:(A3k (V0 s)).1=(A3k s).1:= by omega
 have e2:(A3k (V0 s)).2=(A3k s).2:= by omega
 unfold C39
 rw[e1,e2]
theorem D3l {s:PaShow} {p:List PaUse} (h:PlU s p) {k:Nat} (hk:k<p.length):(A9n s p)[k]!.Gown = -1↔p[p.length-1-k]!.Gown = -1:= by
 unfold A9n
 rw[C2j (by simpa using hk),Zi,C12 (by omega)]
 exact(A9h (h.use (p.length-1-k) (by omega))).2.2
theorem C0j {s:PaShow} (hs:ShOk s) {k:Nat} (hk:k<s.Figures.length) (h:A3j (V0 s) k=true):A3j s (s.Figures.length-1-k)=true:= by
 have hl:(V0 s).Figures.length=s.Figures.length:= by unfold V0;simp
 rw[C38 (A1z hs) (by rw[hl];exact hk)]at h
 rw[C38 hs (by omega)]
 intro p hp hw
 have:=h (A9n s p) (C8s hp) (by rw[(B3y hp.ok).2.1,B1d hs,hw])
 have hpl:=hp.ok.u.len
 rw[D3l hp.ok.u (by omega),hpl]at this
 exact this
theorem C36 {s:PaShow} (hs:ShOk s) {k:Nat} (hk:k<s.Figures.length) (h:A9l s (s.Figures.length-1-k)=true):A9l (V0 s) k=true:= by
 have hl:(V0 s).Figures.length=s.Figures.length:= by unfold V0;simp
 rw[C8g (A1z hs) (by rw[hl];exact hk)]
 rw[C8g hs (by omega)]at h
 obtain⟨p,hp,hw,hg⟩:=h
 have hpl:=hp.ok.u.len
 exact⟨A9n s p,C8s hp,by rw[(B3y hp.ok).2.1,B1d hs,hw],by rw[D3l hp.ok.u (by omega),hpl];exact hg⟩
theorem C25 {s:PaShow} (hs:ShOk s) {k:Nat} (hk:k<s.Figures.length):A3j (V0 s) k=A3j s (s.Figures.length-1-k)∧A9l (V0 s) k=A9l s (s.Figures.length-1-k):= by
 have hl:(V0 s).Figures.length=s.Figures.length:= by unfold V0;simp
 have e:s.Figures.length-1-(s.Figures.length-1-k)=k:= by omega
 have r1:=C0j (A1z hs) (k:=s.Figures.length-1-k) (by omega)
 have r2:=C36 (A1z hs) (k:=s.Figures.length-1-k) (by omega)
 rw[C0y,hl,e]at r1 r2
 constructor
 ·rw[Z03];exact⟨C0j hs hk,r1⟩
 ·rw[Z03];exact⟨r2,C36 hs hk⟩
theorem D1q {q r:Nat→Bool} {n:Nat} (hn:n≤3) (h:∀k,k<n→r k=q (n-1-k)):(fsL r n).length=(fsL q n).length:= by
 have e0:∀q,fsL q 0=[]:=fun _=>rfl
 rcases (by omega:n=0∨n=1∨n=2∨n=3) with rfl|rfl|rfl|rfl
 ·rfl
 ·have:=h 0 (by omega)
  rw[A50,A50,this,e0,e0]
 ·have h0:=h 0 (by omega)
  have h1:=h 1 (by omega)
  simp only[A50,h0,h1,e0]
  show _=(if q 1 then (if q 0 then []++[((0:Nat):Int)] else [])++[((1:Nat):Int)] else if q 0 then []++[((0:Nat):Int)] else []).length
  cases q 0 <;> cases q 1 <;> simp_all
 ·have h0:=h 0 (by omega)
  have h1:=h 1 (by omega)
  have h2:=h 2 (by omega)
  simp only[A50,h0,h1,h2,e0]
  cases hq0:q 0 <;> cases hq1:q 1 <;> cases hq2:q 2 <;> simp_all
end Pw
end
section
set_option maxRecDepth 100000
set_option maxHeartbeats 0
namespace Pw
open Go Am Go.Proofs.Ytjpjdglddmhplaa.Cd
def A1h (a0:Int) (a1:Int) (a2:Int):Option PaUse :=
 some (PaUse.mk a0 a1 a2)
theorem A0e {c:Sc} {H:A1} {a0:Int} {a1:Int} {a2:Int} {r:PaUse} (h:A1h a0 a1 a2=some r) :
  E7 tab c H (.fn (.func 16) [] []) [.i a0,.i a1,.i a2] [(.agg (B1 r))]:= by
 unfold A1h at h
 refine cE Z Z<|sg 0 Z<|A0 I4 Z<|es (ra4 Z Z Z Z)<|s0<|qm Z<|qm Z<|qm Z<|A0 (Q7 (cs:=B1 (PaUse.mk a0 a1 a2)) Z Z) Z<|N5 (E4 (ds:=(B1 (PaUse.mk a0 a1 a2))) Z Z Z Z (D9 Z) Z) Z<|es (ra1 Z)<|C7 ?_
 obtain rfl:=os h
 exact retq trivial (A9i (A2u (ds:=B1 (PaUse.mk a0 a1 a2)) Z Z Z Z) B8) (A4 (B3q Z) B7) (A3 (B2t Z) A8)
def A18 :Option (List PaUse) :=
 (A1h 0 1 0).bind fun x1 =>
 (A1h 1 0 0).bind fun x2 =>
 (A1h 2 2 0).bind fun x3 =>
 some [x1,x2,x3]
theorem A2v {c:Sc} {H:A1}  {r:(List PaUse)} (h:A18  = some r) :
  E7 tab c H (.fn (.func 12) [] []) [] [(.seq 3 (Zg B1 r))]:= by
 unfold A18 at h
 refine cE Z Z<|s0<|qm Z<|es .n<|s0<|oB h fun x1 hx1 h=>oB h fun x2 hx2 h=>oB h fun x3 hx3 h=>C2 (rs:=[(.agg (B1 x1))]) Z Z (A2 Z (A2 Z (A2 Z B9))) ((A0e hx1).frz)<|C2 (rs:=[(.agg (B1 x2))]) Z Z (A2 Z (A2 Z (A2 Z B9))) ((A0e hx2).frz)<|C2 (rs:=[(.agg (B1 x3))]) Z Z (A2 Z (A2 Z (A2 Z B9))) ((A0e hx3).frz)<|A0 (I9 (rows:=Zg B1 [x1,x2,x3]) Z Z (D8 (fun _=>rfl) _)) Z<|qm Z<|es (ra1 Z)<|C7 ?_
 obtain rfl:=os h
 exact retq trivial (A6 Z B8) (A4 Z B7) (A3 N3 A8)
def A6z (a0:Bool):Option PaShow :=
 if a0=true then
  some (PaShow.mk ((PaShow.mk [(PaGown.mk (ByteArray.mk #[114,101,100]) 3 true 90 10 3 20 100),(PaGown.mk (ByteArray.mk #[98,108,117,101]) 1 false 0 0 0 0 0),(PaGown.mk (ByteArray.mk #[103,111,108,100]) 7 true 120 5 8 0 60)] [(PaFigure.mk (ByteArray.mk #[113,117,101,101,110]) 50 59 2),(PaFigure.mk (ByteArray.mk #[98,105,115,104,111,112]) 20 80 1),(PaFigure.mk (ByteArray.mk #[108,97,100,121]) 45 50 4)] 100 [(PaIncome.mk 40 150)]).Gowns) ((PaShow.mk [(PaGown.mk (ByteArray.mk #[114,101,100]) 3 true 90 10 3 20 100),(PaGown.mk (ByteArray.mk #[98,108,117,101]) 1 false 0 0 0 0 0),(PaGown.mk (ByteArray.mk #[103,111,108,100]) 7 true 120 5 8 0 60)] [(PaFigure.mk (ByteArray.mk #[113,117,101,101,110]) 50 59 2),(PaFigure.mk (ByteArray.mk #[98,105,115,104,111,112]) 20 80 1),(PaFigure.mk (ByteArray.mk #[108,97,100,121]) 45 50 4)] 100 [(PaIncome.mk 40 150)]).Figures) 20 ([]:List PaIncome))
 else
  some (PaShow.mk [(PaGown.mk (ByteArray.mk #[114,101,100]) 3 true 90 10 3 20 100),(PaGown.mk (ByteArray.mk #[98,108,117,101]) 1 false 0 0 0 0 0),(PaGown.mk (ByteArray.mk #[103,111,108,100]) 7 true 120 5 8 0 60)] [(PaFigure.mk (ByteArray.mk #[113,117,101,101,110]) 50 59 2),(PaFigure.mk (ByteArray.mk #[98,105,115,104,111,112]) 20 80 1),(PaFigure.mk (ByteArray.mk #[108,97,100,121]) 45 50 4)] 100 [(PaIncome.mk 40 150)])
theorem A9x {c:Sc} {H:A1} {a0:Bool} {r:PaShow} (h:A6z a0=some r) :
  E7 tab c H (.fn (.func 7) [] []) [.b a0] [(.agg (B3 r))]:= by
 unfold A6z at h
 refine cE Z Z<|sg 0 Z<|A0 I4 Z<|es (ra2 Z Z)<|sg 1 Z<|A0 (Q7 (cs:=C0 (PaGown.mk (ByteArray.mk #[114,101,100]) 3 true 90 10 3 20 100)) Z Z) Z<|A0 (Q7 (cs:=C0 (PaGown.mk (ByteArray.mk #[98,108,117,101]) 1 false 0 0 0 0 0)) Z Z) Z<|A0 (Q7 (cs:=C0 (PaGown.mk (ByteArray.mk #[103,111,108,100]) 7 true 120 5 8 0 60)) Z Z) Z<|A0 (I9 (rows:=Zg C0 [(PaGown.mk (ByteArray.mk #[114,101,100]) 3 true 90 10 3 20 100),(PaGown.mk (ByteArray.mk #[98,108,117,101]) 1 false 0 0 0 0 0),(PaGown.mk (ByteArray.mk #[103,111,108,100]) 7 true 120 5 8 0 60)]) Z Z (D8 (fun _=>rfl) _)) Z<|A0 (Q7 (cs:=B2 (PaFigure.mk (ByteArray.mk #[113,117,101,101,110]) 50 59 2)) Z Z) Z<|A0 (Q7 (cs:=B2 (PaFigure.mk (ByteArray.mk #[98,105,115,104,111,112]) 20 80 1)) Z Z) Z<|A0 (Q7 (cs:=B2 (PaFigure.mk (ByteArray.mk #[108,97,100,121]) 45 50 4)) Z Z) Z<|A0 (I9 (rows:=Zg B2 [(PaFigure.mk (ByteArray.mk #[113,117,101,101,110]) 50 59 2),(PaFigure.mk (ByteArray.mk #[98,105,115,104,111,112]) 20 80 1),(PaFigure.mk (ByteArray.mk #[108,97,100,121]) 45 50 4)]) Z Z (D8 (fun _=>rfl) _)) Z<|A0 (Q7 (cs:=C8 (PaIncome.mk 40 150)) Z Z) Z<|A0 (I9 (rows:=Zg C8 [(PaIncome.mk 40 150)]) Z Z (D8 (fun _=>rfl) _)) Z<|A0 (Q7 (cs:=B3 (PaShow.mk [(PaGown.mk (ByteArray.mk #[114,101,100]) 3 true 90 10 3 20 100),(PaGown.mk (ByteArray.mk #[98,108,117,101]) 1 false 0 0 0 0 0),(PaGown.mk (ByteArray.mk #[103,111,108,100]) 7 true 120 5 8 0 60)] [(PaFigure.mk (ByteArray.mk #[113,117,101,101,110]) 50 59 2),(PaFigure.mk (ByteArray.mk #[98,105,115,104,111,112]) 20 80 1),(PaFigure.mk (ByteArray.mk #[108,97,100,121]) 45 50 4)] 100 [(PaIncome.mk 40 150)])) Z Z) Z<|A0 I4 Z<|N5 (E4 (ds:=(B3 (PaShow.mk [(PaGown.mk (ByteArray.mk #[114,101,100]) 3 true 90 10 3 20 100),(PaGown.mk (ByteArray.mk #[98,108,117,101]) 1 false 0 0 0 0 0),(PaGown.mk (ByteArray.mk #[103,111,108,100]) 7 true 120 5 8 0 60)] [(PaFigure.mk (ByteArray.mk #[113,117,101,101,110]) 50 59 2),(PaFigure.mk (ByteArray.mk #[98,105,115,104,111,112]) 20 80 1),(PaFigure.mk (ByteArray.mk #[108,97,100,121]) 45 50 4)] 100 [(PaIncome.mk 40 150)]))) Z Z Z Z (D9 Z) Z) Z<|es (ra3 Z Z Z)<|C3<|s0<|qm Z<|es (ra3 Z Z Z)<|wi h Z (fun hc1 h=>?_) fun hc1 h=>?_
 ·refine r0<|A0 (C1 Z) Z<|N5 (E4 (ds:=(B3 (PaShow.mk ((PaShow.mk [(PaGown.mk (ByteArray.mk #[114,101,100]) 3 true 90 10 3 20 100),(PaGown.mk (ByteArray.mk #[98,108,117,101]) 1 false 0 0 0 0 0),(PaGown.mk (ByteArray.mk #[103,111,108,100]) 7 true 120 5 8 0 60)] [(PaFigure.mk (ByteArray.mk #[113,117,101,101,110]) 50 59 2),(PaFigure.mk (ByteArray.mk #[98,105,115,104,111,112]) 20 80 1),(PaFigure.mk (ByteArray.mk #[108,97,100,121]) 45 50 4)] 100 [(PaIncome.mk 40 150)]).Gowns) ((PaShow.mk [(PaGown.mk (ByteArray.mk #[114,101,100]) 3 true 90 10 3 20 100),(PaGown.mk (ByteArray.mk #[98,108,117,101]) 1 false 0 0 0 0 0),(PaGown.mk (ByteArray.mk #[103,111,108,100]) 7 true 120 5 8 0 60)] [(PaFigure.mk (ByteArray.mk #[113,117,101,101,110]) 50 59 2),(PaFigure.mk (ByteArray.mk #[98,105,115,104,111,112]) 20 80 1),(PaFigure.mk (ByteArray.mk #[108,97,100,121]) 45 50 4)] 100 [(PaIncome.mk 40 150)]).Figures) 20 ((PaShow.mk [(PaGown.mk (ByteArray.mk #[114,101,100]) 3 true 90 10 3 20 100),(PaGown.mk (ByteArray.mk #[98,108,117,101]) 1 false 0 0 0 0 0),(PaGown.mk (ByteArray.mk #[103,111,108,100]) 7 true 120 5 8 0 60)] [(PaFigure.mk (ByteArray.mk #[113,117,101,101,110]) 50 59 2),(PaFigure.mk (ByteArray.mk #[98,105,115,104,111,112]) 20 80 1),(PaFigure.mk (ByteArray.mk #[108,97,100,121]) 45 50 4)] 100 [(PaIncome.mk 40 150)]).Incomes)))) Z Z Z Z (D9 Z) Z) Z<|A0 (C1 Z) Z<|N5 (E4 (ds:=(B3 (PaShow.mk ((PaShow.mk [(PaGown.mk (ByteArray.mk #[114,101,100]) 3 true 90 10 3 20 100),(PaGown.mk (ByteArray.mk #[98,108,117,101]) 1 false 0 0 0 0 0),(PaGown.mk (ByteArray.mk #[103,111,108,100]) 7 true 120 5 8 0 60)] [(PaFigure.mk (ByteArray.mk #[113,117,101,101,110]) 50 59 2),(PaFigure.mk (ByteArray.mk #[98,105,115,104,111,112]) 20 80 1),(PaFigure.mk (ByteArray.mk #[108,97,100,121]) 45 50 4)] 100 [(PaIncome.mk 40 150)]).Gowns) ((PaShow.mk [(PaGown.mk (ByteArray.mk #[114,101,100]) 3 true 90 10 3 20 100),(PaGown.mk (ByteArray.mk #[98,108,117,101]) 1 false 0 0 0 0 0),(PaGown.mk (ByteArray.mk #[103,111,108,100]) 7 true 120 5 8 0 60)] [(PaFigure.mk (ByteArray.mk #[113,117,101,101,110]) 50 59 2),(PaFigure.mk (ByteArray.mk #[98,105,115,104,111,112]) 20 80 1),(PaFigure.mk (ByteArray.mk #[108,97,100,121]) 45 50 4)] 100 [(PaIncome.mk 40 150)]).Figures) 20 ([]:List PaIncome)))) Z Z Z Z (D9 Z) Z) Z<|en (ra2 Z Z)<|s0<|A0 (E8 Z Z Z) Z<|N5 (E4 (ds:=(B3 (PaShow.mk ((PaShow.mk [(PaGown.mk (ByteArray.mk #[114,101,100]) 3 true 90 10 3 20 100),(PaGown.mk (ByteArray.mk #[98,108,117,101]) 1 false 0 0 0 0 0),(PaGown.mk (ByteArray.mk #[103,111,108,100]) 7 true 120 5 8 0 60)] [(PaFigure.mk (ByteArray.mk #[113,117,101,101,110]) 50 59 2),(PaFigure.mk (ByteArray.mk #[98,105,115,104,111,112]) 20 80 1),(PaFigure.mk (ByteArray.mk #[108,97,100,121]) 45 50 4)] 100 [(PaIncome.mk 40 150)]).Gowns) ((PaShow.mk [(PaGown.mk (ByteArray.mk #[114,101,100]) 3 true 90 10 3 20 100),(PaGown.mk (ByteArray.mk #[98,108,117,101]) 1 false 0 0 0 0 0),(PaGown.mk (ByteArray.mk #[103,111,108,100]) 7 true 120 5 8 0 60)] [(PaFigure.mk (ByteArray.mk #[113,117,101,101,110]) 50 59 2),(PaFigure.mk (ByteArray.mk #[98,105,115,104,111,112]) 20 80 1),(PaFigure.mk (ByteArray.mk #[108,97,100,121]) 45 50 4)] 100 [(PaIncome.mk 40 150)]).Figures) 20 ([]:List PaIncome)))) Z Z Z Z (D9 Z) Z) Z<|es (ra1 Z)<|C7 ?_
  obtain rfl:=os h
  exact retq trivial (A9i (A2u (ds:=B3 (PaShow.mk ((PaShow.mk [(PaGown.mk (ByteArray.mk #[114,101,100]) 3 true 90 10 3 20 100),(PaGown.mk (ByteArray.mk #[98,108,117,101]) 1 false 0 0 0 0 0),(PaGown.mk (ByteArray.mk #[103,111,108,100]) 7 true 120 5 8 0 60)] [(PaFigure.mk (ByteArray.mk #[113,117,101,101,110]) 50 59 2),(PaFigure.mk (ByteArray.mk #[98,105,115,104,111,112]) 20 80 1),(PaFigure.mk (ByteArray.mk #[108,97,100,121]) 45 50 4)] 100 [(PaIncome.mk 40 150)]).Gowns) ((PaShow.mk [(PaGown.mk (ByteArray.mk #[114,101,100]) 3 true 90 10 3 20 100),(PaGown.mk (ByteArray.mk #[98,108,117,101]) 1 false 0 0 0 0 0),(PaGown.mk (ByteArray.mk #[103,111,108,100]) 7 true 120 5 8 0 60)] [(PaFigure.mk (ByteArray.mk #[113,117,101,101,110]) 50 59 2),(PaFigure.mk (ByteArray.mk #[98,105,115,104,111,112]) 20 80 1),(PaFigure.mk (ByteArray.mk #[108,97,100,121]) 45 50 4)] 100 [(PaIncome.mk 40 150)]).Figures) 20 ([]:List PaIncome))) Z Z Z Z) B8) (A4 (B3q Z) B7) (A3 (B2t Z) A8)
 ·refine C6<|s0<|A0 (E8 Z Z Z) Z<|N5 (E4 (ds:=(B3 (PaShow.mk [(PaGown.mk (ByteArray.mk #[114,101,100]) 3 true 90 10 3 20 100),(PaGown.mk (ByteArray.mk #[98,108,117,101]) 1 false 0 0 0 0 0),(PaGown.mk (ByteArray.mk #[103,111,108,100]) 7 true 120 5 8 0 60)] [(PaFigure.mk (ByteArray.mk #[113,117,101,101,110]) 50 59 2),(PaFigure.mk (ByteArray.mk #[98,105,115,104,111,112]) 20 80 1),(PaFigure.mk (ByteArray.mk #[108,97,100,121]) 45 50 4)] 100 [(PaIncome.mk 40 150)]))) Z Z Z Z (D9 Z) Z) Z<|es (ra1 Z)<|C7 ?_
  obtain rfl:=os h
  exact retq trivial (A9i (A2u (ds:=B3 (PaShow.mk [(PaGown.mk (ByteArray.mk #[114,101,100]) 3 true 90 10 3 20 100),(PaGown.mk (ByteArray.mk #[98,108,117,101]) 1 false 0 0 0 0 0),(PaGown.mk (ByteArray.mk #[103,111,108,100]) 7 true 120 5 8 0 60)] [(PaFigure.mk (ByteArray.mk #[113,117,101,101,110]) 50 59 2),(PaFigure.mk (ByteArray.mk #[98,105,115,104,111,112]) 20 80 1),(PaFigure.mk (ByteArray.mk #[108,97,100,121]) 45 50 4)] 100 [(PaIncome.mk 40 150)])) Z Z Z Z) B8) (A4 (B3q Z) B7) (A3 (B2t Z) A8)
def Y4 (a0:PaUse) (a1:Int):Option Bool :=
 some ((a0.Gown==a1)&&(a0.How==1))
theorem A8g {c:Sc} {H:A1} {a0:PaUse} {a1:Int} {b1:Nat} (hb1:hcells H b1=some (cI a1)) {r:Bool} (h:Y4 a0 a1=some r) :
  E7 tab c H (.fn (.func 74) [] []) [(.agg (B1 a0)),.ptr b1 0] [.b r]:= by
 unfold Y4 at h
 refine cE Z Z<|sg 0 Z<|A0 (F9 (cs:=B1 a0) Z Z Z) Z<|qm Z<|es (ra2 Z Z)<|s0<|A0 (C1 Z) Z<|A0 (B4 Z Z Z) Z<|A0 (F1 Z hb1 Z) Z<|A0 (I3 Z Z) Z<|qm Z<|gp 4 12 (.b ((a0.Gown==a1)&&(a0.How==1))) 8 Z Z (fun hg1=>?_) (fun hg1=>?_) ?_
 ·exact gT Z hg1<|A0 (C1 Z) Z<|gT Z hg1<|A0 (B4 Z Z Z) Z<|gT Z hg1<|A0 (I3 Z Z) Z<|A0 (D0 Z hg1 Z) Z<|ge 4 (by rw[hg1];rfl) Z Z
 ·exact nT Z hg1 Z<|nT Z hg1 Z<|nT Z hg1 Z<|A0 (C9 Z hg1 Z) Z<|ge 4 (by rw[hg1];rfl) Z Z
 refine qm Z<|es (ra1 Z)<|C7 ?_
 obtain rfl:=os h
 exact retq trivial (A6 Z B8) (A4 Z B7) (A3 A5 A8)
def A3h (a0:pawn_show) (a1:(List PaUse)) (a2:Int):Option Bool :=
 (E3 a1 (fun (y:PaUse)=>Y4 y a2)).bind fun x1 =>
 some x1
theorem B0n {c:Sc} {H:A1} {a0:pawn_show} {b0:Nat} (hb0:hcells H b0=some [(.seq 8 (Zg C0 a0.PaShow.Gowns)),(.seq 4 (Zg B2 a0.PaShow.Figures)),.i a0.PaShow.Purse,(.seq 2 (Zg C8 a0.PaShow.Incomes)),(.fn (.func 41) [] []),(.fn (.func 42) [] []),(.fn (.func 43) [] []),(.fn (.func 25) [] []),(.fn (.func 44) [] []),(.fn (.func 45) [] []),(.fn (.func 26) [] []),(.fn (.func 46) [] []),(.fn (.func 47) [] []),(.seq 1 (Zg cI a0.days_))]) {a1:(List PaUse)} {a2:Int} {r:Bool} (h:A3h a0 a1 a2=some r) :
  E7 tab c H (.fn (.func 57) [] []) [.ptr b0 0,(.seq 3 (Zg B1 a1)),.i a2] [.b r]:= by
 unfold A3h at h
 refine cE Z Z<|sg 0 Z<|A0 (F9 (cs:=cI a2) Z Z Z) Z<|qm Z<|es (ra2 Z Z)<|s0<|oB h fun x1 hx1 h=>qm Z<|A0 (A2b Z Z) Z<|C2 (rs:=[.b x1]) Z Z (A2 Z (A2 Z B9)) ((W6 (show Impl _ _ 74 [] [(.ptr (H.length+0) 0)] (fun (y:PaUse)=>Y4 y a2) (fun (y:PaUse)=>[(.agg (B1 y))]) (fun (y:Bool)=>[.b y]) from ⟨⟨A8,(by rw[Zo];exact(A3 (N1 Z) A8))⟩,fun H' hle hag c y r hr=>(A13 (A8g (hag _ _ (D6 Z)) hr)).frz⟩) hx1).frz)<|qm Z<|es (ra1 Z)<|C7 ?_
 obtain rfl:=os h
 exact retq trivial (A6 Z B8) (A4 Z B7) (A3 A5 A8)
def B13 (a0:PaShow) (a1:(List PaUse)) (x1:(Int×(List Int))) (s4:(Int×(List Int))):Option ((Int×(List Int))⊕(List Int)) :=
 if (decide (s4.1<(Zh a0.Gowns:Int)))=true then
  (idx a0.Gowns s4.1).bind fun x7 =>
  (if (x7.Pawn&&(decide (x7.Last<364)))=true then
  (A3h (pawn_show.mk a0 (Ar3.mk (pawn_way.mk ) (pawn_way.mk ) (pawn_way.mk )) x1.2) a1 s4.1).bind fun x10 =>
  some (!x10)
  else
  some false).bind fun x11 =>
  if x11=true then
  (app 8 s4.2 [s4.1]).bind fun x13 =>
  some (.inl ((w64 (s4.1+1)),x13))
  else
  some (.inl ((w64 (s4.1+1)),s4.2))
 else
  some (.inr s4.2)
def B3u (a0:PaShow) (a1:(List PaUse)):Option ((List Int)×Int) :=
 (A1v a0 a1).bind fun x1 =>
 if (x1.1==0)=true then
  (loop (B13 a0 a1 x1) (0,([]:List Int))).bind fun (o14:(List Int)) =>
  some (o14,0)
 else
  some (([]:List Int),x1.1)
theorem C2a {c:Sc} {H:A1} {a0:PaShow} {a1:(List PaUse)} {r:((List Int)×Int)} (h:B3u a0 a1=some r) :
  E7 tab c H (.fn (.func 35) [] []) [(.agg (B3 a0)),(.seq 3 (Zg B1 a1))] [(.fresh 1 (Zg cI r.1)),.i r.2]:= by
 unfold B3u at h
 refine cE Z Z<|sg 0 Z<|A0 (F9 (cs:=B3 a0) Z Z Z) Z<|A0 A7k Z<|qm Z<|es (ra3 Z Z Z)<|s0<|oB h fun x1 hx1 h=>A0 (E8 Z Z Z) Z<|qm Z ?_
 by_cases hc2:(x1.1==0)=true
 ·rw[if_pos hc2]at h
  obtain⟨X3,hX3⟩:=A8l hx1 hc2
  refine O2 (A2x hX3 Z Z (A2 (E1 Z) (A2 Z B9)) Z) Z<|qm Z<|A0 (A9 Z Z) Z<|A0 (A9 Z Z) Z<|qm Z<|qm Z<|es (ra5 Z Z Z Z Z)<|C3<|s0<|qm Z<|A0 (T2 (v:=(.b false)) Z Z Z) Z<|es (ra6 Z Z Z Z Z Z)<|P9 Z Z<|C6<|s0<|qm Z<|A0 (A2b Z Z) Z<|qm Z<|es (ra4 Z Z Z Z)<|C3<|s0<|A0 (C1 Z) Z<|A0 (B4 Z Z Z) Z<|A0 (G0 (f:=C0) Z) Z<|qm Z<|es (ra6 Z Z Z Z Z Z)<|C5<|oB h fun o14 ho14 h=>wl (fun s4=>[(1,(.seq 3 (Zg B1 a1))),(4,(.asl (H.length+1) (Zh s4.2))),(7,(.fn (.func 57) [(.ptr (H.length+5) 0)] [])),(22,(.seq 8 (Zg C0 a0.Gowns))),(23,(.i (Zh a0.Gowns:Int))),(24,.i s4.1)]) (fun (q5:Unit) s4=>[(.cells (B3 a0)),(.arr 1 false (Zg cI s4.2)),(.cells (B3 a0)),(.cells (B3 a0)),X3,(.cells [(.seq 8 (Zg C0 a0.Gowns)),(.seq 4 (Zg B2 a0.Figures)),.i a0.Purse,(.seq 2 (Zg C8 a0.Incomes)),(.fn (.func 41) [] []),(.fn (.func 42) [] []),(.fn (.func 43) [] []),(.fn (.func 25) [] []),(.fn (.func 44) [] []),(.fn (.func 45) [] []),(.fn (.func 26) [] []),(.fn (.func 46) [] []),(.fn (.func 47) [] []),(.seq 1 (Zg cI x1.2))])]) 6 (fun r e s' H'=>PX 0 [(4,(.asl (H.length+1) (Zh r)))] (H++[(.cells (B3 a0)),(.arr 1 false (Zg cI r)),(.cells (B3 a0)),(.cells (B3 a0)),X3,(.cells [(.seq 8 (Zg C0 a0.Gowns)),(.seq 4 (Zg B2 a0.Figures)),.i a0.Purse,(.seq 2 (Zg C8 a0.Incomes)),(.fn (.func 41) [] []),(.fn (.func 42) [] []),(.fn (.func 43) [] []),(.fn (.func 25) [] []),(.fn (.func 44) [] []),(.fn (.func 45) [] []),(.fn (.func 26) [] []),(.fn (.func 46) [] []),(.fn (.func 47) [] []),(.seq 1 (Zg cI x1.2))])]) e s' H') () ho14 Z Z (fun _ _=>rfl) (fun _=>rfl) Z (fun s4=>(bdc N3 (bdc (A3b Z) (bdc (D6j (A3 (N1 Z) A8) A8) (bdc N3 (bdc A5 (bdc A5 bdn))))))) (fun q5 s4 ys4 hs4=>?_) ?_
  ·unfold B13 at hs4
   refine s0<|A0 (L8 Z Z) Z<|es (ra7 Z Z Z Z Z Z Z)<|C3<|wi hs4 Z (fun hc6 hs4=>?_) fun hc6 hs4=>?_
   ·refine C6<|C3<|C5<|sg 6 Z<|oB hs4 fun x7 hx7 hs4=>qm Z<|A0 (G6 (f:=C0) Z Z hx7) Z<|A0 (G7 Z Z) Z<|A0 I4 Z<|qm Z<|N5 (E4 (ds:=(C0 x7)) Z Z Z Z (D9 Z) Z) Z<|es (ra8 Z Z Z Z Z Z Z Z)<|s0<|oB hs4 fun x11 hx11 hs4=>A0 (C1 Z) Z<|A0 (B4 Z Z Z) Z<|qm Z<|gp 4 35 (.b (x7.Pawn&&(decide (x7.Last<364)))) 31 Z Z (fun hg8=>?_) (fun hg8=>?_) ?_
    ·exact gT Z hg8<|A0 (C1 Z) Z<|gT Z hg8<|A0 (B4 Z Z Z) Z<|gT Z hg8<|A0 (L8 Z Z) Z<|A0 (D0 Z hg8 Z) Z<|ge 4 (by rw[hg8];rfl) Z Z
    ·exact nT Z hg8 Z<|nT Z hg8 Z<|nT Z hg8 Z<|A0 (C9 Z hg8 Z) Z<|ge 4 (by rw[hg8];rfl) Z Z
    refine qm Z<|gp 6 42 (.b x11) 36 Z Z (fun hg9=>?_) (fun hg9=>?_) ?_
    ·refine oB (bt hx11 hg9) fun x10 hx10 hx11=>?_
     obtain rfl:=os hx11
     exact gT Z hg9<|qm Z<|gT Z hg9<|qm Z<|gT Z hg9<|qm Z<|gT Z hg9<|C2 (rs:=[.b x10]) Z Z (A2 Z (A2 Z B9)) ((A13 (B0n (D6 Z) hx10)).frz)<|gT Z hg9<|A0 (Y6 Z) Z<|A0 (D0 Z hg9 Z) Z<|ge 6 Z Z Z
    ·obtain rfl:=os (bf hx11 hg9)
     exact nT Z hg9 Z<|nT Z hg9 Z<|nT Z hg9 Z<|L2 (F4 Z (by rw[hg9];rfl)) Z<|nT Z hg9 Z<|A0 (C9 Z hg9 Z) Z<|ge 6 Z Z Z
    refine es (ra8 Z Z Z Z Z Z Z Z)<|wi hs4 Z (fun hc12 hs4=>?_) fun hc12 hs4=>?_
    ·refine r0<|oB hs4 fun x13 hx13 hs4=>qm Z<|qm Z<|A0 (I9 (rows:=Zg cI [s4.1]) Z Z (D8 (fun _=>rfl) _)) Z<|O2 (A4l (f:=cI) Z Z Z Z A1w (fun _=>rfl) hx13) Z<|qm Z<|en (ra6 Z Z Z Z Z Z)<|r0<|A0 (H6 Z Z) Z<|qm Z<|en (ra6 Z Z Z Z Z Z) ?_
     cases hs4
     exact lnT () Z (su6 Z Z Z Z Z Z)
    ·refine C6<|r0<|A0 (H6 Z Z) Z<|qm Z<|en (ra6 Z Z Z Z Z Z) ?_
     cases hs4
     exact lnT () Z (su6 Z Z Z Z Z Z)
   ·refine J1 ?_
    obtain rfl:=os hs4
    exact lx Z px (su1 Z)
  ·rintro e s' H'-⟨rfl,rfl,rfl⟩
   refine s0<|qm Z<|qm Z<|qm Z<|es (ra2 Z Z)<|C7 ?_
   obtain rfl:=os h
   exact retq trivial (A6 Z (A6 Z B8)) (A4 (A63 Z (Zi _)) (A4 Z B7)) (A3 A0o (A3 A5 A8))
 ·rw[if_neg hc2]at h
  refine O2 (P6 (rs:=[.lit (.pointer none),.i x1.1]) Z Z (A2 (E1 Z) (A2 Z B9)) (A8k hx1 (by simpa using hc2)) Z) Z<|qm Z<|A0 (A9 Z Z) Z<|A0 (A9 Z Z) Z<|qm Z<|qm Z<|es (ra5 Z Z Z Z Z)<|C3<|s0<|qm Z<|A0 (Q2 Z Z) Z<|es (ra6 Z Z Z Z Z Z)<|N7 Z (nef hc2)<|sg 2 Z<|qm Z<|A0 A7k Z<|qm Z<|es (ra2 Z Z)<|C7 ?_
  obtain rfl:=os h
  exact retq trivial (A6 Z (A6 Z B8)) (A4 (A63 Z (Zi _)) (A4 Z B7)) (A3 A0o (A3 A5 A8))
def B0t (a0:PaShow) (a1:(List PaUse)) (a2:Int):Option (Int×Int) :=
 (A1v a0 a1).bind fun x1 =>
 if (x1.1==0)=true then
  (E0 0 364 [a2]).bind fun x4 =>
  if x4=true then
  some (0,7)
  else
  (P3 (pawn_show.mk a0 (Ar3.mk (pawn_way.mk ) (pawn_way.mk ) (pawn_way.mk )) x1.2) a1 a2).bind fun x6 =>
  some (x6,0)
 else
  some (0,x1.1)
theorem B84 {c:Sc} {H:A1} {a0:PaShow} {a1:(List PaUse)} {a2:Int} {r:(Int×Int)} (h:B0t a0 a1 a2=some r) :
  E7 tab c H (.fn (.func 11) [] []) [(.agg (B3 a0)),(.seq 3 (Zg B1 a1)),.i a2] [.i r.1,.i r.2]:= by
 unfold B0t at h
 refine cE Z Z<|sg 0 Z<|A0 (F9 (cs:=B3 a0) Z Z Z) Z<|qm Z<|qm Z<|es (ra3 Z Z Z)<|s0<|oB h fun x1 hx1 h=>A0 (E8 Z Z Z) Z<|qm Z ?_
 by_cases hc2:(x1.1==0)=true
 ·rw[if_pos hc2]at h
  obtain⟨X3,hX3⟩:=A8l hx1 hc2
  refine O2 (A2x hX3 Z Z (A2 (E1 Z) (A2 Z B9)) Z) Z<|qm Z<|A0 (A9 Z Z) Z<|A0 (A9 Z Z) Z<|qm Z<|qm Z<|es (ra4 Z Z Z Z)<|C3<|C5<|s0<|qm Z<|A0 (T2 (v:=(.b false)) Z Z Z) Z<|qm Z<|es (ra5 Z Z Z Z Z)<|P9 Z Z<|s0<|oB h fun x4 hx4 h=>qm Z<|A0 (I9 (rows:=Zg cI [a2]) Z Z (D8 (fun _=>rfl) _)) Z<|C2 (rs:=[.b x4]) Z Z (A2 Z (A2 Z (A2 Z B9))) ((E6 hx4).frz)<|qm Z<|es (ra4 Z Z Z Z)<|wi h Z (fun hc5 h=>?_) fun hc5 h=>?_
  ·refine s0<|qm Z<|qm Z<|es (ra2 Z Z)<|C7 ?_
   obtain rfl:=os h
   exact retq trivial (A6 Z (A6 Z B8)) (A4 Z (A4 Z B7)) (A3 A5 (A3 A5 A8))
  ·refine C6<|s0<|oB h fun x6 hx6 h=>qm Z<|qm Z<|qm Z<|O2 (U8 (rs:=[.i x6]) Z Z ((A5c (D6 Z) hx6).frz)) Z<|qm Z<|qm Z<|es (ra2 Z Z)<|C7 ?_
   obtain rfl:=os h
   exact retq trivial (A6 Z (A6 Z B8)) (A4 Z (A4 Z B7)) (A3 A5 (A3 A5 A8))
 ·rw[if_neg hc2]at h
  refine O2 (P6 (rs:=[.lit (.pointer none),.i x1.1]) Z Z (A2 (E1 Z) (A2 Z B9)) (A8k hx1 (by simpa using hc2)) Z) Z<|qm Z<|A0 (A9 Z Z) Z<|A0 (A9 Z Z) Z<|qm Z<|qm Z<|es (ra4 Z Z Z Z)<|C3<|C5<|s0<|qm Z<|A0 (Q2 Z Z) Z<|qm Z<|es (ra5 Z Z Z Z Z)<|N7 Z (nef hc2)<|s0<|qm Z<|qm Z<|qm Z<|es (ra2 Z Z)<|C7 ?_
  obtain rfl:=os h
  exact retq trivial (A6 Z (A6 Z B8)) (A4 Z (A4 Z B7)) (A3 A5 (A3 A5 A8))
def A64 (a0:PaShow) (a1:(List PaUse)):Option (Int×Int) :=
 (A1v a0 a1).bind fun x1 =>
 if (x1.1==0)=true then
  (O1 (pawn_show.mk a0 (Ar3.mk (pawn_way.mk ) (pawn_way.mk ) (pawn_way.mk )) x1.2) a1).bind fun x4 =>
  if (x4.1==0)=true then
  some (0,4)
  else
  some (x4.2,0)
 else
  some (0,x1.1)
theorem A90 {c:Sc} {H:A1} {a0:PaShow} {a1:(List PaUse)} {r:(Int×Int)} (h:A64 a0 a1=some r) :
  E7 tab c H (.fn (.func 34) [] []) [(.agg (B3 a0)),(.seq 3 (Zg B1 a1))] [.i r.1,.i r.2]:= by
 unfold A64 at h
 refine cE Z Z<|sg 0 Z<|A0 (F9 (cs:=B3 a0) Z Z Z) Z<|qm Z<|qm Z<|es (ra2 Z Z)<|s0<|oB h fun x1 hx1 h=>A0 (E8 Z Z Z) Z<|qm Z ?_
 by_cases hc2:(x1.1==0)=true
 ·rw[if_pos hc2]at h
  obtain⟨X3,hX3⟩:=A8l hx1 hc2
  refine O2 (A2x hX3 Z Z (A2 (E1 Z) (A2 Z B9)) Z) Z<|qm Z<|A0 (A9 Z Z) Z<|A0 (A9 Z Z) Z<|qm Z<|qm Z<|es (ra3 Z Z Z)<|C3<|s0<|qm Z<|A0 (T2 (v:=(.b false)) Z Z Z) Z<|es (ra4 Z Z Z Z)<|P9 Z Z<|C6<|s0<|oB h fun x4 hx4 h=>qm Z<|qm Z<|O2 (U8 (rs:=[.i x4.1,.i x4.2]) Z Z ((B0o (D6 Z) hx4).frz)) Z<|qm Z<|A0 (A9 Z Z) Z<|A0 (A9 Z Z) Z<|qm Z<|qm Z<|es (ra2 Z Z)<|C3<|s0<|qm Z<|A0 (I3 Z Z) Z<|es (ra2 Z Z)<|wi h Z (fun hc5 h=>?_) fun hc5 h=>?_
  ·refine s0<|qm Z<|qm Z<|es (ra2 Z Z)<|C7 ?_
   obtain rfl:=os h
   exact retq trivial (A6 Z (A6 Z B8)) (A4 Z (A4 Z B7)) (A3 A5 (A3 A5 A8))
  ·refine C6<|s0<|qm Z<|qm Z<|qm Z<|es (ra2 Z Z)<|C7 ?_
   obtain rfl:=os h
   exact retq trivial (A6 Z (A6 Z B8)) (A4 Z (A4 Z B7)) (A3 A5 (A3 A5 A8))
 ·rw[if_neg hc2]at h
  refine O2 (P6 (rs:=[.lit (.pointer none),.i x1.1]) Z Z (A2 (E1 Z) (A2 Z B9)) (A8k hx1 (by simpa using hc2)) Z) Z<|qm Z<|A0 (A9 Z Z) Z<|A0 (A9 Z Z) Z<|qm Z<|qm Z<|es (ra3 Z Z Z)<|C3<|s0<|qm Z<|A0 (Q2 Z Z) Z<|es (ra4 Z Z Z Z)<|N7 Z (nef hc2)<|s0<|qm Z<|qm Z<|qm Z<|es (ra2 Z Z)<|C7 ?_
  obtain rfl:=os h
  exact retq trivial (A6 Z (A6 Z B8)) (A4 Z (A4 Z B7)) (A3 A5 (A3 A5 A8))
def A92 (a0:PaShow) (a1:Int) (x1:(Int×(List Int))) (s6:(Int×(List Int))) (s9:Int):Option (Int⊕((List Int)⊕Unit)) :=
 if (decide (s9<3))=true then
  (U9 (pawn_show.mk a0 (Ar3.mk (pawn_way.mk ) (pawn_way.mk ) (pawn_way.mk )) x1.2) a1 (PaUse.mk s6.1 s9 0)).bind fun x12 =>
  if (x12==0)=true then
  (app 8 s6.2 [s6.1]).bind fun x14 =>
  some (.inr (.inl x14))
  else
  some (.inl (w64 (s9+1)))
 else
  some (.inr (.inr ()))
def A93 (a0:PaShow) (a1:Int) (x1:(Int×(List Int))) (s6:(Int×(List Int))):Option ((Int×(List Int))⊕(List Int)) :=
 if (decide (s6.1<(Zh a0.Gowns:Int)))=true then
  (loop (A92 a0 a1 x1 s6) 0).bind fun (o15:((List Int)⊕Unit)) =>
  match o15 with
  | (.inl vo15_0) =>
  some (.inl ((w64 (s6.1+1)),vo15_0))
  | (.inr vo15_1) =>
  some (.inl ((w64 (s6.1+1)),s6.2))
 else
  some (.inr s6.2)
def B0u (a0:PaShow) (a1:Int):Option ((List Int)×Int) :=
 (A08 a0).bind fun x1 =>
 if (x1.1==0)=true then
  (E0 0 (w64 ((Zh a0.Figures:Int)-1)) [a1]).bind fun x4 =>
  if x4=true then
  some (([]:List Int),4)
  else
  (loop (A93 a0 a1 x1) (0,([]:List Int))).bind fun (o16:(List Int)) =>
  some (o16,0)
 else
  some (([]:List Int),x1.1)
theorem B85 {c:Sc} {H:A1} {a0:PaShow} {a1:Int} {r:((List Int)×Int)} (h:B0u a0 a1=some r) :
  E7 tab c H (.fn (.func 10) [] []) [(.agg (B3 a0)),.i a1] [(.fresh 1 (Zg cI r.1)),.i r.2]:= by
 unfold B0u at h
 refine cE Z Z<|sg 0 Z<|A0 (F9 (cs:=B3 a0) Z Z Z) Z<|A0 A7k Z<|qm Z<|es (ra3 Z Z Z)<|C81<|s0<|oB h fun x1 hx1 h=>A0 (E8 Z Z Z) Z ?_
 by_cases hc2:(x1.1==0)=true
 ·rw[if_pos hc2]at h
  obtain⟨X3,hX3⟩:=A1e hx1 hc2
  refine O2 (A2x hX3 Z Z (A2 (E1 Z) B9) Z) Z<|qm Z<|A0 (A9 Z Z) Z<|A0 (A9 Z Z) Z<|qm Z<|qm Z<|es (ra5 Z Z Z Z Z)<|C3<|C5<|s0<|qm Z<|A0 (T2 (v:=(.b false)) Z Z Z) Z<|qm Z<|es (ra6 Z Z Z Z Z Z)<|P9 Z Z<|s0<|oB h fun x4 hx4 h=>A0 (C1 Z) Z<|A0 (B4 Z Z Z) Z<|A0 (G0 (f:=B2) Z) Z<|A0 (W1 Z Z) Z<|qm Z<|A0 (I9 (rows:=Zg cI [a1]) Z Z (D8 (fun _=>rfl) _)) Z<|C2 (rs:=[.b x4]) Z Z (A2 Z (A2 Z (A2 Z B9))) ((E6 hx4).frz)<|qm Z<|es (ra5 Z Z Z Z Z)<|wi h Z (fun hc5 h=>?_) fun hc5 h=>?_
  ·refine sg 5 Z<|A0 A7k Z<|qm Z<|es (ra2 Z Z)<|C7 ?_
   obtain rfl:=os h
   exact retq trivial (A6 Z (A6 Z B8)) (A4 (A63 Z (Zi _)) (A4 Z B7)) (A3 A0o (A3 A5 A8))
  ·refine C6<|C3<|C6<|C3<|s0<|A0 (C1 Z) Z<|A0 (B4 Z Z Z) Z<|A0 (G0 (f:=C0) Z) Z<|qm Z<|es (ra5 Z Z Z Z Z)<|C5<|oB h fun o16 ho16 h=>wl (fun s6=>[(1,.i a1),(4,(.asl (H.length+1) (Zh s6.2))),(6,(.ptr (H.length+4) 0)),(28,(.i (Zh a0.Gowns:Int))),(29,.i s6.1)]) (fun (q7:Unit) s6=>[(.cells (B3 a0)),(.arr 1 false (Zg cI s6.2)),(.cells (B3 a0)),X3,(.cells [(.seq 8 (Zg C0 a0.Gowns)),(.seq 4 (Zg B2 a0.Figures)),.i a0.Purse,(.seq 2 (Zg C8 a0.Incomes)),(.fn (.func 41) [] []),(.fn (.func 42) [] []),(.fn (.func 43) [] []),(.fn (.func 25) [] []),(.fn (.func 44) [] []),(.fn (.func 45) [] []),(.fn (.func 26) [] []),(.fn (.func 46) [] []),(.fn (.func 47) [] []),(.seq 1 (Zg cI x1.2))])]) 5 (fun r e s' H'=>PX 1 [(4,(.asl (H.length+1) (Zh r)))] (H++[(.cells (B3 a0)),(.arr 1 false (Zg cI r)),(.cells (B3 a0)),X3,(.cells [(.seq 8 (Zg C0 a0.Gowns)),(.seq 4 (Zg B2 a0.Figures)),.i a0.Purse,(.seq 2 (Zg C8 a0.Incomes)),(.fn (.func 41) [] []),(.fn (.func 42) [] []),(.fn (.func 43) [] []),(.fn (.func 25) [] []),(.fn (.func 44) [] []),(.fn (.func 45) [] []),(.fn (.func 26) [] []),(.fn (.func 46) [] []),(.fn (.func 47) [] []),(.seq 1 (Zg cI x1.2))])]) e s' H') () ho16 Z Z (fun _ _=>rfl) (fun _=>rfl) Z (fun s6=>(bdc A5 (bdc (A3b Z) (bdc (N1 Z) (bdc A5 (bdc A5 bdn)))))) (fun q7 s6 ys6 hs6=>?_) ?_
   ·unfold A93 at hs6
    refine s0<|A0 (L8 Z Z) Z<|es (ra6 Z Z Z Z Z Z)<|C3<|wi hs6 Z (fun hc8 hs6=>?_) fun hc8 hs6=>?_
    ·refine C6<|C3<|C5<|s0<|qm Z<|qm Z<|es (ra6 Z Z Z Z Z Z)<|s0<|qm Z<|es (ra7 Z Z Z Z Z Z Z)<|C5<|oB hs6 fun o15 ho15 hs6=>wl (fun s9=>[(1,.i a1),(4,(.asl (H.length+1) (Zh s6.2))),(6,(.ptr (H.length+4) 0)),(7,.i s6.1),(28,(.i (Zh a0.Gowns:Int))),(29,.i s6.1),(32,.i s9)]) (fun (q10:Unit) s9=>[(.cells (B3 a0)),(.arr 1 false (Zg cI s6.2)),(.cells (B3 a0)),X3,(.cells [(.seq 8 (Zg C0 a0.Gowns)),(.seq 4 (Zg B2 a0.Figures)),.i a0.Purse,(.seq 2 (Zg C8 a0.Incomes)),(.fn (.func 41) [] []),(.fn (.func 42) [] []),(.fn (.func 43) [] []),(.fn (.func 25) [] []),(.fn (.func 44) [] []),(.fn (.func 45) [] []),(.fn (.func 26) [] []),(.fn (.func 46) [] []),(.fn (.func 47) [] []),(.seq 1 (Zg cI x1.2))])]) 5 (fun r e s' H'=>(match r with|(.inl v)=>PX 2 [(1,.i a1),(4,(.asl (H.length+1) (Zh v))),(6,(.ptr (H.length+4) 0)),(28,(.i (Zh a0.Gowns:Int))),(29,.i s6.1)] (H++[(.cells (B3 a0)),(.arr 1 false (Zg cI v)),(.cells (B3 a0)),X3,(.cells [(.seq 8 (Zg C0 a0.Gowns)),(.seq 4 (Zg B2 a0.Figures)),.i a0.Purse,(.seq 2 (Zg C8 a0.Incomes)),(.fn (.func 41) [] []),(.fn (.func 42) [] []),(.fn (.func 43) [] []),(.fn (.func 25) [] []),(.fn (.func 44) [] []),(.fn (.func 45) [] []),(.fn (.func 26) [] []),(.fn (.func 46) [] []),(.fn (.func 47) [] []),(.seq 1 (Zg cI x1.2))])]) e s' H' | (.inr v)=>PX 3 [(1,.i a1),(4,(.asl (H.length+1) (Zh s6.2))),(6,(.ptr (H.length+4) 0)),(28,(.i (Zh a0.Gowns:Int))),(29,.i s6.1)] (H++[(.cells (B3 a0)),(.arr 1 false (Zg cI s6.2)),(.cells (B3 a0)),X3,(.cells [(.seq 8 (Zg C0 a0.Gowns)),(.seq 4 (Zg B2 a0.Figures)),.i a0.Purse,(.seq 2 (Zg C8 a0.Incomes)),(.fn (.func 41) [] []),(.fn (.func 42) [] []),(.fn (.func 43) [] []),(.fn (.func 25) [] []),(.fn (.func 44) [] []),(.fn (.func 45) [] []),(.fn (.func 26) [] []),(.fn (.func 46) [] []),(.fn (.func 47) [] []),(.seq 1 (Zg cI x1.2))])]) e s' H':Prop)) () ho15 Z Z (fun _ _=>rfl) (fun _=>rfl) Z (fun s9=>(bdc A5 (bdc (A3b Z) (bdc (N1 Z) (bdc A5 (bdc A5 (bdc A5 (bdc A5 bdn)))))))) (fun q10 s9 ys9 hs9=>?_) ?_
     ·unfold A92 at hs9
      refine s0<|A0 (L8 Z Z) Z<|es (ra8 Z Z Z Z Z Z Z Z)<|C3<|wi hs9 Z (fun hc11 hs9=>?_) fun hc11 hs9=>?_
      ·refine C6<|C3<|C5<|s0<|qm Z<|qm Z<|es (ra8 Z Z Z Z Z Z Z Z)<|s0<|oB hs9 fun x12 hx12 hs9=>qm Z<|qm Z<|qm Z<|qm Z<|A0 (Q7 (cs:=B1 (PaUse.mk s6.1 s9 0)) Z Z) Z<|C2 (rs:=[.i x12]) Z Z (A2 Z (A2 Z (A2 (E1 Z) B9))) ((A2c (D6 Z) hx12).frz)<|A0 (I3 Z Z) Z<|es (ra8 Z Z Z Z Z Z Z Z)<|wi hs9 Z (fun hc13 hs9=>?_) fun hc13 hs9=>?_
       ·refine s0<|oB hs9 fun x14 hx14 hs9=>qm Z<|qm Z<|A0 (I9 (rows:=Zg cI [s6.1]) Z Z (D8 (fun _=>rfl) _)) Z<|O2 (A4l (f:=cI) Z Z Z Z A1w (fun _=>rfl) hx14) Z<|qm Z<|es (ra5 Z Z Z Z Z)<|J1 ?_
        obtain rfl:=os hs9
        exact lx Z px (su5 Z Z Z Z Z)
       ·refine C6<|r0<|A0 (H6 Z Z) Z<|qm Z<|en (ra7 Z Z Z Z Z Z Z) ?_
        cases hs9
        exact lnT () Z (su7 Z Z Z Z Z Z Z)
      ·refine J1 ?_
       obtain rfl:=os hs9
       exact lx Z px (su5 Z Z Z Z Z)
     ·rcases o15 with vo15_0|vo15_1
      ·rintro e s' H'-⟨rfl,rfl,rfl⟩
       refine r0<|A0 (H6 Z Z) Z<|qm Z<|en (ra5 Z Z Z Z Z) ?_
       cases hs6
       exact lnT () Z (su5 Z Z Z Z Z)
      ·rintro e s' H'-⟨rfl,rfl,rfl⟩
       refine r0<|A0 (H6 Z Z) Z<|qm Z<|en (ra5 Z Z Z Z Z) ?_
       cases hs6
       exact lnT () Z (su5 Z Z Z Z Z)
    ·refine J1 ?_
     obtain rfl:=os hs6
     exact lx Z px (su1 Z)
   ·rintro e s' H'-⟨rfl,rfl,rfl⟩
    refine s0<|qm Z<|qm Z<|qm Z<|es (ra2 Z Z)<|C7 ?_
    obtain rfl:=os h
    exact retq trivial (A6 Z (A6 Z B8)) (A4 (A63 Z (Zi _)) (A4 Z B7)) (A3 A0o (A3 A5 A8))
 ·rw[if_neg hc2]at h
  refine O2 (P6 (rs:=[.lit (.pointer none),.i x1.1]) Z Z (A2 (E1 Z) B9) (A15 hx1 (by simpa using hc2)) Z) Z<|qm Z<|A0 (A9 Z Z) Z<|A0 (A9 Z Z) Z<|qm Z<|qm Z<|es (ra5 Z Z Z Z Z)<|C3<|C5<|s0<|qm Z<|A0 (Q2 Z Z) Z<|qm Z<|es (ra6 Z Z Z Z Z Z)<|N7 Z (nef hc2)<|sg 2 Z<|qm Z<|A0 A7k Z<|qm Z<|es (ra2 Z Z)<|C7 ?_
  obtain rfl:=os h
  exact retq trivial (A6 Z (A6 Z B8)) (A4 (A63 Z (Zi _)) (A4 Z B7)) (A3 A0o (A3 A5 A8))
def A95 (a0:(List Int)) (a1:(List Int)) (s1:(Bool×Int)):Option ((Bool×Int)⊕Bool) :=
 if (s1.1&&(decide (s1.2<(Zh a0:Int))))=true then
  (idx a0 s1.2).bind fun x5 =>
  (idx a1 s1.2).bind fun x6 =>
  some (.inl ((x5==x6),(w64 (s1.2+1))))
 else
  some (.inr s1.1)
def A2m (a0:(List Int)) (a1:(List Int)):Option Bool :=
 (loop (A95 a0 a1) (((Zh a0:Int)==(Zh a1:Int)),0)).bind fun (o7:Bool) =>
 some o7
theorem A2w {c:Sc} {H:A1} {a0:(List Int)} {a1:(List Int)} {r:Bool} (h:A2m a0 a1=some r) :
  E7 tab c H (.fn (.func 14) [] []) [(.seq 1 (Zg cI a0)),(.seq 1 (Zg cI a1))] [.b r]:= by
 unfold A2m at h
 refine cE Z Z<|s0<|qm Z<|es (ra2 Z Z)<|s0<|qm Z<|A0 (G0 (f:=cI) Z) Z<|qm Z<|A0 (G0 (f:=cI) Z) Z<|A0 (I3 Z Z) Z<|qm Z<|es (ra3 Z Z Z)<|C3<|s0<|qm Z<|es (ra4 Z Z Z Z)<|C5<|oB h fun o7 ho7 h=>wl (fun s1=>[(0,(.seq 1 (Zg cI a0))),(1,(.seq 1 (Zg cI a1))),(5,.b s1.1),(6,.i s1.2)]) (fun (q2:Unit) s1=>[]) 0 (fun r e s' H'=>PX 0 [(5,.b r)] (H++[]) e s' H') () ho7 Z Z (fun _ _=>rfl) (fun _=>rfl) Z (fun s1=>(bdc N3 (bdc N3 (bdc A5 (bdc A5 bdn))))) (fun q2 s1 ys1 hs1=>?_) ?_
 ·unfold A95 at hs1
  refine C3<|s0<|qm Z<|qm Z<|gp 5 18 (.b (s1.1&&(decide (s1.2<(Zh a0:Int))))) 13 Z Z (fun hg3=>?_) (fun hg3=>?_) ?_
  ·exact gT Z hg3<|qm Z<|gT Z hg3<|qm Z<|gT Z hg3<|A0 (G0 (f:=cI) Z) Z<|gT Z hg3<|A0 (L8 Z Z) Z<|A0 (D0 Z hg3 Z) Z<|ge 5 (by rw[hg3];rfl) Z Z
  ·exact nT Z hg3 Z<|nT Z hg3 Z<|nT Z hg3 Z<|nT Z hg3 Z<|A0 (C9 Z hg3 Z) Z<|ge 5 (by rw[hg3];rfl) Z Z
  refine es (ra5 Z Z Z Z Z)<|wi hs1 Z (fun hc4 hs1=>?_) fun hc4 hs1=>?_
  ·refine C6<|C3<|C5<|r0<|oB hs1 fun x5 hx5 hs1=>oB hs1 fun x6 hx6 hs1=>qm Z<|qm Z<|A0 (G6 (f:=cI) Z Z hx5) Z<|A0 (V6 Z Z) Z<|qm Z<|qm Z<|A0 (G6 (f:=cI) Z Z hx6) Z<|A0 (V6 Z Z) Z<|A0 (I3 Z Z) Z<|qm Z<|en (ra4 Z Z Z Z)<|r0<|qm Z<|A0 (H6 Z Z) Z<|qm Z<|en (ra4 Z Z Z Z) ?_
   cases hs1
   exact lnT () Z (su4 Z Z Z Z)
  ·refine J1 ?_
   obtain rfl:=os hs1
   exact lx Z px (su1 Z)
 ·rintro e s' H'-⟨rfl,rfl,rfl⟩
  refine s0<|qm Z<|qm Z<|es (ra1 Z)<|C7 ?_
  obtain rfl:=os h
  exact retq trivial (A6 Z B8) (A4 Z B7) (A3 A5 A8)
def A96 (a0:(List PaUse)) (a1:(List PaUse)) (s2:Int):Option (Int⊕(Bool⊕Unit)) :=
 if (decide (s2<(Zh a0:Int)))=true then
  (idx a0 s2).bind fun x5 =>
  (idx a1 s2).bind fun x6 =>
  if (!((x5.Gown==x6.Gown)&&((x5.How==x6.How)&&((x5.Day==x6.Day)&&true))))=true then
  some (.inr (.inl false))
  else
  some (.inl (w64 (s2+1)))
 else
  some (.inr (.inr ()))
def B0v (a0:(List PaUse)) (a1:(List PaUse)):Option Bool :=
 if ((Zh a0:Int) != (Zh a1:Int))=true then
  some false
 else
  (loop (A96 a0 a1) 0).bind fun (o8:(Bool⊕Unit)) =>
  match o8 with
  | (.inl vo8_0) =>
  some vo8_0
  | (.inr vo8_1) =>
  some true
theorem B88 {c:Sc} {H:A1} {a0:(List PaUse)} {a1:(List PaUse)} {r:Bool} (h:B0v a0 a1=some r) :
  E7 tab c H (.fn (.func 15) [] []) [(.seq 3 (Zg B1 a0)),(.seq 3 (Zg B1 a1))] [.b r]:= by
 unfold B0v at h
 refine cE Z Z<|s0<|qm Z<|es (ra2 Z Z)<|C3<|s0<|qm Z<|A0 (G0 (f:=B1) Z) Z<|qm Z<|A0 (G0 (f:=B1) Z) Z<|A0 (Q2 Z Z) Z<|es (ra3 Z Z Z)<|wi h Z (fun hc1 h=>?_) fun hc1 h=>?_
 ·refine s0<|qm Z<|es (ra1 Z)<|C7 ?_
  obtain rfl:=os h
  exact retq trivial (A6 Z B8) (A4 Z B7) (A3 A5 A8)
 ·refine C6<|C3<|s0<|qm Z<|es (ra3 Z Z Z)<|C5<|oB h fun o8 ho8 h=>wl (fun s2=>[(0,(.seq 3 (Zg B1 a0))),(1,(.seq 3 (Zg B1 a1))),(5,.i s2)]) (fun (q3:Unit) s2=>[]) 0 (fun r e s' H'=>(match r with|(.inl v)=>e=.ret∧RetQ H [.tmp 4] [.b v] e s' H' | (.inr v)=>PX 0 [] (H++[]) e s' H':Prop)) () ho8 Z Z (fun _ _=>rfl) (fun _=>rfl) Z (fun s2=>(bdc N3 (bdc N3 (bdc A5 bdn)))) (fun q3 s2 ys2 hs2=>?_) ?_
  ·unfold A96 at hs2
   refine C3<|s0<|qm Z<|qm Z<|A0 (G0 (f:=B1) Z) Z<|A0 (L8 Z Z) Z<|es (ra4 Z Z Z Z)<|wi hs2 Z (fun hc4 hs2=>?_) fun hc4 hs2=>?_
   ·refine C6<|C3<|C5<|s0<|oB hs2 fun x5 hx5 hs2=>oB hs2 fun x6 hx6 hs2=>qm Z<|qm Z<|A0 (G6 (f:=B1) Z Z hx5) Z<|A0 (G7 Z Z) Z<|qm Z<|qm Z<|A0 (G6 (f:=B1) Z Z hx6) Z<|A0 (G7 Z Z) Z<|A0 (D2q (a:=B1 x5) (b:=B1 x6) Z Z Z Z (V5 (V5 (V5 B1b)))) Z<|es (ra4 Z Z Z Z)<|wi hs2 Z (fun hc7 hs2=>?_) fun hc7 hs2=>?_
    ·refine s0<|qm Z<|es (ra1 Z)<|C7 ?_
     obtain rfl:=os hs2
     exact lx Z (ZP Z (retq trivial (A6 Z B8) (A4 Z B7) (A3 A5 A8))) (Sub.refl _)
    ·refine C6<|r0<|qm Z<|A0 (H6 Z Z) Z<|qm Z<|en (ra3 Z Z Z) ?_
     cases hs2
     exact lnT () Z (su3 Z Z Z)
   ·refine J1 ?_
    obtain rfl:=os hs2
    exact lx Z px (.nil _)
  ·rcases o8 with vo8_0|vo8_1
   ·rintro e s' H'-⟨rfl,hret⟩
    cases h
    exact hret
   ·rintro e s' H'-⟨rfl,rfl,rfl⟩
    refine s0<|qm Z<|es (ra1 Z)<|C7 ?_
    obtain rfl:=os h
    exact retq trivial (A6 Z B8) (A4 Z B7) (A3 A5 A8)
def A22 :Option Bool :=
 (A6z false).bind fun x1 =>
 (A6z true).bind fun x2 =>
 (A26 x1 0 10).bind fun x3 =>
 (A1j x1 2 2).bind fun x4 =>
 (A1j x1 2 1).bind fun x5 =>
 (B0u x1 1).bind fun x6 =>
 (A18).bind fun x7 =>
 (B0t x1 x7 45).bind fun x8 =>
 (A18).bind fun x9 =>
 (A64 x1 x9).bind fun x10 =>
 (A18).bind fun x11 =>
 (A64 x2 x11).bind fun x12 =>
 (A0f x1).bind fun x13 =>
 (A0f x2).bind fun x14 =>
 (A2e x2).bind fun x15 =>
 (A2g x2).bind fun x16 =>
 (A18).bind fun x17 =>
 (B3u x1 x17).bind fun x18 =>
 (if ((((((((((((((x3.2==0)&&(x4.2==0))&&(x6.2==0))&&(x8.2==0))&&(x12.2==0))&&(x13.2.2.2==0))&&(x14.2.2.2==0))&&(x15.2.2==0))&&(x16.2==0))&&(x18.2==0))&&(x5.2==9))&&(x10.2==4))&&(x3.1==110))&&(x4.1==48))=true then
  (A2m x6.1 [0,1,2]).bind fun x33 =>
  some x33
 else
  some false).bind fun x34 =>
 (if ((x34&&(x8.1==102))&&(x12.1==0))=true then
  (A1h 0 2 0).bind fun x38 =>
  (A1h 1 0 0).bind fun x39 =>
  (A1h 2 2 0).bind fun x40 =>
  (B0v x13.1 [x38,x39,x40]).bind fun x41 =>
  some x41
 else
  some false).bind fun x42 =>
 (if (((x42&&(x13.2.1==0))&&(x13.2.2.1==78))&&(x14.2.1==2))=true then
  (A2m x15.1 [0,2]).bind fun x47 =>
  some x47
 else
  some false).bind fun x48 =>
 (if x48=true then
  (A2m x15.2.1 [0,2]).bind fun x50 =>
  some x50
 else
  some false).bind fun x51 =>
 (if (x51&&(x16.1==58))=true then
  (A2m x18.1 [2]).bind fun x54 =>
  some x54
 else
  some false).bind fun x55 =>
 some x55
theorem A8e {c:Sc} {H:A1} (hscv:R5 c H=true)  {r:Bool} (h:A22  = some r) :
  E7 tab c H (.fn (.func 17) [] []) [] [.b r]:= by
 unfold A22 at h
 refine cE Z Z<|s0<|qm Z<|es .n<|sg 0 Z<|oB h fun x1 hx1 h=>oB h fun x2 hx2 h=>C2 (rs:=[(.agg (B3 x1))]) Z Z (A2 Z B9) ((A9x hx1).frz)<|C2 (rs:=[(.agg (B3 x2))]) Z Z (A2 Z B9) ((A9x hx2).frz)<|A0 I4 Z<|A0 I4 Z<|N5 (E4 (ds:=(B3 x1)) Z Z Z Z (D9 Z) Z) Z<|N5 (E4 (ds:=(B3 x2)) Z Z Z Z (D9 Z) Z) Z<|es (ra2 Z Z)<|s0<|oB h fun x3 hx3 h=>A0 (E8 Z Z Z) Z<|C2 (rs:=[.i x3.1,.i x3.2]) Z Z (A2 (E1 Z) (A2 Z (A2 Z B9))) ((B7r hx3).frz)<|qm Z<|A0 (A9 Z Z) Z<|A0 (A9 Z Z) Z<|qm Z<|qm Z<|es (ra4 Z Z Z Z)<|s0<|oB h fun x4 hx4 h=>A0 (E8 Z Z Z) Z<|C2 (rs:=[.i x4.1,.i x4.2]) Z Z (A2 (E1 Z) (A2 Z (A2 Z B9))) ((A8f hx4).frz)<|qm Z<|A0 (A9 Z Z) Z<|A0 (A9 Z Z) Z<|qm Z<|qm Z<|es (ra6 Z Z Z Z Z Z)<|s0<|oB h fun x5 hx5 h=>A0 (E8 Z Z Z) Z<|C2 (rs:=[.i x5.1,.i x5.2]) Z Z (A2 (E1 Z) (A2 Z (A2 Z B9))) ((A8f hx5).frz)<|qm Z<|A0 (A9 Z Z) Z<|A0 (A9 Z Z) Z<|qm Z<|qm Z<|es (ra7 Z Z Z Z Z Z Z)<|s0<|oB h fun x6 hx6 h=>A0 (E8 Z Z Z) Z<|C2 (rs:=[(.seq 1 (Zg cI x6.1)),.i x6.2]) Z Z (A2 (E1 Z) (A2 Z B9)) ((B85 hx6).frz)<|qm Z<|A0 (A9 Z Z) Z<|A0 (A9 Z Z) Z<|qm Z<|qm Z<|es (ra9 Z Z Z Z Z Z Z Z Z)<|s0<|oB h fun x7 hx7 h=>oB h fun x8 hx8 h=>A0 (E8 Z Z Z) Z<|Z5 (rs:=[(.seq 3 (Zg B1 x7))]) Z Z A4o B9 ((A2v hx7).frz)<|C2 (rs:=[.i x8.1,.i x8.2]) Z Z (A2 (E1 Z) (A2 Z (A2 Z B9))) ((B84 hx8).frz)<|qm Z ?_
 refine A0 (A9 Z Z) Z<|A0 (A9 Z Z) Z<|qm Z<|qm Z<|es (ra11 Z Z Z Z Z Z Z Z Z Z Z)<|s0<|oB h fun x9 hx9 h=>oB h fun x10 hx10 h=>A0 (E8 Z Z Z) Z<|Z5 (rs:=[(.seq 3 (Zg B1 x9))]) Z Z A4o B9 ((A2v hx9).frz)<|C2 (rs:=[.i x10.1,.i x10.2]) Z Z (A2 (E1 Z) (A2 Z B9)) ((A90 hx10).frz)<|qm Z<|A0 (A9 Z Z) Z<|A0 (A9 Z Z) Z<|qm Z<|qm Z<|es (ra12 Z Z Z Z Z Z Z Z Z Z Z Z)<|s0<|oB h fun x11 hx11 h=>oB h fun x12 hx12 h=>A0 (E8 Z Z Z) Z<|Z5 (rs:=[(.seq 3 (Zg B1 x11))]) Z Z A4o B9 ((A2v hx11).frz)<|C2 (rs:=[.i x12.1,.i x12.2]) Z Z (A2 (E1 Z) (A2 Z B9)) ((A90 hx12).frz)<|qm Z<|A0 (A9 Z Z) Z<|A0 (A9 Z Z) Z<|qm Z<|qm Z<|es (ra14 Z Z Z Z Z Z Z Z Z Z Z Z Z Z)<|s0<|oB h fun x13 hx13 h=>A0 (E8 Z Z Z) Z<|C2 (rs:=[(.seq 3 (Zg B1 x13.1)),.i x13.2.1,.i x13.2.2.1,.i x13.2.2.2]) Z Z (A2 (E1 Z) B9) ((A3s (A8p hscv) hx13).frz)<|qm Z<|A0 (A9 Z Z) Z<|A0 (A9 Z Z) Z<|A0 (A9 Z Z) Z<|A0 (A9 Z Z) Z<|qm Z<|qm Z<|qm Z<|qm Z<|es (.k Z (.k Z (.k Z (.k Z (.k Z (.k Z (.k Z (.k Z (.k Z (.k Z (.k Z (.k Z (.k Z (.k Z (.k Z (.k Z (.k Z (.k Z .n))))))))))))))))))<|s0<|oB h fun x14 hx14 h=>A0 (E8 Z Z Z) Z<|C2 (rs:=[(.seq 3 (Zg B1 x14.1)),.i x14.2.1,.i x14.2.2.1,.i x14.2.2.2]) Z Z (A2 (E1 Z) B9) ((A3s (A8p hscv) hx14).frz)<|qm Z<|A0 (A9 Z Z) Z<|A0 (A9 Z Z) Z<|A0 (A9 Z Z) Z<|A0 (A9 Z Z) Z<|qm Z<|qm Z<|qm Z<|qm Z<|es (.k Z (.k Z (.k Z (.k Z (.k Z (.k Z (.k Z (.k Z (.k Z (.k Z (.k Z (.k Z (.k Z (.k Z (.k Z (.k Z (.k Z (.k Z (.k Z (.k Z .n))))))))))))))))))))<|s0<|oB h fun x15 hx15 h=>A0 (E8 Z Z Z) Z<|C2 (rs:=[(.seq 1 (Zg cI x15.1)),(.seq 1 (Zg cI x15.2.1)),.i x15.2.2]) Z Z (A2 (E1 Z) B9) ((A61 (A8p hscv) hx15).frz) ?_
 refine qm Z<|A0 (A9 Z Z) Z<|A0 (A9 Z Z) Z<|A0 (A9 Z Z) Z<|qm Z<|qm Z<|qm Z<|es (.k Z (.k Z (.k Z (.k Z (.k Z (.k Z (.k Z (.k Z (.k Z (.k Z (.k Z (.k Z (.k Z (.k Z (.k Z (.k Z (.k Z (.k Z (.k Z (.k Z (.k Z (.k Z (.k Z .n)))))))))))))))))))))))<|s0<|oB h fun x16 hx16 h=>A0 (E8 Z Z Z) Z<|C2 (rs:=[.i x16.1,.i x16.2]) Z Z (A2 (E1 Z) B9) ((A62 (A8p hscv) hx16).frz)<|qm Z<|A0 (A9 Z Z) Z<|A0 (A9 Z Z) Z<|qm Z<|qm Z<|es (.k Z (.k Z (.k Z (.k Z (.k Z (.k Z (.k Z (.k Z (.k Z (.k Z (.k Z (.k Z (.k Z (.k Z (.k Z (.k Z (.k Z (.k Z (.k Z (.k Z (.k Z (.k Z (.k Z (.k Z .n))))))))))))))))))))))))<|s0<|oB h fun x17 hx17 h=>oB h fun x18 hx18 h=>A0 (E8 Z Z Z) Z<|Z5 (rs:=[(.seq 3 (Zg B1 x17))]) Z Z A4o B9 ((A2v hx17).frz)<|C2 (rs:=[(.seq 1 (Zg cI x18.1)),.i x18.2]) Z Z (A2 (E1 Z) (A2 Z B9)) ((C2a hx18).frz)<|qm Z<|A0 (A9 Z Z) Z<|A0 (A9 Z Z) Z<|qm Z<|qm Z<|es (.k Z (.k Z (.k Z (.k Z (.k Z (.k Z (.k Z (.k Z (.k Z (.k Z (.k Z (.k Z (.k Z (.k Z (.k Z (.k Z (.k Z (.k Z (.k Z (.k Z (.k Z (.k Z (.k Z (.k Z (.k Z .n)))))))))))))))))))))))))<|s0<|oB h fun x34 hx34 h=>oB h fun x42 hx42 h=>oB h fun x48 hx48 h=>oB h fun x51 hx51 h=>oB h fun x55 hx55 h=>qm Z<|A0 (I3 Z Z) Z<|qm Z<|gp 3 108 (.b ((x3.2==0)&&(x4.2==0))) 105 Z Z (fun hg19=>?_) (fun hg19=>?_) ?_
 ·exact gT Z hg19<|qm Z<|gT Z hg19<|A0 (I3 Z Z) Z<|A0 (D0 Z hg19 Z) Z<|ge 3 (by rw[hg19];rfl) Z Z
 ·exact nT Z hg19 Z<|nT Z hg19 Z<|A0 (C9 Z hg19 Z) Z<|ge 3 (by rw[hg19];rfl) Z Z
 refine qm Z<|gp 3 112 (.b (((x3.2==0)&&(x4.2==0))&&(x6.2==0))) 109 Z Z (fun hg20=>?_) (fun hg20=>?_) ?_
 ·exact gT Z hg20<|qm Z<|gT Z hg20<|A0 (I3 Z Z) Z<|A0 (D0 Z hg20 Z) Z<|ge 3 (by rw[hg20];rfl) Z Z
 ·exact nT Z hg20 Z<|nT Z hg20 Z<|A0 (C9 Z hg20 Z) Z<|ge 3 (by rw[hg20];rfl) Z Z
 refine qm Z<|gp 3 116 (.b ((((x3.2==0)&&(x4.2==0))&&(x6.2==0))&&(x8.2==0))) 113 Z Z (fun hg21=>?_) (fun hg21=>?_) ?_
 ·exact gT Z hg21<|qm Z<|gT Z hg21<|A0 (I3 Z Z) Z<|A0 (D0 Z hg21 Z) Z<|ge 3 (by rw[hg21];rfl) Z Z
 ·exact nT Z hg21 Z<|nT Z hg21 Z<|A0 (C9 Z hg21 Z) Z<|ge 3 (by rw[hg21];rfl) Z Z
 refine qm Z<|gp 3 120 (.b (((((x3.2==0)&&(x4.2==0))&&(x6.2==0))&&(x8.2==0))&&(x12.2==0))) 117 Z Z (fun hg22=>?_) (fun hg22=>?_) ?_
 ·exact gT Z hg22<|qm Z<|gT Z hg22<|A0 (I3 Z Z) Z<|A0 (D0 Z hg22 Z) Z<|ge 3 (by rw[hg22];rfl) Z Z
 ·exact nT Z hg22 Z<|nT Z hg22 Z<|A0 (C9 Z hg22 Z) Z<|ge 3 (by rw[hg22];rfl) Z Z
 refine qm Z<|gp 3 124 (.b ((((((x3.2==0)&&(x4.2==0))&&(x6.2==0))&&(x8.2==0))&&(x12.2==0))&&(x13.2.2.2==0))) 121 Z Z (fun hg23=>?_) (fun hg23=>?_) ?_
 ·exact gT Z hg23<|qm Z<|gT Z hg23<|A0 (I3 Z Z) Z<|A0 (D0 Z hg23 Z) Z<|ge 3 (by rw[hg23];rfl) Z Z
 ·exact nT Z hg23 Z<|nT Z hg23 Z<|A0 (C9 Z hg23 Z) Z<|ge 3 (by rw[hg23];rfl) Z Z
 refine qm Z<|gp 3 128 (.b (((((((x3.2==0)&&(x4.2==0))&&(x6.2==0))&&(x8.2==0))&&(x12.2==0))&&(x13.2.2.2==0))&&(x14.2.2.2==0))) 125 Z Z (fun hg24=>?_) (fun hg24=>?_) ?_
 ·exact gT Z hg24<|qm Z<|gT Z hg24<|A0 (I3 Z Z) Z<|A0 (D0 Z hg24 Z) Z<|ge 3 (by rw[hg24];rfl) Z Z
 ·exact nT Z hg24 Z<|nT Z hg24 Z<|A0 (C9 Z hg24 Z) Z<|ge 3 (by rw[hg24];rfl) Z Z
 refine qm Z<|gp 3 132 (.b ((((((((x3.2==0)&&(x4.2==0))&&(x6.2==0))&&(x8.2==0))&&(x12.2==0))&&(x13.2.2.2==0))&&(x14.2.2.2==0))&&(x15.2.2==0))) 129 Z Z (fun hg25=>?_) (fun hg25=>?_) ?_
 ·exact gT Z hg25<|qm Z<|gT Z hg25<|A0 (I3 Z Z) Z<|A0 (D0 Z hg25 Z) Z<|ge 3 (by rw[hg25];rfl) Z Z
 ·exact nT Z hg25 Z<|nT Z hg25 Z<|A0 (C9 Z hg25 Z) Z<|ge 3 (by rw[hg25];rfl) Z Z
 refine qm Z<|gp 3 136 (.b (((((((((x3.2==0)&&(x4.2==0))&&(x6.2==0))&&(x8.2==0))&&(x12.2==0))&&(x13.2.2.2==0))&&(x14.2.2.2==0))&&(x15.2.2==0))&&(x16.2==0))) 133 Z Z (fun hg26=>?_) (fun hg26=>?_) ?_
 ·exact gT Z hg26<|qm Z<|gT Z hg26<|A0 (I3 Z Z) Z<|A0 (D0 Z hg26 Z) Z<|ge 3 (by rw[hg26];rfl) Z Z
 ·exact nT Z hg26 Z<|nT Z hg26 Z<|A0 (C9 Z hg26 Z) Z<|ge 3 (by rw[hg26];rfl) Z Z
 refine qm Z<|gp 3 140 (.b ((((((((((x3.2==0)&&(x4.2==0))&&(x6.2==0))&&(x8.2==0))&&(x12.2==0))&&(x13.2.2.2==0))&&(x14.2.2.2==0))&&(x15.2.2==0))&&(x16.2==0))&&(x18.2==0))) 137 Z Z (fun hg27=>?_) (fun hg27=>?_) ?_
 ·exact gT Z hg27<|qm Z<|gT Z hg27<|A0 (I3 Z Z) Z<|A0 (D0 Z hg27 Z) Z<|ge 3 (by rw[hg27];rfl) Z Z
 ·exact nT Z hg27 Z<|nT Z hg27 Z<|A0 (C9 Z hg27 Z) Z<|ge 3 (by rw[hg27];rfl) Z Z
 refine qm Z<|gp 3 144 (.b (((((((((((x3.2==0)&&(x4.2==0))&&(x6.2==0))&&(x8.2==0))&&(x12.2==0))&&(x13.2.2.2==0))&&(x14.2.2.2==0))&&(x15.2.2==0))&&(x16.2==0))&&(x18.2==0))&&(x5.2==9))) 141 Z Z (fun hg28=>?_) (fun hg28=>?_) ?_
 ·exact gT Z hg28<|qm Z<|gT Z hg28<|A0 (I3 Z Z) Z<|A0 (D0 Z hg28 Z) Z<|ge 3 (by rw[hg28];rfl) Z Z
 ·exact nT Z hg28 Z<|nT Z hg28 Z<|A0 (C9 Z hg28 Z) Z<|ge 3 (by rw[hg28];rfl) Z Z
 refine qm Z<|gp 3 148 (.b ((((((((((((x3.2==0)&&(x4.2==0))&&(x6.2==0))&&(x8.2==0))&&(x12.2==0))&&(x13.2.2.2==0))&&(x14.2.2.2==0))&&(x15.2.2==0))&&(x16.2==0))&&(x18.2==0))&&(x5.2==9))&&(x10.2==4))) 145 Z Z (fun hg29=>?_) (fun hg29=>?_) ?_
 ·exact gT Z hg29<|qm Z<|gT Z hg29<|A0 (I3 Z Z) Z<|A0 (D0 Z hg29 Z) Z<|ge 3 (by rw[hg29];rfl) Z Z
 ·exact nT Z hg29 Z<|nT Z hg29 Z<|A0 (C9 Z hg29 Z) Z<|ge 3 (by rw[hg29];rfl) Z Z
 refine qm Z<|gp 3 152 (.b (((((((((((((x3.2==0)&&(x4.2==0))&&(x6.2==0))&&(x8.2==0))&&(x12.2==0))&&(x13.2.2.2==0))&&(x14.2.2.2==0))&&(x15.2.2==0))&&(x16.2==0))&&(x18.2==0))&&(x5.2==9))&&(x10.2==4))&&(x3.1==110))) 149 Z Z (fun hg30=>?_) (fun hg30=>?_) ?_
 ·exact gT Z hg30<|qm Z<|gT Z hg30<|A0 (I3 Z Z) Z<|A0 (D0 Z hg30 Z) Z<|ge 3 (by rw[hg30];rfl) Z Z
 ·exact nT Z hg30 Z<|nT Z hg30 Z<|A0 (C9 Z hg30 Z) Z<|ge 3 (by rw[hg30];rfl) Z Z
 refine qm Z<|gp 3 156 (.b ((((((((((((((x3.2==0)&&(x4.2==0))&&(x6.2==0))&&(x8.2==0))&&(x12.2==0))&&(x13.2.2.2==0))&&(x14.2.2.2==0))&&(x15.2.2==0))&&(x16.2==0))&&(x18.2==0))&&(x5.2==9))&&(x10.2==4))&&(x3.1==110))&&(x4.1==48))) 153 Z Z (fun hg31=>?_) (fun hg31=>?_) ?_
 ·exact gT Z hg31<|qm Z<|gT Z hg31<|A0 (I3 Z Z) Z<|A0 (D0 Z hg31 Z) Z<|ge 3 (by rw[hg31];rfl) Z Z
 ·exact nT Z hg31 Z<|nT Z hg31 Z<|A0 (C9 Z hg31 Z) Z<|ge 3 (by rw[hg31];rfl) Z Z
 refine qm Z<|gp 4 161 (.b x34) 157 Z Z (fun hg32=>?_) (fun hg32=>?_) ?_
 ·refine oB (bt hx34 hg32) fun x33 hx33 hx34=>?_
  obtain rfl:=os hx34
  exact gT Z hg32<|qm Z<|gT Z hg32<|A0 (I9 (rows:=Zg cI [0,1,2]) Z Z (D8 (fun _=>rfl) _)) Z<|gT Z hg32<|C2 (rs:=[.b x33]) Z Z (A2 Z (A2 Z B9)) ((A2w hx33).frz)<|A0 (D0 Z hg32 Z) Z<|ge 4 Z Z Z
 ·obtain rfl:=os (bf hx34 hg32)
  exact nT Z hg32 Z<|nT Z hg32 Z<|L2 (F4 Z (by rw[hg32];rfl)) Z<|A0 (C9 Z hg32 Z) Z<|ge 4 Z Z Z
 refine qm Z<|gp 3 165 (.b (x34&&(x8.1==102))) 162 Z Z (fun hg35=>?_) (fun hg35=>?_) ?_
 ·exact gT Z hg35<|qm Z<|gT Z hg35<|A0 (I3 Z Z) Z<|A0 (D0 Z hg35 Z) Z<|ge 3 (by rw[hg35];rfl) Z Z
 ·exact nT Z hg35 Z<|nT Z hg35 Z<|A0 (C9 Z hg35 Z) Z<|ge 3 (by rw[hg35];rfl) Z Z
 refine qm Z<|gp 3 169 (.b ((x34&&(x8.1==102))&&(x12.1==0))) 166 Z Z (fun hg36=>?_) (fun hg36=>?_) ?_
 ·exact gT Z hg36<|qm Z<|gT Z hg36<|A0 (I3 Z Z) Z<|A0 (D0 Z hg36 Z) Z<|ge 3 (by rw[hg36];rfl) Z Z
 ·exact nT Z hg36 Z<|nT Z hg36 Z<|A0 (C9 Z hg36 Z) Z<|ge 3 (by rw[hg36];rfl) Z Z
 refine qm Z<|gp 7 177 (.b x42) 170 Z Z (fun hg37=>?_) (fun hg37=>?_) ?_
 ·refine oB (bt hx42 hg37) fun x38 hx38 hx42=>oB hx42 fun x39 hx39 hx42=>oB hx42 fun x40 hx40 hx42=>oB hx42 fun x41 hx41 hx42=>?_
  obtain rfl:=os hx42
  exact gT Z hg37<|qm Z<|gT Z hg37<|C2 (rs:=[(.agg (B1 x38))]) Z Z (A2 Z (A2 Z (A2 Z B9))) ((A0e hx38).frz)<|gT Z hg37<|C2 (rs:=[(.agg (B1 x39))]) Z Z (A2 Z (A2 Z (A2 Z B9))) ((A0e hx39).frz)<|gT Z hg37<|C2 (rs:=[(.agg (B1 x40))]) Z Z (A2 Z (A2 Z (A2 Z B9))) ((A0e hx40).frz)<|gT Z hg37<|A0 (I9 (rows:=Zg B1 [x38,x39,x40]) Z Z (D8 (fun _=>rfl) _)) Z<|gT Z hg37<|C2 (rs:=[.b x41]) Z Z (A2 Z (A2 Z B9)) ((B88 hx41).frz)<|A0 (D0 Z hg37 Z) Z<|ge 7 Z Z Z
 ·obtain rfl:=os (bf hx42 hg37)
  exact nT Z hg37 Z<|L2 (F4 Z (by rw[hg37];rfl)) Z<|L2 (F4 Z (by rw[hg37];rfl)) Z<|L2 (F4 Z (by rw[hg37];rfl)) Z<|nT Z hg37 Z<|L2 (F4 Z (by rw[hg37];rfl)) Z<|A0 (C9 Z hg37 Z) Z<|ge 7 Z Z Z
 refine qm Z<|gp 3 181 (.b (x42&&(x13.2.1==0))) 178 Z Z (fun hg43=>?_) (fun hg43=>?_) ?_
 ·exact gT Z hg43<|qm Z<|gT Z hg43<|A0 (I3 Z Z) Z<|A0 (D0 Z hg43 Z) Z<|ge 3 (by rw[hg43];rfl) Z Z
 ·exact nT Z hg43 Z<|nT Z hg43 Z<|A0 (C9 Z hg43 Z) Z<|ge 3 (by rw[hg43];rfl) Z Z
 refine qm Z<|gp 3 185 (.b ((x42&&(x13.2.1==0))&&(x13.2.2.1==78))) 182 Z Z (fun hg44=>?_) (fun hg44=>?_) ?_
 ·exact gT Z hg44<|qm Z<|gT Z hg44<|A0 (I3 Z Z) Z<|A0 (D0 Z hg44 Z) Z<|ge 3 (by rw[hg44];rfl) Z Z
 ·exact nT Z hg44 Z<|nT Z hg44 Z<|A0 (C9 Z hg44 Z) Z<|ge 3 (by rw[hg44];rfl) Z Z
 refine qm Z<|gp 3 189 (.b (((x42&&(x13.2.1==0))&&(x13.2.2.1==78))&&(x14.2.1==2))) 186 Z Z (fun hg45=>?_) (fun hg45=>?_) ?_
 ·exact gT Z hg45<|qm Z<|gT Z hg45<|A0 (I3 Z Z) Z<|A0 (D0 Z hg45 Z) Z<|ge 3 (by rw[hg45];rfl) Z Z
 ·exact nT Z hg45 Z<|nT Z hg45 Z<|A0 (C9 Z hg45 Z) Z<|ge 3 (by rw[hg45];rfl) Z Z
 refine qm Z<|gp 4 194 (.b x48) 190 Z Z (fun hg46=>?_) (fun hg46=>?_) ?_
 ·refine oB (bt hx48 hg46) fun x47 hx47 hx48=>?_
  obtain rfl:=os hx48
  exact gT Z hg46<|qm Z<|gT Z hg46<|A0 (I9 (rows:=Zg cI [0,2]) Z Z (D8 (fun _=>rfl) _)) Z<|gT Z hg46<|C2 (rs:=[.b x47]) Z Z (A2 Z (A2 Z B9)) ((A2w hx47).frz)<|A0 (D0 Z hg46 Z) Z<|ge 4 Z Z Z
 ·obtain rfl:=os (bf hx48 hg46)
  exact nT Z hg46 Z<|nT Z hg46 Z<|L2 (F4 Z (by rw[hg46];rfl)) Z<|A0 (C9 Z hg46 Z) Z<|ge 4 Z Z Z
 refine qm Z<|gp 4 199 (.b x51) 195 Z Z (fun hg49=>?_) (fun hg49=>?_) ?_
 ·refine oB (bt hx51 hg49) fun x50 hx50 hx51=>?_
  obtain rfl:=os hx51
  exact gT Z hg49<|qm Z<|gT Z hg49<|A0 (I9 (rows:=Zg cI [0,2]) Z Z (D8 (fun _=>rfl) _)) Z<|gT Z hg49<|C2 (rs:=[.b x50]) Z Z (A2 Z (A2 Z B9)) ((A2w hx50).frz)<|A0 (D0 Z hg49 Z) Z<|ge 4 Z Z Z
 ·obtain rfl:=os (bf hx51 hg49)
  exact nT Z hg49 Z<|nT Z hg49 Z<|L2 (F4 Z (by rw[hg49];rfl)) Z<|A0 (C9 Z hg49 Z) Z<|ge 4 Z Z Z
 refine qm Z<|gp 3 203 (.b (x51&&(x16.1==58))) 200 Z Z (fun hg52=>?_) (fun hg52=>?_) ?_
 ·exact gT Z hg52<|qm Z<|gT Z hg52<|A0 (I3 Z Z) Z<|A0 (D0 Z hg52 Z) Z<|ge 3 (by rw[hg52];rfl) Z Z
 ·exact nT Z hg52 Z<|nT Z hg52 Z<|A0 (C9 Z hg52 Z) Z<|ge 3 (by rw[hg52];rfl) Z Z
 refine qm Z<|gp 4 208 (.b x55) 204 Z Z (fun hg53=>?_) (fun hg53=>?_) ?_
 ·refine oB (bt hx55 hg53) fun x54 hx54 hx55=>?_
  obtain rfl:=os hx55
  exact gT Z hg53<|qm Z<|gT Z hg53<|A0 (I9 (rows:=Zg cI [2]) Z Z (D8 (fun _=>rfl) _)) Z<|gT Z hg53<|C2 (rs:=[.b x54]) Z Z (A2 Z (A2 Z B9)) ((A2w hx54).frz)<|A0 (D0 Z hg53 Z) Z<|ge 4 Z Z Z
 ·obtain rfl:=os (bf hx55 hg53)
  exact nT Z hg53 Z<|nT Z hg53 Z<|L2 (F4 Z (by rw[hg53];rfl)) Z<|A0 (C9 Z hg53 Z) Z<|ge 4 Z Z Z
 refine qm Z<|es (ra1 Z)<|C7 ?_
 obtain rfl:=os h
 exact retq trivial (A6 Z B8) (A4 Z B7) (A3 A5 A8)
end Pw
end
section
set_option maxRecDepth 100000
namespace Pw
theorem awake:A22=some true:= by decide +kernel
end Pw
end
section
set_option maxRecDepth 100000
set_option maxHeartbeats 0
namespace Pw
open Go Am Go.Proofs.Ytjpjdglddmhplaa.Cd
def S0 (a0:PaShow) (s4:(Int×PaShow)):Option ((Int×PaShow)⊕PaShow) :=
 if (decide (s4.1≥0))=true then
  (app 72 ([]:List PaGown) s4.2.Gowns).bind fun x7 =>
  (idx a0.Gowns s4.1).bind fun x8 =>
  (app 72 x7 [x8]).bind fun x9 =>
  some (.inl ((w64 (s4.1-1)),(PaShow.mk x9 s4.2.Figures s4.2.Purse s4.2.Incomes)))
 else
  some (.inr s4.2)
def S3 (a0:PaShow) (s11:(Int×PaShow)):Option ((Int×PaShow)⊕PaShow) :=
 if (decide (s11.1≥0))=true then
  (app 40 ([]:List PaFigure) s11.2.Figures).bind fun x14 =>
  (idx a0.Figures s11.1).bind fun x15 =>
  (app 40 x14 [x15]).bind fun x16 =>
  some (.inl ((w64 (s11.1-1)),(PaShow.mk s11.2.Gowns x16 s11.2.Purse s11.2.Incomes)))
 else
  some (.inr s11.2)
def S4 (a0:PaShow) (s18:(Int×PaShow)):Option ((Int×PaShow)⊕PaShow) :=
 if (decide (s18.1≥0))=true then
  (app 16 ([]:List PaIncome) s18.2.Incomes).bind fun x21 =>
  (idx a0.Incomes s18.1).bind fun x22 =>
  (app 16 x21 [x22]).bind fun x23 =>
  some (.inl ((w64 (s18.1-1)),(PaShow.mk s18.2.Gowns s18.2.Figures s18.2.Purse x23)))
 else
  some (.inr s18.2)
def A04 (a0:PaShow):Option Bool :=
 (A23 a0).bind fun x1 =>
 if (!x1)=true then
  (A22).bind fun x3 =>
  some x3
 else
  (loop (S0 a0) ((w64 ((Zh a0.Gowns:Int)-1)),(PaShow.mk ([]:List PaGown) ([]:List PaFigure) a0.Purse ([]:List PaIncome)))).bind fun (o10:PaShow) =>
  (loop (S3 a0) ((w64 ((Zh a0.Figures:Int)-1)),o10)).bind fun (o17:PaShow) =>
  (loop (S4 a0) ((w64 ((Zh a0.Incomes:Int)-1)),o17)).bind fun (o24:PaShow) =>
  (A0f a0).bind fun x25 =>
  (A0f o24).bind fun x26 =>
  (A2e a0).bind fun x27 =>
  (A2e o24).bind fun x28 =>
  (A2g a0).bind fun x29 =>
  (A2g o24).bind fun x30 =>
  (if ((((((((((x25.2.2.2==0)&&(x26.2.2.2==0))&&(x25.2.1==x26.2.1))&&(x25.2.2.1==x26.2.2.1))&&(x27.2.2==0))&&(x28.2.2==0))&&((Zh x27.1:Int)==(Zh x28.1:Int)))&&((Zh x27.2.1:Int)==(Zh x28.2.1:Int)))&&(x29.1==x30.1))&&(x29.2==x30.2))=true then
  (A22).bind fun x41 =>
  some x41
  else
  some false).bind fun x42 =>
  some x42
theorem B0l {c:Sc} {H:A1} (hscv:R5 c H=true) {a0:PaShow} {r:Bool} (h:A04 a0=some r) :
  E7 tab c H (.fn (.func 6) [] []) [(.agg (B3 a0))] [.b r]:= by
 unfold A04 at h
 refine cE Z Z<|sg 0 Z<|A0 (F9 (cs:=B3 a0) Z Z Z) Z<|qm Z<|es (ra1 Z)<|C3<|s0<|oB h fun x1 hx1 h=>A0 (E8 Z Z Z) Z<|C2 (rs:=[.b x1]) Z Z (A2 (E1 Z) B9) ((B7n hx1).frz)<|A0 (Y6 Z) Z<|es (ra2 Z Z)<|wi h Z (fun hc2 h=>?_) fun hc2 h=>?_
 ·refine s0<|oB h fun x3 hx3 h=>C2 (rs:=[.b x3]) Z Z B9 ((A8e (A8p hscv) hx3).frz)<|qm Z<|es (ra1 Z)<|C7 ?_
  obtain rfl:=os h
  exact retq trivial (A6 Z B8) (A4 Z B7) (A3 A5 A8)
 ·refine C6<|sg 1 Z<|A0 I4 Z<|es (ra2 Z Z)<|s0<|A0 (C1 Z) Z<|A0 (B4 Z Z Z) Z<|A0 (C1 Z) Z<|N5 (E4 (ds:=(B3 (PaShow.mk ([]:List PaGown) ([]:List PaFigure) a0.Purse ([]:List PaIncome)))) Z Z Z Z (D9 Z) Z) Z<|es (ra2 Z Z)<|C3<|s0<|A0 (C1 Z) Z<|A0 (B4 Z Z Z) Z<|A0 (G0 (f:=C0) Z) Z<|A0 (W1 Z Z) Z<|qm Z<|es (ra3 Z Z Z)<|C5<|oB h fun o10 ho10 h=>wl (fun s4=>[(1,(.ptr (H.length+0) 0)),(3,(.ptr (H.length+1) 0)),(4,.i s4.1)]) (fun (q5:Unit) s4=>[(.cells (B3 a0)),(.cells (B3 s4.2))]) 2 (fun r e s' H'=>PX 0 [(1,(.ptr (H.length+0) 0)),(3,(.ptr (H.length+1) 0))] (H++[(.cells (B3 a0)),(.cells (B3 r))]) e s' H') () ho10 Z Z (fun _ _=>rfl) (fun _=>rfl) Z (fun s4=>(bdc (N1 Z) (bdc (N1 Z) (bdc A5 bdn)))) (fun q5 s4 ys4 hs4=>?_) ?_
  ·unfold S0 at hs4
   refine C3<|s0<|qm Z<|A0 (A41 Z Z) Z<|es (ra4 Z Z Z Z)<|wi hs4 Z (fun hc6 hs4=>?_) fun hc6 hs4=>?_
   ·refine C6<|C3<|C5<|rg 2 Z<|oB hs4 fun x7 hx7 hs4=>oB hs4 fun x8 hx8 hs4=>oB hs4 fun x9 hx9 hs4=>A0 (B5w (rows:=Zg C0 []) Z Z (D8 (fun _=>rfl) _)) Z<|A0 (C1 Z) Z<|I5 [2] (N4 [2] rfl F5 Z Z) (seen0 Z) (B4 Z Z Z) Z<|B11 [0] [(.cells (B3 a0)),(.cells (B3 s4.2)),(.arr 8 false (Zg C0 x7))] (N4 [] rfl (A6h Z A4b F5) Z Z) (seen0 Z) (A4l (f:=C0) Z Z Z Z A1w (fun _=>rfl) hx7) Z Z Z<|A0 (C1 Z) Z<|I5 [2] (N4 [2] rfl F5 Z Z) (B2h (b:=H.length+0) Z (A6d (A1p _ Z) A8r)) (B4 Z Z Z) Z<|qm Z<|I5 [2] (N4 [2] rfl F5 Z Z) (A1l Z) (G6 (f:=C0) Z Z hx8) Z<|I5 [2] (N4 [2] rfl F5 Z Z) (A1l Z) (G7 Z Z) Z<|A0 (I9 (rows:=Zg C0 [x8]) Z Z (D8 (fun _=>rfl) _)) Z<|O2 (C15 (f:=C0) Z Z Z Z A1w (fun _=>rfl) hx9) Z<|A0 (C1 Z) Z<|N5 (E4 (ds:=(B3 (PaShow.mk x9 s4.2.Figures s4.2.Purse s4.2.Incomes))) Z Z Z Z (D9 Z) Z) Z<|en (ra3 Z Z Z)<|r0<|qm Z<|A0 (W1 Z Z) Z<|qm Z<|en (ra3 Z Z Z) ?_
    cases hs4
    exact lnT () Z (su3 Z Z Z)
   ·refine J1 ?_
    obtain rfl:=os hs4
    exact lx Z px (su2 Z Z)
  ·rintro e s' H'-⟨rfl,rfl,rfl⟩
   refine C3<|s0<|A0 (C1 Z) Z<|A0 (B4 Z Z Z) Z<|A0 (G0 (f:=B2) Z) Z<|A0 (W1 Z Z) Z<|qm Z<|es (ra3 Z Z Z)<|C5<|oB h fun o17 ho17 h=>wl (fun s11=>[(1,(.ptr (H.length+0) 0)),(3,(.ptr (H.length+1) 0)),(5,.i s11.1)]) (fun (q12:Unit) s11=>[(.cells (B3 a0)),(.cells (B3 s11.2))]) 2 (fun r e s' H'=>PX 2 [(1,(.ptr (H.length+0) 0)),(3,(.ptr (H.length+1) 0))] (H++[(.cells (B3 a0)),(.cells (B3 r))]) e s' H') () ho17 Z Z (fun _ _=>rfl) (fun _=>rfl) Z (fun s11=>(bdc (N1 Z) (bdc (N1 Z) (bdc A5 bdn)))) (fun q12 s11 ys11 hs11=>?_) ?_
   ·unfold S3 at hs11
    refine C3<|s0<|qm Z<|A0 (A41 Z Z) Z<|es (ra4 Z Z Z Z)<|wi hs11 Z (fun hc13 hs11=>?_) fun hc13 hs11=>?_
    ·refine C6<|C3<|C5<|rg 2 Z<|oB hs11 fun x14 hx14 hs11=>oB hs11 fun x15 hx15 hs11=>oB hs11 fun x16 hx16 hs11=>A0 (B5w (rows:=Zg B2 []) Z Z (D8 (fun _=>rfl) _)) Z<|A0 (C1 Z) Z<|I5 [2] (N4 [2] rfl F5 Z Z) (seen0 Z) (B4 Z Z Z) Z<|B11 [0] [(.cells (B3 a0)),(.cells (B3 s11.2)),(.arr 4 false (Zg B2 x14))] (N4 [] rfl (A6h Z A4b F5) Z Z) (seen0 Z) (A4l (f:=B2) Z Z Z Z A1w (fun _=>rfl) hx14) Z Z Z<|A0 (C1 Z) Z<|I5 [2] (N4 [2] rfl F5 Z Z) (B2h (b:=H.length+0) Z (A6d (A1p _ Z) A8r)) (B4 Z Z Z) Z<|qm Z<|I5 [2] (N4 [2] rfl F5 Z Z) (A1l Z) (G6 (f:=B2) Z Z hx15) Z<|I5 [2] (N4 [2] rfl F5 Z Z) (A1l Z) (G7 Z Z) Z<|A0 (I9 (rows:=Zg B2 [x15]) Z Z (D8 (fun _=>rfl) _)) Z<|O2 (C15 (f:=B2) Z Z Z Z A1w (fun _=>rfl) hx16) Z<|A0 (C1 Z) Z<|N5 (E4 (ds:=(B3 (PaShow.mk s11.2.Gowns x16 s11.2.Purse s11.2.Incomes))) Z Z Z Z (D9 Z) Z) Z<|en (ra3 Z Z Z)<|r0<|qm Z<|A0 (W1 Z Z) Z<|qm Z<|en (ra3 Z Z Z) ?_
     cases hs11
     exact lnT () Z (su3 Z Z Z)
    ·refine J1 ?_
     obtain rfl:=os hs11
     exact lx Z px (su2 Z Z)
   ·rintro e s' H'-⟨rfl,rfl,rfl⟩
    refine C3<|s0<|A0 (C1 Z) Z<|A0 (B4 Z Z Z) Z<|A0 (G0 (f:=C8) Z) Z<|A0 (W1 Z Z) Z<|qm Z<|es (ra3 Z Z Z)<|C5<|oB h fun o24 ho24 h=>wl (fun s18=>[(1,(.ptr (H.length+0) 0)),(3,(.ptr (H.length+1) 0)),(6,.i s18.1)]) (fun (q19:Unit) s18=>[(.cells (B3 a0)),(.cells (B3 s18.2))]) 2 (fun r e s' H'=>PX 4 [(1,(.ptr (H.length+0) 0)),(3,(.ptr (H.length+1) 0))] (H++[(.cells (B3 a0)),(.cells (B3 r))]) e s' H') () ho24 Z Z (fun _ _=>rfl) (fun _=>rfl) Z (fun s18=>(bdc (N1 Z) (bdc (N1 Z) (bdc A5 bdn)))) (fun q19 s18 ys18 hs18=>?_) ?_
    ·unfold S4 at hs18
     refine C3<|s0<|qm Z<|A0 (A41 Z Z) Z<|es (ra4 Z Z Z Z)<|wi hs18 Z (fun hc20 hs18=>?_) fun hc20 hs18=>?_
     ·refine C6<|C3<|C5<|rg 2 Z<|oB hs18 fun x21 hx21 hs18=>oB hs18 fun x22 hx22 hs18=>oB hs18 fun x23 hx23 hs18=>A0 (B5w (rows:=Zg C8 []) Z Z (D8 (fun _=>rfl) _)) Z<|A0 (C1 Z) Z<|I5 [2] (N4 [2] rfl F5 Z Z) (seen0 Z) (B4 Z Z Z) Z<|B11 [0] [(.cells (B3 a0)),(.cells (B3 s18.2)),(.arr 2 false (Zg C8 x21))] (N4 [] rfl (A6h Z A4b F5) Z Z) (seen0 Z) (A4l (f:=C8) Z Z Z Z A1w (fun _=>rfl) hx21) Z Z Z<|A0 (C1 Z) Z<|I5 [2] (N4 [2] rfl F5 Z Z) (B2h (b:=H.length+0) Z (A6d (A1p _ Z) A8r)) (B4 Z Z Z) Z<|qm Z<|I5 [2] (N4 [2] rfl F5 Z Z) (A1l Z) (G6 (f:=C8) Z Z hx22) Z<|I5 [2] (N4 [2] rfl F5 Z Z) (A1l Z) (G7 Z Z) Z<|A0 (I9 (rows:=Zg C8 [x22]) Z Z (D8 (fun _=>rfl) _)) Z<|O2 (C15 (f:=C8) Z Z Z Z A1w (fun _=>rfl) hx23) Z<|A0 (C1 Z) Z<|N5 (E4 (ds:=(B3 (PaShow.mk s18.2.Gowns s18.2.Figures s18.2.Purse x23))) Z Z Z Z (D9 Z) Z) Z<|en (ra3 Z Z Z)<|r0<|qm Z<|A0 (W1 Z Z) Z<|qm Z<|en (ra3 Z Z Z) ?_
      cases hs18
      exact lnT () Z (su3 Z Z Z)
     ·refine J1 ?_
      obtain rfl:=os hs18
      exact lx Z px (su2 Z Z)
    ·rintro e s' H'-⟨rfl,rfl,rfl⟩
     refine s0<|oB h fun x25 hx25 h=>A0 (E8 Z Z Z) Z<|C2 (rs:=[(.seq 3 (Zg B1 x25.1)),.i x25.2.1,.i x25.2.2.1,.i x25.2.2.2]) Z Z (A2 (E1 Z) B9) ((A3s (A8p hscv) hx25).frz)<|qm Z<|A0 (A9 Z Z) Z<|A0 (A9 Z Z) Z<|A0 (A9 Z Z) Z<|A0 (A9 Z Z) Z<|qm Z<|qm Z<|qm Z<|qm Z<|es (ra5 Z Z Z Z Z)<|s0<|oB h fun x26 hx26 h=>A0 (E8 Z Z Z) Z<|C2 (rs:=[(.seq 3 (Zg B1 x26.1)),.i x26.2.1,.i x26.2.2.1,.i x26.2.2.2]) Z Z (A2 (E1 Z) B9) ((A3s (A8p hscv) hx26).frz)<|qm Z<|A0 (A9 Z Z) Z<|A0 (A9 Z Z) Z<|A0 (A9 Z Z) Z<|A0 (A9 Z Z) Z<|qm Z<|qm Z<|qm Z<|qm Z<|es (ra8 Z Z Z Z Z Z Z Z)<|s0<|oB h fun x27 hx27 h=>A0 (E8 Z Z Z) Z<|C2 (rs:=[(.seq 1 (Zg cI x27.1)),(.seq 1 (Zg cI x27.2.1)),.i x27.2.2]) Z Z (A2 (E1 Z) B9) ((A61 (A8p hscv) hx27).frz)<|qm Z<|A0 (A9 Z Z) Z<|A0 (A9 Z Z) Z<|A0 (A9 Z Z) Z<|qm Z<|qm Z<|qm Z<|es (ra11 Z Z Z Z Z Z Z Z Z Z Z)<|s0<|oB h fun x28 hx28 h=>A0 (E8 Z Z Z) Z<|C2 (rs:=[(.seq 1 (Zg cI x28.1)),(.seq 1 (Zg cI x28.2.1)),.i x28.2.2]) Z Z (A2 (E1 Z) B9) ((A61 (A8p hscv) hx28).frz)<|qm Z<|A0 (A9 Z Z) Z<|A0 (A9 Z Z) Z<|A0 (A9 Z Z) Z<|qm Z<|qm Z<|qm Z<|es (ra14 Z Z Z Z Z Z Z Z Z Z Z Z Z Z)<|s0<|oB h fun x29 hx29 h=>A0 (E8 Z Z Z) Z<|C2 (rs:=[.i x29.1,.i x29.2]) Z Z (A2 (E1 Z) B9) ((A62 (A8p hscv) hx29).frz)<|qm Z<|A0 (A9 Z Z) Z<|A0 (A9 Z Z) Z<|qm Z<|qm Z ?_
     refine es (.k Z (.k Z (.k Z (.k Z (.k Z (.k Z (.k Z (.k Z (.k Z (.k Z (.k Z (.k Z (.k Z (.k Z (.k Z .n)))))))))))))))<|s0<|oB h fun x30 hx30 h=>A0 (E8 Z Z Z) Z<|C2 (rs:=[.i x30.1,.i x30.2]) Z Z (A2 (E1 Z) B9) ((A62 (A8p hscv) hx30).frz)<|qm Z<|A0 (A9 Z Z) Z<|A0 (A9 Z Z) Z<|qm Z<|qm Z<|es (.k Z (.k Z (.k Z (.k Z (.k Z (.k Z (.k Z (.k Z (.k Z (.k Z (.k Z (.k Z (.k Z (.k Z (.k Z (.k Z .n))))))))))))))))<|s0<|oB h fun x42 hx42 h=>qm Z<|A0 (I3 Z Z) Z<|qm Z<|gp 3 133 (.b ((x25.2.2.2==0)&&(x26.2.2.2==0))) 130 Z Z (fun hg31=>?_) (fun hg31=>?_) ?_
     ·exact gT Z hg31<|qm Z<|gT Z hg31<|A0 (I3 Z Z) Z<|A0 (D0 Z hg31 Z) Z<|ge 3 (by rw[hg31];rfl) Z Z
     ·exact nT Z hg31 Z<|nT Z hg31 Z<|A0 (C9 Z hg31 Z) Z<|ge 3 (by rw[hg31];rfl) Z Z
     refine qm Z<|gp 4 138 (.b (((x25.2.2.2==0)&&(x26.2.2.2==0))&&(x25.2.1==x26.2.1))) 134 Z Z (fun hg32=>?_) (fun hg32=>?_) ?_
     ·exact gT Z hg32<|qm Z<|gT Z hg32<|qm Z<|gT Z hg32<|A0 (I3 Z Z) Z<|A0 (D0 Z hg32 Z) Z<|ge 4 (by rw[hg32];rfl) Z Z
     ·exact nT Z hg32 Z<|nT Z hg32 Z<|nT Z hg32 Z<|A0 (C9 Z hg32 Z) Z<|ge 4 (by rw[hg32];rfl) Z Z
     refine qm Z<|gp 4 143 (.b ((((x25.2.2.2==0)&&(x26.2.2.2==0))&&(x25.2.1==x26.2.1))&&(x25.2.2.1==x26.2.2.1))) 139 Z Z (fun hg33=>?_) (fun hg33=>?_) ?_
     ·exact gT Z hg33<|qm Z<|gT Z hg33<|qm Z<|gT Z hg33<|A0 (I3 Z Z) Z<|A0 (D0 Z hg33 Z) Z<|ge 4 (by rw[hg33];rfl) Z Z
     ·exact nT Z hg33 Z<|nT Z hg33 Z<|nT Z hg33 Z<|A0 (C9 Z hg33 Z) Z<|ge 4 (by rw[hg33];rfl) Z Z
     refine qm Z<|gp 3 147 (.b (((((x25.2.2.2==0)&&(x26.2.2.2==0))&&(x25.2.1==x26.2.1))&&(x25.2.2.1==x26.2.2.1))&&(x27.2.2==0))) 144 Z Z (fun hg34=>?_) (fun hg34=>?_) ?_
     ·exact gT Z hg34<|qm Z<|gT Z hg34<|A0 (I3 Z Z) Z<|A0 (D0 Z hg34 Z) Z<|ge 3 (by rw[hg34];rfl) Z Z
     ·exact nT Z hg34 Z<|nT Z hg34 Z<|A0 (C9 Z hg34 Z) Z<|ge 3 (by rw[hg34];rfl) Z Z
     refine qm Z<|gp 3 151 (.b ((((((x25.2.2.2==0)&&(x26.2.2.2==0))&&(x25.2.1==x26.2.1))&&(x25.2.2.1==x26.2.2.1))&&(x27.2.2==0))&&(x28.2.2==0))) 148 Z Z (fun hg35=>?_) (fun hg35=>?_) ?_
     ·exact gT Z hg35<|qm Z<|gT Z hg35<|A0 (I3 Z Z) Z<|A0 (D0 Z hg35 Z) Z<|ge 3 (by rw[hg35];rfl) Z Z
     ·exact nT Z hg35 Z<|nT Z hg35 Z<|A0 (C9 Z hg35 Z) Z<|ge 3 (by rw[hg35];rfl) Z Z
     refine qm Z<|gp 6 158 (.b (((((((x25.2.2.2==0)&&(x26.2.2.2==0))&&(x25.2.1==x26.2.1))&&(x25.2.2.1==x26.2.2.1))&&(x27.2.2==0))&&(x28.2.2==0))&&((Zh x27.1:Int)==(Zh x28.1:Int)))) 152 Z Z (fun hg36=>?_) (fun hg36=>?_) ?_
     ·exact gT Z hg36<|qm Z<|gT Z hg36<|A0 (G0 (f:=cI) Z) Z<|gT Z hg36<|qm Z<|gT Z hg36<|A0 (G0 (f:=cI) Z) Z<|gT Z hg36<|A0 (I3 Z Z) Z<|A0 (D0 Z hg36 Z) Z<|ge 6 (by rw[hg36];rfl) Z Z
     ·exact nT Z hg36 Z<|nT Z hg36 Z<|nT Z hg36 Z<|nT Z hg36 Z<|nT Z hg36 Z<|A0 (C9 Z hg36 Z) Z<|ge 6 (by rw[hg36];rfl) Z Z
     refine qm Z<|gp 6 165 (.b ((((((((x25.2.2.2==0)&&(x26.2.2.2==0))&&(x25.2.1==x26.2.1))&&(x25.2.2.1==x26.2.2.1))&&(x27.2.2==0))&&(x28.2.2==0))&&((Zh x27.1:Int)==(Zh x28.1:Int)))&&((Zh x27.2.1:Int)==(Zh x28.2.1:Int)))) 159 Z Z (fun hg37=>?_) (fun hg37=>?_) ?_
     ·exact gT Z hg37<|qm Z<|gT Z hg37<|A0 (G0 (f:=cI) Z) Z<|gT Z hg37<|qm Z<|gT Z hg37<|A0 (G0 (f:=cI) Z) Z<|gT Z hg37<|A0 (I3 Z Z) Z<|A0 (D0 Z hg37 Z) Z<|ge 6 (by rw[hg37];rfl) Z Z
     ·exact nT Z hg37 Z<|nT Z hg37 Z<|nT Z hg37 Z<|nT Z hg37 Z<|nT Z hg37 Z<|A0 (C9 Z hg37 Z) Z<|ge 6 (by rw[hg37];rfl) Z Z
     refine qm Z<|gp 4 170 (.b (((((((((x25.2.2.2==0)&&(x26.2.2.2==0))&&(x25.2.1==x26.2.1))&&(x25.2.2.1==x26.2.2.1))&&(x27.2.2==0))&&(x28.2.2==0))&&((Zh x27.1:Int)==(Zh x28.1:Int)))&&((Zh x27.2.1:Int)==(Zh x28.2.1:Int)))&&(x29.1==x30.1))) 166 Z Z (fun hg38=>?_) (fun hg38=>?_) ?_
     ·exact gT Z hg38<|qm Z<|gT Z hg38<|qm Z<|gT Z hg38<|A0 (I3 Z Z) Z<|A0 (D0 Z hg38 Z) Z<|ge 4 (by rw[hg38];rfl) Z Z
     ·exact nT Z hg38 Z<|nT Z hg38 Z<|nT Z hg38 Z<|A0 (C9 Z hg38 Z) Z<|ge 4 (by rw[hg38];rfl) Z Z
     refine qm Z<|gp 4 175 (.b ((((((((((x25.2.2.2==0)&&(x26.2.2.2==0))&&(x25.2.1==x26.2.1))&&(x25.2.2.1==x26.2.2.1))&&(x27.2.2==0))&&(x28.2.2==0))&&((Zh x27.1:Int)==(Zh x28.1:Int)))&&((Zh x27.2.1:Int)==(Zh x28.2.1:Int)))&&(x29.1==x30.1))&&(x29.2==x30.2))) 171 Z Z (fun hg39=>?_) (fun hg39=>?_) ?_
     ·exact gT Z hg39<|qm Z<|gT Z hg39<|qm Z<|gT Z hg39<|A0 (I3 Z Z) Z<|A0 (D0 Z hg39 Z) Z<|ge 4 (by rw[hg39];rfl) Z Z
     ·exact nT Z hg39 Z<|nT Z hg39 Z<|nT Z hg39 Z<|A0 (C9 Z hg39 Z) Z<|ge 4 (by rw[hg39];rfl) Z Z
     refine qm Z<|gp 2 178 (.b x42) 176 Z Z (fun hg40=>?_) (fun hg40=>?_) ?_
     ·refine oB (bt hx42 hg40) fun x41 hx41 hx42=>?_
      obtain rfl:=os hx42
      exact gT Z hg40<|C2 (rs:=[.b x41]) Z Z B9 ((A8e (A8p hscv) hx41).frz)<|A0 (D0 Z hg40 Z) Z<|ge 2 Z Z Z
     ·obtain rfl:=os (bf hx42 hg40)
      exact L2 (F4 Z (by rw[hg40];rfl)) Z<|A0 (C9 Z hg40 Z) Z<|ge 2 Z Z Z
     refine qm Z<|es (ra1 Z)<|C7 ?_
     obtain rfl:=os h
     exact retq trivial (A6 Z B8) (A4 Z B7) (A3 A5 A8)
end Pw
end
section
namespace Pw
open Go Am
theorem B2q {α:Type} {k:Nat} {l m:List α} (hk:k≤100) (h:l.length+m.length≤1000):app k l m=some (l++m):= by
 unfold app
 have:=Z2i h hk
 rw[if_pos ⟨by omega,by omega⟩]
theorem B8c {α σ:Type} [Inhabited α] (l:List α) (st:List α→σ) {b:Int×σ→Option ((Int×σ)⊕σ)} (hl:l.length≤100)
  (hs:∀(i:Nat) (m:List α),i<l.length→m.length≤l.length→b ((i:Int),st m)=some (.inl ((i:Int)-1,st (m++[l[i]!])))) (he:∀m,b (-1,st m)=some (.inr (st m))):loop b (w64 ((l.length:Int)-1),st [])=some (st l.reverse):= by
 have:=A4g (b:=b) (fun k=>((l.length:Int)-1-(k:Int),st (l.reverse.take k))) l.length (r:=st l.reverse) (by omega) (fun k hk=>by
  have e:(l.length:Int)-1-(k:Int)=((l.length-1-k:Nat):Int):= by omega
  have:=hs (l.length-1-k) (l.reverse.take k) (by omega) (by simp;omega)
  rw[e,this,← C2j hk]
  have e2:l.reverse.take (k+1)=l.reverse.take k++[l.reverse[k]!]:= by
   rw[List.take_succ_eq_append_getElem (by simpa using hk),getElem!_pos _ k (by simpa using hk)]
  rw[e2]
  congr 3
  omega) (by
  rw[show (l.length:Int)-1-(l.length:Int) = -1 by omega,he,List.take_of_length_le (by simp)])
 rw[G1 (by omega)]
 have e:(l.length:Int)-1=(l.length:Int)-1-((0:Nat):Int):= by omega
 rw[e]
 exact this
theorem C5n {s:PaShow} (h:NB s):NB (V0 s):=⟨fun v hv=>h.1 v (by simpa [V0] using hv),fun v hv=>h.2 v (by simpa [V0] using hv)⟩
theorem B70 {s:PaShow} (hb:NB s):A04 s=some true:= by
 unfold A04
 rw[D3x,awake]
 simp only[Zf]
 by_cases hv:(chk s).2.2=0
 ·have hs:=(A2s s).mp hv
  have hG:=hs.gowns
  have hF:=hs.figures
  have hI:=hs.incomes
  rw[if_neg (by simp[hv])]
  rw[B8c s.Gowns (fun m=>PaShow.mk m [] s.Purse []) (b:=S0 s) (by omega) (fun i m hi hm=>by
   unfold S0
   simp only[]
   rw[if_pos (by simp),B2q (by omega) (by simp;omega),ZZ,K2 hi,G1 (by omega)]
   simp only[Zf]
   rw[B2q (by omega) (by simp;omega)]
   rfl) (fun m=>by unfold S0;rw[if_neg (by simp)])]
  simp only[Zf]
  rw[B8c s.Figures (fun m=>PaShow.mk s.Gowns.reverse m s.Purse []) (b:=S3 s) (by omega) (fun i m hi hm=>by
   unfold S3
   simp only[]
   rw[if_pos (by simp),B2q (by omega) (by simp;omega),ZZ,K2 hi,G1 (by omega)]
   simp only[Zf]
   rw[B2q (by omega) (by simp;omega)]
   rfl) (fun m=>by unfold S3;rw[if_neg (by simp)])]
  simp only[Zf]
  rw[B8c s.Incomes (fun m=>PaShow.mk s.Gowns.reverse s.Figures.reverse s.Purse m) (b:=S4 s) (by omega) (fun i m hi hm=>by
   unfold S4
   simp only[]
   rw[if_pos (by simp),B2q (by omega) (by simp;omega),ZZ,K2 hi,G1 (by omega)]
   simp only[Zf]
   rw[B2q (by omega) (by simp;omega)]
   rfl) (fun m=>by unfold S4;rw[if_neg (by simp)])]
  simp only[Zf]
  rw[show PaShow.mk s.Gowns.reverse s.Figures.reverse s.Purse s.Incomes.reverse=V0 s from Z]
  have hr:=A1z hs
  have hvr:=(A2s _).mpr hr
  obtain⟨b,e1⟩:=C2q hb hs
  obtain⟨c,e2⟩:=C2q (C5n hb) hr
  rw[e1,e2,C7a s hb,C7a _ (C5n hb),C7c s hb,C7c _ (C5n hb),hv,hvr,B1d hs,D1d hs,D2f hs]
  have hl:(V0 s).Figures.length=s.Figures.length:= by unfold V0;simp
  have g1:(fsL (A3j (V0 s)) (V0 s).Figures.length).length=(fsL (A3j s) s.Figures.length).length:= by
   rw[hl];exact D1q hF fun k hk=>(C25 hs hk).1
  have g2:(fsL (A9l (V0 s)) (V0 s).Figures.length).length=(fsL (A9l s) s.Figures.length).length:= by
   rw[hl];exact D1q hF fun k hk=>(C25 hs hk).2
  simp only[Zf,if_true,g1,g2,BEq.rfl,Bool.and_self]
 ·rw[if_pos (by simp[hv])]
end Pw
end
