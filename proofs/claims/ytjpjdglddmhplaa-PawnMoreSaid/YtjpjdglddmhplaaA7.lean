/- Texts that the claim stands on, one behind another. -/
import Derived.Test.YtjpjdglddmhplaaA6
set_option linter.unusedVariables false
set_option linter.unusedSimpArgs false
set_option linter.unnecessarySimpa false
open And renaming intro→ZO
open Bool renaming and_eq_true→Zc,true_and→Z16
open Int renaming le_refl→ZR,le_trans→Z4w,mul_le_mul_of_nonneg_right→Z3c
open List renaming any_eq_false→Z3q,append_assoc→Zz,filter_cons→Z21,getElem?_eq_some_iff→Ze,getElem_map→Z32,getElem_mem→Z1y,getElem_zip→Z3z,length_append→Zp,length_cons→ZX,length_map→Zi,length_replicate→Z1o,length_take→ZE,length_zip→Z46,length→Zh,map_congr_left→Z3f,map_map→Z0c,map→Zd,mem_append→ZA,mem_cons_of_mem→ZB,mem_cons_self→ZC,mem_cons→Zv,mem_filter→Z0k,mem_flatMap→Z2i,mem_iff_getElem→ZW,mem_map_of_mem→Z10,mem_map→ZJ,mem_take_iff_getElem→Z0b,nil_append→Z00,pairwise_append→Z0v,pairwise_iff_getElem→Z0a,range→Z09,replicate→Zu,set_getElem_self→Z2h,take_left→Z07,take_succ_cons→Z22
open Nat renaming div_add_mod→Z43,le_add_right→Zx,min_eq_left→Z1a,mod_lt→Z1s,mul_comm→Z1x,mul_le_mul→Z2u,succ_mul→Z1z
open Option renaming bind_some→Zg
section
namespace Pw
open Go Am
def ku (u:PaUse):Int:=(if u.Gown = -1 then 100 else u.Gown)*10000+u.How*1000+u.Day
def A01:List PaUse→List PaUse→Bool
 | [],[]=>false
 | [],_::_=>true
 | _::_,[]=>false
 | a::l,b::m=>if ku a=ku b then A01 l m else decide (ku a<ku b)
theorem B66:∀l:List PaUse,A01 l l=false
 | []=>rfl
 | a::l=>by unfold A01;rw[if_pos Z];exact B66 l
theorem B3d:∀q a b:List PaUse,A01 (q++a) (q++b)=A01 a b
 | [],a,b=>rfl
 | x::q,a,b=>by
  show (if ku x=ku x then A01 (q++a) (q++b) else decide (ku x<ku x))=_
  rw[if_pos Z];exact B3d q a b
theorem B4f:∀a b c:List PaUse,a.length=b.length→b.length=c.length→A01 a b=false→A01 b c=false→A01 a c=false
 | [],[],[],_,_,_,_=>rfl
 | x::a,y::b,z::c,h1,h2,h3,h4=>by
  unfold A01 at h3 h4 ⊢
  by_cases e1:ku x=ku y
  ·rw[if_pos e1]at h3
   by_cases e2:ku y=ku z
   ·rw[if_pos e2]at h4
    rw[if_pos (by omega)]
    exact B4f a b c (by simpa using h1) (by simpa using h2) h3 h4
   ·rw[if_neg e2]at h4
    rw[if_neg (by omega)]
    simp at h4 ⊢; omega
  ·rw[if_neg e1]at h3
   simp at h3
   by_cases e2:ku y=ku z
   ·rw[if_neg (by omega)];simp;omega
   ·rw[if_neg e2]at h4
    simp at h4
    rw[if_neg (by omega)];simp;omega
theorem C0i (f:PaUse→PaUse):∀l:List PaUse,(∀ x∈l,ku (f x)≤ku x)→A01 l (l.map f)=false
 | [],_=>rfl
 | x::l,h=>by
  rw[List.map_cons]
  unfold A01
  have:=h x (ZC ..)
  split
  ·exact C0i f l fun y hy=>h y (ZB _ hy)
  ·simp;omega
structure DyOk (D:List Int):Prop where
 pos:0<D.length
 len:D.length≤365
 str:Str D
 bd:∀x∈D,0≤x∧x≤364
 zero:(0:Int)∈D
theorem A1z {s:PaShow} (hs:ShOk s):DyOk (M9 s):=⟨B1a.1,B1a.2,B9r s,fun x hx=>by
  rcases (A82 hs x).mp hx with rfl|⟨y,hy,rfl⟩
  ·exact⟨by decide,by decide⟩
  ·exact(hs.income y hy).day,(A82 hs 0).mpr (.inl Z)⟩
theorem D9b {s:PaShow} (hs:ShOk s) {D:List Int} (hD:DyOk D) {n:Nat} (h:n<nU s D):n / D.length / 3<s.Gowns.length∧n<6000:= by
 have hG:=hs.gowns
 constructor
 ·rw[Nat.div_div_eq_div_mul]
  refine Nat.div_lt_of_lt_mul ?_
  unfold nU at h
  have:s.Gowns.length*3*D.length=D.length*3*s.Gowns.length:= by
   rw[Nat.mul_assoc,Z1x s.Gowns.length,Z1x 3]
  omega
 ·have:s.Gowns.length*3*D.length≤15*365:=Z2u (by omega) hD.len
  unfold nU at h
  omega
theorem D4i {D:List Int} (hD:DyOk D) {n m:Nat} (h:n<m):ku (S3 D n)<ku (S3 D m):= by
 have hp:=hD.pos
 have b1:=hD.bd _ (K3 (l:=D) (Z1s n hp))
 have b2:=hD.bd _ (K3 (l:=D) (Z1s m hp))
 have hn:=Z43 n D.length
 have hm:=Z43 m D.length
 have r1:=Z1s n hp
 have r2:=Z1s m hp
 have hle:n / D.length≤m / D.length:=Nat.div_le_div_right (Nat.le_of_lt h)
 have hc:n / D.length=m / D.length→D[n % D.length]! < D[m % D.length]!:=fun e=>by
  rw[e]at hn
  have hr:n % D.length<m % D.length:= by omega
  have:=Z0a.mp hD.str _ _ r1 r2 hr
  rwa [getElem!_pos D _ r1,getElem!_pos D _ r2]
 unfold ku S3
 simp only
 clear hn hm
 generalize D[n % D.length]! = x at *
 generalize D[m % D.length]! = y at *
 generalize n / D.length=a at *
 generalize m / D.length=c at *
 rw[if_neg (by omega),if_neg (by omega)]
 by_cases e:a=c
 ·have:=hc e
  subst e
  omega
 ·omega
theorem B7c {s:PaShow} {D:List Int} {q:List PaUse} {u:PaUse}:u∈cand s D q↔(∃ n,n<nU s D∧S3 D n=u)∧okU s q u=true:= by
 unfold cand
 rw[Z0k,ZJ]
 constructor
 ·rintro⟨⟨n,hn,e⟩,h⟩;exact⟨⟨n,by simpa using hn,e⟩,h⟩
 ·rintro⟨⟨n,hn,e⟩,h⟩;exact⟨⟨n,by simpa using hn,e⟩,h⟩
def Ext (s:PaShow) (D:List Int):List PaUse→List PaUse→Prop
 | _,[]=>True
 | q,u::r=>(u=bare0∨u∈cand s D q)∧Ext s D (q++[u]) r
theorem A8i {s:PaShow} {D:List Int}:∀{d:Nat} {q p:List PaUse},p∈PL s D d q↔∃ r,p=q++r∧r.length=d∧Ext s D q r
 | 0,q,p=>by
  unfold PL
  rw[List.mem_singleton]
  constructor
  ·intro h;exact⟨[],by simp[h],Z,trivial⟩
  ·rintro⟨r,rfl,hr,_⟩
   rw[List.length_eq_zero_iff.mp hr,List.append_nil]
 | d+1,q,p=>by
  unfold PL
  rw[ZA,Z2i]
  constructor
  ·rintro (⟨u,hu,hp⟩|hp)
   ·obtain⟨r,rfl,hr,he⟩:=A8i.mp hp
    exact⟨u::r,by simp,by simp[hr],.inr hu,he⟩
   ·obtain⟨r,rfl,hr,he⟩:=A8i.mp hp
    exact⟨bare0::r,by simp,by simp[hr],.inl Z,he⟩
  ·rintro⟨r,rfl,hr,he⟩
   cases r with
   | nil=>cases hr
   | cons u r =>
    obtain⟨hu,he⟩:=he
    have hmem:q++u::r∈PL s D d (q++[u]):=A8i.mpr ⟨r,by simp,by simpa using hr,he⟩
    rcases hu with rfl|hu
    ·exact .inr hmem
    ·exact .inl ⟨u,hu,hmem⟩
theorem C09 {s:PaShow} (hs:ShOk s) {D:List Int} (hD:DyOk D):∀(d:Nat) (q:List PaUse),(PL s D d q).Pairwise fun a b=>A01 b a=false
 | 0,q=>by unfold PL;simp
 | d+1,q=>by
  have hG:=hs.gowns
  unfold PL
  rw[Z0v]
  refine⟨?_,C09 hs hD d _,?_⟩
  ·rw[List.pairwise_flatMap]
   refine⟨fun u _=>C09 hs hD d _,?_⟩
   have hp:(cand s D q).Pairwise fun a b=>ku a<ku b:= by
    unfold cand
    refine List.Pairwise.filter _ ?_
    rw[List.pairwise_map]
    exact List.pairwise_lt_range.imp fun h=>D4i hD h
   refine hp.imp fun {f g} hfg x hx y hy=>?_
   obtain⟨s',rfl,-⟩:=A8i.mp hx
   obtain⟨t,rfl,-⟩:=A8i.mp hy
   rw[Zz,Zz,B3d]
   show A01 (g::t) (f::s')=false
   unfold A01
   rw[if_neg (by omega),decide_eq_false (by omega)]
  ·intro a ha b hb
   obtain⟨u,hu,hx⟩:=Z2i.mp ha
   obtain⟨s',rfl,-⟩:=A8i.mp hx
   obtain⟨t,rfl,-⟩:=A8i.mp hb
   rw[Zz,Zz,B3d]
   show A01 (bare0::t) (u::s')=false
   obtain⟨⟨n,hn,rfl⟩,_⟩:=B7c.mp hu
   have h1:=D9b hs hD hn
   have b1:=hD.bd _ (K3 (l:=D) (Z1s n hD.pos))
   have hk:ku (S3 D n)<ku bare0:= by
    have e:ku bare0=1000000:=rfl
    rw[e]
    unfold ku S3
    simp only
    generalize D[n % D.length]! = x at *
    generalize n / D.length=a at *
    rw[if_neg (by omega)]
    omega
   unfold A01
   rw[if_neg (by omega),decide_eq_false (by omega)]
def C2u (s:PaShow) (D:List Int) (q:List PaUse) (u:PaUse):Prop:=A23 s.Gowns s.Figures[q.length]! u=0∧D18 q u=false∧(u.Gown = -1∨u.Day∈D)
theorem D1m {s:PaShow} (hs:ShOk s) {D:List Int} (hD:DyOk D) {q:List PaUse} {u:PaUse}:(u=bare0∨u∈cand s D q)↔C2u s D q u:= by
 unfold C2u
 constructor
 ·rintro (rfl|h)
  ·exact⟨U6.mpr (.inl Z),Z,.inl Z⟩
  ·obtain⟨⟨n,hn,rfl⟩,h2⟩:=B7c.mp h
   unfold okU at h2
   rw[Zc,beq_iff_eq,Bool.not_eq_true']at h2
   exact⟨h2.1,h2.2,.inr (K3 (Z1s n hD.pos))⟩
 ·rintro⟨h1,h2,h3⟩
  rcases U6.mp h1 with e|e
  ·exact .inl e
  ·right
   have hlo:=e.lo
   have hhi:=e.hi
   obtain⟨k,hk,hkd⟩:=A25 (h3.resolve_left (by omega))
   have hh:0≤u.How∧u.How≤2:= by
    rcases form1 e.form with h|⟨_,h|h⟩ <;> omega
   refine B7c.mpr ⟨⟨(u.Gown.toNat*3+u.How.toNat)*D.length+k,?_,?_⟩,?_⟩
   ·unfold nU
    have:(u.Gown.toNat*3+u.How.toNat)*D.length+D.length≤s.Gowns.length*3*D.length:= by
     rw[← Z1z]
     exact Nat.mul_le_mul_right _ (by omega)
    omega
   ·have d1:((u.Gown.toNat*3+u.How.toNat)*D.length+k) / D.length=u.Gown.toNat*3+u.How.toNat:= by
     rw[Z1x,Nat.mul_add_div hD.pos,Nat.div_eq_of_lt hk,Nat.add_zero]
    have d2:((u.Gown.toNat*3+u.How.toNat)*D.length+k) % D.length=k:= by
     rw[Z1x,Nat.mul_add_mod,Nat.mod_eq_of_lt hk]
    unfold S3
    rw[d1,d2,hkd]
    obtain⟨g,h,d⟩:=u
    simp only at hlo hhi hh ⊢
    congr 1
    ·omega
    ·omega
   ·unfold okU
    rw[h1,h2];rfl
theorem C1n {s:PaShow} (hs:ShOk s) {D:List Int} (hD:DyOk D):∀(r q:List PaUse),Ext s D q r↔∀ i,i<r.length→C2u s D (q++r.take i) r[i]!
 | [],q=>by unfold Ext;simp
 | u::r,q=>by
  unfold Ext
  rw[C1n hs hD r (q++[u]),D1m hs hD]
  constructor
  ·rintro⟨h1,h2⟩ i hi
   cases i with
   | zero=>simpa using h1
   | succ i =>
    have:=h2 i (by simpa using hi)
    rw[Z22,show q++u::r.take i=q++[u]++r.take i by simp]
    exact this
  ·intro h
   refine⟨by simpa using h 0 (by simp),fun i hi=>?_⟩
   have:=h (i+1) (by simpa using hi)
   rw[Z22,show q++u::r.take i=q++[u]++r.take i by simp]at this
   exact this
theorem B1v {s:PaShow} (hs:ShOk s) {D:List Int} (hD:DyOk D) {p:List PaUse}:p∈PL s D s.Figures.length []↔PlOk s p∧∀ x∈p,x.Gown = -1∨x.Day∈D:= by
 rw[A8i]
 constructor
 ·rintro⟨r,e,hr,he⟩
  rw[Z00]at e
  rw[e]
  have h:=(C1n hs hD r []).mp he
  have h':∀i,i<r.length→A23 s.Gowns s.Figures[i]! r[i]! = 0∧twP r i=false∧(r[i]!.Gown = -1∨r[i]!.Day∈D):=fun i hi=>by
   have:=h i hi
   unfold C2u at this
   rw[Z00,ZE,Z1a (by omega)]at this
   exact this
  refine⟨⟨⟨hr,fun i hi=>(h' i hi).1⟩,fun i hi=>(h' i hi).2.1⟩,fun x hx=>?_⟩
  obtain⟨i,hi,rfl⟩:=A25 hx
  exact(h' i hi).2.2
 ·rintro⟨h1,h2⟩
  refine⟨p,Z,h1.u.len,(C1n hs hD p []).mpr fun i hi=>?_⟩
  unfold C2u
  rw[Z00,ZE,Z1a (by omega)]
  exact⟨h1.u.use i hi,h1.tw i hi,h2 _ (K3 hi)⟩
theorem C8w {s:PaShow} (hs:ShOk s):∀p∈PL s (M9 s) s.Figures.length [],PlU s p:=fun _ hp=>((B1v hs (A1z hs)).mp hp).1.u
structure Pay (s:PaShow) (p:List PaUse):Prop where
 ok:PlOk s p
 left:∀d,0≤d→0≤O3 s p d
theorem D0a {s:PaShow} (hs:ShOk s) {p:List PaUse} (h:PlU s p):(M7 s p).1=0↔∀ d,0≤d→0≤O3 s p d:= by
 obtain⟨a1,a2,a3,_⟩:=A7j s p
 constructor
 ·intro hz d hd
  refine Int.not_lt.mp fun hc=>?_
  obtain⟨y,hy,hyd,hyn⟩:=D4u hs h hc
  have:=a2 y hy hyn
  omega
 ·intro hp
  rcases a3 with e|⟨y,hy,hyn,_⟩
  ·exact e
  ·have:=hp y.2 (A7d hs h y hy).2.1
   omega
theorem A4p {s:PaShow} (hs:ShOk s) {p:List PaUse}:p∈PA s↔Pay s p∧∀ x∈p,x.Gown = -1∨x.Day∈M9 s:= by
 unfold PA D5d
 rw[Z0k,B1v hs (A1z hs)]
 have key:PlOk s p→((!decide ((M7 s p).1>0))=true↔∀ d,0≤d→0≤O3 s p d):=fun h=>by
  rw[← D0a hs h.u]
  have:=(A7j s p).1
  simp;omega
 constructor
 ·rintro⟨⟨h1,h2⟩,h3⟩;exact⟨⟨h1,(key h1).mp h3⟩,h2⟩
 ·rintro⟨⟨h1,h3⟩,h2⟩;exact⟨⟨h1,h2⟩,(key h1).mpr h3⟩
def B64 (d:Int) (a z:Int):Int:=if z≤d∧a<z then z else a
def A57 (D:List Int) (d:Int):Int:=D.foldl (B64 d) 0
theorem C14 (d:Int):∀(D:List Int) (a:Int),a≤d→a≤D.foldl (B64 d) a∧D.foldl (B64 d) a≤d∧(D.foldl (B64 d) a=a∨D.foldl (B64 d) a∈D)∧∀ z∈D,z≤d→z≤D.foldl (B64 d) a
 | [],a,h=>⟨ZR _,h,.inl Z,by simp⟩
 | x::D,a,h=>by
  rw[List.foldl_cons]
  have hs:B64 d a x=if x≤d∧a<x then x else a:=rfl
  by_cases c:x≤d∧a<x
  ·rw[hs,if_pos c]
   obtain⟨h1,h2,h3,h4⟩:=C14 d D x c.1
   refine⟨by omega,h2,?_,fun z hz hzd=>?_⟩
   ·rcases h3 with e|e
    ·rw[e];exact .inr (ZC ..)
    ·exact .inr (ZB _ e)
   ·rcases Zv.mp hz with rfl|hz
    ·exact h1
    ·exact h4 z hz hzd
  ·rw[hs,if_neg c]
   obtain⟨h1,h2,h3,h4⟩:=C14 d D a h
   refine⟨h1,h2,?_,fun z hz hzd=>?_⟩
   ·rcases h3 with e|e
    ·exact .inl e
    ·exact .inr (ZB _ e)
   ·rcases Zv.mp hz with rfl|hz
    ·have:z≤a:= by
      by_cases hc:a<z
      ·exact absurd ⟨hzd,hc⟩ c
      ·omega
     omega
    ·exact h4 z hz hzd
theorem B3c {D:List Int} (h0:(0:Int)∈D) {d:Int} (hd:0≤d):0≤A57 D d∧A57 D d≤d∧A57 D d∈D∧∀ z∈D,z≤d→z≤A57 D d:= by
 obtain⟨h1,h2,h3,h4⟩:=C14 d D 0 hd
 refine⟨h1,h2,?_,h4⟩
 rcases h3 with e|e
 ·unfold A57;rw[e];exact h0
 ·exact e
def nuU (D:List Int) (x:PaUse):PaUse:=if x.Gown ≠ -1∧x.How=1 then ⟨x.Gown,x.How,A57 D x.Day⟩ else x
theorem A9f (D:List Int) (x:PaUse):(nuU D x).Gown=x.Gown:= by unfold nuU;split <;> rfl
theorem C6m {g:PaGown} (h:GwOk g) {a b:Int} (ha:a≤b):price g a≤price g b:= by
 unfold price
 have:=Int.mul_le_mul_of_nonneg_left (show 1+(g.Ago+a) / 30≤1+(g.Ago+b) / 30 by omega) h.rate.1
 omega
theorem B3i {G:List PaGown} (hG:∀g∈G,GwOk g) {y:PaFigure} (hy:FgOk y) {D:List Int} (hD:(0:Int)∈D) {x:PaUse} (h:A23 G y x=0) :
  A23 G y (nuU D x)=0∧((nuU D x).Gown = -1∨(nuU D x).Day∈D)∧ku (nuU D x)≤ku x∧(A0n G y (nuU D x)).1≤(A0n G y x).1 ∧
   ∀ e E,(x.How=1→A57 D x.Day≤e→x.Day≤E)→e≤E→(A0n G y (nuU D x)).2≤e→(A0n G y x).2≤E:= by
 by_cases c:x.Gown ≠ -1∧x.How=1
 ·have e:nuU D x=⟨x.Gown,x.How,A57 D x.Day⟩:=if_pos c
  rcases U6.mp h with h' | h'
  ·rw[h']at c;exact absurd Z c.1
  ·have hd:0≤x.Day∧x.Day≤364:= by
    rcases form1 h'.form with q|⟨_,q|q⟩ <;> omega
   obtain⟨l1,l2,l3,l4⟩:=B3c hD hd.1
   have hpw:G[x.Gown.toNat]!.Pawn=true:= by
    rcases form1 h'.form with q|q
    ·omega
    ·exact q.1
   have hlate:=h'.late
   unfold A9t at hlate
   rw[c.2]at hlate
   simp at hlate
   have hlo:=h'.lo
   have hhi:=h'.hi
   have hgw:=hG _ (K3 (l:=G) (i:=x.Gown.toNat) (by omega))
   have hpay:A0n G y x=(price G[x.Gown.toNat]! x.Day,x.Day):= by
    unfold A0n;rw[if_neg c.1,if_pos c.2]
   have hpay2:A0n G y (nuU D x)=(price G[x.Gown.toNat]! (A57 D x.Day),A57 D x.Day):= by
    rw[e];unfold A0n;simp only;rw[if_neg c.1,if_pos c.2]
   refine⟨U6.mpr (.inr ?_),.inr (by rw[e];exact l3),?_,?_,?_⟩
   ·rw[e]
    refine⟨hlo,hhi,?_,?_,h'.look⟩
    ·unfold A76
     simp only
     rw[hpw,c.2,T2.mpr ⟨l1,by omega⟩];rfl
    ·unfold A9t
     simp only
     rw[c.2]
     simp
     omega
   ·rw[e];unfold ku;simp only;split <;> omega
   ·rw[hpay,hpay2];exact C6m hgw l2
   ·intro e' E h1 h2 h3
    rw[hpay2]at h3
    rw[hpay]
    exact h1 c.2 h3
 ·have e:nuU D x=x:=if_neg c
  rw[e]
  refine⟨h,?_,ZR _,ZR _,?_⟩
  ·rcases U6.mp h with h' | h'
   ·left;rw[h'];rfl
   ·right
    have hlo:=h'.lo
    have:x.Day=0:= by
     rcases form1 h'.form with q|⟨_,q|q⟩
     ·exact q.2.2
     ·exact q.2
     ·exact absurd ⟨by omega,q.1⟩ c
    rw[this];exact hD
  ·intro e' E _ h2 h3;omega
theorem C2s {s:PaShow} (hs:ShOk s) {p:List PaUse} (h:PlU s p):∀z∈s.Figures.zip p,FgOk z.1∧A23 s.Gowns z.1 z.2=0∧z.2∈p:= by
 intro z hz
 obtain⟨i,hi,e⟩:=ZW.mp hz
 rw[Z3z]at e
 rw[Z46]at hi
 subst e
 have hip:i<p.length:= by omega
 have hif:i<s.Figures.length:= by omega
 refine⟨hs.figure _ (Z1y hif),?_,Z1y hip⟩
 have:=h.use i hip
 rwa [getElem!_pos s.Figures i hif,getElem!_pos p i hip]at this
theorem B44 {α β γ:Type} (f:α→β→γ):∀(l:List α) (m:List β),List.zipWith f l m=(l.zip m).map fun z=>f z.1 z.2
 | [],_=>by simp
 | _::_,[]=>by simp
 | a::l,b::m=>by simp[B44 f l m]
theorem C8v {α β:Type} (g:β→β):∀(l:List α) (m:List β),l.zip (m.map g)=(l.zip m).map fun z=>(z.1,g z.2)
 | [],_=>by simp
 | _::_,[]=>by simp
 | a::l,b::m=>by simp[C8v g l m]
theorem A4x (s:PaShow) (p:List PaUse):pays s p=(s.Figures.zip p).map fun z=>A0n s.Gowns z.1 z.2:=B44 _ _ _
theorem C8i (s:PaShow) (D:List Int) (p:List PaUse):pays s (p.map (nuU D))=(s.Figures.zip p).map fun z=>A0n s.Gowns z.1 (nuU D z.2):= by
 rw[A4x,C8v,Z0c];rfl
theorem B65 (D:List Int) (e:Int) (he:0≤e) (h0:(0:Int)∈D):∀q:List PaUse,∃ E,e≤E∧A57 D E≤e∧∀ x∈q,A57 D x.Day≤e→x.Day≤E
 | []=>⟨e,ZR _,(B3c h0 he).2.1,by simp⟩
 | x::q=>by
  obtain⟨E,h1,h2,h3⟩:=B65 D e he h0 q
  by_cases c:A57 D x.Day≤e∧E<x.Day
  ·refine⟨x.Day,by omega,c.1,fun z hz hzd=>?_⟩
   rcases Zv.mp hz with rfl|hz
   ·exact ZR _
   ·have:=h3 z hz hzd;omega
  ·refine⟨E,h1,h2,fun z hz hzd=>?_⟩
   rcases Zv.mp hz with rfl|hz
   ·by_cases hc:E<z.Day
    ·exact absurd ⟨hzd,hc⟩ c
    ·omega
   ·exact h3 z hz hzd
theorem D3o {f:PaUse→PaUse} (hf:∀x,(f x).Gown=x.Gown) {p:List PaUse} {i:Nat} (hi:i<p.length):twP (p.map f) i=twP p i:= by
 unfold twP
 rw[getElem!_pos (p.map f) i (by simpa using hi),Z32,hf,← List.map_take,List.any_map,getElem!_pos p i hi]
 congr 2
 funext x
 show ((f x).Gown==_)=_
 rw[hf]
theorem D6x {s:PaShow} (hs:ShOk s) {q:List PaUse} (h:PlU s q):PlU s (q.map (nuU (M9 s))):= by
 refine⟨by rw[Zi];exact h.len,fun i hi=>?_⟩
 rw[Zi]at hi
 have:=h.len
 rw[getElem!_pos (q.map _) i (by simpa using hi),Z32,← getElem!_pos q i hi]
 exact(B3i hs.gown (hs.figure _ (K3 (by omega))) (A1z hs).zero (h.use i hi)).1
theorem C8c {s:PaShow} (hs:ShOk s) {q:List PaUse} (h:PlU s q) {e:Int} (he:0≤e):∃E,e≤E∧O3 s q E≤O3 s (q.map (nuU (M9 s))) e:= by
 have h0:=(A1z hs).zero
 obtain⟨E,h1,h2,h3⟩:=B65 (M9 s) e he h0 q
 refine⟨E,h1,?_⟩
 have hinc:Q8 (incs s) E=Q8 (incs s) e:= by
  unfold Q8
  refine congrArg sm (Z3f fun z hz=>?_)
  have hzD:z.2∈M9 s:= by
   obtain⟨x,hx,rfl⟩:=ZJ.mp hz
   exact(A82 hs _).mpr (.inr ⟨x,hx,Z⟩)
  by_cases c:z.2≤E
  ·have:=(B3c h0 (by omega:0≤E)).2.2.2 z.2 hzD c
   rw[if_pos c,if_pos (by omega)]
  ·rw[if_neg c,if_neg (by omega)]
 have hpay:Q8 (pays s (q.map (nuU (M9 s)))) e≤Q8 (pays s q) E:= by
  rw[C8i,A4x]
  unfold Q8
  rw[Z0c,Z0c]
  refine B8f fun z hz=>?_
  obtain⟨hy,hu,hm⟩:=C2s hs h z hz
  obtain⟨_,_,_,n4,n5⟩:=B3i hs.gown hy h0 hu
  have hb:=(D29 hs.gown hy hu).1.1
  simp only[Function.comp]
  by_cases c:(A0n s.Gowns z.1 (nuU (M9 s) z.2)).2≤e
  ·rw[if_pos c,if_pos (n5 e E (fun _=>h3 z.2 hm) h1 c)]
   exact n4
  ·rw[if_neg c];split <;> omega
 unfold O3
 omega
theorem B7h {s:PaShow} (hs:ShOk s) {q:List PaUse} (h:Pay s q):q.map (nuU (M9 s))∈PA s∧G0 (q.map (nuU (M9 s)))=G0 q∧V9 s (q.map (nuU (M9 s)))≤V9 s q∧A01 q (q.map (nuU (M9 s)))=false:= by
 have h0:=(A1z hs).zero
 have hall:∀x∈q,∃ y,FgOk y∧A23 s.Gowns y x=0:=fun x hx=>by
  obtain⟨i,hi,rfl⟩:=A25 hx
  have:=h.ok.u.len
  exact⟨_,hs.figure _ (K3 (by omega)),h.ok.u.use i hi⟩
 refine⟨(A4p hs).mpr ⟨⟨⟨D6x hs h.ok.u,fun i hi=>?_⟩,fun d hd=>?_⟩,fun x hx=>?_⟩,?_,?_,?_⟩
 ·rw[Zi]at hi
  rw[D3o (A9f _) hi];exact h.ok.tw i hi
 ·obtain⟨E,h1,h2⟩:=C8c hs h.ok.u hd
  have:=h.left E (by omega)
  omega
 ·obtain⟨z,hz,e⟩:=ZJ.mp hx
  obtain⟨y,hy,hu⟩:=hall z hz
  rw[← e]
  exact(B3i hs.gown hy h0 hu).2.1
 ·unfold G0
  rw[Z0c]
  refine congrArg sm (Z3f fun x _=>?_)
  simp only[Function.comp,A9f]
 ·unfold V9
  rw[C8i,A4x,Z0c,Z0c]
  refine B8f fun z hz=>?_
  obtain⟨hy,hu,_⟩:=C2s hs h.ok.u z hz
  exact(B3i hs.gown hy h0 hu).2.2.2.1
 ·refine C0i _ _ fun x hx=>?_
  obtain⟨y,hy,hu⟩:=hall x hx
  exact(B3i hs.gown hy h0 hu).2.2.1
theorem B59 {s:PaShow} (hs:ShOk s):Pay s (Zu s.Figures.length bare0)∧∀ x∈Zu s.Figures.length bare0,x.Gown = -1∨x.Day∈M9 s:= by
 have hget:∀i,i<s.Figures.length→(Zu s.Figures.length bare0)[i]! = bare0:=fun i hi=>by
  rw[getElem!_pos _ i (by simpa using hi),List.getElem_replicate]
 have hu:PlU s (Zu s.Figures.length bare0):=⟨by simp,fun i hi=>by
  rw[Z1o]at hi
  rw[hget i hi];exact U6.mpr (.inl Z)⟩
 refine⟨⟨⟨hu,fun i hi=>?_⟩,fun d hd=>?_⟩,fun x hx=>?_⟩
 ·rw[Z1o]at hi
  unfold twP
  rw[hget i hi];rfl
 ·have h1:Q8 (pays s (Zu s.Figures.length bare0)) d=0:= by
   unfold Q8
   refine C2o fun x hx=>?_
   obtain⟨i,hi,rfl⟩:=A25 hx
   rw[P9 hu]at hi
   rw[A6h hu hi,hget i (by simpa using hi)]
   show (if (0:Int)≤d then (0:Int) else 0)=0
   split <;> rfl
  have h2:=(A7k (fun x hx=>(A5f hs x hx).1) d).1
  have h3:=hs.purse
  unfold O3
  omega
 ·rw[(List.mem_replicate.mp hx).2];exact .inl Z
theorem A50 {s:PaShow} (hs:ShOk s) {p:List PaUse} (h:PlU s p):0≤V9 s p∧V9 s p≤300000:= by
 have:=C7d hs h (pays s p).length
 rwa [List.take_length]at this
theorem B2u {s:PaShow} (hs:ShOk s):∃b,fm (A3w s) (PA s)=some b∧Pay s b∧(∀ q,Pay s q→A3w s b≤A3w s q)∧∀ q,Pay s q→A3w s q=A3w s b→A01 q b=false:= by
 obtain⟨b,hb⟩:=C1q (k:=A3w s) ((A4p hs).mpr (B59 hs))
 have hbp:=((A4p hs).mp (B6p hb)).1
 have hkey:∀q,Pay s q→A3w s (q.map (nuU (M9 s)))≤A3w s q:=fun q hq=>by
  obtain⟨_,h2,h3,_⟩:=B7h hs hq
  unfold A3w
  omega
 refine⟨b,hb,hbp,fun q hq=>Z4w (C7k hb (B7h hs hq).1) (hkey q hq),fun q hq he=>?_⟩
 obtain⟨h1,h2,h3,h4⟩:=B7h hs hq
 have hle:=C7k hb h1
 have hle2:=hkey q hq
 have e:A3w s (q.map (nuU (M9 s)))=A3w s b:= by omega
 have hb2:A01 (q.map (nuU (M9 s))) b=false:= by
  obtain⟨-,A,B,hAL,h5⟩:=B5m hb
  have hp:(PA s).Pairwise fun a b=>A01 b a=false:=(C09 hs (A1z hs) _ _).filter _
  rw[hAL]at hp h1
  rcases ZA.mp h1 with h1|h1
  ·have:=h5 _ h1;omega
  ·rcases Zv.mp h1 with h1|h1
   ·rw[h1];exact B66 _
   ·exact(List.pairwise_cons.mp (Z0v.mp hp).2.1).1 _ h1
 have l1:=hq.ok.u.len
 have l2:=hbp.ok.u.len
 exact B4f _ _ _ (by simp) (by simp;omega) h4 hb2
theorem D6r {s:PaShow} (hs:ShOk s) {p q:List PaUse} (hp:PlU s p) (hq:PlU s q):A3w s p<A3w s q↔G0 p<G0 q∨(G0 p=G0 q∧V9 s p<V9 s q):= by
 have h1:=A50 hs hp
 have h2:=A50 hs hq
 unfold A3w
 omega
theorem D00 {s:PaShow} (hs:ShOk s):∀p∈PA s,∀ q∈PA s,∃ r,A3f (fdP s p) (fdP s q)=some r∧(r<0↔A3w s p<A3w s q):= by
 intro p hp q hq
 have hp':=((A4p hs).mp hp).1.ok.u
 have hq':=((A4p hs).mp hq).1.ok.u
 have h1:=A50 hs hp'
 have h2:=A50 hs hq'
 have h3:=A7l p
 have h4:=A7l q
 have h5:=hp'.len
 have h6:=hq'.len
 have h7:=hs.figures
 refine⟨if G0 p-G0 q=0 then V9 s p-V9 s q else G0 p-G0 q,?_,?_⟩
 ·unfold A3f fdP
  simp only
  rw[F5 (by omega),F5 (by omega),or2]
  rfl
 ·rw[D6r hs hp' hq']
  split <;> omega
theorem D3x (s:PaShow) (hb:NB s):Y2 s=some (if (chk s).2.2=0 then (match fm (A3w s) (PA s) with|some b=>(b,G0 b,V9 s b,0)|none=>([],0,0,0)) else ([],0,0,(chk s).2.2)):= by
 unfold Y2
 rw[A51 s hb]
 simp only[Zg]
 by_cases h:(chk s).2.2=0
 ·have hs:=(A1w s).mp h
  simp only[h,if_true,BEq.rfl]
  rw[C1e (k:=A3w s) (L:=PA s) (F:=fdP s) (fun σ ρ body st X hX=>B7z hs (C8w hs) body hX) (D00 hs)]
  cases fm (A3w s) (PA s) <;> rfl
 ·rw[if_neg h,if_neg (by simpa using h),if_neg h]
end Pw
end
section
set_option maxRecDepth 100000
set_option maxHeartbeats 0
namespace Am
open Go
section
variable {T:Tab} {s:A9} {H0 H:A1} {l:List AO} {c:Sc} {n0 k0:Nat}
theorem D2r {x:Opd} {b r:Nat} {es:List (AV×AV)} (hx:ev s x=some (.mp b)) (hm:hmap (H0++l) b=some es):One T c (H0.length+k0) s (H0++l) (.rangeM x r) (.itr (H0.length+(k0+r))) (H0++l.set (k0+r) (.mit b es.length [])) :=
 ⟨0,by simp only[core,prim,hx,hm,Nat.add_assoc,F2]⟩
theorem C9n {H L:A1} {b m n:Nat} {seen:List Nat} {e:AV×AV} {es:List (AV×AV)} (hg:hget H b=some (.mit m n seen)) (hm:hmap H m=some es) (h:A7n H b=some e):A7n (H++L) b=some e:= by
 have h1:hget (H++L) b=some (.mit m n seen):=C9d hg L
 have h2:hmap (H++L) m=some es:= by
  have:m<H.length:= by
   unfold hmap hget at hm
   cases e:H[m]? with
   | none=>rw[e]at hm;cases hm
   | some o=>exact(Ze.1 e).1
  unfold hmap hget at hm ⊢
  rw[List.getElem?_append_left this];exact hm
 unfold A7n at h ⊢
 rw[h1]
 rw[hg]at h
 simp only[h2,hm]at h ⊢
 exact h
theorem D4x {x:Opd} {b:Nat} {e:AV×AV} (hx:ev s x=some (.itr b)) (hm:A7n H b=some e):One T c n0 s H (.entry x) (.tup [e.1,e.2]) H:=⟨0,by simp only[core,prim,hx,hm]⟩
end
end Am
namespace Pw
open Go Am Go.Proofs.Ytjpjdglddmhplaa.Cd
abbrev Had:=Ar3 Int
theorem C74:KeyOk (κ:=Had) true [0,0,0] (fun x=>.agg (C28 cI x)) (fun x=>C28 cI x):=⟨fun _=>rfl,fun _=>rfl,fun a b=>by
 obtain⟨a1,a2,a3⟩:=a
 obtain⟨b1,b2,b3⟩:=b
 show E9 [.lit (.int .i64 a1),.lit (.int .i64 a2),.lit (.int .i64 a3)] [.lit (.int .i64 b1),.lit (.int .i64 b2),.lit (.int .i64 b3)]=_
 simp only[C5w,Ar3.mk.injEq]
 by_cases h1:a1=b1 <;> by_cases h2:a2=b2 <;> by_cases h3:a3=b3 <;> simp[h1,h2,h3,E9]⟩
abbrev Met:=List (Had×Int)
def C38 (m:Met):List (AV×AV):=m.map (kE (fun x=>.agg (C28 cI x)) (fun n=>.i n))
def C4p (h:Had) (f:Int):Option Bool :=
 if (!((h.x0==0)&&((h.x1==0)&&((h.x2==0)&&true))))=true then (idx h.l f).bind fun v=>some (decide (v>0)) else some false
def C0w (f:Int):Met→Option (List Bool)
 | []=>some []
 | e::l=>(C4p e.1 f).bind fun b=>(C0w f l).bind fun r=>some (b::r)
def cnt (bs:List Bool) (seen:List Nat):Int:=((seen.filter fun i=>bs.getD i false).length:Int)
def B6e (m:Met) (f:Int):Option Int :=
 if m.length<4611686018427387904 then (C0w f m).bind fun bs=>some ((bs.filter fun b=>b).length:Int) else none
theorem C0x {f:Int}:∀{m:Met} {bs:List Bool},C0w f m=some bs→bs.length=m.length∧∀ (i:Nat) (e:Had×Int),m[i]? = some e→C4p e.1 f=some (bs.getD i false)
 | [],bs,h=>by cases h;exact⟨Z,fun i e he=>by simp at he⟩
 | x::m,bs,h=>by
  unfold C0w at h
  refine oB h fun b hb h=>oB h fun r hr h=>?_
  obtain rfl:=os h
  obtain⟨h1,h2⟩:=C0x hr
  refine⟨by simp[h1],fun i e he=>?_⟩
  cases i with
  | zero=>simp at he;subst he;simpa using hb
  | succ i=>simp at he;simpa using h2 i e he
theorem B1e:∀(bs:List Bool),((Z09 bs.length).filter fun i=>bs.getD i false).length=(bs.filter fun b=>b).length
 | []=>rfl
 | b::bs=>by
  rw[ZX,List.range_succ_eq_map,Z21,List.filter_map,Z21]
  have ih:=B1e bs
  have e:(fun i=>(b::bs).getD i false)∘Nat.succ=fun i=>bs.getD i false:= by funext i;simp
  rw[e]
  cases b <;> simp at ih ⊢ <;> exact ih
theorem D31 {bs:List Bool} {seen:List Nat} (hn:seen.Nodup) (hm:∀j,j∈seen↔j<bs.length):cnt bs seen=((bs.filter fun b=>b).length:Int):= by
 have hp:seen.Perm (Z09 bs.length):=(List.perm_ext_iff_of_nodup hn List.nodup_range).mpr fun j=>by rw[hm,List.mem_range]
 unfold cnt
 rw[(hp.filter _).length_eq,B1e]
theorem D6f (bs:List Bool) (seen:List Nat):cnt bs seen≤seen.length:= by
 unfold cnt
 have:=List.length_filter_le (fun i=>bs.getD i false) seen
 omega
theorem D07 (bs:List Bool) (seen:List Nat) (i:Nat):cnt bs (seen++[i])=cnt bs seen+(if bs.getD i false=true then 1 else 0):= by
 unfold cnt
 rw[List.filter_append,Zp,Z21]
 by_cases h:bs.getD i false=true
 ·rw[if_pos h,if_pos h];rfl
 ·rw[if_neg h,if_neg h];simp
theorem C0m:∀(n:Nat) (l:List Nat),l.Nodup→(∀ x∈l,x<n)→l.length≤n
 | 0,l,_,h=>by
  cases l with
  | nil=>simp
  | cons x l=>exact absurd (h x (ZC ..)) (Nat.not_lt_zero x)
 | n+1,l,hd,h=>by
  have h1:=C0m n (l.filter fun x=>x != n) (hd.filter _) fun x hx=>by
   have:=Z0k.mp hx
   have h2:=h x this.1
   have h3:x≠n:= by simpa using this.2
   omega
  have h2:(l.filter fun x=>!(x != n)).length≤1:= by
   have hn:(l.filter fun x=>!(x != n)).Nodup:=hd.filter _
   cases hl:l.filter fun x=>!(x != n) with
   | nil=>simp
   | cons a t =>
    cases t with
    | nil=>simp
    | cons b t =>
     rw[hl]at hn
     have ha:a∈l.filter fun x=>!(x != n):= by rw[hl];simp
     have hb:b∈l.filter fun x=>!(x != n):= by rw[hl];simp
     have ea:a=n:= by simpa using (Z0k.mp ha).2
     have eb:b=n:= by simpa using (Z0k.mp hb).2
     subst ea;subst eb
     simp at hn
  have h3:l.length=(l.filter fun x=>x != n).length+(l.filter fun x=>!(x != n)).length:= by
   clear h1 h2 hd h
   induction l with
   | nil=>rfl
   | cons x l ih =>
    rw[Z21,Z21]
    cases x != n <;> simp[ih] <;> omega
  omega
theorem D3g {n:Nat} {seen:List Nat} (hn:seen.Nodup) (hm:∀j∈seen,j<n):seen.length≤n:=C0m n seen hn hm
def C7c:ACode:=(.seq (.cond 69 .skip (.exit 4)) (.block 5 (.s 1 [q 0 70 (.entry 67),EX 1 71 70 0,q 2 14 (.alloc [.lit (.int .i64 0),.lit (.int .i64 0),.lit (.int .i64 0)] [] 0),ST 3 3 14 71] [2,3,8,12,13,14,62,63,67] (.s 0 [LK 0 72 3 14,q 1 73 (.build [.lit (.int .i64 0),.lit (.int .i64 0),.lit (.int .i64 0)] []),q 2 74 (.cmp true [0,0,0] 72 73),M 3 75 74,G 4 76 75 true (.mv 12),G 5 77 75 true (.idxA 1 3 14 76),G 6 78 75 true (.load none 77),G 7 79 75 true (.bin .gtr 78 (.i 0)),q 8 80 (.pick 75 79 (.b false))] [2,3,8,12,13,62,63,67,80] (.cond 80 (.g 0 [M 0 81 13,B 1 82 .add 81 (.i 1),M 2 13 82] [2,3,8,12,13,62,63,67]) .skip)))))
theorem C5t {c:Sc} {Hh:A1} {l m:Nat} {met:Met} {f r:Int} {a2 a3 a8 a62 a63:AV} (hl:hget Hh l=some (.mit m met.length [])) (hm:hmap Hh m=some (C38 met)) (hlm:l≠m) (h:B6e met f=some r)
  (hb2:a2.bd Hh.length=true) (hb3:a3.bd Hh.length=true) (hb8:a8.bd Hh.length=true) (hb62:a62.bd Hh.length=true) (hb63:a63.bd Hh.length=true) :
  WP tab (.loopM 67 68 69 [2,3,8,12,13,62,63,67] [2,3,8,12,13,62,63,67] [2,3,8,12,13,62,63] C7c) [(2,a2),(3,a3),(8,a8),(12,.i f),(13,.i 0),(62,a62),(63,a63),(67,.itr l)] Hh c
   (fun e s' H'=>e=.exit 4∧s'=[(2,a2),(3,a3),(8,a8),(12,.i f),(13,.i r),(62,a62),(63,a63)]∧H'=hset Hh l .dead):= by
 unfold B6e at h
 split at h
 ·next hlen =>
  refine oB h fun bs hbs h=>?_
  obtain rfl:=os h
  obtain⟨hbl,hbg⟩:=C0x hbs
  have hlt:l<Hh.length:= by unfold hget at hl;exact(Ze.1 hl).1
  have hset0:hset Hh l (.mit m met.length [])=Hh:= by
   unfold hset
   unfold hget at hl
   obtain⟨h1,h2⟩:=Ze.1 hl
   rw[← h2];exact Z2h h1
  have hmm:∀o,hmap (hset Hh l o) m=some (C38 met):=fun o=>by
   rw[← hm];unfold hmap hget hset;rw[List.getElem?_set_ne hlm]
  have hss:∀o o',hset (hset Hh l o) l o'=hset Hh l o':=fun o o'=>by unfold hset;rw[List.set_set]
  have hgl:∀o,hget (hset Hh l o) l=some o:=fun o=>by unfold hget hset;rw[List.getElem?_set_self hlt]
  have hle:∀o,(hset Hh l o).length=Hh.length:=fun o=>F0 _ _ _
  have key:=D0l (T:=tab) (c:=c) (x:=67) (nx:=68) (ok:=69) (l:=l) (m:=m) (n:=met.length) (live0:=[2,3,8,12,13,62,63,67]) (live:=[2,3,8,12,13,62,63,67]) (liveX:=[2,3,8,12,13,62,63]) (rest:=C7c) (es:=C38 met) (e0:=.exit 4)
   (fun seen=>[(2,a2),(3,a3),(8,a8),(12,.i f),(13,.i (cnt bs seen)),(62,a62),(63,a63),(67,.itr l)]) (fun seen=>hset Hh l (.mit m met.length seen)) [(2,a2),(3,a3),(8,a8),(12,.i f),(13,.i ((bs.filter fun b=>b).length:Int)),(62,a62),(63,a63)] (hset Hh l .dead)
   (fun _=>rfl) (by decide) Z (by decide) (fun _=>rfl) (fun _=>hgl _) (fun _=>hmm _) (by rw[C38,Zi,decide_eq_true Z];rfl) ?_ ?_ ?_
  ·refine A0r (B43 hset0.symm key) ?_
   rintro e s' H' ⟨h1,h2,h3⟩
   exact⟨h1,h2,h3⟩
  ·intro seen i hnd hsl hi hni
   rw[hss,hle]
   obtain⟨e,he⟩:∃e,met[i]? = some e:=⟨_,List.getElem?_eq_getElem hi⟩
   have hpo:=hbg i e he
   have hent:A7n (hset Hh l (.mit m met.length (seen++[i]))) l=some (.agg (C28 cI e.1),.i e.2):= by
    unfold A7n
    simp only[hgl,hmm,C38,Zi,if_true,List.getLast?_append,List.getLast?_singleton,Option.some_or,Zg,List.getElem?_map,he,Option.map_some,kE]
   have hw:w64 (cnt bs seen+1)=cnt bs seen+1:= by
    have h1:=D6f bs seen
    have h2:=D3g hnd hsl
    have h3:0≤cnt bs seen:=Int.natCast_nonneg _
    unfold w64 IntKind.wrap
    simp[IntKind.bits,IntKind.signed]
    omega
   have hsn:=D07 bs seen i
   have htk:∀Y:List AO,(hset Hh l (.mit m met.length (seen++[i]))++Y).take Hh.length=hset Hh l (.mit m met.length (seen++[i])):=fun Y=>by
    rw[← hle (.mit m met.length (seen++[i]))];exact Z07
   unfold C4p at hpo
   refine U7<|C4<|O1 Z Z<|C6<|C8<|sg 0 Z<|N9 (D4x Z (C9n (hgl _) (hmm _) hent)) Z<|A0 (B4 Z Z) Z<|A0 H8 Z<|K6 (D4 (ds:=C28 cI e.1) Z Z Z Z (E0 Z) Z) Z<|es (ra9 Z Z Z Z Z Z Z Z Z)<|s0<|A0 (E8 Z Z Z) Z<|A0 (R5 (cs:=[.i 0,.i 0,.i 0]) Z Z) Z<|A0 (D2k (a:=C28 cI e.1) (b:=[.i 0,.i 0,.i 0]) Z Z Z Z (V7 (V7 (V7 B1c)))) Z<|qm Z<|gp 5 80 (.b (bs.getD i false)) 75 Z Z (fun hc1=>?_) (fun hc1=>?_) ?_
   ·refine oB (bt hpo hc1) fun v hv hpo=>?_
    have hz:=os hpo
    rw[← hz]
    exact gT Z hc1<|qm Z<|gT Z hc1<|A0 (D2m (e:=Ar3.l e.1) Z Z Z hv) Z<|gT Z hc1<|A0 (D2p (f:=cI) (g:=fun n=>.i n) (e:=Ar3.l e.1) (fun _=>rfl) Z (D7 Z) Z hv) Z<|gT Z hc1<|A0 (A3b Z Z) Z<|A0 (D1 Z hc1 Z) Z<|ge 5 Z Z Z
   ·have hz:=os (bf hpo hc1)
    rw[← hz]
    exact nT Z hc1 Z<|nT Z hc1 Z<|nT Z hc1 Z<|nT Z hc1 Z<|A0 (D0 Z hc1 Z) Z<|ge 5 Z Z Z
   ·refine es (ra9 Z Z Z Z Z Z Z Z Z) ?_
    rw[hsn]
    by_cases hbi:bs.getD i false=true
    ·rw[if_pos hbi,← hw]
     refine O1 Z hbi<|r0<|qm Z<|A0 (G1 Z Z) Z<|qm Z<|en (ra8 Z Z Z Z Z Z Z Z) ?_
     exact⟨Z,su8 Z Z Z Z Z Z Z Z,htk _⟩
    ·rw[if_neg hbi,Int.add_zero]
     refine Q6 Z (by simpa using hbi)<|C6 ?_
     exact⟨Z,su8 Z Z Z Z Z Z Z Z,htk _⟩
  ·intro seen i
   simp only[hle]
   have hbl':(AV.itr l).bd Hh.length=true:= by simp only[AV.bd];exact Nat.ble_eq_true_of_le hlt
   exact bdc hb2 (bdc hb3 (bdc hb8 (bdc A5 (bdc A5 (bdc hb62 (bdc hb63 (bdc hbl' bdn)))))))
  ·intro seen hnd hall
   refine C4<|Q6 Z Z<|J1 ?_
   refine⟨Z,Z,?_,⟨_,_,_,hgl _⟩,hss _ _⟩
   rw[← D31 hnd (by rw[hbl];exact hall)]
   exact su7 Z Z Z Z Z Z Z
 ·cases h
end Pw
end
section
set_option maxRecDepth 100000
set_option maxHeartbeats 0
namespace Pw
open Go Am Go.Proofs.Ytjpjdglddmhplaa.Cd
def C9m (few:pawn_found) (x:pawn_found) (m:Met):Option (Met⊕Unit) :=
 (if (x.without_==few.without_)=true then
  (if (!(kget m x.had_).isSome)=true then some true else some (decide (x.cost_<(kget m x.had_).getD 0))).bind fun w=>some w
 else some false).bind fun g =>
 if g=true then some (.inl (kset m x.had_ x.cost_)) else some (.inl m)
def B58 (figs:List PaFigure) (m:Met) (s:List Int×List Int×Int):Option ((List Int×List Int×Int)⊕(List Int×List Int)) :=
 if (decide (s.2.2<(Zh figs:Int)))=true then
  (B6e m s.2.2).bind fun n =>
  (if (n==0)=true then (app 8 s.1 [s.2.2]).bind fun l=>some l else some s.1).bind fun l1 =>
  (if (decide (n<(Zh m:Int)))=true then (app 8 s.2.1 [s.2.2]).bind fun l=>some l else some s.2.1).bind fun l2 =>
  some (.inl (l1,l2,w64 (s.2.2+1)))
 else some (.inr (s.1,s.2.1))
def A6f (a0:PaShow):Option (List Int×List Int×Int) :=
 (A1f a0).bind fun x1 =>
 if (x1.1==0)=true then
  (B6b (B4r a0 x1.2) A5j).bind fun few =>
  (B4r a0 x1.2 Met Unit (C9m few.1) []).bind fun o =>
  match o with
  | .inl m=>(loop (B58 a0.Figures m) ([],[],0)).bind fun y=>some (y.1,y.2,0)
  | .inr _=>none
 else some ([],[],x1.1)
theorem D8n {H:A1} {l:List AO} {j n:Nat} (h:Nat.ble (j+1) l.length=true):(AV.asl (H.length+j) n).bd (H++l).length=true:= by rw[Zp];exact A3l h
def A3s (H:A1) (t:PaShow) (X:AO) (days:List Int) (few:pawn_found) (l1 l2:List Int) (m:Met):List AO :=
 [.cells (B6 t),.arr 1 false (l1.map cI),.arr 1 false (l2.map cI),.cells (B6 t),X,.cells (A2h t days),.cells (B8 few),.cells [.ptr (H.length+5) 0],.map (C38 m),.cells [.mp (H.length+8)],.cells [.ptr (H.length+5) 0]]
theorem C2c {c:Sc} {H:A1} (hscv:S5 c H=true) {a0:PaShow} {r:List Int×List Int×Int} (h:A6f a0=some r) :
  E7 tab c H (.fn (.func 21) [] []) [.agg (B6 a0)] [.fresh 1 (r.1.map cI),.fresh 1 (r.2.1.map cI),.i r.2.2]:= by
 unfold A6f at h
 refine oB h fun x1 hx1 h=>?_
 refine cE Z Z<|sg 0 Z<|A0 (F6 (cs:=B6 a0) Z Z Z) Z<|A0 A7p Z<|A0 A7p Z<|qm Z<|es (ra3 Z Z Z)<|s0<|A0 (E8 Z Z Z) Z ?_
 by_cases hc2:(x1.1==0)=true
 ·rw[if_pos hc2]at h
  refine oB h fun few hfew h=>oB h fun o ho h=>?_
  obtain⟨X,hX⟩:=A1o hx1 hc2
  refine N9 (A28 hX Z Z (A3 (E1 Z) C2) Z) Z<|qm Z<|A0 (B4 Z Z) Z<|A0 (B4 Z Z) Z<|qm Z<|qm Z<|es (ra5 Z Z Z Z Z)<|C4<|s0<|qm Z<|A0 (Q9 Z Z) Z<|es (ra6 Z Z Z Z Z Z)<|Q6 Z Z<|C6<|sg 6 Z<|qm Z<|A4a (as2:=[(.ptr (H.length+5) 0)]) (H1:=H++[.cells (B6 a0),.arr 1 false [],.arr 1 false [],.cells (B6 a0),X,.cells (A2h a0 x1.2),.dead]) Z Z (A3 Z C2) Z Z Z (A9c Z)<|sg 7 Z<|A0 (F6 (cs:=[.ptr (H.length+5) 0]) Z Z Z) Z<|qm Z<|es (ra1 Z)<|s0<|A0 (A2q Z Z) Z<|qm Z<|es (ra1 Z)<|C7<|InlQ.mk trivial ⟨_,_,_,[(.fn (.func 55) [] [(.ptr (H.length+7) 0)])],_,(A7 Z C0),(A4 Z B9),(A9a (U1 (B2t (U1 (A49 Z)))) (A89 Z B23)),?_⟩
  refine C3 (rs:=[(.agg (B8 few.1)),.b few.2]) Z Z (A3 Z (A3 Z C2)) (C1f (C6j (t:=a0) (days:=x1.2) (bS:=H.length+7) (b:=H.length+5)) (fun h=>(B7n h).frz) (ZO (D7 Z) (D7 Z)) (B2g hscv) hfew)<|qm Z<|A0 (B4 Z Z) Z<|A0 (B4 Z Z) Z<|A0 H8 Z<|K6 (D4 (ds:=(B8 few.1)) Z Z Z Z (E0 Z) Z) Z<|qm Z<|es (ra5 Z Z Z Z Z) ?_
  refine sg 8 Z<|A0 D42 Z<|A0 H8 Z<|K6 (D4 (ds:=[.mp (H.length+8)]) Z Z Z Z (M2 (Zx _ _)) Z) Z<|es (ra6 Z Z Z Z Z Z)<|C4<|s0<|qm Z<|A4a (as2:=[(.ptr (H.length+5) 0)]) (H1:=H++[.cells (B6 a0),.arr 1 false [],.arr 1 false [],.cells (B6 a0),X,.cells (A2h a0 x1.2),.cells (B8 few.1),.cells [.ptr (H.length+5) 0],.map [],.cells [.mp (H.length+8)]]) Z Z (A3 Z C2) Z Z Z (A9c Z)<|sg 10 Z<|A0 (F6 (cs:=[.ptr (H.length+5) 0]) Z Z Z) Z<|qm Z<|es (ra1 Z)<|s0<|A0 (A2q Z Z) Z<|qm Z<|es (ra1 Z)<|C7<|InlQ.mk trivial ⟨_,_,_,[(.fn (.func 55) [] [(.ptr (H.length+10) 0)])],_,(A7 Z C0),(A4 Z B9),(A9a (U1 (B2t (U1 (A49 Z)))) (A89 Z B23)),?_⟩
  refine es (ra6 Z Z Z Z Z Z)<|C8 ?_
  have hl11:∀m,(H++A3s H a0 X x1.2 few.1 [] [] m).length=H.length+11:=fun m=>by rw[Zp];rfl
  refine B2m (it:=B4r a0 x1.2) (sh:=shF) (pre:=B3x a0 x1.2 (H.length+10) (H.length+5)) C6j (K:=H.length+11) [(6,.ptr (H.length+6) 0),(8,.ptr (H.length+9) 0)] (fun m=>H++A3s H a0 X x1.2 few.1 [] [] m) (fun (_:Unit)=>H++A3s H a0 X x1.2 few.1 [] [] []) (fun _=>.ret) ho (fun _=>rfl) Z (fun S hS=>O0 (live:=[6,8]) Z (by decide) (Sub.trans (su2 Z Z) hS)) Z (fun _=>hl11 _) (fun _=>hl11 _) ⟨fun _ _=>B3x.app ⟨D7 Z,D7 Z⟩,fun _ _=>B3x.app ⟨D7 Z,D7 Z⟩⟩ (B2g hscv) (fun c' x m o' L v hsc hgr hv hbo y0 y1 hy0 hy1=>?_) ?_
  ·obtain rfl:v=.agg (B8 x):=hv
   have hGl:∀m z,(H++A3s H a0 X x1.2 few.1 [] [] m++z::L).length=H.length+11+1+L.length:=fun m z=>by rw[Zp,hl11];simp;omega
   refine U7<|rg 0 Z<|A0 H8 Z<|K6 (D4 (ds:=B8 x) Z Z Z Z (M2 (by rw[hGl];exact Zx _ _)) Z) Z<|en (ra3 Z Z Z) ⟨Z,L++[.cells (B8 x)],by simp,?_⟩
   refine B43 (show _=H++(A3s H a0 X x1.2 few.1 [] [] m++(y1::(L++[AO.cells (B8 x)]))) by simp) ?_
   rw[show (AV.ptr ((H++A3s H a0 X x1.2 few.1 [] [] m++y0::L).length+(0+0)) 0)=.ptr (H.length+11+1+L.length) 0 by rw[hGl];rfl]
   have q9:∀m,hcells (H++(A3s H a0 X x1.2 few.1 [] [] m++(y1::(L++[AO.cells (B8 x)])))) (H.length+11+1+L.length)=some (B8 x):=fun m=>by
    rw[show H++(A3s H a0 X x1.2 few.1 [] [] m++(y1::(L++[AO.cells (B8 x)])))=(H++A3s H a0 X x1.2 few.1 [] [] m++y1::L)++[AO.cells (B8 x)] by simp,← hGl m y1]
    exact D7 (j:=0) Z
   have htk:∀m,(H++(A3s H a0 X x1.2 few.1 [] [] m++(y1::(L++[AO.cells (B8 x)])))).take (H.length+11+1+L.length)=H++A3s H a0 X x1.2 few.1 [] [] m++y1::L:=fun m=>by
    rw[show H++(A3s H a0 X x1.2 few.1 [] [] m++(y1::(L++[AO.cells (B8 x)])))=(H++A3s H a0 X x1.2 few.1 [] [] m++y1::L)++[AO.cells (B8 x)] by simp,← hGl m y1]
    exact Z07
   unfold C9m at hbo
   refine oB hbo fun g hg hbo=>?_
   refine C8<|s0<|A0 (B5 (x:=.mp (H.length+8)) Z Z Z) Z<|A0 (C1 Z) Z<|A0 (A6a (ds:=C28 cI x.had_) Z (q9 m) Z Z) Z<|A0 (D4y (k:=x.had_) (es:=m) (gv:=fun n=>.i n) (z:=0) C74 Z (A8c Z) Z Z) Z<|qm Z<|A0 (B4 Z Z) Z<|A0 (B4 Z Z) Z<|qm Z<|qm Z<|es (ra5 Z Z Z Z Z)<|s0<|A0 (C1 Z) Z<|A0 (A3y (x:=.i x.without_) Z (q9 m) Z) Z<|A0 (C1 Z) Z<|A0 (B5 (x:=.i few.1.without_) Z Z Z) Z<|A0 (K0 Z Z) Z<|qm Z<|gp 9 54 (.b g) 45 Z Z (fun hc1=>?_) (fun hc1=>?_) ?_
   ·refine oB (bt hg hc1) fun w hw hg=>?_
    obtain rfl:=os hg
    refine gT Z hc1<|qm Z<|gT Z hc1<|A0 (C4c Z Z) Z<|gT Z hc1<|qm Z<|gq 5 53 (.b w) 48 Z Z (fun hc3=>?_) (fun hc3=>?_) ?_
    ·obtain rfl:=os (bt hw hc3)
     exact nF Z hc3 Z<|nF Z hc3 Z<|nF Z hc3 Z<|nF Z hc3 Z<|gT Z hc1<|A0 (D1 Z hc3 Z) Z<|ge 5 Z Z Z
    ·obtain rfl:=os (bf hw hc3)
     exact gF Z hc3<|A0 (C1 Z) Z<|gF Z hc3<|A0 (A3y (x:=.i x.cost_) Z (q9 m) Z) Z<|gF Z hc3<|qm Z<|gF Z hc3<|A0 (L5 Z Z) Z<|gT Z hc1<|A0 (D0 Z hc3 Z) Z<|ge 5 Z Z Z
    ·exact A0 (D1 Z hc1 Z) Z<|ge 5 Z Z Z
   ·obtain rfl:=os (bf hg hc1)
    exact nT Z hc1 Z<|nT Z hc1 Z<|nT Z hc1 Z<|nX Z Z<|nX Z Z<|nX Z Z<|nX Z Z<|nT Z hc1 Z<|A0 (D0 Z hc1 Z) Z<|ge 9 Z Z Z
   ·refine es (ra3 Z Z Z)<|wi hbo Z (fun hc4 hbo=>?_) fun hc4 hbo=>?_
    ·cases hbo
     refine r0<|A0 (B5 (x:=.mp (H.length+8)) Z Z Z) Z<|A0 (C1 Z) Z<|A0 (A6a (ds:=C28 cI x.had_) Z (q9 m) Z Z) Z<|A0 (C1 Z) Z<|A0 (A3y (x:=.i x.cost_) Z (q9 m) Z) Z<|K6 (D4z (k:=x.had_) (v:=x.cost_) (es:=m) (gv:=fun n=>.i n) C74 Z Z Z Z Z) Z<|en .n ⟨Z,htk _⟩
    ·cases hbo
     exact C6 ⟨Z,htk _⟩
  ·rcases o with m|m
   ·refine oB h fun y hy h=>?_
    obtain rfl:=os h
    refine B43 (show _=H++(A3s H a0 X x1.2 few.1 [] [] m++[.dead]) by simp) ?_
    refine C4<|s0<|A0 (C1 Z) Z<|A0 (B5 Z Z Z) Z<|A0 (I0 (f:=A6) Z) Z<|qm Z<|es (ra5 Z Z Z Z Z)<|C8<|wl (fun s=>[(2,.asl (H.length+1) s.1.length),(3,.asl (H.length+2) s.2.1.length),(8,.ptr (H.length+9) 0),(62,.i a0.Figures.length),(63,.i s.2.2)]) (fun (_:Unit) s=>A3s H a0 X x1.2 few.1 s.1 s.2.1 m++[.dead]) 12 (fun r e s' H'=>PX 2 [(2,.asl (H.length+1) r.1.length),(3,.asl (H.length+2) r.2.length)] (H++(A3s H a0 X x1.2 few.1 r.1 r.2 m++[.dead])) e s' H') () hy Z Z (fun _ _=>rfl) (fun _=>rfl) Z (fun _=>bdc (A3l Z) (bdc (A3l Z) (bdc (N6 Z) (bdc A5 (bdc A5 bdn))))) (fun _ s o hs=>?_) ?_
    ·obtain⟨l1,l2,i⟩:=s
     unfold B58 at hs
     refine s0<|A0 (L5 Z Z) Z<|es (ra6 Z Z Z Z Z Z)<|C4<|wi hs Z (fun hc hs=>?_) fun hc hs=>?_
     ·refine oB hs fun n hn hs=>oB hs fun k1 hl1 hs=>oB hs fun k2 hl2 hs=>?_
      simp only at hn hl1 hl2 hs
      refine C6<|C4<|C8<|s0<|qm Z<|qm Z<|es (ra6 Z Z Z Z Z Z)<|s0<|qm Z<|es (ra7 Z Z Z Z Z Z Z)<|C4<|sg 12 Z<|A0 (B5 (x:=.mp (H.length+8)) Z Z Z) Z<|N9 (D2r Z (A8c Z)) Z<|es (ra8 Z Z Z Z Z Z Z Z)<|C8<|A0r (C5t (l:=H.length+12) (m:=H.length+8) (met:=m) (f:=i) (r:=n) (by rw[S8];show some (AO.mit _ (C38 m).length [])=_;rw[C38,Zi]) (A8c Z) (by omega) hn (D8n Z) (D8n Z) (by rw[Zp];exact N6 Z) A5 A5) ?_
      rintro e s' H' ⟨rfl,rfl,rfl⟩
      rw[F2]
      refine C4<|s0<|qm Z<|A0 (K0 Z Z) Z<|es (ra8 Z Z Z Z Z Z Z Z)<|wi hl1 Z (fun hc5 hl1=>?_) fun hc5 hl1=>?_
      ·refine oB hl1 fun l1' hl1' hl1=>?_
       obtain rfl:=os hl1
       refine r0<|qm Z<|qm Z<|A0 (I8 (rows:=Zd cI [i]) Z Z (D9 (fun _=>rfl) _)) Z<|N9 (A16 (f:=cI) (j:=1) Z Z Z Z A1k (fun _=>rfl) hl1') Z<|qm Z<|en (ra7 Z Z Z Z Z Z Z) ?_
       refine s0<|qm Z<|A0 (B5 (x:=.mp (H.length+8)) Z Z Z) Z<|A0 (D2n (es:=m) Z (A8c Z)) Z<|A0 (L5 Z Z) Z<|es (ra7 Z Z Z Z Z Z Z)<|wi hl2 Z (fun hc6 hl2=>?_) fun hc6 hl2=>?_
       ·refine oB hl2 fun l2' hl2' hl2=>?_
        obtain rfl:=os hl2
        refine r0<|qm Z<|qm Z<|A0 (I8 (rows:=Zd cI [i]) Z Z (D9 (fun _=>rfl) _)) Z<|N9 (A16 (f:=cI) (j:=2) Z Z Z Z A1k (fun _=>rfl) hl2') Z<|qm Z<|en (ra5 Z Z Z Z Z) ?_
        obtain rfl:=os hs
        refine r0<|A0 (G1 Z Z) Z<|qm Z<|en (ra5 Z Z Z Z Z) ?_
        exact lnT () Z (su5 Z Z Z Z Z)
       ·obtain rfl:=os hl2
        obtain rfl:=os hs
        refine C6<|r0<|A0 (G1 Z Z) Z<|qm Z<|en (ra5 Z Z Z Z Z) ?_
        exact lnT () Z (su5 Z Z Z Z Z)
      ·obtain rfl:=os hl1
       refine C6 ?_
       refine s0<|qm Z<|A0 (B5 (x:=.mp (H.length+8)) Z Z Z) Z<|A0 (D2n (es:=m) Z (A8c Z)) Z<|A0 (L5 Z Z) Z<|es (ra7 Z Z Z Z Z Z Z)<|wi hl2 Z (fun hc6 hl2=>?_) fun hc6 hl2=>?_
       ·refine oB hl2 fun l2' hl2' hl2=>?_
        obtain rfl:=os hl2
        refine r0<|qm Z<|qm Z<|A0 (I8 (rows:=Zd cI [i]) Z Z (D9 (fun _=>rfl) _)) Z<|N9 (A16 (f:=cI) (j:=2) Z Z Z Z A1k (fun _=>rfl) hl2') Z<|qm Z<|en (ra5 Z Z Z Z Z) ?_
        obtain rfl:=os hs
        refine r0<|A0 (G1 Z Z) Z<|qm Z<|en (ra5 Z Z Z Z Z) ?_
        exact lnT () Z (su5 Z Z Z Z Z)
       ·obtain rfl:=os hl2
        obtain rfl:=os hs
        refine C6<|r0<|A0 (G1 Z Z) Z<|qm Z<|en (ra5 Z Z Z Z Z) ?_
        exact lnT () Z (su5 Z Z Z Z Z)
     ·refine J1 ?_
      obtain rfl:=os hs
      exact lx Z px (su2 Z Z)
    ·rintro e s' H'-⟨rfl,rfl,rfl⟩
     refine s0<|qm Z<|qm Z<|qm Z<|qm Z<|qm Z<|es (ra3 Z Z Z)<|C7 ?_
     exact retq trivial (A7 Z (A7 Z (A7 Z C0))) (A4 (A68 Z (Zi _)) (A4 (A68 Z (Zi _)) (A4 Z B9))) (A2 A0u (A2 A0u (A2 A5 A8)))
   ·cases h
 ·rw[if_neg hc2]at h
  obtain rfl:=os h
  refine N9 (Q3 (rs:=[.lit (.pointer none),.i x1.1]) Z Z (A3 (E1 Z) C2) (A2k hx1 (by simpa using hc2)) Z) Z<|qm Z<|A0 (B4 Z Z) Z<|A0 (B4 Z Z) Z<|qm Z<|qm Z<|es (ra5 Z Z Z Z Z)<|C4<|s0<|qm Z<|A0 (Q9 Z Z) Z<|es (ra6 Z Z Z Z Z Z)<|O1 Z (nef hc2)<|sg 3 Z<|qm Z<|A0 A7p Z<|A0 A7p Z<|qm Z<|es (ra3 Z Z Z)<|C7 ?_
  exact retq trivial (A7 Z (A7 Z (A7 Z C0))) (A4 (A68 Z Z) (A4 (A68 Z Z) (A4 Z B9))) (A2 A0u (A2 A0u (A2 A5 A8)))
end Pw
end
section
namespace Pw
open Go Am
section
variable {α σ ρ:Type}
end
theorem A53 {α β:Type} {f:α→List β} {k:Nat}:∀{l:List α},(∀ x∈l,(f x).length≤k)→(l.flatMap f).length≤l.length*k
 | [],_=>by simp
 | x::l,h=>by
  have h1:=h x (ZC ..)
  have h2:=A53 (l:=l) fun y hy=>h y (ZB _ hy)
  rw[List.flatMap_cons,Zp,ZX,Z1z]
  omega
section
end
structure MetI (w:Int) (l:List (List PaUse)) (m:Met):Prop where
 len:m.length≤l.length
 of:∀e∈m,∃ p∈l,G0 p=w∧A47 p=e.1
 all:∀p∈l,G0 p=w→∃ e∈m,e.1=A47 p
def A3n (s:PaShow):Int:=match fm (A3w s) (PA s) with|some b=>G0 b|none=>0
theorem B6m {s:PaShow} (hs:ShOk s):(∀ q,Pay s q→A3n s≤G0 q)∧∃ b,fm (A3w s) (PA s)=some b∧Pay s b∧G0 b=A3n s:= by
 obtain⟨b,e,hb,hmin,_⟩:=B2u hs
 have hf:A3n s=G0 b:= by unfold A3n;rw[e]
 refine⟨fun q hq=>?_,b,e,hb,hf.symm⟩
 have h1:=hmin q hq
 have h2:=A50 hs hb.ok.u
 have h3:=A50 hs hq.ok.u
 unfold A3w at h1
 omega
def NT (a b:PaUse):Prop:=a.Gown = -1∨b.Gown = -1∨a.Gown≠b.Gown
theorem NT.symm {a b:PaUse} (h:NT a b):NT b a:= by
 rcases h with h|h|h
 ·exact .inr (.inl h)
 ·exact .inl h
 ·exact .inr (.inr (Ne.symm h))
theorem D3n (p:List PaUse):(∀ i,i<p.length→twP p i=false)↔p.Pairwise NT:= by
 rw[Z0a]
 constructor
 ·intro h i j hi hj hij
  have:=h j hj
  unfold twP at this
  rw[getElem!_pos p j hj]at this
  unfold NT
  by_cases c:p[j].Gown = -1
  ·exact .inr (.inl c)
  ·right;right
   rw[show (p[j].Gown != -1)=true from bne_iff_ne.mpr c,Z16,Z3q]at this
   have:=this p[i] (by rw[Z0b];exact⟨i,by omega,Z⟩)
   simpa using this
 ·intro h j hj
  unfold twP
  rw[getElem!_pos p j hj]
  by_cases c:p[j].Gown = -1
  ·rw[show (p[j].Gown != -1)=false by rw[c];rfl];rfl
  ·rw[show (p[j].Gown != -1)=true from bne_iff_ne.mpr c,Z16,Z3q]
   intro x hx
   rw[Z0b]at hx
   obtain⟨i,hi,rfl⟩:=hx
   have:=h i j (by omega) hj (by omega)
   unfold NT at this
   rw[beq_iff_eq]
   omega
theorem C8j {s:PaShow} {p:List PaUse}:PlU s p↔p.length=s.Figures.length∧∀ z∈s.Figures.zip p,A23 s.Gowns z.1 z.2=0:= by
 constructor
 ·intro h
  refine⟨h.len,fun z hz=>?_⟩
  obtain⟨i,hi,e⟩:=ZW.mp hz
  rw[Z3z]at e
  rw[Z46]at hi
  subst e
  have:=h.use i (by omega)
  rwa [getElem!_pos s.Figures i (by omega),getElem!_pos p i (by omega)]at this
 ·rintro⟨h1,h2⟩
  refine⟨h1,fun i hi=>?_⟩
  rw[getElem!_pos s.Figures i (by omega),getElem!_pos p i hi]
  exact h2 _ (ZW.mpr ⟨i,by rw[Z46];omega,by rw[Z3z]⟩)
theorem C4n {s:PaShow} {p:List PaUse}:PlOk s p↔p.length=s.Figures.length∧(∀ z∈s.Figures.zip p,A23 s.Gowns z.1 z.2=0)∧p.Pairwise NT:= by
 constructor
 ·intro h
  obtain⟨h1,h2⟩:=C8j.mp h.u
  exact⟨h1,h2,(D3n p).mp h.tw⟩
 ·rintro⟨h1,h2,h3⟩
  exact⟨C8j.mpr ⟨h1,h2⟩,(D3n p).mpr h3⟩
def Dom (s t:PaShow):Prop:=∀ p,PlOk s p→∃ q,PlOk t q∧G0 q=G0 p∧V9 t q≤V9 s p∧∀ d,0≤d→O3 s p d≤O3 t q d
theorem Dom.pay {s t:PaShow} (h:Dom s t) {p:List PaUse} (hp:Pay s p):∃q,Pay t q∧G0 q=G0 p∧V9 t q≤V9 s p:= by
 obtain⟨q,h1,h2,h3,h4⟩:=h p hp.ok
 exact⟨q,⟨h1,fun d hd=>Z4w (hp.left d hd) (h4 d hd)⟩,h2,h3⟩
theorem C7e {s t:PaShow} (hs:ShOk s) (ht:ShOk t) (h:Dom s t):A3n t≤A3n s:= by
 obtain⟨_,b,_,hb,hw⟩:=B6m hs
 obtain⟨hm,_⟩:=B6m ht
 obtain⟨q,h1,h2,_⟩:=h.pay hb
 have:=hm q h1
 omega
def bcost (s:PaShow):Int:=match fm (A3w s) (PA s) with|some b=>V9 s b|none=>0
theorem B6a {s:PaShow} (hs:ShOk s):(∃ b,Pay s b∧G0 b=A3n s∧V9 s b=bcost s)∧∀ q,Pay s q→G0 q=A3n s→bcost s≤V9 s q:= by
 obtain⟨b,e,hb,hmin,_⟩:=B2u hs
 have e1:A3n s=G0 b:= by unfold A3n;rw[e]
 have e2:bcost s=V9 s b:= by unfold bcost;rw[e]
 refine⟨⟨b,hb,e1.symm,e2.symm⟩,fun q hq hw=>?_⟩
 have:=hmin q hq
 unfold A3w at this
 omega
theorem D1a {s t:PaShow} (hs:ShOk s) (ht:ShOk t) (h:Dom s t) (hf:A3n t=A3n s):bcost t≤bcost s:= by
 obtain⟨⟨b,hb,hw,hc⟩,_⟩:=B6a hs
 obtain⟨_,hm⟩:=B6a ht
 obtain⟨q,h1,h2,h3⟩:=h.pay hb
 have:=hm q h1 (by omega)
 omega
theorem B50 {s:PaShow} (hb:NB s) (hs:ShOk s):∃b,Y2 s=some (b,A3n s,bcost s,0):= by
 obtain⟨b,e,_⟩:=B2u hs
 refine⟨b,?_⟩
 rw[D3x s hb,(A1w s).mpr hs]
 unfold A3n bcost
 rw[e];rfl
end Pw
end
section
set_option maxRecDepth 100000
set_option maxHeartbeats 0
namespace Pw
open Go Am Go.Proofs.Ytjpjdglddmhplaa.Cd
def A1r (a0:Int) (a1:Int) (a2:Int):Option PaUse :=
 some (PaUse.mk a0 a1 a2)
theorem A0i {c:Sc} {H:A1} {a0:Int} {a1:Int} {a2:Int} {r:PaUse} (h:A1r a0 a1 a2=some r) :
  E7 tab c H (.fn (.func 16) [] []) [.i a0,.i a1,.i a2] [(.agg (B3 r))]:= by
 unfold A1r at h
 refine cE Z Z<|sg 0 Z<|A0 H8 Z<|es (ra4 Z Z Z Z)<|s0<|qm Z<|qm Z<|qm Z<|A0 (R5 (cs:=B3 (PaUse.mk a0 a1 a2)) Z Z) Z<|K6 (D4 (ds:=(B3 (PaUse.mk a0 a1 a2))) Z Z Z Z (E0 Z) Z) Z<|es (ra1 Z)<|C7 ?_
 obtain rfl:=os h
 exact retq trivial (A2d (J2 (ds:=B3 (PaUse.mk a0 a1 a2)) Z Z Z Z) C0) (A4 (B3r Z) B9) (A2 (A4g Z) A8)
def A2o :Option (List PaUse) :=
 (A1r 0 1 0).bind fun x1 =>
 (A1r 1 0 0).bind fun x2 =>
 (A1r 2 2 0).bind fun x3 =>
 some [x1,x2,x3]
theorem A26 {c:Sc} {H:A1}  {r:(List PaUse)} (h:A2o  = some r) :
  E7 tab c H (.fn (.func 12) [] []) [] [(.seq 3 (Zd B3 r))]:= by
 unfold A2o at h
 refine cE Z Z<|s0<|qm Z<|es .n<|s0<|oB h fun x1 hx1 h=>oB h fun x2 hx2 h=>oB h fun x3 hx3 h=>C3 (rs:=[(.agg (B3 x1))]) Z Z (A3 Z (A3 Z (A3 Z C2))) ((A0i hx1).frz)<|C3 (rs:=[(.agg (B3 x2))]) Z Z (A3 Z (A3 Z (A3 Z C2))) ((A0i hx2).frz)<|C3 (rs:=[(.agg (B3 x3))]) Z Z (A3 Z (A3 Z (A3 Z C2))) ((A0i hx3).frz)<|A0 (I8 (rows:=Zd B3 [x1,x2,x3]) Z Z (D9 (fun _=>rfl) _)) Z<|qm Z<|es (ra1 Z)<|C7 ?_
 obtain rfl:=os h
 exact retq trivial (A7 Z C0) (A4 Z B9) (A2 N7 A8)
def A66 (a0:Bool):Option PaShow :=
 if a0=true then
  some (PaShow.mk ((PaShow.mk [(PaGown.mk (ByteArray.mk #[114,101,100]) 3 true 90 10 3 20 100),(PaGown.mk (ByteArray.mk #[98,108,117,101]) 1 false 0 0 0 0 0),(PaGown.mk (ByteArray.mk #[103,111,108,100]) 7 true 120 5 8 0 60)] [(PaFigure.mk (ByteArray.mk #[113,117,101,101,110]) 50 59 2),(PaFigure.mk (ByteArray.mk #[98,105,115,104,111,112]) 20 80 1),(PaFigure.mk (ByteArray.mk #[108,97,100,121]) 45 50 4)] 100 [(PaIncome.mk 40 150)]).Gowns) ((PaShow.mk [(PaGown.mk (ByteArray.mk #[114,101,100]) 3 true 90 10 3 20 100),(PaGown.mk (ByteArray.mk #[98,108,117,101]) 1 false 0 0 0 0 0),(PaGown.mk (ByteArray.mk #[103,111,108,100]) 7 true 120 5 8 0 60)] [(PaFigure.mk (ByteArray.mk #[113,117,101,101,110]) 50 59 2),(PaFigure.mk (ByteArray.mk #[98,105,115,104,111,112]) 20 80 1),(PaFigure.mk (ByteArray.mk #[108,97,100,121]) 45 50 4)] 100 [(PaIncome.mk 40 150)]).Figures) 20 ([]:List PaIncome))
 else
  some (PaShow.mk [(PaGown.mk (ByteArray.mk #[114,101,100]) 3 true 90 10 3 20 100),(PaGown.mk (ByteArray.mk #[98,108,117,101]) 1 false 0 0 0 0 0),(PaGown.mk (ByteArray.mk #[103,111,108,100]) 7 true 120 5 8 0 60)] [(PaFigure.mk (ByteArray.mk #[113,117,101,101,110]) 50 59 2),(PaFigure.mk (ByteArray.mk #[98,105,115,104,111,112]) 20 80 1),(PaFigure.mk (ByteArray.mk #[108,97,100,121]) 45 50 4)] 100 [(PaIncome.mk 40 150)])
theorem A90 {c:Sc} {H:A1} {a0:Bool} {r:PaShow} (h:A66 a0=some r) :
  E7 tab c H (.fn (.func 7) [] []) [.b a0] [(.agg (B6 r))]:= by
 unfold A66 at h
 refine cE Z Z<|sg 0 Z<|A0 H8 Z<|es (ra2 Z Z)<|sg 1 Z<|A0 (R5 (cs:=B2 (PaGown.mk (ByteArray.mk #[114,101,100]) 3 true 90 10 3 20 100)) Z Z) Z<|A0 (R5 (cs:=B2 (PaGown.mk (ByteArray.mk #[98,108,117,101]) 1 false 0 0 0 0 0)) Z Z) Z<|A0 (R5 (cs:=B2 (PaGown.mk (ByteArray.mk #[103,111,108,100]) 7 true 120 5 8 0 60)) Z Z) Z<|A0 (I8 (rows:=Zd B2 [(PaGown.mk (ByteArray.mk #[114,101,100]) 3 true 90 10 3 20 100),(PaGown.mk (ByteArray.mk #[98,108,117,101]) 1 false 0 0 0 0 0),(PaGown.mk (ByteArray.mk #[103,111,108,100]) 7 true 120 5 8 0 60)]) Z Z (D9 (fun _=>rfl) _)) Z<|A0 (R5 (cs:=A6 (PaFigure.mk (ByteArray.mk #[113,117,101,101,110]) 50 59 2)) Z Z) Z<|A0 (R5 (cs:=A6 (PaFigure.mk (ByteArray.mk #[98,105,115,104,111,112]) 20 80 1)) Z Z) Z<|A0 (R5 (cs:=A6 (PaFigure.mk (ByteArray.mk #[108,97,100,121]) 45 50 4)) Z Z) Z<|A0 (I8 (rows:=Zd A6 [(PaFigure.mk (ByteArray.mk #[113,117,101,101,110]) 50 59 2),(PaFigure.mk (ByteArray.mk #[98,105,115,104,111,112]) 20 80 1),(PaFigure.mk (ByteArray.mk #[108,97,100,121]) 45 50 4)]) Z Z (D9 (fun _=>rfl) _)) Z<|A0 (R5 (cs:=B1 (PaIncome.mk 40 150)) Z Z) Z<|A0 (I8 (rows:=Zd B1 [(PaIncome.mk 40 150)]) Z Z (D9 (fun _=>rfl) _)) Z<|A0 (R5 (cs:=B6 (PaShow.mk [(PaGown.mk (ByteArray.mk #[114,101,100]) 3 true 90 10 3 20 100),(PaGown.mk (ByteArray.mk #[98,108,117,101]) 1 false 0 0 0 0 0),(PaGown.mk (ByteArray.mk #[103,111,108,100]) 7 true 120 5 8 0 60)] [(PaFigure.mk (ByteArray.mk #[113,117,101,101,110]) 50 59 2),(PaFigure.mk (ByteArray.mk #[98,105,115,104,111,112]) 20 80 1),(PaFigure.mk (ByteArray.mk #[108,97,100,121]) 45 50 4)] 100 [(PaIncome.mk 40 150)])) Z Z) Z<|A0 H8 Z<|K6 (D4 (ds:=(B6 (PaShow.mk [(PaGown.mk (ByteArray.mk #[114,101,100]) 3 true 90 10 3 20 100),(PaGown.mk (ByteArray.mk #[98,108,117,101]) 1 false 0 0 0 0 0),(PaGown.mk (ByteArray.mk #[103,111,108,100]) 7 true 120 5 8 0 60)] [(PaFigure.mk (ByteArray.mk #[113,117,101,101,110]) 50 59 2),(PaFigure.mk (ByteArray.mk #[98,105,115,104,111,112]) 20 80 1),(PaFigure.mk (ByteArray.mk #[108,97,100,121]) 45 50 4)] 100 [(PaIncome.mk 40 150)]))) Z Z Z Z (E0 Z) Z) Z<|es (ra3 Z Z Z)<|C4<|s0<|qm Z<|es (ra3 Z Z Z)<|wi h Z (fun hc1 h=>?_) fun hc1 h=>?_
 ·refine r0<|A0 (C1 Z) Z<|K6 (D4 (ds:=(B6 (PaShow.mk ((PaShow.mk [(PaGown.mk (ByteArray.mk #[114,101,100]) 3 true 90 10 3 20 100),(PaGown.mk (ByteArray.mk #[98,108,117,101]) 1 false 0 0 0 0 0),(PaGown.mk (ByteArray.mk #[103,111,108,100]) 7 true 120 5 8 0 60)] [(PaFigure.mk (ByteArray.mk #[113,117,101,101,110]) 50 59 2),(PaFigure.mk (ByteArray.mk #[98,105,115,104,111,112]) 20 80 1),(PaFigure.mk (ByteArray.mk #[108,97,100,121]) 45 50 4)] 100 [(PaIncome.mk 40 150)]).Gowns) ((PaShow.mk [(PaGown.mk (ByteArray.mk #[114,101,100]) 3 true 90 10 3 20 100),(PaGown.mk (ByteArray.mk #[98,108,117,101]) 1 false 0 0 0 0 0),(PaGown.mk (ByteArray.mk #[103,111,108,100]) 7 true 120 5 8 0 60)] [(PaFigure.mk (ByteArray.mk #[113,117,101,101,110]) 50 59 2),(PaFigure.mk (ByteArray.mk #[98,105,115,104,111,112]) 20 80 1),(PaFigure.mk (ByteArray.mk #[108,97,100,121]) 45 50 4)] 100 [(PaIncome.mk 40 150)]).Figures) 20 ((PaShow.mk [(PaGown.mk (ByteArray.mk #[114,101,100]) 3 true 90 10 3 20 100),(PaGown.mk (ByteArray.mk #[98,108,117,101]) 1 false 0 0 0 0 0),(PaGown.mk (ByteArray.mk #[103,111,108,100]) 7 true 120 5 8 0 60)] [(PaFigure.mk (ByteArray.mk #[113,117,101,101,110]) 50 59 2),(PaFigure.mk (ByteArray.mk #[98,105,115,104,111,112]) 20 80 1),(PaFigure.mk (ByteArray.mk #[108,97,100,121]) 45 50 4)] 100 [(PaIncome.mk 40 150)]).Incomes)))) Z Z Z Z (E0 Z) Z) Z<|A0 (C1 Z) Z<|K6 (D4 (ds:=(B6 (PaShow.mk ((PaShow.mk [(PaGown.mk (ByteArray.mk #[114,101,100]) 3 true 90 10 3 20 100),(PaGown.mk (ByteArray.mk #[98,108,117,101]) 1 false 0 0 0 0 0),(PaGown.mk (ByteArray.mk #[103,111,108,100]) 7 true 120 5 8 0 60)] [(PaFigure.mk (ByteArray.mk #[113,117,101,101,110]) 50 59 2),(PaFigure.mk (ByteArray.mk #[98,105,115,104,111,112]) 20 80 1),(PaFigure.mk (ByteArray.mk #[108,97,100,121]) 45 50 4)] 100 [(PaIncome.mk 40 150)]).Gowns) ((PaShow.mk [(PaGown.mk (ByteArray.mk #[114,101,100]) 3 true 90 10 3 20 100),(PaGown.mk (ByteArray.mk #[98,108,117,101]) 1 false 0 0 0 0 0),(PaGown.mk (ByteArray.mk #[103,111,108,100]) 7 true 120 5 8 0 60)] [(PaFigure.mk (ByteArray.mk #[113,117,101,101,110]) 50 59 2),(PaFigure.mk (ByteArray.mk #[98,105,115,104,111,112]) 20 80 1),(PaFigure.mk (ByteArray.mk #[108,97,100,121]) 45 50 4)] 100 [(PaIncome.mk 40 150)]).Figures) 20 ([]:List PaIncome)))) Z Z Z Z (E0 Z) Z) Z<|en (ra2 Z Z)<|s0<|A0 (E8 Z Z Z) Z<|K6 (D4 (ds:=(B6 (PaShow.mk ((PaShow.mk [(PaGown.mk (ByteArray.mk #[114,101,100]) 3 true 90 10 3 20 100),(PaGown.mk (ByteArray.mk #[98,108,117,101]) 1 false 0 0 0 0 0),(PaGown.mk (ByteArray.mk #[103,111,108,100]) 7 true 120 5 8 0 60)] [(PaFigure.mk (ByteArray.mk #[113,117,101,101,110]) 50 59 2),(PaFigure.mk (ByteArray.mk #[98,105,115,104,111,112]) 20 80 1),(PaFigure.mk (ByteArray.mk #[108,97,100,121]) 45 50 4)] 100 [(PaIncome.mk 40 150)]).Gowns) ((PaShow.mk [(PaGown.mk (ByteArray.mk #[114,101,100]) 3 true 90 10 3 20 100),(PaGown.mk (ByteArray.mk #[98,108,117,101]) 1 false 0 0 0 0 0),(PaGown.mk (ByteArray.mk #[103,111,108,100]) 7 true 120 5 8 0 60)] [(PaFigure.mk (ByteArray.mk #[113,117,101,101,110]) 50 59 2),(PaFigure.mk (ByteArray.mk #[98,105,115,104,111,112]) 20 80 1),(PaFigure.mk (ByteArray.mk #[108,97,100,121]) 45 50 4)] 100 [(PaIncome.mk 40 150)]).Figures) 20 ([]:List PaIncome)))) Z Z Z Z (E0 Z) Z) Z<|es (ra1 Z)<|C7 ?_
  obtain rfl:=os h
  exact retq trivial (A2d (J2 (ds:=B6 (PaShow.mk ((PaShow.mk [(PaGown.mk (ByteArray.mk #[114,101,100]) 3 true 90 10 3 20 100),(PaGown.mk (ByteArray.mk #[98,108,117,101]) 1 false 0 0 0 0 0),(PaGown.mk (ByteArray.mk #[103,111,108,100]) 7 true 120 5 8 0 60)] [(PaFigure.mk (ByteArray.mk #[113,117,101,101,110]) 50 59 2),(PaFigure.mk (ByteArray.mk #[98,105,115,104,111,112]) 20 80 1),(PaFigure.mk (ByteArray.mk #[108,97,100,121]) 45 50 4)] 100 [(PaIncome.mk 40 150)]).Gowns) ((PaShow.mk [(PaGown.mk (ByteArray.mk #[114,101,100]) 3 true 90 10 3 20 100),(PaGown.mk (ByteArray.mk #[98,108,117,101]) 1 false 0 0 0 0 0),(PaGown.mk (ByteArray.mk #[103,111,108,100]) 7 true 120 5 8 0 60)] [(PaFigure.mk (ByteArray.mk #[113,117,101,101,110]) 50 59 2),(PaFigure.mk (ByteArray.mk #[98,105,115,104,111,112]) 20 80 1),(PaFigure.mk (ByteArray.mk #[108,97,100,121]) 45 50 4)] 100 [(PaIncome.mk 40 150)]).Figures) 20 ([]:List PaIncome))) Z Z Z Z) C0) (A4 (B3r Z) B9) (A2 (A4g Z) A8)
 ·refine C6<|s0<|A0 (E8 Z Z Z) Z<|K6 (D4 (ds:=(B6 (PaShow.mk [(PaGown.mk (ByteArray.mk #[114,101,100]) 3 true 90 10 3 20 100),(PaGown.mk (ByteArray.mk #[98,108,117,101]) 1 false 0 0 0 0 0),(PaGown.mk (ByteArray.mk #[103,111,108,100]) 7 true 120 5 8 0 60)] [(PaFigure.mk (ByteArray.mk #[113,117,101,101,110]) 50 59 2),(PaFigure.mk (ByteArray.mk #[98,105,115,104,111,112]) 20 80 1),(PaFigure.mk (ByteArray.mk #[108,97,100,121]) 45 50 4)] 100 [(PaIncome.mk 40 150)]))) Z Z Z Z (E0 Z) Z) Z<|es (ra1 Z)<|C7 ?_
  obtain rfl:=os h
  exact retq trivial (A2d (J2 (ds:=B6 (PaShow.mk [(PaGown.mk (ByteArray.mk #[114,101,100]) 3 true 90 10 3 20 100),(PaGown.mk (ByteArray.mk #[98,108,117,101]) 1 false 0 0 0 0 0),(PaGown.mk (ByteArray.mk #[103,111,108,100]) 7 true 120 5 8 0 60)] [(PaFigure.mk (ByteArray.mk #[113,117,101,101,110]) 50 59 2),(PaFigure.mk (ByteArray.mk #[98,105,115,104,111,112]) 20 80 1),(PaFigure.mk (ByteArray.mk #[108,97,100,121]) 45 50 4)] 100 [(PaIncome.mk 40 150)])) Z Z Z Z) C0) (A4 (B3r Z) B9) (A2 (A4g Z) A8)
def Y7 (a0:PaUse) (a1:Int):Option Bool :=
 some ((a0.Gown==a1)&&(a0.How==1))
theorem A8m {c:Sc} {H:A1} {a0:PaUse} {a1:Int} {b1:Nat} (hb1:hcells H b1=some (cI a1)) {r:Bool} (h:Y7 a0 a1=some r) :
  E7 tab c H (.fn (.func 74) [] []) [(.agg (B3 a0)),.ptr b1 0] [.b r]:= by
 unfold Y7 at h
 refine cE Z Z<|sg 0 Z<|A0 (F6 (cs:=B3 a0) Z Z Z) Z<|qm Z<|es (ra2 Z Z)<|s0<|A0 (C1 Z) Z<|A0 (B5 Z Z Z) Z<|A0 (F1 Z hb1 Z) Z<|A0 (K0 Z Z) Z<|qm Z<|gp 4 12 (.b ((a0.Gown==a1)&&(a0.How==1))) 8 Z Z (fun hg1=>?_) (fun hg1=>?_) ?_
 ·exact gT Z hg1<|A0 (C1 Z) Z<|gT Z hg1<|A0 (B5 Z Z Z) Z<|gT Z hg1<|A0 (K0 Z Z) Z<|A0 (D1 Z hg1 Z) Z<|ge 4 (by rw[hg1];rfl) Z Z
 ·exact nT Z hg1 Z<|nT Z hg1 Z<|nT Z hg1 Z<|A0 (D0 Z hg1 Z) Z<|ge 4 (by rw[hg1];rfl) Z Z
 refine qm Z<|es (ra1 Z)<|C7 ?_
 obtain rfl:=os h
 exact retq trivial (A7 Z C0) (A4 Z B9) (A2 A5 A8)
def A3r (a0:pawn_show) (a1:(List PaUse)) (a2:Int):Option Bool :=
 (E4 a1 (fun (y:PaUse)=>Y7 y a2)).bind fun x1 =>
 some x1
theorem B0o {c:Sc} {H:A1} {a0:pawn_show} {b0:Nat} (hb0:hcells H b0=some [(.seq 8 (Zd B2 a0.PaShow.Gowns)),(.seq 4 (Zd A6 a0.PaShow.Figures)),.i a0.PaShow.Purse,(.seq 2 (Zd B1 a0.PaShow.Incomes)),(.fn (.func 41) [] []),(.fn (.func 42) [] []),(.fn (.func 43) [] []),(.fn (.func 25) [] []),(.fn (.func 44) [] []),(.fn (.func 45) [] []),(.fn (.func 26) [] []),(.fn (.func 46) [] []),(.fn (.func 47) [] []),(.seq 1 (Zd cI a0.days_))]) {a1:(List PaUse)} {a2:Int} {r:Bool} (h:A3r a0 a1 a2=some r) :
  E7 tab c H (.fn (.func 57) [] []) [.ptr b0 0,(.seq 3 (Zd B3 a1)),.i a2] [.b r]:= by
 unfold A3r at h
 refine cE Z Z<|sg 0 Z<|A0 (F6 (cs:=cI a2) Z Z Z) Z<|qm Z<|es (ra2 Z Z)<|s0<|oB h fun x1 hx1 h=>qm Z<|A0 (A2q Z Z) Z<|C3 (rs:=[.b x1]) Z Z (A3 Z (A3 Z C2)) ((W8 (show Impl _ _ 74 [] [(.ptr (H.length+0) 0)] (fun (y:PaUse)=>Y7 y a2) (fun (y:PaUse)=>[(.agg (B3 y))]) (fun (y:Bool)=>[.b y]) from ⟨⟨A8,(by rw[Zp];exact(A2 (N6 Z) A8))⟩,fun H' hle hag c y r hr=>(A2i (A8m (hag _ _ (D7 Z)) hr)).frz⟩) hx1).frz)<|qm Z<|es (ra1 Z)<|C7 ?_
 obtain rfl:=os h
 exact retq trivial (A7 Z C0) (A4 Z B9) (A2 A5 A8)
def B12 (a0:PaShow) (a1:(List PaUse)) (x1:(Int×(List Int))) (s4:(Int×(List Int))):Option ((Int×(List Int))⊕(List Int)) :=
 if (decide (s4.1<(Zh a0.Gowns:Int)))=true then
  (idx a0.Gowns s4.1).bind fun x7 =>
  (if (x7.Pawn&&(decide (x7.Last<364)))=true then
  (A3r (pawn_show.mk a0 (Ar3.mk (pawn_way.mk ) (pawn_way.mk ) (pawn_way.mk )) x1.2) a1 s4.1).bind fun x10 =>
  some (!x10)
  else
  some false).bind fun x11 =>
  if x11=true then
  (app 8 s4.2 [s4.1]).bind fun x13 =>
  some (.inl ((w64 (s4.1+1)),x13))
  else
  some (.inl ((w64 (s4.1+1)),s4.2))
 else
  some (.inr s4.2)
def B3v (a0:PaShow) (a1:(List PaUse)):Option ((List Int)×Int) :=
 (A2a a0 a1).bind fun x1 =>
 if (x1.1==0)=true then
  (loop (B12 a0 a1 x1) (0,([]:List Int))).bind fun (o14:(List Int)) =>
  some (o14,0)
 else
  some (([]:List Int),x1.1)
theorem C2d {c:Sc} {H:A1} {a0:PaShow} {a1:(List PaUse)} {r:((List Int)×Int)} (h:B3v a0 a1=some r) :
  E7 tab c H (.fn (.func 35) [] []) [(.agg (B6 a0)),(.seq 3 (Zd B3 a1))] [(.fresh 1 (Zd cI r.1)),.i r.2]:= by
 unfold B3v at h
 refine cE Z Z<|sg 0 Z<|A0 (F6 (cs:=B6 a0) Z Z Z) Z<|A0 A7p Z<|qm Z<|es (ra3 Z Z Z)<|s0<|oB h fun x1 hx1 h=>A0 (E8 Z Z Z) Z<|qm Z ?_
 by_cases hc2:(x1.1==0)=true
 ·rw[if_pos hc2]at h
  obtain⟨X3,hX3⟩:=A8q hx1 hc2
  refine N9 (A28 hX3 Z Z (A3 (E1 Z) (A3 Z C2)) Z) Z<|qm Z<|A0 (B4 Z Z) Z<|A0 (B4 Z Z) Z<|qm Z<|qm Z<|es (ra5 Z Z Z Z Z)<|C4<|s0<|qm Z<|A0 (T6 (v:=(.b false)) Z Z Z) Z<|es (ra6 Z Z Z Z Z Z)<|Q6 Z Z<|C6<|s0<|qm Z<|A0 (A2q Z Z) Z<|qm Z<|es (ra4 Z Z Z Z)<|C4<|s0<|A0 (C1 Z) Z<|A0 (B5 Z Z Z) Z<|A0 (I0 (f:=B2) Z) Z<|qm Z<|es (ra6 Z Z Z Z Z Z)<|C8<|oB h fun o14 ho14 h=>wl (fun s4=>[(1,(.seq 3 (Zd B3 a1))),(4,(.asl (H.length+1) (Zh s4.2))),(7,(.fn (.func 57) [(.ptr (H.length+5) 0)] [])),(22,(.seq 8 (Zd B2 a0.Gowns))),(23,(.i (Zh a0.Gowns:Int))),(24,.i s4.1)]) (fun (q5:Unit) s4=>[(.cells (B6 a0)),(.arr 1 false (Zd cI s4.2)),(.cells (B6 a0)),(.cells (B6 a0)),X3,(.cells [(.seq 8 (Zd B2 a0.Gowns)),(.seq 4 (Zd A6 a0.Figures)),.i a0.Purse,(.seq 2 (Zd B1 a0.Incomes)),(.fn (.func 41) [] []),(.fn (.func 42) [] []),(.fn (.func 43) [] []),(.fn (.func 25) [] []),(.fn (.func 44) [] []),(.fn (.func 45) [] []),(.fn (.func 26) [] []),(.fn (.func 46) [] []),(.fn (.func 47) [] []),(.seq 1 (Zd cI x1.2))])]) 6 (fun r e s' H'=>PX 0 [(4,(.asl (H.length+1) (Zh r)))] (H++[(.cells (B6 a0)),(.arr 1 false (Zd cI r)),(.cells (B6 a0)),(.cells (B6 a0)),X3,(.cells [(.seq 8 (Zd B2 a0.Gowns)),(.seq 4 (Zd A6 a0.Figures)),.i a0.Purse,(.seq 2 (Zd B1 a0.Incomes)),(.fn (.func 41) [] []),(.fn (.func 42) [] []),(.fn (.func 43) [] []),(.fn (.func 25) [] []),(.fn (.func 44) [] []),(.fn (.func 45) [] []),(.fn (.func 26) [] []),(.fn (.func 46) [] []),(.fn (.func 47) [] []),(.seq 1 (Zd cI x1.2))])]) e s' H') () ho14 Z Z (fun _ _=>rfl) (fun _=>rfl) Z (fun s4=>(bdc N7 (bdc (A3l Z) (bdc (D6b (A2 (N6 Z) A8) A8) (bdc N7 (bdc A5 (bdc A5 bdn))))))) (fun q5 s4 ys4 hs4=>?_) ?_
  ·unfold B12 at hs4
   refine s0<|A0 (L5 Z Z) Z<|es (ra7 Z Z Z Z Z Z Z)<|C4<|wi hs4 Z (fun hc6 hs4=>?_) fun hc6 hs4=>?_
   ·refine C6<|C4<|C8<|sg 6 Z<|oB hs4 fun x7 hx7 hs4=>qm Z<|A0 (H7 (f:=B2) Z Z hx7) Z<|A0 (I1 Z Z) Z<|A0 H8 Z<|qm Z<|K6 (D4 (ds:=(B2 x7)) Z Z Z Z (E0 Z) Z) Z<|es (ra8 Z Z Z Z Z Z Z Z)<|s0<|oB hs4 fun x11 hx11 hs4=>A0 (C1 Z) Z<|A0 (B5 Z Z Z) Z<|qm Z<|gp 4 35 (.b (x7.Pawn&&(decide (x7.Last<364)))) 31 Z Z (fun hg8=>?_) (fun hg8=>?_) ?_
    ·exact gT Z hg8<|A0 (C1 Z) Z<|gT Z hg8<|A0 (B5 Z Z Z) Z<|gT Z hg8<|A0 (L5 Z Z) Z<|A0 (D1 Z hg8 Z) Z<|ge 4 (by rw[hg8];rfl) Z Z
    ·exact nT Z hg8 Z<|nT Z hg8 Z<|nT Z hg8 Z<|A0 (D0 Z hg8 Z) Z<|ge 4 (by rw[hg8];rfl) Z Z
    refine qm Z<|gp 6 42 (.b x11) 36 Z Z (fun hg9=>?_) (fun hg9=>?_) ?_
    ·refine oB (bt hx11 hg9) fun x10 hx10 hx11=>?_
     obtain rfl:=os hx11
     exact gT Z hg9<|qm Z<|gT Z hg9<|qm Z<|gT Z hg9<|qm Z<|gT Z hg9<|C3 (rs:=[.b x10]) Z Z (A3 Z (A3 Z C2)) ((A2i (B0o (D7 Z) hx10)).frz)<|gT Z hg9<|A0 (Y9 Z) Z<|A0 (D1 Z hg9 Z) Z<|ge 6 Z Z Z
    ·obtain rfl:=os (bf hx11 hg9)
     exact nT Z hg9 Z<|nT Z hg9 Z<|nT Z hg9 Z<|L7 (F4 Z (by rw[hg9];rfl)) Z<|nT Z hg9 Z<|A0 (D0 Z hg9 Z) Z<|ge 6 Z Z Z
    refine es (ra8 Z Z Z Z Z Z Z Z)<|wi hs4 Z (fun hc12 hs4=>?_) fun hc12 hs4=>?_
    ·refine r0<|oB hs4 fun x13 hx13 hs4=>qm Z<|qm Z<|A0 (I8 (rows:=Zd cI [s4.1]) Z Z (D9 (fun _=>rfl) _)) Z<|N9 (A16 (f:=cI) Z Z Z Z A1k (fun _=>rfl) hx13) Z<|qm Z<|en (ra6 Z Z Z Z Z Z)<|r0<|A0 (G1 Z Z) Z<|qm Z<|en (ra6 Z Z Z Z Z Z) ?_
     cases hs4
     exact lnT () Z (su6 Z Z Z Z Z Z)
    ·refine C6<|r0<|A0 (G1 Z Z) Z<|qm Z<|en (ra6 Z Z Z Z Z Z) ?_
     cases hs4
     exact lnT () Z (su6 Z Z Z Z Z Z)
   ·refine J1 ?_
    obtain rfl:=os hs4
    exact lx Z px (su1 Z)
  ·rintro e s' H'-⟨rfl,rfl,rfl⟩
   refine s0<|qm Z<|qm Z<|qm Z<|es (ra2 Z Z)<|C7 ?_
   obtain rfl:=os h
   exact retq trivial (A7 Z (A7 Z C0)) (A4 (A68 Z (Zi _)) (A4 Z B9)) (A2 A0u (A2 A5 A8))
 ·rw[if_neg hc2]at h
  refine N9 (Q3 (rs:=[.lit (.pointer none),.i x1.1]) Z Z (A3 (E1 Z) (A3 Z C2)) (A8p hx1 (by simpa using hc2)) Z) Z<|qm Z<|A0 (B4 Z Z) Z<|A0 (B4 Z Z) Z<|qm Z<|qm Z<|es (ra5 Z Z Z Z Z)<|C4<|s0<|qm Z<|A0 (Q9 Z Z) Z<|es (ra6 Z Z Z Z Z Z)<|O1 Z (nef hc2)<|sg 2 Z<|qm Z<|A0 A7p Z<|qm Z<|es (ra2 Z Z)<|C7 ?_
  obtain rfl:=os h
  exact retq trivial (A7 Z (A7 Z C0)) (A4 (A68 Z (Zi _)) (A4 Z B9)) (A2 A0u (A2 A5 A8))
def B0u (a0:PaShow) (a1:(List PaUse)) (a2:Int):Option (Int×Int) :=
 (A2a a0 a1).bind fun x1 =>
 if (x1.1==0)=true then
  (E2 0 364 [a2]).bind fun x4 =>
  if x4=true then
  some (0,7)
  else
  (P8 (pawn_show.mk a0 (Ar3.mk (pawn_way.mk ) (pawn_way.mk ) (pawn_way.mk )) x1.2) a1 a2).bind fun x6 =>
  some (x6,0)
 else
  some (0,x1.1)
theorem B86 {c:Sc} {H:A1} {a0:PaShow} {a1:(List PaUse)} {a2:Int} {r:(Int×Int)} (h:B0u a0 a1 a2=some r) :
  E7 tab c H (.fn (.func 11) [] []) [(.agg (B6 a0)),(.seq 3 (Zd B3 a1)),.i a2] [.i r.1,.i r.2]:= by
 unfold B0u at h
 refine cE Z Z<|sg 0 Z<|A0 (F6 (cs:=B6 a0) Z Z Z) Z<|qm Z<|qm Z<|es (ra3 Z Z Z)<|s0<|oB h fun x1 hx1 h=>A0 (E8 Z Z Z) Z<|qm Z ?_
 by_cases hc2:(x1.1==0)=true
 ·rw[if_pos hc2]at h
  obtain⟨X3,hX3⟩:=A8q hx1 hc2
  refine N9 (A28 hX3 Z Z (A3 (E1 Z) (A3 Z C2)) Z) Z<|qm Z<|A0 (B4 Z Z) Z<|A0 (B4 Z Z) Z<|qm Z<|qm Z<|es (ra4 Z Z Z Z)<|C4<|C8<|s0<|qm Z<|A0 (T6 (v:=(.b false)) Z Z Z) Z<|qm Z<|es (ra5 Z Z Z Z Z)<|Q6 Z Z<|s0<|oB h fun x4 hx4 h=>qm Z<|A0 (I8 (rows:=Zd cI [a2]) Z Z (D9 (fun _=>rfl) _)) Z<|C3 (rs:=[.b x4]) Z Z (A3 Z (A3 Z (A3 Z C2))) ((E6 hx4).frz)<|qm Z<|es (ra4 Z Z Z Z)<|wi h Z (fun hc5 h=>?_) fun hc5 h=>?_
  ·refine s0<|qm Z<|qm Z<|es (ra2 Z Z)<|C7 ?_
   obtain rfl:=os h
   exact retq trivial (A7 Z (A7 Z C0)) (A4 Z (A4 Z B9)) (A2 A5 (A2 A5 A8))
  ·refine C6<|s0<|oB h fun x6 hx6 h=>qm Z<|qm Z<|qm Z<|N9 (V1 (rs:=[.i x6]) Z Z ((A5i (D7 Z) hx6).frz)) Z<|qm Z<|qm Z<|es (ra2 Z Z)<|C7 ?_
   obtain rfl:=os h
   exact retq trivial (A7 Z (A7 Z C0)) (A4 Z (A4 Z B9)) (A2 A5 (A2 A5 A8))
 ·rw[if_neg hc2]at h
  refine N9 (Q3 (rs:=[.lit (.pointer none),.i x1.1]) Z Z (A3 (E1 Z) (A3 Z C2)) (A8p hx1 (by simpa using hc2)) Z) Z<|qm Z<|A0 (B4 Z Z) Z<|A0 (B4 Z Z) Z<|qm Z<|qm Z<|es (ra4 Z Z Z Z)<|C4<|C8<|s0<|qm Z<|A0 (Q9 Z Z) Z<|qm Z<|es (ra5 Z Z Z Z Z)<|O1 Z (nef hc2)<|s0<|qm Z<|qm Z<|qm Z<|es (ra2 Z Z)<|C7 ?_
  obtain rfl:=os h
  exact retq trivial (A7 Z (A7 Z C0)) (A4 Z (A4 Z B9)) (A2 A5 (A2 A5 A8))
def A69 (a0:PaShow) (a1:(List PaUse)):Option (Int×Int) :=
 (A2a a0 a1).bind fun x1 =>
 if (x1.1==0)=true then
  (O5 (pawn_show.mk a0 (Ar3.mk (pawn_way.mk ) (pawn_way.mk ) (pawn_way.mk )) x1.2) a1).bind fun x4 =>
  if (x4.1==0)=true then
  some (0,4)
  else
  some (x4.2,0)
 else
  some (0,x1.1)
theorem A93 {c:Sc} {H:A1} {a0:PaShow} {a1:(List PaUse)} {r:(Int×Int)} (h:A69 a0 a1=some r) :
  E7 tab c H (.fn (.func 34) [] []) [(.agg (B6 a0)),(.seq 3 (Zd B3 a1))] [.i r.1,.i r.2]:= by
 unfold A69 at h
 refine cE Z Z<|sg 0 Z<|A0 (F6 (cs:=B6 a0) Z Z Z) Z<|qm Z<|qm Z<|es (ra2 Z Z)<|s0<|oB h fun x1 hx1 h=>A0 (E8 Z Z Z) Z<|qm Z ?_
 by_cases hc2:(x1.1==0)=true
 ·rw[if_pos hc2]at h
  obtain⟨X3,hX3⟩:=A8q hx1 hc2
  refine N9 (A28 hX3 Z Z (A3 (E1 Z) (A3 Z C2)) Z) Z<|qm Z<|A0 (B4 Z Z) Z<|A0 (B4 Z Z) Z<|qm Z<|qm Z<|es (ra3 Z Z Z)<|C4<|s0<|qm Z<|A0 (T6 (v:=(.b false)) Z Z Z) Z<|es (ra4 Z Z Z Z)<|Q6 Z Z<|C6<|s0<|oB h fun x4 hx4 h=>qm Z<|qm Z<|N9 (V1 (rs:=[.i x4.1,.i x4.2]) Z Z ((B0p (D7 Z) hx4).frz)) Z<|qm Z<|A0 (B4 Z Z) Z<|A0 (B4 Z Z) Z<|qm Z<|qm Z<|es (ra2 Z Z)<|C4<|s0<|qm Z<|A0 (K0 Z Z) Z<|es (ra2 Z Z)<|wi h Z (fun hc5 h=>?_) fun hc5 h=>?_
  ·refine s0<|qm Z<|qm Z<|es (ra2 Z Z)<|C7 ?_
   obtain rfl:=os h
   exact retq trivial (A7 Z (A7 Z C0)) (A4 Z (A4 Z B9)) (A2 A5 (A2 A5 A8))
  ·refine C6<|s0<|qm Z<|qm Z<|qm Z<|es (ra2 Z Z)<|C7 ?_
   obtain rfl:=os h
   exact retq trivial (A7 Z (A7 Z C0)) (A4 Z (A4 Z B9)) (A2 A5 (A2 A5 A8))
 ·rw[if_neg hc2]at h
  refine N9 (Q3 (rs:=[.lit (.pointer none),.i x1.1]) Z Z (A3 (E1 Z) (A3 Z C2)) (A8p hx1 (by simpa using hc2)) Z) Z<|qm Z<|A0 (B4 Z Z) Z<|A0 (B4 Z Z) Z<|qm Z<|qm Z<|es (ra3 Z Z Z)<|C4<|s0<|qm Z<|A0 (Q9 Z Z) Z<|es (ra4 Z Z Z Z)<|O1 Z (nef hc2)<|s0<|qm Z<|qm Z<|qm Z<|es (ra2 Z Z)<|C7 ?_
  obtain rfl:=os h
  exact retq trivial (A7 Z (A7 Z C0)) (A4 Z (A4 Z B9)) (A2 A5 (A2 A5 A8))
def A95 (a0:PaShow) (a1:Int) (x1:(Int×(List Int))) (s6:(Int×(List Int))) (s9:Int):Option (Int⊕((List Int)⊕Unit)) :=
 if (decide (s9<3))=true then
  (V2 (pawn_show.mk a0 (Ar3.mk (pawn_way.mk ) (pawn_way.mk ) (pawn_way.mk )) x1.2) a1 (PaUse.mk s6.1 s9 0)).bind fun x12 =>
  if (x12==0)=true then
  (app 8 s6.2 [s6.1]).bind fun x14 =>
  some (.inr (.inl x14))
  else
  some (.inl (w64 (s9+1)))
 else
  some (.inr (.inr ()))
def A96 (a0:PaShow) (a1:Int) (x1:(Int×(List Int))) (s6:(Int×(List Int))):Option ((Int×(List Int))⊕(List Int)) :=
 if (decide (s6.1<(Zh a0.Gowns:Int)))=true then
  (loop (A95 a0 a1 x1 s6) 0).bind fun (o15:((List Int)⊕Unit)) =>
  match o15 with
  | (.inl vo15_0) =>
  some (.inl ((w64 (s6.1+1)),vo15_0))
  | (.inr vo15_1) =>
  some (.inl ((w64 (s6.1+1)),s6.2))
 else
  some (.inr s6.2)
def B0v (a0:PaShow) (a1:Int):Option ((List Int)×Int) :=
 (A1f a0).bind fun x1 =>
 if (x1.1==0)=true then
  (E2 0 (w64 ((Zh a0.Figures:Int)-1)) [a1]).bind fun x4 =>
  if x4=true then
  some (([]:List Int),4)
  else
  (loop (A96 a0 a1 x1) (0,([]:List Int))).bind fun (o16:(List Int)) =>
  some (o16,0)
 else
  some (([]:List Int),x1.1)
theorem B87 {c:Sc} {H:A1} {a0:PaShow} {a1:Int} {r:((List Int)×Int)} (h:B0v a0 a1=some r) :
  E7 tab c H (.fn (.func 10) [] []) [(.agg (B6 a0)),.i a1] [(.fresh 1 (Zd cI r.1)),.i r.2]:= by
 unfold B0v at h
 refine cE Z Z<|sg 0 Z<|A0 (F6 (cs:=B6 a0) Z Z Z) Z<|A0 A7p Z<|qm Z<|es (ra3 Z Z Z)<|C8u<|s0<|oB h fun x1 hx1 h=>A0 (E8 Z Z Z) Z ?_
 by_cases hc2:(x1.1==0)=true
 ·rw[if_pos hc2]at h
  obtain⟨X3,hX3⟩:=A1o hx1 hc2
  refine N9 (A28 hX3 Z Z (A3 (E1 Z) C2) Z) Z<|qm Z<|A0 (B4 Z Z) Z<|A0 (B4 Z Z) Z<|qm Z<|qm Z<|es (ra5 Z Z Z Z Z)<|C4<|C8<|s0<|qm Z<|A0 (T6 (v:=(.b false)) Z Z Z) Z<|qm Z<|es (ra6 Z Z Z Z Z Z)<|Q6 Z Z<|s0<|oB h fun x4 hx4 h=>A0 (C1 Z) Z<|A0 (B5 Z Z Z) Z<|A0 (I0 (f:=A6) Z) Z<|A0 (A0s Z Z) Z<|qm Z<|A0 (I8 (rows:=Zd cI [a1]) Z Z (D9 (fun _=>rfl) _)) Z<|C3 (rs:=[.b x4]) Z Z (A3 Z (A3 Z (A3 Z C2))) ((E6 hx4).frz)<|qm Z<|es (ra5 Z Z Z Z Z)<|wi h Z (fun hc5 h=>?_) fun hc5 h=>?_
  ·refine sg 5 Z<|A0 A7p Z<|qm Z<|es (ra2 Z Z)<|C7 ?_
   obtain rfl:=os h
   exact retq trivial (A7 Z (A7 Z C0)) (A4 (A68 Z (Zi _)) (A4 Z B9)) (A2 A0u (A2 A5 A8))
  ·refine C6<|C4<|C6<|C4<|s0<|A0 (C1 Z) Z<|A0 (B5 Z Z Z) Z<|A0 (I0 (f:=B2) Z) Z<|qm Z<|es (ra5 Z Z Z Z Z)<|C8<|oB h fun o16 ho16 h=>wl (fun s6=>[(1,.i a1),(4,(.asl (H.length+1) (Zh s6.2))),(6,(.ptr (H.length+4) 0)),(28,(.i (Zh a0.Gowns:Int))),(29,.i s6.1)]) (fun (q7:Unit) s6=>[(.cells (B6 a0)),(.arr 1 false (Zd cI s6.2)),(.cells (B6 a0)),X3,(.cells [(.seq 8 (Zd B2 a0.Gowns)),(.seq 4 (Zd A6 a0.Figures)),.i a0.Purse,(.seq 2 (Zd B1 a0.Incomes)),(.fn (.func 41) [] []),(.fn (.func 42) [] []),(.fn (.func 43) [] []),(.fn (.func 25) [] []),(.fn (.func 44) [] []),(.fn (.func 45) [] []),(.fn (.func 26) [] []),(.fn (.func 46) [] []),(.fn (.func 47) [] []),(.seq 1 (Zd cI x1.2))])]) 5 (fun r e s' H'=>PX 1 [(4,(.asl (H.length+1) (Zh r)))] (H++[(.cells (B6 a0)),(.arr 1 false (Zd cI r)),(.cells (B6 a0)),X3,(.cells [(.seq 8 (Zd B2 a0.Gowns)),(.seq 4 (Zd A6 a0.Figures)),.i a0.Purse,(.seq 2 (Zd B1 a0.Incomes)),(.fn (.func 41) [] []),(.fn (.func 42) [] []),(.fn (.func 43) [] []),(.fn (.func 25) [] []),(.fn (.func 44) [] []),(.fn (.func 45) [] []),(.fn (.func 26) [] []),(.fn (.func 46) [] []),(.fn (.func 47) [] []),(.seq 1 (Zd cI x1.2))])]) e s' H') () ho16 Z Z (fun _ _=>rfl) (fun _=>rfl) Z (fun s6=>(bdc A5 (bdc (A3l Z) (bdc (N6 Z) (bdc A5 (bdc A5 bdn)))))) (fun q7 s6 ys6 hs6=>?_) ?_
   ·unfold A96 at hs6
    refine s0<|A0 (L5 Z Z) Z<|es (ra6 Z Z Z Z Z Z)<|C4<|wi hs6 Z (fun hc8 hs6=>?_) fun hc8 hs6=>?_
    ·refine C6<|C4<|C8<|s0<|qm Z<|qm Z<|es (ra6 Z Z Z Z Z Z)<|s0<|qm Z<|es (ra7 Z Z Z Z Z Z Z)<|C8<|oB hs6 fun o15 ho15 hs6=>wl (fun s9=>[(1,.i a1),(4,(.asl (H.length+1) (Zh s6.2))),(6,(.ptr (H.length+4) 0)),(7,.i s6.1),(28,(.i (Zh a0.Gowns:Int))),(29,.i s6.1),(32,.i s9)]) (fun (q10:Unit) s9=>[(.cells (B6 a0)),(.arr 1 false (Zd cI s6.2)),(.cells (B6 a0)),X3,(.cells [(.seq 8 (Zd B2 a0.Gowns)),(.seq 4 (Zd A6 a0.Figures)),.i a0.Purse,(.seq 2 (Zd B1 a0.Incomes)),(.fn (.func 41) [] []),(.fn (.func 42) [] []),(.fn (.func 43) [] []),(.fn (.func 25) [] []),(.fn (.func 44) [] []),(.fn (.func 45) [] []),(.fn (.func 26) [] []),(.fn (.func 46) [] []),(.fn (.func 47) [] []),(.seq 1 (Zd cI x1.2))])]) 5 (fun r e s' H'=>(match r with|(.inl v)=>PX 2 [(1,.i a1),(4,(.asl (H.length+1) (Zh v))),(6,(.ptr (H.length+4) 0)),(28,(.i (Zh a0.Gowns:Int))),(29,.i s6.1)] (H++[(.cells (B6 a0)),(.arr 1 false (Zd cI v)),(.cells (B6 a0)),X3,(.cells [(.seq 8 (Zd B2 a0.Gowns)),(.seq 4 (Zd A6 a0.Figures)),.i a0.Purse,(.seq 2 (Zd B1 a0.Incomes)),(.fn (.func 41) [] []),(.fn (.func 42) [] []),(.fn (.func 43) [] []),(.fn (.func 25) [] []),(.fn (.func 44) [] []),(.fn (.func 45) [] []),(.fn (.func 26) [] []),(.fn (.func 46) [] []),(.fn (.func 47) [] []),(.seq 1 (Zd cI x1.2))])]) e s' H' | (.inr v)=>PX 3 [(1,.i a1),(4,(.asl (H.length+1) (Zh s6.2))),(6,(.ptr (H.length+4) 0)),(28,(.i (Zh a0.Gowns:Int))),(29,.i s6.1)] (H++[(.cells (B6 a0)),(.arr 1 false (Zd cI s6.2)),(.cells (B6 a0)),X3,(.cells [(.seq 8 (Zd B2 a0.Gowns)),(.seq 4 (Zd A6 a0.Figures)),.i a0.Purse,(.seq 2 (Zd B1 a0.Incomes)),(.fn (.func 41) [] []),(.fn (.func 42) [] []),(.fn (.func 43) [] []),(.fn (.func 25) [] []),(.fn (.func 44) [] []),(.fn (.func 45) [] []),(.fn (.func 26) [] []),(.fn (.func 46) [] []),(.fn (.func 47) [] []),(.seq 1 (Zd cI x1.2))])]) e s' H':Prop)) () ho15 Z Z (fun _ _=>rfl) (fun _=>rfl) Z (fun s9=>(bdc A5 (bdc (A3l Z) (bdc (N6 Z) (bdc A5 (bdc A5 (bdc A5 (bdc A5 bdn)))))))) (fun q10 s9 ys9 hs9=>?_) ?_
     ·unfold A95 at hs9
      refine s0<|A0 (L5 Z Z) Z<|es (ra8 Z Z Z Z Z Z Z Z)<|C4<|wi hs9 Z (fun hc11 hs9=>?_) fun hc11 hs9=>?_
      ·refine C6<|C4<|C8<|s0<|qm Z<|qm Z<|es (ra8 Z Z Z Z Z Z Z Z)<|s0<|oB hs9 fun x12 hx12 hs9=>qm Z<|qm Z<|qm Z<|qm Z<|A0 (R5 (cs:=B3 (PaUse.mk s6.1 s9 0)) Z Z) Z<|C3 (rs:=[.i x12]) Z Z (A3 Z (A3 Z (A3 (E1 Z) C2))) ((A2r (D7 Z) hx12).frz)<|A0 (K0 Z Z) Z<|es (ra8 Z Z Z Z Z Z Z Z)<|wi hs9 Z (fun hc13 hs9=>?_) fun hc13 hs9=>?_
       ·refine s0<|oB hs9 fun x14 hx14 hs9=>qm Z<|qm Z<|A0 (I8 (rows:=Zd cI [s6.1]) Z Z (D9 (fun _=>rfl) _)) Z<|N9 (A16 (f:=cI) Z Z Z Z A1k (fun _=>rfl) hx14) Z<|qm Z<|es (ra5 Z Z Z Z Z)<|J1 ?_
        obtain rfl:=os hs9
        exact lx Z px (su5 Z Z Z Z Z)
       ·refine C6<|r0<|A0 (G1 Z Z) Z<|qm Z<|en (ra7 Z Z Z Z Z Z Z) ?_
        cases hs9
        exact lnT () Z (su7 Z Z Z Z Z Z Z)
      ·refine J1 ?_
       obtain rfl:=os hs9
       exact lx Z px (su5 Z Z Z Z Z)
     ·rcases o15 with vo15_0|vo15_1
      ·rintro e s' H'-⟨rfl,rfl,rfl⟩
       refine r0<|A0 (G1 Z Z) Z<|qm Z<|en (ra5 Z Z Z Z Z) ?_
       cases hs6
       exact lnT () Z (su5 Z Z Z Z Z)
      ·rintro e s' H'-⟨rfl,rfl,rfl⟩
       refine r0<|A0 (G1 Z Z) Z<|qm Z<|en (ra5 Z Z Z Z Z) ?_
       cases hs6
       exact lnT () Z (su5 Z Z Z Z Z)
    ·refine J1 ?_
     obtain rfl:=os hs6
     exact lx Z px (su1 Z)
   ·rintro e s' H'-⟨rfl,rfl,rfl⟩
    refine s0<|qm Z<|qm Z<|qm Z<|es (ra2 Z Z)<|C7 ?_
    obtain rfl:=os h
    exact retq trivial (A7 Z (A7 Z C0)) (A4 (A68 Z (Zi _)) (A4 Z B9)) (A2 A0u (A2 A5 A8))
 ·rw[if_neg hc2]at h
  refine N9 (Q3 (rs:=[.lit (.pointer none),.i x1.1]) Z Z (A3 (E1 Z) C2) (A2k hx1 (by simpa using hc2)) Z) Z<|qm Z<|A0 (B4 Z Z) Z<|A0 (B4 Z Z) Z<|qm Z<|qm Z<|es (ra5 Z Z Z Z Z)<|C4<|C8<|s0<|qm Z<|A0 (Q9 Z Z) Z<|qm Z<|es (ra6 Z Z Z Z Z Z)<|O1 Z (nef hc2)<|sg 2 Z<|qm Z<|A0 A7p Z<|qm Z<|es (ra2 Z Z)<|C7 ?_
  obtain rfl:=os h
  exact retq trivial (A7 Z (A7 Z C0)) (A4 (A68 Z (Zi _)) (A4 Z B9)) (A2 A0u (A2 A5 A8))
def A98 (a0:(List Int)) (a1:(List Int)) (s1:(Bool×Int)):Option ((Bool×Int)⊕Bool) :=
 if (s1.1&&(decide (s1.2<(Zh a0:Int))))=true then
  (idx a0 s1.2).bind fun x5 =>
  (idx a1 s1.2).bind fun x6 =>
  some (.inl ((x5==x6),(w64 (s1.2+1))))
 else
  some (.inr s1.1)
def A2y (a0:(List Int)) (a1:(List Int)):Option Bool :=
 (loop (A98 a0 a1) (((Zh a0:Int)==(Zh a1:Int)),0)).bind fun (o7:Bool) =>
 some o7
theorem A27 {c:Sc} {H:A1} {a0:(List Int)} {a1:(List Int)} {r:Bool} (h:A2y a0 a1=some r) :
  E7 tab c H (.fn (.func 14) [] []) [(.seq 1 (Zd cI a0)),(.seq 1 (Zd cI a1))] [.b r]:= by
 unfold A2y at h
 refine cE Z Z<|s0<|qm Z<|es (ra2 Z Z)<|s0<|qm Z<|A0 (I0 (f:=cI) Z) Z<|qm Z<|A0 (I0 (f:=cI) Z) Z<|A0 (K0 Z Z) Z<|qm Z<|es (ra3 Z Z Z)<|C4<|s0<|qm Z<|es (ra4 Z Z Z Z)<|C8<|oB h fun o7 ho7 h=>wl (fun s1=>[(0,(.seq 1 (Zd cI a0))),(1,(.seq 1 (Zd cI a1))),(5,.b s1.1),(6,.i s1.2)]) (fun (q2:Unit) s1=>[]) 0 (fun r e s' H'=>PX 0 [(5,.b r)] (H++[]) e s' H') () ho7 Z Z (fun _ _=>rfl) (fun _=>rfl) Z (fun s1=>(bdc N7 (bdc N7 (bdc A5 (bdc A5 bdn))))) (fun q2 s1 ys1 hs1=>?_) ?_
 ·unfold A98 at hs1
  refine C4<|s0<|qm Z<|qm Z<|gp 5 18 (.b (s1.1&&(decide (s1.2<(Zh a0:Int))))) 13 Z Z (fun hg3=>?_) (fun hg3=>?_) ?_
  ·exact gT Z hg3<|qm Z<|gT Z hg3<|qm Z<|gT Z hg3<|A0 (I0 (f:=cI) Z) Z<|gT Z hg3<|A0 (L5 Z Z) Z<|A0 (D1 Z hg3 Z) Z<|ge 5 (by rw[hg3];rfl) Z Z
  ·exact nT Z hg3 Z<|nT Z hg3 Z<|nT Z hg3 Z<|nT Z hg3 Z<|A0 (D0 Z hg3 Z) Z<|ge 5 (by rw[hg3];rfl) Z Z
  refine es (ra5 Z Z Z Z Z)<|wi hs1 Z (fun hc4 hs1=>?_) fun hc4 hs1=>?_
  ·refine C6<|C4<|C8<|r0<|oB hs1 fun x5 hx5 hs1=>oB hs1 fun x6 hx6 hs1=>qm Z<|qm Z<|A0 (H7 (f:=cI) Z Z hx5) Z<|A0 (V8 Z Z) Z<|qm Z<|qm Z<|A0 (H7 (f:=cI) Z Z hx6) Z<|A0 (V8 Z Z) Z<|A0 (K0 Z Z) Z<|qm Z<|en (ra4 Z Z Z Z)<|r0<|qm Z<|A0 (G1 Z Z) Z<|qm Z<|en (ra4 Z Z Z Z) ?_
   cases hs1
   exact lnT () Z (su4 Z Z Z Z)
  ·refine J1 ?_
   obtain rfl:=os hs1
   exact lx Z px (su1 Z)
 ·rintro e s' H'-⟨rfl,rfl,rfl⟩
  refine s0<|qm Z<|qm Z<|es (ra1 Z)<|C7 ?_
  obtain rfl:=os h
  exact retq trivial (A7 Z C0) (A4 Z B9) (A2 A5 A8)
def A99 (a0:(List PaUse)) (a1:(List PaUse)) (s2:Int):Option (Int⊕(Bool⊕Unit)) :=
 if (decide (s2<(Zh a0:Int)))=true then
  (idx a0 s2).bind fun x5 =>
  (idx a1 s2).bind fun x6 =>
  if (!((x5.Gown==x6.Gown)&&((x5.How==x6.How)&&((x5.Day==x6.Day)&&true))))=true then
  some (.inr (.inl false))
  else
  some (.inl (w64 (s2+1)))
 else
  some (.inr (.inr ()))
def B0w (a0:(List PaUse)) (a1:(List PaUse)):Option Bool :=
 if ((Zh a0:Int) != (Zh a1:Int))=true then
  some false
 else
  (loop (A99 a0 a1) 0).bind fun (o8:(Bool⊕Unit)) =>
  match o8 with
  | (.inl vo8_0) =>
  some vo8_0
  | (.inr vo8_1) =>
  some true
theorem B9a {c:Sc} {H:A1} {a0:(List PaUse)} {a1:(List PaUse)} {r:Bool} (h:B0w a0 a1=some r) :
  E7 tab c H (.fn (.func 15) [] []) [(.seq 3 (Zd B3 a0)),(.seq 3 (Zd B3 a1))] [.b r]:= by
 unfold B0w at h
 refine cE Z Z<|s0<|qm Z<|es (ra2 Z Z)<|C4<|s0<|qm Z<|A0 (I0 (f:=B3) Z) Z<|qm Z<|A0 (I0 (f:=B3) Z) Z<|A0 (Q9 Z Z) Z<|es (ra3 Z Z Z)<|wi h Z (fun hc1 h=>?_) fun hc1 h=>?_
 ·refine s0<|qm Z<|es (ra1 Z)<|C7 ?_
  obtain rfl:=os h
  exact retq trivial (A7 Z C0) (A4 Z B9) (A2 A5 A8)
 ·refine C6<|C4<|s0<|qm Z<|es (ra3 Z Z Z)<|C8<|oB h fun o8 ho8 h=>wl (fun s2=>[(0,(.seq 3 (Zd B3 a0))),(1,(.seq 3 (Zd B3 a1))),(5,.i s2)]) (fun (q3:Unit) s2=>[]) 0 (fun r e s' H'=>(match r with|(.inl v)=>e=.ret∧RetQ H [.tmp 4] [.b v] e s' H' | (.inr v)=>PX 0 [] (H++[]) e s' H':Prop)) () ho8 Z Z (fun _ _=>rfl) (fun _=>rfl) Z (fun s2=>(bdc N7 (bdc N7 (bdc A5 bdn)))) (fun q3 s2 ys2 hs2=>?_) ?_
  ·unfold A99 at hs2
   refine C4<|s0<|qm Z<|qm Z<|A0 (I0 (f:=B3) Z) Z<|A0 (L5 Z Z) Z<|es (ra4 Z Z Z Z)<|wi hs2 Z (fun hc4 hs2=>?_) fun hc4 hs2=>?_
   ·refine C6<|C4<|C8<|s0<|oB hs2 fun x5 hx5 hs2=>oB hs2 fun x6 hx6 hs2=>qm Z<|qm Z<|A0 (H7 (f:=B3) Z Z hx5) Z<|A0 (I1 Z Z) Z<|qm Z<|qm Z<|A0 (H7 (f:=B3) Z Z hx6) Z<|A0 (I1 Z Z) Z<|A0 (D2k (a:=B3 x5) (b:=B3 x6) Z Z Z Z (V7 (V7 (V7 B1c)))) Z<|es (ra4 Z Z Z Z)<|wi hs2 Z (fun hc7 hs2=>?_) fun hc7 hs2=>?_
    ·refine s0<|qm Z<|es (ra1 Z)<|C7 ?_
     obtain rfl:=os hs2
     exact lx Z (ZO Z (retq trivial (A7 Z C0) (A4 Z B9) (A2 A5 A8))) (Sub.refl _)
    ·refine C6<|r0<|qm Z<|A0 (G1 Z Z) Z<|qm Z<|en (ra3 Z Z Z) ?_
     cases hs2
     exact lnT () Z (su3 Z Z Z)
   ·refine J1 ?_
    obtain rfl:=os hs2
    exact lx Z px (.nil _)
  ·rcases o8 with vo8_0|vo8_1
   ·rintro e s' H'-⟨rfl,hret⟩
    cases h
    exact hret
   ·rintro e s' H'-⟨rfl,rfl,rfl⟩
    refine s0<|qm Z<|es (ra1 Z)<|C7 ?_
    obtain rfl:=os h
    exact retq trivial (A7 Z C0) (A4 Z B9) (A2 A5 A8)
def A3d :Option Bool :=
 (A66 false).bind fun x1 =>
 (A66 true).bind fun x2 =>
 (A3g x1 0 10).bind fun x3 =>
 (A1t x1 2 2).bind fun x4 =>
 (A1t x1 2 1).bind fun x5 =>
 (B0v x1 1).bind fun x6 =>
 (A2o).bind fun x7 =>
 (B0u x1 x7 45).bind fun x8 =>
 (A2o).bind fun x9 =>
 (A69 x1 x9).bind fun x10 =>
 (A2o).bind fun x11 =>
 (A69 x2 x11).bind fun x12 =>
 (Y2 x1).bind fun x13 =>
 (Y2 x2).bind fun x14 =>
 (A6f x2).bind fun x15 =>
 (A6g x2).bind fun x16 =>
 (A2o).bind fun x17 =>
 (B3v x1 x17).bind fun x18 =>
 (if ((((((((((((((x3.2==0)&&(x4.2==0))&&(x6.2==0))&&(x8.2==0))&&(x12.2==0))&&(x13.2.2.2==0))&&(x14.2.2.2==0))&&(x15.2.2==0))&&(x16.2==0))&&(x18.2==0))&&(x5.2==9))&&(x10.2==4))&&(x3.1==110))&&(x4.1==48))=true then
  (A2y x6.1 [0,1,2]).bind fun x33 =>
  some x33
 else
  some false).bind fun x34 =>
 (if ((x34&&(x8.1==102))&&(x12.1==0))=true then
  (A1r 0 2 0).bind fun x38 =>
  (A1r 1 0 0).bind fun x39 =>
  (A1r 2 2 0).bind fun x40 =>
  (B0w x13.1 [x38,x39,x40]).bind fun x41 =>
  some x41
 else
  some false).bind fun x42 =>
 (if (((x42&&(x13.2.1==0))&&(x13.2.2.1==78))&&(x14.2.1==2))=true then
  (A2y x15.1 [0,2]).bind fun x47 =>
  some x47
 else
  some false).bind fun x48 =>
 (if x48=true then
  (A2y x15.2.1 [0,2]).bind fun x50 =>
  some x50
 else
  some false).bind fun x51 =>
 (if (x51&&(x16.1==58))=true then
  (A2y x18.1 [2]).bind fun x54 =>
  some x54
 else
  some false).bind fun x55 =>
 some x55
theorem A8k {c:Sc} {H:A1} (hscv:S5 c H=true)  {r:Bool} (h:A3d  = some r) :
  E7 tab c H (.fn (.func 17) [] []) [] [.b r]:= by
 unfold A3d at h
 refine cE Z Z<|s0<|qm Z<|es .n<|sg 0 Z<|oB h fun x1 hx1 h=>oB h fun x2 hx2 h=>C3 (rs:=[(.agg (B6 x1))]) Z Z (A3 Z C2) ((A90 hx1).frz)<|C3 (rs:=[(.agg (B6 x2))]) Z Z (A3 Z C2) ((A90 hx2).frz)<|A0 H8 Z<|A0 H8 Z<|K6 (D4 (ds:=(B6 x1)) Z Z Z Z (E0 Z) Z) Z<|K6 (D4 (ds:=(B6 x2)) Z Z Z Z (E0 Z) Z) Z<|es (ra2 Z Z)<|s0<|oB h fun x3 hx3 h=>A0 (E8 Z Z Z) Z<|C3 (rs:=[.i x3.1,.i x3.2]) Z Z (A3 (E1 Z) (A3 Z (A3 Z C2))) ((B7q hx3).frz)<|qm Z<|A0 (B4 Z Z) Z<|A0 (B4 Z Z) Z<|qm Z<|qm Z<|es (ra4 Z Z Z Z)<|s0<|oB h fun x4 hx4 h=>A0 (E8 Z Z Z) Z<|C3 (rs:=[.i x4.1,.i x4.2]) Z Z (A3 (E1 Z) (A3 Z (A3 Z C2))) ((A8l hx4).frz)<|qm Z<|A0 (B4 Z Z) Z<|A0 (B4 Z Z) Z<|qm Z<|qm Z<|es (ra6 Z Z Z Z Z Z)<|s0<|oB h fun x5 hx5 h=>A0 (E8 Z Z Z) Z<|C3 (rs:=[.i x5.1,.i x5.2]) Z Z (A3 (E1 Z) (A3 Z (A3 Z C2))) ((A8l hx5).frz)<|qm Z<|A0 (B4 Z Z) Z<|A0 (B4 Z Z) Z<|qm Z<|qm Z<|es (ra7 Z Z Z Z Z Z Z)<|s0<|oB h fun x6 hx6 h=>A0 (E8 Z Z Z) Z<|C3 (rs:=[(.seq 1 (Zd cI x6.1)),.i x6.2]) Z Z (A3 (E1 Z) (A3 Z C2)) ((B87 hx6).frz)<|qm Z<|A0 (B4 Z Z) Z<|A0 (B4 Z Z) Z<|qm Z<|qm Z<|es (ra9 Z Z Z Z Z Z Z Z Z)<|s0<|oB h fun x7 hx7 h=>oB h fun x8 hx8 h=>A0 (E8 Z Z Z) Z<|Z8 (rs:=[(.seq 3 (Zd B3 x7))]) Z Z A4v C2 ((A26 hx7).frz)<|C3 (rs:=[.i x8.1,.i x8.2]) Z Z (A3 (E1 Z) (A3 Z (A3 Z C2))) ((B86 hx8).frz)<|qm Z ?_
 refine A0 (B4 Z Z) Z<|A0 (B4 Z Z) Z<|qm Z<|qm Z<|es (ra11 Z Z Z Z Z Z Z Z Z Z Z)<|s0<|oB h fun x9 hx9 h=>oB h fun x10 hx10 h=>A0 (E8 Z Z Z) Z<|Z8 (rs:=[(.seq 3 (Zd B3 x9))]) Z Z A4v C2 ((A26 hx9).frz)<|C3 (rs:=[.i x10.1,.i x10.2]) Z Z (A3 (E1 Z) (A3 Z C2)) ((A93 hx10).frz)<|qm Z<|A0 (B4 Z Z) Z<|A0 (B4 Z Z) Z<|qm Z<|qm Z<|es (ra12 Z Z Z Z Z Z Z Z Z Z Z Z)<|s0<|oB h fun x11 hx11 h=>oB h fun x12 hx12 h=>A0 (E8 Z Z Z) Z<|Z8 (rs:=[(.seq 3 (Zd B3 x11))]) Z Z A4v C2 ((A26 hx11).frz)<|C3 (rs:=[.i x12.1,.i x12.2]) Z Z (A3 (E1 Z) (A3 Z C2)) ((A93 hx12).frz)<|qm Z<|A0 (B4 Z Z) Z<|A0 (B4 Z Z) Z<|qm Z<|qm Z<|es (ra14 Z Z Z Z Z Z Z Z Z Z Z Z Z Z)<|s0<|oB h fun x13 hx13 h=>A0 (E8 Z Z Z) Z<|C3 (rs:=[(.seq 3 (Zd B3 x13.1)),.i x13.2.1,.i x13.2.2.1,.i x13.2.2.2]) Z Z (A3 (E1 Z) C2) ((A19 (B2g hscv) hx13).frz)<|qm Z<|A0 (B4 Z Z) Z<|A0 (B4 Z Z) Z<|A0 (B4 Z Z) Z<|A0 (B4 Z Z) Z<|qm Z<|qm Z<|qm Z<|qm Z<|es (.k Z (.k Z (.k Z (.k Z (.k Z (.k Z (.k Z (.k Z (.k Z (.k Z (.k Z (.k Z (.k Z (.k Z (.k Z (.k Z (.k Z (.k Z .n))))))))))))))))))<|s0<|oB h fun x14 hx14 h=>A0 (E8 Z Z Z) Z<|C3 (rs:=[(.seq 3 (Zd B3 x14.1)),.i x14.2.1,.i x14.2.2.1,.i x14.2.2.2]) Z Z (A3 (E1 Z) C2) ((A19 (B2g hscv) hx14).frz)<|qm Z<|A0 (B4 Z Z) Z<|A0 (B4 Z Z) Z<|A0 (B4 Z Z) Z<|A0 (B4 Z Z) Z<|qm Z<|qm Z<|qm Z<|qm Z<|es (.k Z (.k Z (.k Z (.k Z (.k Z (.k Z (.k Z (.k Z (.k Z (.k Z (.k Z (.k Z (.k Z (.k Z (.k Z (.k Z (.k Z (.k Z (.k Z (.k Z .n))))))))))))))))))))<|s0<|oB h fun x15 hx15 h=>A0 (E8 Z Z Z) Z<|C3 (rs:=[(.seq 1 (Zd cI x15.1)),(.seq 1 (Zd cI x15.2.1)),.i x15.2.2]) Z Z (A3 (E1 Z) C2) ((C2c (B2g hscv) hx15).frz) ?_
 refine qm Z<|A0 (B4 Z Z) Z<|A0 (B4 Z Z) Z<|A0 (B4 Z Z) Z<|qm Z<|qm Z<|qm Z<|es (.k Z (.k Z (.k Z (.k Z (.k Z (.k Z (.k Z (.k Z (.k Z (.k Z (.k Z (.k Z (.k Z (.k Z (.k Z (.k Z (.k Z (.k Z (.k Z (.k Z (.k Z (.k Z (.k Z .n)))))))))))))))))))))))<|s0<|oB h fun x16 hx16 h=>A0 (E8 Z Z Z) Z<|C3 (rs:=[.i x16.1,.i x16.2]) Z Z (A3 (E1 Z) C2) ((C2e (B2g hscv) hx16).frz)<|qm Z<|A0 (B4 Z Z) Z<|A0 (B4 Z Z) Z<|qm Z<|qm Z<|es (.k Z (.k Z (.k Z (.k Z (.k Z (.k Z (.k Z (.k Z (.k Z (.k Z (.k Z (.k Z (.k Z (.k Z (.k Z (.k Z (.k Z (.k Z (.k Z (.k Z (.k Z (.k Z (.k Z (.k Z .n))))))))))))))))))))))))<|s0<|oB h fun x17 hx17 h=>oB h fun x18 hx18 h=>A0 (E8 Z Z Z) Z<|Z8 (rs:=[(.seq 3 (Zd B3 x17))]) Z Z A4v C2 ((A26 hx17).frz)<|C3 (rs:=[(.seq 1 (Zd cI x18.1)),.i x18.2]) Z Z (A3 (E1 Z) (A3 Z C2)) ((C2d hx18).frz)<|qm Z<|A0 (B4 Z Z) Z<|A0 (B4 Z Z) Z<|qm Z<|qm Z<|es (.k Z (.k Z (.k Z (.k Z (.k Z (.k Z (.k Z (.k Z (.k Z (.k Z (.k Z (.k Z (.k Z (.k Z (.k Z (.k Z (.k Z (.k Z (.k Z (.k Z (.k Z (.k Z (.k Z (.k Z (.k Z .n)))))))))))))))))))))))))<|s0<|oB h fun x34 hx34 h=>oB h fun x42 hx42 h=>oB h fun x48 hx48 h=>oB h fun x51 hx51 h=>oB h fun x55 hx55 h=>qm Z<|A0 (K0 Z Z) Z<|qm Z<|gp 3 108 (.b ((x3.2==0)&&(x4.2==0))) 105 Z Z (fun hg19=>?_) (fun hg19=>?_) ?_
 ·exact gT Z hg19<|qm Z<|gT Z hg19<|A0 (K0 Z Z) Z<|A0 (D1 Z hg19 Z) Z<|ge 3 (by rw[hg19];rfl) Z Z
 ·exact nT Z hg19 Z<|nT Z hg19 Z<|A0 (D0 Z hg19 Z) Z<|ge 3 (by rw[hg19];rfl) Z Z
 refine qm Z<|gp 3 112 (.b (((x3.2==0)&&(x4.2==0))&&(x6.2==0))) 109 Z Z (fun hg20=>?_) (fun hg20=>?_) ?_
 ·exact gT Z hg20<|qm Z<|gT Z hg20<|A0 (K0 Z Z) Z<|A0 (D1 Z hg20 Z) Z<|ge 3 (by rw[hg20];rfl) Z Z
 ·exact nT Z hg20 Z<|nT Z hg20 Z<|A0 (D0 Z hg20 Z) Z<|ge 3 (by rw[hg20];rfl) Z Z
 refine qm Z<|gp 3 116 (.b ((((x3.2==0)&&(x4.2==0))&&(x6.2==0))&&(x8.2==0))) 113 Z Z (fun hg21=>?_) (fun hg21=>?_) ?_
 ·exact gT Z hg21<|qm Z<|gT Z hg21<|A0 (K0 Z Z) Z<|A0 (D1 Z hg21 Z) Z<|ge 3 (by rw[hg21];rfl) Z Z
 ·exact nT Z hg21 Z<|nT Z hg21 Z<|A0 (D0 Z hg21 Z) Z<|ge 3 (by rw[hg21];rfl) Z Z
 refine qm Z<|gp 3 120 (.b (((((x3.2==0)&&(x4.2==0))&&(x6.2==0))&&(x8.2==0))&&(x12.2==0))) 117 Z Z (fun hg22=>?_) (fun hg22=>?_) ?_
 ·exact gT Z hg22<|qm Z<|gT Z hg22<|A0 (K0 Z Z) Z<|A0 (D1 Z hg22 Z) Z<|ge 3 (by rw[hg22];rfl) Z Z
 ·exact nT Z hg22 Z<|nT Z hg22 Z<|A0 (D0 Z hg22 Z) Z<|ge 3 (by rw[hg22];rfl) Z Z
 refine qm Z<|gp 3 124 (.b ((((((x3.2==0)&&(x4.2==0))&&(x6.2==0))&&(x8.2==0))&&(x12.2==0))&&(x13.2.2.2==0))) 121 Z Z (fun hg23=>?_) (fun hg23=>?_) ?_
 ·exact gT Z hg23<|qm Z<|gT Z hg23<|A0 (K0 Z Z) Z<|A0 (D1 Z hg23 Z) Z<|ge 3 (by rw[hg23];rfl) Z Z
 ·exact nT Z hg23 Z<|nT Z hg23 Z<|A0 (D0 Z hg23 Z) Z<|ge 3 (by rw[hg23];rfl) Z Z
 refine qm Z<|gp 3 128 (.b (((((((x3.2==0)&&(x4.2==0))&&(x6.2==0))&&(x8.2==0))&&(x12.2==0))&&(x13.2.2.2==0))&&(x14.2.2.2==0))) 125 Z Z (fun hg24=>?_) (fun hg24=>?_) ?_
 ·exact gT Z hg24<|qm Z<|gT Z hg24<|A0 (K0 Z Z) Z<|A0 (D1 Z hg24 Z) Z<|ge 3 (by rw[hg24];rfl) Z Z
 ·exact nT Z hg24 Z<|nT Z hg24 Z<|A0 (D0 Z hg24 Z) Z<|ge 3 (by rw[hg24];rfl) Z Z
 refine qm Z<|gp 3 132 (.b ((((((((x3.2==0)&&(x4.2==0))&&(x6.2==0))&&(x8.2==0))&&(x12.2==0))&&(x13.2.2.2==0))&&(x14.2.2.2==0))&&(x15.2.2==0))) 129 Z Z (fun hg25=>?_) (fun hg25=>?_) ?_
 ·exact gT Z hg25<|qm Z<|gT Z hg25<|A0 (K0 Z Z) Z<|A0 (D1 Z hg25 Z) Z<|ge 3 (by rw[hg25];rfl) Z Z
 ·exact nT Z hg25 Z<|nT Z hg25 Z<|A0 (D0 Z hg25 Z) Z<|ge 3 (by rw[hg25];rfl) Z Z
 refine qm Z<|gp 3 136 (.b (((((((((x3.2==0)&&(x4.2==0))&&(x6.2==0))&&(x8.2==0))&&(x12.2==0))&&(x13.2.2.2==0))&&(x14.2.2.2==0))&&(x15.2.2==0))&&(x16.2==0))) 133 Z Z (fun hg26=>?_) (fun hg26=>?_) ?_
 ·exact gT Z hg26<|qm Z<|gT Z hg26<|A0 (K0 Z Z) Z<|A0 (D1 Z hg26 Z) Z<|ge 3 (by rw[hg26];rfl) Z Z
 ·exact nT Z hg26 Z<|nT Z hg26 Z<|A0 (D0 Z hg26 Z) Z<|ge 3 (by rw[hg26];rfl) Z Z
 refine qm Z<|gp 3 140 (.b ((((((((((x3.2==0)&&(x4.2==0))&&(x6.2==0))&&(x8.2==0))&&(x12.2==0))&&(x13.2.2.2==0))&&(x14.2.2.2==0))&&(x15.2.2==0))&&(x16.2==0))&&(x18.2==0))) 137 Z Z (fun hg27=>?_) (fun hg27=>?_) ?_
 ·exact gT Z hg27<|qm Z<|gT Z hg27<|A0 (K0 Z Z) Z<|A0 (D1 Z hg27 Z) Z<|ge 3 (by rw[hg27];rfl) Z Z
 ·exact nT Z hg27 Z<|nT Z hg27 Z<|A0 (D0 Z hg27 Z) Z<|ge 3 (by rw[hg27];rfl) Z Z
 refine qm Z<|gp 3 144 (.b (((((((((((x3.2==0)&&(x4.2==0))&&(x6.2==0))&&(x8.2==0))&&(x12.2==0))&&(x13.2.2.2==0))&&(x14.2.2.2==0))&&(x15.2.2==0))&&(x16.2==0))&&(x18.2==0))&&(x5.2==9))) 141 Z Z (fun hg28=>?_) (fun hg28=>?_) ?_
 ·exact gT Z hg28<|qm Z<|gT Z hg28<|A0 (K0 Z Z) Z<|A0 (D1 Z hg28 Z) Z<|ge 3 (by rw[hg28];rfl) Z Z
 ·exact nT Z hg28 Z<|nT Z hg28 Z<|A0 (D0 Z hg28 Z) Z<|ge 3 (by rw[hg28];rfl) Z Z
 refine qm Z<|gp 3 148 (.b ((((((((((((x3.2==0)&&(x4.2==0))&&(x6.2==0))&&(x8.2==0))&&(x12.2==0))&&(x13.2.2.2==0))&&(x14.2.2.2==0))&&(x15.2.2==0))&&(x16.2==0))&&(x18.2==0))&&(x5.2==9))&&(x10.2==4))) 145 Z Z (fun hg29=>?_) (fun hg29=>?_) ?_
 ·exact gT Z hg29<|qm Z<|gT Z hg29<|A0 (K0 Z Z) Z<|A0 (D1 Z hg29 Z) Z<|ge 3 (by rw[hg29];rfl) Z Z
 ·exact nT Z hg29 Z<|nT Z hg29 Z<|A0 (D0 Z hg29 Z) Z<|ge 3 (by rw[hg29];rfl) Z Z
 refine qm Z<|gp 3 152 (.b (((((((((((((x3.2==0)&&(x4.2==0))&&(x6.2==0))&&(x8.2==0))&&(x12.2==0))&&(x13.2.2.2==0))&&(x14.2.2.2==0))&&(x15.2.2==0))&&(x16.2==0))&&(x18.2==0))&&(x5.2==9))&&(x10.2==4))&&(x3.1==110))) 149 Z Z (fun hg30=>?_) (fun hg30=>?_) ?_
 ·exact gT Z hg30<|qm Z<|gT Z hg30<|A0 (K0 Z Z) Z<|A0 (D1 Z hg30 Z) Z<|ge 3 (by rw[hg30];rfl) Z Z
 ·exact nT Z hg30 Z<|nT Z hg30 Z<|A0 (D0 Z hg30 Z) Z<|ge 3 (by rw[hg30];rfl) Z Z
 refine qm Z<|gp 3 156 (.b ((((((((((((((x3.2==0)&&(x4.2==0))&&(x6.2==0))&&(x8.2==0))&&(x12.2==0))&&(x13.2.2.2==0))&&(x14.2.2.2==0))&&(x15.2.2==0))&&(x16.2==0))&&(x18.2==0))&&(x5.2==9))&&(x10.2==4))&&(x3.1==110))&&(x4.1==48))) 153 Z Z (fun hg31=>?_) (fun hg31=>?_) ?_
 ·exact gT Z hg31<|qm Z<|gT Z hg31<|A0 (K0 Z Z) Z<|A0 (D1 Z hg31 Z) Z<|ge 3 (by rw[hg31];rfl) Z Z
 ·exact nT Z hg31 Z<|nT Z hg31 Z<|A0 (D0 Z hg31 Z) Z<|ge 3 (by rw[hg31];rfl) Z Z
 refine qm Z<|gp 4 161 (.b x34) 157 Z Z (fun hg32=>?_) (fun hg32=>?_) ?_
 ·refine oB (bt hx34 hg32) fun x33 hx33 hx34=>?_
  obtain rfl:=os hx34
  exact gT Z hg32<|qm Z<|gT Z hg32<|A0 (I8 (rows:=Zd cI [0,1,2]) Z Z (D9 (fun _=>rfl) _)) Z<|gT Z hg32<|C3 (rs:=[.b x33]) Z Z (A3 Z (A3 Z C2)) ((A27 hx33).frz)<|A0 (D1 Z hg32 Z) Z<|ge 4 Z Z Z
 ·obtain rfl:=os (bf hx34 hg32)
  exact nT Z hg32 Z<|nT Z hg32 Z<|L7 (F4 Z (by rw[hg32];rfl)) Z<|A0 (D0 Z hg32 Z) Z<|ge 4 Z Z Z
 refine qm Z<|gp 3 165 (.b (x34&&(x8.1==102))) 162 Z Z (fun hg35=>?_) (fun hg35=>?_) ?_
 ·exact gT Z hg35<|qm Z<|gT Z hg35<|A0 (K0 Z Z) Z<|A0 (D1 Z hg35 Z) Z<|ge 3 (by rw[hg35];rfl) Z Z
 ·exact nT Z hg35 Z<|nT Z hg35 Z<|A0 (D0 Z hg35 Z) Z<|ge 3 (by rw[hg35];rfl) Z Z
 refine qm Z<|gp 3 169 (.b ((x34&&(x8.1==102))&&(x12.1==0))) 166 Z Z (fun hg36=>?_) (fun hg36=>?_) ?_
 ·exact gT Z hg36<|qm Z<|gT Z hg36<|A0 (K0 Z Z) Z<|A0 (D1 Z hg36 Z) Z<|ge 3 (by rw[hg36];rfl) Z Z
 ·exact nT Z hg36 Z<|nT Z hg36 Z<|A0 (D0 Z hg36 Z) Z<|ge 3 (by rw[hg36];rfl) Z Z
 refine qm Z<|gp 7 177 (.b x42) 170 Z Z (fun hg37=>?_) (fun hg37=>?_) ?_
 ·refine oB (bt hx42 hg37) fun x38 hx38 hx42=>oB hx42 fun x39 hx39 hx42=>oB hx42 fun x40 hx40 hx42=>oB hx42 fun x41 hx41 hx42=>?_
  obtain rfl:=os hx42
  exact gT Z hg37<|qm Z<|gT Z hg37<|C3 (rs:=[(.agg (B3 x38))]) Z Z (A3 Z (A3 Z (A3 Z C2))) ((A0i hx38).frz)<|gT Z hg37<|C3 (rs:=[(.agg (B3 x39))]) Z Z (A3 Z (A3 Z (A3 Z C2))) ((A0i hx39).frz)<|gT Z hg37<|C3 (rs:=[(.agg (B3 x40))]) Z Z (A3 Z (A3 Z (A3 Z C2))) ((A0i hx40).frz)<|gT Z hg37<|A0 (I8 (rows:=Zd B3 [x38,x39,x40]) Z Z (D9 (fun _=>rfl) _)) Z<|gT Z hg37<|C3 (rs:=[.b x41]) Z Z (A3 Z (A3 Z C2)) ((B9a hx41).frz)<|A0 (D1 Z hg37 Z) Z<|ge 7 Z Z Z
 ·obtain rfl:=os (bf hx42 hg37)
  exact nT Z hg37 Z<|L7 (F4 Z (by rw[hg37];rfl)) Z<|L7 (F4 Z (by rw[hg37];rfl)) Z<|L7 (F4 Z (by rw[hg37];rfl)) Z<|nT Z hg37 Z<|L7 (F4 Z (by rw[hg37];rfl)) Z<|A0 (D0 Z hg37 Z) Z<|ge 7 Z Z Z
 refine qm Z<|gp 3 181 (.b (x42&&(x13.2.1==0))) 178 Z Z (fun hg43=>?_) (fun hg43=>?_) ?_
 ·exact gT Z hg43<|qm Z<|gT Z hg43<|A0 (K0 Z Z) Z<|A0 (D1 Z hg43 Z) Z<|ge 3 (by rw[hg43];rfl) Z Z
 ·exact nT Z hg43 Z<|nT Z hg43 Z<|A0 (D0 Z hg43 Z) Z<|ge 3 (by rw[hg43];rfl) Z Z
 refine qm Z<|gp 3 185 (.b ((x42&&(x13.2.1==0))&&(x13.2.2.1==78))) 182 Z Z (fun hg44=>?_) (fun hg44=>?_) ?_
 ·exact gT Z hg44<|qm Z<|gT Z hg44<|A0 (K0 Z Z) Z<|A0 (D1 Z hg44 Z) Z<|ge 3 (by rw[hg44];rfl) Z Z
 ·exact nT Z hg44 Z<|nT Z hg44 Z<|A0 (D0 Z hg44 Z) Z<|ge 3 (by rw[hg44];rfl) Z Z
 refine qm Z<|gp 3 189 (.b (((x42&&(x13.2.1==0))&&(x13.2.2.1==78))&&(x14.2.1==2))) 186 Z Z (fun hg45=>?_) (fun hg45=>?_) ?_
 ·exact gT Z hg45<|qm Z<|gT Z hg45<|A0 (K0 Z Z) Z<|A0 (D1 Z hg45 Z) Z<|ge 3 (by rw[hg45];rfl) Z Z
 ·exact nT Z hg45 Z<|nT Z hg45 Z<|A0 (D0 Z hg45 Z) Z<|ge 3 (by rw[hg45];rfl) Z Z
 refine qm Z<|gp 4 194 (.b x48) 190 Z Z (fun hg46=>?_) (fun hg46=>?_) ?_
 ·refine oB (bt hx48 hg46) fun x47 hx47 hx48=>?_
  obtain rfl:=os hx48
  exact gT Z hg46<|qm Z<|gT Z hg46<|A0 (I8 (rows:=Zd cI [0,2]) Z Z (D9 (fun _=>rfl) _)) Z<|gT Z hg46<|C3 (rs:=[.b x47]) Z Z (A3 Z (A3 Z C2)) ((A27 hx47).frz)<|A0 (D1 Z hg46 Z) Z<|ge 4 Z Z Z
 ·obtain rfl:=os (bf hx48 hg46)
  exact nT Z hg46 Z<|nT Z hg46 Z<|L7 (F4 Z (by rw[hg46];rfl)) Z<|A0 (D0 Z hg46 Z) Z<|ge 4 Z Z Z
 refine qm Z<|gp 4 199 (.b x51) 195 Z Z (fun hg49=>?_) (fun hg49=>?_) ?_
 ·refine oB (bt hx51 hg49) fun x50 hx50 hx51=>?_
  obtain rfl:=os hx51
  exact gT Z hg49<|qm Z<|gT Z hg49<|A0 (I8 (rows:=Zd cI [0,2]) Z Z (D9 (fun _=>rfl) _)) Z<|gT Z hg49<|C3 (rs:=[.b x50]) Z Z (A3 Z (A3 Z C2)) ((A27 hx50).frz)<|A0 (D1 Z hg49 Z) Z<|ge 4 Z Z Z
 ·obtain rfl:=os (bf hx51 hg49)
  exact nT Z hg49 Z<|nT Z hg49 Z<|L7 (F4 Z (by rw[hg49];rfl)) Z<|A0 (D0 Z hg49 Z) Z<|ge 4 Z Z Z
 refine qm Z<|gp 3 203 (.b (x51&&(x16.1==58))) 200 Z Z (fun hg52=>?_) (fun hg52=>?_) ?_
 ·exact gT Z hg52<|qm Z<|gT Z hg52<|A0 (K0 Z Z) Z<|A0 (D1 Z hg52 Z) Z<|ge 3 (by rw[hg52];rfl) Z Z
 ·exact nT Z hg52 Z<|nT Z hg52 Z<|A0 (D0 Z hg52 Z) Z<|ge 3 (by rw[hg52];rfl) Z Z
 refine qm Z<|gp 4 208 (.b x55) 204 Z Z (fun hg53=>?_) (fun hg53=>?_) ?_
 ·refine oB (bt hx55 hg53) fun x54 hx54 hx55=>?_
  obtain rfl:=os hx55
  exact gT Z hg53<|qm Z<|gT Z hg53<|A0 (I8 (rows:=Zd cI [2]) Z Z (D9 (fun _=>rfl) _)) Z<|gT Z hg53<|C3 (rs:=[.b x54]) Z Z (A3 Z (A3 Z C2)) ((A27 hx54).frz)<|A0 (D1 Z hg53 Z) Z<|ge 4 Z Z Z
 ·obtain rfl:=os (bf hx55 hg53)
  exact nT Z hg53 Z<|nT Z hg53 Z<|L7 (F4 Z (by rw[hg53];rfl)) Z<|A0 (D0 Z hg53 Z) Z<|ge 4 Z Z Z
 refine qm Z<|es (ra1 Z)<|C7 ?_
 obtain rfl:=os h
 exact retq trivial (A7 Z C0) (A4 Z B9) (A2 A5 A8)
end Pw
end
section
set_option maxRecDepth 100000
namespace Pw
theorem awake:A3d=some true:= by decide +kernel
end Pw
end
section
set_option maxRecDepth 100000
set_option maxHeartbeats 0
namespace Pw
open Go Am Go.Proofs.Ytjpjdglddmhplaa.Cd
def A0h (a1:law04_Richer) (s2:(Int×(List PaGown))):Option ((Int×(List PaGown))⊕(List PaGown)) :=
 if (decide (s2.1<(Zh s2.2:Int)))=true then
  (idx s2.2 s2.1).bind fun x5 =>
  (idx s2.2 s2.1).bind fun x6 =>
  some (.inl ((w64 (s2.1+1)),(P0 s2.2 s2.1 (PaGown.mk x5.Name x5.Looks x5.Pawn x5.Loan (A2e 0 (w64 (x5.Rate-(w64 a1.Rate)))) (A2e 0 (w64 (x5.Fee-(w64 a1.Fee)))) x5.Ago x5.Last))))
 else
  some (.inr s2.2)
def A00 (a0:PaShow) (a1:law04_Richer):Option PaShow :=
 (app 72 ([]:List PaGown) a0.Gowns).bind fun x1 =>
 (loop (A0h a1) (0,x1)).bind fun (o7:(List PaGown)) =>
 some (PaShow.mk o7 a0.Figures a0.Purse a0.Incomes)
theorem B3m {c:Sc} {H:A1} {a0:PaShow} {a1:law04_Richer} {r:PaShow} (h:A00 a0 a1=some r) :
  E7 tab c H (.fn (.func 19) [] []) [(.agg (B6 a0)),(.agg (G5 a1))] [(.agg [(.fresh 8 (Zd B2 r.Gowns)),(.seq 4 (Zd A6 r.Figures)),.i r.Purse,(.seq 2 (Zd B1 r.Incomes))])]:= by
 unfold A00 at h
 refine cE Z Z<|sg 0 Z<|A0 (F6 (cs:=B6 a0) Z Z Z) Z<|A0 (F6 (cs:=G5 a1) Z Z Z) Z<|A0 H8 Z<|es (ra3 Z Z Z)<|sg 3 Z<|oB h fun x1 hx1 h=>A0 (A9h (rows:=Zd B2 []) Z Z (D9 (fun _=>rfl) _)) Z<|A0 (C1 Z) Z<|A0 (B5 Z Z Z) Z<|N9 (A16 (f:=B2) Z Z Z Z A1k (fun _=>rfl) hx1) Z<|A0 (C1 Z) Z<|K6 (D4 (ds:=[(.asl (H.length+3) (Zh x1)),(.seq 4 (Zd A6 a0.Figures)),.i a0.Purse,(.seq 2 (Zd B1 a0.Incomes))]) Z Z Z Z (M2 (Zx _ _)) Z) Z<|es (ra3 Z Z Z)<|C4<|s0<|qm Z<|es (ra4 Z Z Z Z)<|C8<|oB h fun o7 ho7 h=>wl (fun s2=>[(2,(.ptr (H.length+0) 0)),(3,(.ptr (H.length+1) 0)),(4,(.ptr (H.length+2) 0)),(5,.i s2.1)]) (fun (q3:Unit) s2=>[(.cells [(.asl (H.length+3) (Zh s2.2)),(.seq 4 (Zd A6 a0.Figures)),.i a0.Purse,(.seq 2 (Zd B1 a0.Incomes))]),(.cells (G5 a1)),(.cells (B6 (PaShow.mk ([]:List PaGown) ([]:List PaFigure) 0 ([]:List PaIncome)))),(.arr 8 false (Zd B2 s2.2))]) 4 (fun r e s' H'=>PX 0 [(2,(.ptr (H.length+0) 0)),(4,(.ptr (H.length+2) 0))] (H++[(.cells [(.asl (H.length+3) (Zh r)),(.seq 4 (Zd A6 a0.Figures)),.i a0.Purse,(.seq 2 (Zd B1 a0.Incomes))]),(.cells (G5 a1)),(.cells (B6 (PaShow.mk ([]:List PaGown) ([]:List PaFigure) 0 ([]:List PaIncome)))),(.arr 8 false (Zd B2 r))]) e s' H') () ho7 Z Z (fun _ _=>rfl) (fun _=>rfl) Z (fun s2=>(bdc (N6 Z) (bdc (N6 Z) (bdc (N6 Z) (bdc A5 bdn))))) (fun q3 s2 ys2 hs2=>?_) ?_
 ·unfold A0h at hs2
  refine C4<|s0<|qm Z<|A0 (C1 Z) Z<|A0 (B5 (x:=(.asl (H.length+3) (Zh s2.2))) Z Z Z) Z<|A0 (B3k (f:=B2) Z Z Z) Z<|A0 (L5 Z Z) Z<|es (ra5 Z Z Z Z Z)<|wi hs2 Z (fun hc4 hs2=>?_) fun hc4 hs2=>?_
  ·refine C6<|C4<|C8<|sg 4 Z<|oB hs2 fun x5 hx5 hs2=>A0 (C1 Z) Z<|A0 (B5 (x:=(.asl (H.length+3) (Zh s2.2))) Z Z Z) Z<|qm Z<|A0 (A1i (f:=B2) Z Z Z Z hx5) Z<|A0 (D2o (ds:=B2 x5) Z Z (Zi _) (A0t hx5) Z Z) Z<|A0 H8 Z<|K6 (D4 (ds:=(B2 x5)) Z Z Z Z (E0 Z) Z) Z<|es (ra5 Z Z Z Z Z)<|s0<|A0 (C1 Z) Z<|A0 (B5 Z Z Z) Z<|A0 (C1 Z) Z<|A0 (B5 Z Z Z) Z<|A0 (A4s Z) Z<|A0 (A0s Z Z) Z<|A0 (C18 Z Z) Z<|A0 (C1 Z) Z<|A0 (B5 Z Z Z) Z<|A0 (C1 Z) Z<|A9i [1] [(.cells [(.asl (H.length+3) (Zh s2.2)),(.seq 4 (Zd A6 a0.Figures)),.i a0.Purse,(.seq 2 (Zd B1 a0.Incomes))]),(.cells (G5 a1)),(.cells (B6 (PaShow.mk ([]:List PaGown) ([]:List PaFigure) 0 ([]:List PaIncome)))),(.arr 8 false (Zd B2 s2.2)),(.cells (B2 (PaGown.mk x5.Name x5.Looks x5.Pawn x5.Loan (A2e 0 (w64 (x5.Rate-(w64 a1.Rate)))) x5.Fee x5.Ago x5.Last)))] (P7 [] rfl (A4d Z A2m F9) Z Z) (seen0 Z) (D4 (ds:=(B2 (PaGown.mk x5.Name x5.Looks x5.Pawn x5.Loan (A2e 0 (w64 (x5.Rate-(w64 a1.Rate)))) x5.Fee x5.Ago x5.Last))) Z Z Z Z (E0 Z) Z) Z Z Z<|A0 (C1 Z) Z<|K5 [] (P7 [] rfl F9 Z Z) (A9n (b:=H.length+1) Z (A4c (A0f _ Z) A6m)) (B5 Z Z Z) Z<|A0 (A4s Z) Z<|A0 (A0s Z Z) Z<|A0 (C18 Z Z) Z<|A0 (C1 Z) Z<|K6 (D4 (ds:=(B2 (PaGown.mk x5.Name x5.Looks x5.Pawn x5.Loan (A2e 0 (w64 (x5.Rate-(w64 a1.Rate)))) (A2e 0 (w64 (x5.Fee-(w64 a1.Fee)))) x5.Ago x5.Last))) Z Z Z Z (E0 Z) Z) Z<|es (ra5 Z Z Z Z Z)<|r0<|oB hs2 fun x6 hx6 hs2=>A0 (C1 Z) Z<|A0 (B5 (x:=(.asl (H.length+3) (Zh s2.2))) Z Z Z) Z<|qm Z<|A0 (E8 Z Z Z) Z<|A0 (A1i (f:=B2) Z Z Z Z hx6) Z<|K6 (A6b (ds:=B2 (PaGown.mk x5.Name x5.Looks x5.Pawn x5.Loan (A2e 0 (w64 (x5.Rate-(w64 a1.Rate)))) (A2e 0 (w64 (x5.Fee-(w64 a1.Fee)))) x5.Ago x5.Last)) Z Z Z Z Z (Zi _) (A0t hx6) Z Z) Z ?_
   rw[A59]
   rw[show Zh s2.2=Zh (P0 s2.2 s2.1 (PaGown.mk x5.Name x5.Looks x5.Pawn x5.Loan (A2e 0 (w64 (x5.Rate-(w64 a1.Rate)))) (A2e 0 (w64 (x5.Fee-(w64 a1.Fee)))) x5.Ago x5.Last)) from (S0 _ _ _).symm]
   refine en (ra4 Z Z Z Z)<|r0<|qm Z<|A0 (G1 Z Z) Z<|qm Z<|en (ra4 Z Z Z Z) ?_
   cases hs2
   exact lnT () Z (su4 Z Z Z Z)
  ·refine J1 ?_
   obtain rfl:=os hs2
   exact lx Z px (su2 Z Z)
 ·rintro e s' H'-⟨rfl,rfl,rfl⟩
  refine s0<|A0 (J2 (ds:=[(.asl (H.length+3) (Zh o7)),(.seq 4 (Zd A6 a0.Figures)),.i a0.Purse,(.seq 2 (Zd B1 a0.Incomes))]) Z Z Z Z) Z<|K6 (D4 (ds:=[(.asl (H.length+3) (Zh o7)),(.seq 4 (Zd A6 a0.Figures)),.i a0.Purse,(.seq 2 (Zd B1 a0.Incomes))]) Z Z Z Z (M2 (Zx _ _)) Z) Z<|es (ra1 Z)<|C7 ?_
  obtain rfl:=os h
  exact retq trivial (A2d (J2 (ds:=[(.asl (H.length+3) (Zh o7)),(.seq 4 (Zd A6 a0.Figures)),.i a0.Purse,(.seq 2 (Zd B1 a0.Incomes))]) Z Z Z Z) C0) (A4 (B10 (Q2 (D64 Z (Zi _)) (Q2 Z (Q2 Z (Q2 Z B7k))))) B9) (A2 (A4g Z) A8)
def A1b (a1:law04_Richer) (s2:(Int×(List PaGown))):Option ((Int×(List PaGown))⊕(List PaGown)) :=
 if (decide (s2.1<(Zh s2.2:Int)))=true then
  (idx s2.2 s2.1).bind fun x5 =>
  if x5.Pawn=true then
  (idx s2.2 s2.1).bind fun x7 =>
  (idx s2.2 s2.1).bind fun x8 =>
  some (.inl ((w64 (s2.1+1)),(P0 s2.2 s2.1 (PaGown.mk x8.Name x8.Looks x8.Pawn x8.Loan x8.Rate x8.Fee x8.Ago (K9 364 (w64 (x7.Last+(w64 a1.Last))))))))
  else
  some (.inl ((w64 (s2.1+1)),s2.2))
 else
  some (.inr s2.2)
def A15 (a0:PaShow) (a1:law04_Richer):Option PaShow :=
 (app 72 ([]:List PaGown) a0.Gowns).bind fun x1 =>
 (loop (A1b a1) (0,x1)).bind fun (o9:(List PaGown)) =>
 (app 72 ([]:List PaGown) o9).bind fun x10 =>
 (app 72 x10 [a1.Gown]).bind fun x11 =>
 (W4 (PaShow.mk x11 a0.Figures (K9 10000 (w64 (a0.Purse+(w64 a1.Purse)))) a0.Incomes)).bind fun x12 =>
 if x12=true then
  (app 16 ([]:List PaIncome) a0.Incomes).bind fun x14 =>
  (app 16 x14 [a1.Income]).bind fun x15 =>
  (W4 (PaShow.mk x11 a0.Figures (K9 10000 (w64 (a0.Purse+(w64 a1.Purse)))) x15)).bind fun x16 =>
  if x16=true then
  some (PaShow.mk x11 a0.Figures (K9 10000 (w64 (a0.Purse+(w64 a1.Purse)))) x15)
  else
  some (PaShow.mk x11 a0.Figures (K9 10000 (w64 (a0.Purse+(w64 a1.Purse)))) a0.Incomes)
 else
  (app 16 ([]:List PaIncome) a0.Incomes).bind fun x18 =>
  (app 16 x18 [a1.Income]).bind fun x19 =>
  (W4 (PaShow.mk o9 a0.Figures (K9 10000 (w64 (a0.Purse+(w64 a1.Purse)))) x19)).bind fun x20 =>
  if x20=true then
  some (PaShow.mk o9 a0.Figures (K9 10000 (w64 (a0.Purse+(w64 a1.Purse)))) x19)
  else
  some (PaShow.mk o9 a0.Figures (K9 10000 (w64 (a0.Purse+(w64 a1.Purse)))) a0.Incomes)
theorem B48 {c:Sc} {H:A1} {a0:PaShow} {a1:law04_Richer} {r:PaShow} (h:A15 a0 a1=some r) :
  E7 tab c H (.fn (.func 20) [] []) [(.agg (B6 a0)),(.agg (G5 a1))] [(.agg [(.seq 8 (Zd B2 r.Gowns)),(.seq 4 (Zd A6 r.Figures)),.i r.Purse,(.seq 2 (Zd B1 r.Incomes))])]:= by
 unfold A15 at h
 refine cE Z Z<|sg 0 Z<|A0 (F6 (cs:=B6 a0) Z Z Z) Z<|A0 (F6 (cs:=G5 a1) Z Z Z) Z<|A0 H8 Z<|es (ra3 Z Z Z)<|s0<|A0 (C1 Z) Z<|A0 (B5 Z Z Z) Z<|A0 (C1 Z) Z<|A0 (B5 Z Z Z) Z<|A0 (A4s Z) Z<|A0 (G1 Z Z) Z<|A0 (C18 Z Z) Z<|A0 (C1 Z) Z<|K6 (D4 (ds:=(B6 (PaShow.mk a0.Gowns a0.Figures (K9 10000 (w64 (a0.Purse+(w64 a1.Purse)))) a0.Incomes))) Z Z Z Z (E0 Z) Z) Z<|es (ra3 Z Z Z)<|sg 3 Z<|oB h fun x1 hx1 h=>A0 (A9h (rows:=Zd B2 []) Z Z (D9 (fun _=>rfl) _)) Z<|A0 (C1 Z) Z<|A0 (B5 Z Z Z) Z<|N9 (A16 (f:=B2) Z Z Z Z A1k (fun _=>rfl) hx1) Z<|A0 (C1 Z) Z<|K6 (D4 (ds:=[(.asl (H.length+3) (Zh x1)),(.seq 4 (Zd A6 a0.Figures)),(.i (K9 10000 (w64 (a0.Purse+(w64 a1.Purse))))),(.seq 2 (Zd B1 a0.Incomes))]) Z Z Z Z (M2 (Zx _ _)) Z) Z<|es (ra3 Z Z Z)<|C4<|s0<|qm Z<|es (ra4 Z Z Z Z)<|C8<|oB h fun o9 ho9 h=>wl (fun s2=>[(2,(.ptr (H.length+0) 0)),(3,(.ptr (H.length+1) 0)),(4,(.ptr (H.length+2) 0)),(5,.i s2.1)]) (fun (q3:Unit) s2=>[(.cells [(.asl (H.length+3) (Zh s2.2)),(.seq 4 (Zd A6 a0.Figures)),(.i (K9 10000 (w64 (a0.Purse+(w64 a1.Purse))))),(.seq 2 (Zd B1 a0.Incomes))]),(.cells (G5 a1)),(.cells (B6 (PaShow.mk ([]:List PaGown) ([]:List PaFigure) 0 ([]:List PaIncome)))),(.arr 8 false (Zd B2 s2.2))]) 4 (fun r e s' H'=>PX 0 [(2,(.ptr (H.length+0) 0)),(3,(.ptr (H.length+1) 0)),(4,(.ptr (H.length+2) 0))] (H++[(.cells [(.asl (H.length+3) (Zh r)),(.seq 4 (Zd A6 a0.Figures)),(.i (K9 10000 (w64 (a0.Purse+(w64 a1.Purse))))),(.seq 2 (Zd B1 a0.Incomes))]),(.cells (G5 a1)),(.cells (B6 (PaShow.mk ([]:List PaGown) ([]:List PaFigure) 0 ([]:List PaIncome)))),(.arr 8 false (Zd B2 r))]) e s' H') () ho9 Z Z (fun _ _=>rfl) (fun _=>rfl) Z (fun s2=>(bdc (N6 Z) (bdc (N6 Z) (bdc (N6 Z) (bdc A5 bdn))))) (fun q3 s2 ys2 hs2=>?_) ?_
 ·unfold A1b at hs2
  refine C4<|s0<|qm Z<|A0 (C1 Z) Z<|A0 (B5 (x:=(.asl (H.length+3) (Zh s2.2))) Z Z Z) Z<|A0 (B3k (f:=B2) Z Z Z) Z<|A0 (L5 Z Z) Z<|es (ra5 Z Z Z Z Z)<|wi hs2 Z (fun hc4 hs2=>?_) fun hc4 hs2=>?_
  ·refine C6<|C4<|C8<|s0<|oB hs2 fun x5 hx5 hs2=>A0 (C1 Z) Z<|A0 (B5 (x:=(.asl (H.length+3) (Zh s2.2))) Z Z Z) Z<|qm Z<|A0 (A1i (f:=B2) Z Z Z Z hx5) Z<|A0 (D2l Z) Z<|A0 (A17 (x:=(.b x5.Pawn)) Z Z (Zi _) (A0t hx5) Z) Z<|es (ra5 Z Z Z Z Z)<|wi hs2 Z (fun hc6 hs2=>?_) fun hc6 hs2=>?_
   ·refine r0<|oB hs2 fun x7 hx7 hs2=>oB hs2 fun x8 hx8 hs2=>A0 (C1 Z) Z<|A0 (B5 (x:=(.asl (H.length+3) (Zh s2.2))) Z Z Z) Z<|qm Z<|A0 (C1 Z) Z<|A0 (B5 (x:=(.asl (H.length+3) (Zh s2.2))) Z Z Z) Z<|qm Z<|A0 (A1i (f:=B2) Z Z Z Z hx7) Z<|A0 (D2l Z) Z<|A0 (A17 (x:=(.i x7.Last)) Z Z (Zi _) (A0t hx7) Z) Z<|A0 (C1 Z) Z<|A0 (B5 Z Z Z) Z<|A0 (A4s Z) Z<|A0 (G1 Z Z) Z<|A0 (C18 Z Z) Z<|A0 (A1i (f:=B2) Z Z Z Z hx8) Z<|A0 (D2l Z) Z<|K6 (A6b (ds:=B2 (PaGown.mk x8.Name x8.Looks x8.Pawn x8.Loan x8.Rate x8.Fee x8.Ago (K9 364 (w64 (x7.Last+(w64 a1.Last)))))) Z Z Z Z Z (Zi _) (A0t hx8) Z Z) Z ?_
    rw[A59]
    rw[show Zh s2.2=Zh (P0 s2.2 s2.1 (PaGown.mk x8.Name x8.Looks x8.Pawn x8.Loan x8.Rate x8.Fee x8.Ago (K9 364 (w64 (x7.Last+(w64 a1.Last)))))) from (S0 _ _ _).symm]
    refine en (ra4 Z Z Z Z)<|r0<|qm Z<|A0 (G1 Z Z) Z<|qm Z<|en (ra4 Z Z Z Z) ?_
    cases hs2
    exact lnT () Z (su4 Z Z Z Z)
   ·refine C6<|r0<|qm Z<|A0 (G1 Z Z) Z<|qm Z<|en (ra4 Z Z Z Z) ?_
    cases hs2
    exact lnT () Z (su4 Z Z Z Z)
  ·refine J1 ?_
   obtain rfl:=os hs2
   exact lx Z px (su3 Z Z Z)
 ·rintro e s' H'-⟨rfl,rfl,rfl⟩
  refine sg 4 Z<|A0 (J2 (ds:=[(.asl (H.length+3) (Zh o9)),(.seq 4 (Zd A6 a0.Figures)),(.i (K9 10000 (w64 (a0.Purse+(w64 a1.Purse))))),(.seq 2 (Zd B1 a0.Incomes))]) Z Z Z Z) Z<|A0 B7i Z<|K6 (D4 (ds:=[(.asl (H.length+3) (Zh o9)),(.seq 4 (Zd A6 a0.Figures)),(.i (K9 10000 (w64 (a0.Purse+(w64 a1.Purse))))),(.seq 2 (Zd B1 a0.Incomes))]) Z Z Z Z (M2 (Zx _ _)) Z) Z<|es (ra4 Z Z Z Z)<|sg 6 Z<|oB h fun x10 hx10 h=>oB h fun x11 hx11 h=>A0 (A9h (rows:=Zd B2 []) Z Z (D9 (fun _=>rfl) _)) Z<|A0 (C1 Z) Z<|K5 [6] (P7 [6] rfl F9 Z Z) (seen0 Z) (B5 (x:=(.asl (H.length+3) (Zh o9))) Z Z Z) Z<|A9i [1] [(.cells [(.asl (H.length+3) (Zh o9)),(.seq 4 (Zd A6 a0.Figures)),(.i (K9 10000 (w64 (a0.Purse+(w64 a1.Purse))))),(.seq 2 (Zd B1 a0.Incomes))]),(.cells (G5 a1)),(.cells (B6 (PaShow.mk ([]:List PaGown) ([]:List PaFigure) 0 ([]:List PaIncome)))),(.arr 8 false (Zd B2 o9)),(.arr 8 false (Zd B2 ([]:List PaGown))),(.cells [(.asl (H.length+3) (Zh o9)),(.seq 4 (Zd A6 a0.Figures)),(.i (K9 10000 (w64 (a0.Purse+(w64 a1.Purse))))),(.seq 2 (Zd B1 a0.Incomes))]),(.arr 8 false (Zd B2 x10))] (P7 [] rfl (A4d Z A2m F9) Z Z) (seen0 Z) (A16 (f:=B2) Z Z Z Z (D7r Z (Zi _)) (fun _=>rfl) hx10) Z Z Z<|A0 (C1 Z) Z<|K5 [6] (P7 [6] rfl F9 Z Z) (A9n (b:=H.length+1) Z (A4c (A0f _ Z) A6m)) (J2 (ds:=B2 a1.Gown) Z Z Z Z) Z<|A0 (I8 (rows:=Zd B2 [a1.Gown]) Z Z (D9 (fun _=>rfl) _)) Z<|N9 (A16 (f:=B2) Z Z Z Z A1k (fun _=>rfl) hx11) Z<|A0 (C1 Z) Z<|K6 (D4 (ds:=[(.asl (H.length+6) (Zh x11)),(.seq 4 (Zd A6 a0.Figures)),(.i (K9 10000 (w64 (a0.Purse+(w64 a1.Purse))))),(.seq 2 (Zd B1 a0.Incomes))]) Z Z Z Z (M2 (Zx _ _)) Z) Z<|es (ra4 Z Z Z Z)<|C4<|s0<|oB h fun x12 hx12 h=>A0 (J2 (ds:=[(.asl (H.length+6) (Zh x11)),(.seq 4 (Zd A6 a0.Figures)),(.i (K9 10000 (w64 (a0.Purse+(w64 a1.Purse))))),(.seq 2 (Zd B1 a0.Incomes))]) Z Z Z Z) Z<|C3 (rs:=[.b x12]) Z Z (A3 (B5k (R4 (C1t Z (Zi _)) (R4 Z (R4 Z (R4 Z C1p))))) C2) ((A18 hx12).frz)<|es (ra5 Z Z Z Z Z)<|wi h Z (fun hc13 h=>?_) fun hc13 h=>?_
  ·refine r0<|A0 (J2 (ds:=[(.asl (H.length+6) (Zh x11)),(.seq 4 (Zd A6 a0.Figures)),(.i (K9 10000 (w64 (a0.Purse+(w64 a1.Purse))))),(.seq 2 (Zd B1 a0.Incomes))]) Z Z Z Z) Z<|K6 (D4 (ds:=[(.asl (H.length+6) (Zh x11)),(.seq 4 (Zd A6 a0.Figures)),(.i (K9 10000 (w64 (a0.Purse+(w64 a1.Purse))))),(.seq 2 (Zd B1 a0.Incomes))]) Z Z Z Z (M2 (Zx _ _)) Z) Z<|en (ra4 Z Z Z Z)<|s0<|A0 (J2 (ds:=[(.asl (H.length+6) (Zh x11)),(.seq 4 (Zd A6 a0.Figures)),(.i (K9 10000 (w64 (a0.Purse+(w64 a1.Purse))))),(.seq 2 (Zd B1 a0.Incomes))]) Z Z Z Z) Z<|K6 (D4 (ds:=[(.asl (H.length+6) (Zh x11)),(.seq 4 (Zd A6 a0.Figures)),(.i (K9 10000 (w64 (a0.Purse+(w64 a1.Purse))))),(.seq 2 (Zd B1 a0.Incomes))]) Z Z Z Z (M2 (Zx _ _)) Z) Z<|es (ra4 Z Z Z Z)<|sg 7 Z<|oB h fun x14 hx14 h=>oB h fun x15 hx15 h=>A0 (A9h (rows:=Zd B1 []) Z Z (D9 (fun _=>rfl) _)) Z<|A0 (C1 Z) Z<|K5 [7] (P7 [7] rfl F9 Z Z) (seen0 Z) (B5 (x:=(.seq 2 (Zd B1 a0.Incomes))) Z Z Z) Z<|A9i [1] [(.cells [(.asl (H.length+6) (Zh x11)),(.seq 4 (Zd A6 a0.Figures)),(.i (K9 10000 (w64 (a0.Purse+(w64 a1.Purse))))),(.seq 2 (Zd B1 a0.Incomes))]),(.cells (G5 a1)),(.cells (B6 (PaShow.mk ([]:List PaGown) ([]:List PaFigure) 0 ([]:List PaIncome)))),(.arr 8 false (Zd B2 o9)),(.arr 8 false (Zd B2 ([]:List PaGown))),(.cells [(.asl (H.length+6) (Zh x11)),(.seq 4 (Zd A6 a0.Figures)),(.i (K9 10000 (w64 (a0.Purse+(w64 a1.Purse))))),(.seq 2 (Zd B1 a0.Incomes))]),(.arr 8 true (Zd B2 x11)),(.arr 2 false (Zd B1 x14))] (P7 [] rfl (A4d Z A2m F9) Z Z) (seen0 Z) (A16 (f:=B1) Z Z Z Z A1k (fun _=>rfl) hx14) Z Z Z<|A0 (C1 Z) Z<|K5 [7] (P7 [7] rfl F9 Z Z) (A9n (b:=H.length+1) Z (A4c (A0f _ Z) A6m)) (J2 (ds:=B1 a1.Income) Z Z Z Z) Z<|A0 (I8 (rows:=Zd B1 [a1.Income]) Z Z (D9 (fun _=>rfl) _)) Z<|N9 (C8e (f:=B1) Z Z Z Z A1k (fun _=>rfl) hx15) Z<|A0 (C1 Z) Z<|K6 (D4 (ds:=[(.asl (H.length+6) (Zh x11)),(.seq 4 (Zd A6 a0.Figures)),(.i (K9 10000 (w64 (a0.Purse+(w64 a1.Purse))))),(.seq 2 (Zd B1 x15))]) Z Z Z Z (E0 Z) Z) Z<|es (ra3 Z Z Z)<|C4<|s0<|oB h fun x16 hx16 h=>A0 (J2 (ds:=[(.asl (H.length+6) (Zh x11)),(.seq 4 (Zd A6 a0.Figures)),(.i (K9 10000 (w64 (a0.Purse+(w64 a1.Purse))))),(.seq 2 (Zd B1 x15))]) Z Z Z Z) Z<|C3 (rs:=[.b x16]) Z Z (A3 (B5k (R4 (C1t Z (Zi _)) (R4 Z (R4 Z (R4 Z C1p))))) C2) ((A18 hx16).frz)<|es (ra4 Z Z Z Z)<|wi h Z (fun hc17 h=>?_) fun hc17 h=>?_
   ·refine r0<|A0 (J2 (ds:=[(.asl (H.length+6) (Zh x11)),(.seq 4 (Zd A6 a0.Figures)),(.i (K9 10000 (w64 (a0.Purse+(w64 a1.Purse))))),(.seq 2 (Zd B1 x15))]) Z Z Z Z) Z<|K6 (D4 (ds:=[(.asl (H.length+6) (Zh x11)),(.seq 4 (Zd A6 a0.Figures)),(.i (K9 10000 (w64 (a0.Purse+(w64 a1.Purse))))),(.seq 2 (Zd B1 x15))]) Z Z Z Z (M2 (Zx _ _)) Z) Z<|en (ra2 Z Z)<|s0<|A0 (J2 (ds:=[(.asl (H.length+6) (Zh x11)),(.seq 4 (Zd A6 a0.Figures)),(.i (K9 10000 (w64 (a0.Purse+(w64 a1.Purse))))),(.seq 2 (Zd B1 x15))]) Z Z Z Z) Z<|K6 (D4 (ds:=[(.asl (H.length+6) (Zh x11)),(.seq 4 (Zd A6 a0.Figures)),(.i (K9 10000 (w64 (a0.Purse+(w64 a1.Purse))))),(.seq 2 (Zd B1 x15))]) Z Z Z Z (M2 (Zx _ _)) Z) Z<|es (ra1 Z)<|C7 ?_
    obtain rfl:=os h
    exact retq trivial (A2d (J2 (ds:=[(.asl (H.length+6) (Zh x11)),(.seq 4 (Zd A6 a0.Figures)),(.i (K9 10000 (w64 (a0.Purse+(w64 a1.Purse))))),(.seq 2 (Zd B1 x15))]) Z Z Z Z) C0) (A4 (B10 (Q2 (C19 Z (Zi _)) (Q2 Z (Q2 Z (Q2 Z B7k))))) B9) (A2 (A4g Z) A8)
   ·refine C6<|s0<|A0 (J2 (ds:=[(.asl (H.length+6) (Zh x11)),(.seq 4 (Zd A6 a0.Figures)),(.i (K9 10000 (w64 (a0.Purse+(w64 a1.Purse))))),(.seq 2 (Zd B1 a0.Incomes))]) Z Z Z Z) Z<|K6 (D4 (ds:=[(.asl (H.length+6) (Zh x11)),(.seq 4 (Zd A6 a0.Figures)),(.i (K9 10000 (w64 (a0.Purse+(w64 a1.Purse))))),(.seq 2 (Zd B1 a0.Incomes))]) Z Z Z Z (M2 (Zx _ _)) Z) Z<|es (ra1 Z)<|C7 ?_
    obtain rfl:=os h
    exact retq trivial (A2d (J2 (ds:=[(.asl (H.length+6) (Zh x11)),(.seq 4 (Zd A6 a0.Figures)),(.i (K9 10000 (w64 (a0.Purse+(w64 a1.Purse))))),(.seq 2 (Zd B1 a0.Incomes))]) Z Z Z Z) C0) (A4 (B10 (Q2 (C19 Z (Zi _)) (Q2 Z (Q2 Z (Q2 Z B7k))))) B9) (A2 (A4g Z) A8)
  ·refine C6<|s0<|A0 (J2 (ds:=[(.asl (H.length+3) (Zh o9)),(.seq 4 (Zd A6 a0.Figures)),(.i (K9 10000 (w64 (a0.Purse+(w64 a1.Purse))))),(.seq 2 (Zd B1 a0.Incomes))]) Z Z Z Z) Z<|K6 (D4 (ds:=[(.asl (H.length+3) (Zh o9)),(.seq 4 (Zd A6 a0.Figures)),(.i (K9 10000 (w64 (a0.Purse+(w64 a1.Purse))))),(.seq 2 (Zd B1 a0.Incomes))]) Z Z Z Z (M2 (Zx _ _)) Z) Z<|es (ra4 Z Z Z Z)<|sg 7 Z<|oB h fun x18 hx18 h=>oB h fun x19 hx19 h=>A0 (A9h (rows:=Zd B1 []) Z Z (D9 (fun _=>rfl) _)) Z<|A0 (C1 Z) Z<|K5 [7] (P7 [7] rfl F9 Z Z) (seen0 Z) (B5 (x:=(.seq 2 (Zd B1 a0.Incomes))) Z Z Z) Z<|A9i [1] [(.cells [(.asl (H.length+3) (Zh o9)),(.seq 4 (Zd A6 a0.Figures)),(.i (K9 10000 (w64 (a0.Purse+(w64 a1.Purse))))),(.seq 2 (Zd B1 a0.Incomes))]),(.cells (G5 a1)),(.cells (B6 (PaShow.mk ([]:List PaGown) ([]:List PaFigure) 0 ([]:List PaIncome)))),(.arr 8 false (Zd B2 o9)),(.arr 8 false (Zd B2 ([]:List PaGown))),(.cells [(.asl (H.length+3) (Zh o9)),(.seq 4 (Zd A6 a0.Figures)),(.i (K9 10000 (w64 (a0.Purse+(w64 a1.Purse))))),(.seq 2 (Zd B1 a0.Incomes))]),(.arr 8 true (Zd B2 x11)),(.arr 2 false (Zd B1 x18))] (P7 [] rfl (A4d Z A2m F9) Z Z) (seen0 Z) (A16 (f:=B1) Z Z Z Z A1k (fun _=>rfl) hx18) Z Z Z<|A0 (C1 Z) Z<|K5 [7] (P7 [7] rfl F9 Z Z) (A9n (b:=H.length+1) Z (A4c (A0f _ Z) A6m)) (J2 (ds:=B1 a1.Income) Z Z Z Z) Z<|A0 (I8 (rows:=Zd B1 [a1.Income]) Z Z (D9 (fun _=>rfl) _)) Z<|N9 (C8e (f:=B1) Z Z Z Z A1k (fun _=>rfl) hx19) Z<|A0 (C1 Z) Z<|K6 (D4 (ds:=[(.asl (H.length+3) (Zh o9)),(.seq 4 (Zd A6 a0.Figures)),(.i (K9 10000 (w64 (a0.Purse+(w64 a1.Purse))))),(.seq 2 (Zd B1 x19))]) Z Z Z Z (E0 Z) Z) Z<|es (ra3 Z Z Z)<|C4<|s0<|oB h fun x20 hx20 h=>A0 (J2 (ds:=[(.asl (H.length+3) (Zh o9)),(.seq 4 (Zd A6 a0.Figures)),(.i (K9 10000 (w64 (a0.Purse+(w64 a1.Purse))))),(.seq 2 (Zd B1 x19))]) Z Z Z Z) Z<|C3 (rs:=[.b x20]) Z Z (A3 (B5k (R4 (C1t Z (Zi _)) (R4 Z (R4 Z (R4 Z C1p))))) C2) ((A18 hx20).frz)<|es (ra4 Z Z Z Z)<|wi h Z (fun hc21 h=>?_) fun hc21 h=>?_
   ·refine r0<|A0 (J2 (ds:=[(.asl (H.length+3) (Zh o9)),(.seq 4 (Zd A6 a0.Figures)),(.i (K9 10000 (w64 (a0.Purse+(w64 a1.Purse))))),(.seq 2 (Zd B1 x19))]) Z Z Z Z) Z<|K6 (D4 (ds:=[(.asl (H.length+3) (Zh o9)),(.seq 4 (Zd A6 a0.Figures)),(.i (K9 10000 (w64 (a0.Purse+(w64 a1.Purse))))),(.seq 2 (Zd B1 x19))]) Z Z Z Z (M2 (Zx _ _)) Z) Z<|en (ra2 Z Z)<|s0<|A0 (J2 (ds:=[(.asl (H.length+3) (Zh o9)),(.seq 4 (Zd A6 a0.Figures)),(.i (K9 10000 (w64 (a0.Purse+(w64 a1.Purse))))),(.seq 2 (Zd B1 x19))]) Z Z Z Z) Z<|K6 (D4 (ds:=[(.asl (H.length+3) (Zh o9)),(.seq 4 (Zd A6 a0.Figures)),(.i (K9 10000 (w64 (a0.Purse+(w64 a1.Purse))))),(.seq 2 (Zd B1 x19))]) Z Z Z Z (M2 (Zx _ _)) Z) Z<|es (ra1 Z)<|C7 ?_
    obtain rfl:=os h
    exact retq trivial (A2d (J2 (ds:=[(.asl (H.length+3) (Zh o9)),(.seq 4 (Zd A6 a0.Figures)),(.i (K9 10000 (w64 (a0.Purse+(w64 a1.Purse))))),(.seq 2 (Zd B1 x19))]) Z Z Z Z) C0) (A4 (B10 (Q2 (C19 Z (Zi _)) (Q2 Z (Q2 Z (Q2 Z B7k))))) B9) (A2 (A4g Z) A8)
   ·refine C6<|s0<|A0 (J2 (ds:=[(.asl (H.length+3) (Zh o9)),(.seq 4 (Zd A6 a0.Figures)),(.i (K9 10000 (w64 (a0.Purse+(w64 a1.Purse))))),(.seq 2 (Zd B1 a0.Incomes))]) Z Z Z Z) Z<|K6 (D4 (ds:=[(.asl (H.length+3) (Zh o9)),(.seq 4 (Zd A6 a0.Figures)),(.i (K9 10000 (w64 (a0.Purse+(w64 a1.Purse))))),(.seq 2 (Zd B1 a0.Incomes))]) Z Z Z Z (M2 (Zx _ _)) Z) Z<|es (ra1 Z)<|C7 ?_
    obtain rfl:=os h
    exact retq trivial (A2d (J2 (ds:=[(.asl (H.length+3) (Zh o9)),(.seq 4 (Zd A6 a0.Figures)),(.i (K9 10000 (w64 (a0.Purse+(w64 a1.Purse))))),(.seq 2 (Zd B1 a0.Incomes))]) Z Z Z Z) C0) (A4 (B10 (Q2 (C19 Z (Zi _)) (Q2 Z (Q2 Z (Q2 Z B7k))))) B9) (A2 (A4g Z) A8)
def A14 (a0:PaShow) (a1:law04_Richer):Option Bool :=
 (W4 a0).bind fun x1 =>
 if (!x1)=true then
  (A3d).bind fun x3 =>
  some x3
 else
  (Y2 a0).bind fun x4 =>
  (A00 a0 a1).bind fun x5 =>
  (Y2 x5).bind fun x6 =>
  (A15 a0 a1).bind fun x7 =>
  (Y2 x7).bind fun x8 =>
  (if ((((((x4.2.2.2==0)&&(x6.2.2.2==0))&&(x8.2.2.2==0))&&(decide (x6.2.1≤x4.2.1)))&&(decide (x8.2.1≤x4.2.1)))&&((decide (x6.2.1<x4.2.1))||(decide (x6.2.2.1≤x4.2.2.1))))=true then
  (A3d).bind fun x16 =>
  some x16
  else
  some false).bind fun x17 =>
  some x17
theorem B1w {c:Sc} {H:A1} (hscv:S5 c H=true) {a0:PaShow} {a1:law04_Richer} {r:Bool} (h:A14 a0 a1=some r) :
  E7 tab c H (.fn (.func 5) [] []) [(.agg (B6 a0)),(.agg (G5 a1))] [.b r]:= by
 unfold A14 at h
 refine cE Z Z<|sg 0 Z<|A0 (F6 (cs:=B6 a0) Z Z Z) Z<|A0 (F6 (cs:=G5 a1) Z Z Z) Z<|qm Z<|es (ra2 Z Z)<|C4<|s0<|oB h fun x1 hx1 h=>A0 (E8 Z Z Z) Z<|C3 (rs:=[.b x1]) Z Z (A3 (E1 Z) C2) ((A18 hx1).frz)<|A0 (Y9 Z) Z<|es (ra3 Z Z Z)<|wi h Z (fun hc2 h=>?_) fun hc2 h=>?_
 ·refine s0<|oB h fun x3 hx3 h=>C3 (rs:=[.b x3]) Z Z C2 ((A8k (B2g hscv) hx3).frz)<|qm Z<|es (ra1 Z)<|C7 ?_
  obtain rfl:=os h
  exact retq trivial (A7 Z C0) (A4 Z B9) (A2 A5 A8)
 ·refine C6<|s0<|oB h fun x4 hx4 h=>A0 (E8 Z Z Z) Z<|C3 (rs:=[(.seq 3 (Zd B3 x4.1)),.i x4.2.1,.i x4.2.2.1,.i x4.2.2.2]) Z Z (A3 (E1 Z) C2) ((A19 (B2g hscv) hx4).frz)<|qm Z<|A0 (B4 Z Z) Z<|A0 (B4 Z Z) Z<|A0 (B4 Z Z) Z<|A0 (B4 Z Z) Z<|qm Z<|qm Z<|qm Z<|qm Z<|es (ra5 Z Z Z Z Z)<|s0<|oB h fun x5 hx5 h=>oB h fun x6 hx6 h=>A0 (E8 Z Z Z) Z<|A0 (E8 Z Z Z) Z<|C3 (rs:=[(.agg (B6 x5))]) Z Z (A3 (E1 Z) (A3 (E1 Z) C2)) ((B3m hx5).frz)<|C3 (rs:=[(.seq 3 (Zd B3 x6.1)),.i x6.2.1,.i x6.2.2.1,.i x6.2.2.2]) Z Z (A3 (E1 Z) C2) ((A19 (B2g hscv) hx6).frz)<|qm Z<|A0 (B4 Z Z) Z<|A0 (B4 Z Z) Z<|A0 (B4 Z Z) Z<|A0 (B4 Z Z) Z<|qm Z<|qm Z<|qm Z<|qm Z<|es (ra8 Z Z Z Z Z Z Z Z)<|s0<|oB h fun x7 hx7 h=>oB h fun x8 hx8 h=>A0 (E8 Z Z Z) Z<|A0 (E8 Z Z Z) Z<|C3 (rs:=[(.agg (B6 x7))]) Z Z (A3 (E1 Z) (A3 (E1 Z) C2)) ((B48 hx7).frz)<|C3 (rs:=[(.seq 3 (Zd B3 x8.1)),.i x8.2.1,.i x8.2.2.1,.i x8.2.2.2]) Z Z (A3 (E1 Z) C2) ((A19 (B2g hscv) hx8).frz)<|qm Z<|A0 (B4 Z Z) Z<|A0 (B4 Z Z) Z<|A0 (B4 Z Z) Z<|A0 (B4 Z Z) Z<|qm Z<|qm Z<|qm Z<|qm Z<|es (ra8 Z Z Z Z Z Z Z Z)<|s0<|oB h fun x17 hx17 h=>qm Z<|A0 (K0 Z Z) Z<|qm Z<|gp 3 51 (.b ((x4.2.2.2==0)&&(x6.2.2.2==0))) 48 Z Z (fun hg9=>?_) (fun hg9=>?_) ?_
  ·exact gT Z hg9<|qm Z<|gT Z hg9<|A0 (K0 Z Z) Z<|A0 (D1 Z hg9 Z) Z<|ge 3 (by rw[hg9];rfl) Z Z
  ·exact nT Z hg9 Z<|nT Z hg9 Z<|A0 (D0 Z hg9 Z) Z<|ge 3 (by rw[hg9];rfl) Z Z
  refine qm Z<|gp 3 55 (.b (((x4.2.2.2==0)&&(x6.2.2.2==0))&&(x8.2.2.2==0))) 52 Z Z (fun hg10=>?_) (fun hg10=>?_) ?_
  ·exact gT Z hg10<|qm Z<|gT Z hg10<|A0 (K0 Z Z) Z<|A0 (D1 Z hg10 Z) Z<|ge 3 (by rw[hg10];rfl) Z Z
  ·exact nT Z hg10 Z<|nT Z hg10 Z<|A0 (D0 Z hg10 Z) Z<|ge 3 (by rw[hg10];rfl) Z Z
  refine qm Z<|gp 4 60 (.b ((((x4.2.2.2==0)&&(x6.2.2.2==0))&&(x8.2.2.2==0))&&(decide (x6.2.1≤x4.2.1)))) 56 Z Z (fun hg11=>?_) (fun hg11=>?_) ?_
  ·exact gT Z hg11<|qm Z<|gT Z hg11<|qm Z<|gT Z hg11<|A0 (A4f Z Z) Z<|A0 (D1 Z hg11 Z) Z<|ge 4 (by rw[hg11];rfl) Z Z
  ·exact nT Z hg11 Z<|nT Z hg11 Z<|nT Z hg11 Z<|A0 (D0 Z hg11 Z) Z<|ge 4 (by rw[hg11];rfl) Z Z
  refine qm Z<|gp 4 65 (.b (((((x4.2.2.2==0)&&(x6.2.2.2==0))&&(x8.2.2.2==0))&&(decide (x6.2.1≤x4.2.1)))&&(decide (x8.2.1≤x4.2.1)))) 61 Z Z (fun hg12=>?_) (fun hg12=>?_) ?_
  ·exact gT Z hg12<|qm Z<|gT Z hg12<|qm Z<|gT Z hg12<|A0 (A4f Z Z) Z<|A0 (D1 Z hg12 Z) Z<|ge 4 (by rw[hg12];rfl) Z Z
  ·exact nT Z hg12 Z<|nT Z hg12 Z<|nT Z hg12 Z<|A0 (D0 Z hg12 Z) Z<|ge 4 (by rw[hg12];rfl) Z Z
  refine qm Z<|gp 9 75 (.b ((((((x4.2.2.2==0)&&(x6.2.2.2==0))&&(x8.2.2.2==0))&&(decide (x6.2.1≤x4.2.1)))&&(decide (x8.2.1≤x4.2.1)))&&((decide (x6.2.1<x4.2.1))||(decide (x6.2.2.1≤x4.2.2.1))))) 66 Z Z (fun hg13=>?_) (fun hg13=>?_) ?_
  ·refine gT Z hg13<|qm Z<|gT Z hg13<|qm Z<|gT Z hg13<|A0 (L5 Z Z) Z<|gT Z hg13<|qm Z<|gq 4 74 (.b ((decide (x6.2.1<x4.2.1))||(decide (x6.2.2.1≤x4.2.2.1)))) 70 Z Z (fun hg14=>?_) (fun hg14=>?_) ?_
   ·exact nF Z hg14 Z<|nF Z hg14 Z<|nF Z hg14 Z<|gT Z hg13<|A0 (D1 Z hg14 Z) Z<|ge 4 (by rw[hg14];rfl) Z Z
   ·exact gF Z hg14<|qm Z<|gF Z hg14<|qm Z<|gF Z hg14<|A0 (A4f Z Z) Z<|gT Z hg13<|A0 (D0 Z hg14 Z) Z<|ge 4 (by rw[hg14];rfl) Z Z
   exact A0 (D1 Z hg13 Z) Z<|ge 6 (by rw[hg13];rfl) Z Z
  ·exact nT Z hg13 Z<|nT Z hg13 Z<|nT Z hg13 Z<|nT Z hg13 Z<|nX Z Z<|nX Z Z<|nX Z Z<|nT Z hg13 Z<|A0 (D0 Z hg13 Z) Z<|ge 9 (by rw[hg13];rfl) Z Z
  refine qm Z<|gp 2 78 (.b x17) 76 Z Z (fun hg15=>?_) (fun hg15=>?_) ?_
  ·refine oB (bt hx17 hg15) fun x16 hx16 hx17=>?_
   obtain rfl:=os hx17
   exact gT Z hg15<|C3 (rs:=[.b x16]) Z Z C2 ((A8k (B2g hscv) hx16).frz)<|A0 (D1 Z hg15 Z) Z<|ge 2 Z Z Z
  ·obtain rfl:=os (bf hx17 hg15)
   exact L7 (F4 Z (by rw[hg15];rfl)) Z<|A0 (D0 Z hg15 Z) Z<|ge 2 Z Z Z
  refine qm Z<|es (ra1 Z)<|C7 ?_
  obtain rfl:=os h
  exact retq trivial (A7 Z C0) (A4 Z B9) (A2 A5 A8)
end Pw
end
section
namespace Pw
open Go Am
structure Chp (g h:PaGown):Prop where
 pawn:h.Pawn=g.Pawn
 looks:h.Looks=g.Looks
 loan:h.Loan=g.Loan
 rate:h.Rate≤g.Rate
 fee:h.Fee≤g.Fee
 ago:h.Ago=g.Ago
 last:g.Last≤h.Last
theorem Chp.refl (g:PaGown):Chp g g:=⟨Z,Z,Z,ZR _,ZR _,Z,ZR _⟩
theorem D3z {G H:List PaGown} (hG:∀g∈G,GwOk g) (hl:G.length≤H.length) (hr:∀i,i<G.length→Chp G[i]! H[i]!) {y:PaFigure} (hy:FgOk y) {u:PaUse} (h:A23 G y u=0) :
  A23 H y u=0∧(A0n H y u).1≤(A0n G y u).1∧(A0n H y u).2=(A0n G y u).2:= by
 rcases U6.mp h with rfl|h'
 ·exact⟨U6.mpr (.inl Z),ZR _,Z⟩
 ·have h1:=h'.lo
  have h2:=h'.hi
  have hc:=hr u.Gown.toNat (by omega)
  have hg:=hG _ (K3 (l:=G) (i:=u.Gown.toNat) (by omega))
  have hform:=h'.form
  have hlate:=h'.late
  have hlook:=h'.look
  have hd:=hy.day
  have hpay:∀K:List PaGown,A0n K y u=if u.How=1 then (price K[u.Gown.toNat]! u.Day,u.Day) else if u.How=2 then (B81 K[u.Gown.toNat]! y,y.Day) else (0,0):=fun K=>by
   unfold A0n;rw[if_neg (by omega)]
  rw[hpay,hpay]
  generalize G[u.Gown.toNat]! = g at *
  generalize hH:H[u.Gown.toNat]! = k at *
  refine⟨U6.mpr (.inr ⟨h1,by omega,?_,?_,?_⟩),?_⟩
  ·rw[hH];unfold A76 at hform ⊢; rw[hc.pawn];exact hform
  ·rw[hH]
   have:=hc.last
   unfold A9t at hlate ⊢
   simp only[Bool.or_eq_false_iff,Bool.and_eq_false_iff,decide_eq_false_iff_not,beq_eq_false_iff_ne,ne_eq]at hlate ⊢
   omega
  ·rw[hH];unfold B4g at hlook ⊢; rw[hc.looks];exact hlook
  ·by_cases e1:u.How=1
   ·rw[if_pos e1,if_pos e1]
    refine⟨?_,Z⟩
    have hdd:0≤u.Day:= by
     rcases form1 hform with q|⟨_,q|q⟩ <;> omega
    have ha:=hg.ago
    show price k u.Day≤price g u.Day
    unfold price
    rw[hc.loan,hc.ago]
    have:=Z3c hc.rate (show 0≤1+(g.Ago+u.Day) / 30 by omega)
    omega
   ·rw[if_neg e1,if_neg e1]
    by_cases e2:u.How=2
    ·rw[if_pos e2,if_pos e2]
     exact⟨Z3c hc.fee (by omega),Z⟩
    ·rw[if_neg e2,if_neg e2];exact⟨ZR _,Z⟩
structure Bet (s t:PaShow):Prop where
 figs:t.Figures=s.Figures
 len:s.Gowns.length≤t.Gowns.length
 chp:∀i,i<s.Gowns.length→Chp s.Gowns[i]! t.Gowns[i]!
 inc:∀d,0≤d→s.Purse+Q8 (incs s) d≤t.Purse+Q8 (incs t) d
theorem Bet.dom {s t:PaShow} (hs:ShOk s) (h:Bet s t):Dom s t:=fun p hp=>by
 obtain⟨h1,h2,h3⟩:=C4n.mp hp
 have key:∀z∈s.Figures.zip p,A23 t.Gowns z.1 z.2=0∧(A0n t.Gowns z.1 z.2).1≤(A0n s.Gowns z.1 z.2).1∧(A0n t.Gowns z.1 z.2).2=(A0n s.Gowns z.1 z.2).2:=fun z hz =>
  D3z hs.gown h.len h.chp (C2s hs hp.u z hz).1 (h2 z hz)
 refine⟨p,C4n.mpr ⟨by rw[h.figs];exact h1,fun z hz=>?_,h3⟩,Z,?_,fun d hd=>?_⟩
 ·rw[h.figs]at hz;exact(key z hz).1
 ·unfold V9
  rw[A4x,A4x,h.figs,Z0c,Z0c]
  exact B8f fun z hz=>(key z hz).2.1
 ·have hle:Q8 (pays t p) d≤Q8 (pays s p) d:= by
   unfold Q8
   rw[A4x,A4x,h.figs,Z0c,Z0c]
   refine B8f fun z hz=>?_
   obtain⟨_,k2,k3⟩:=key z hz
   simp only[Function.comp]
   rw[k3]
   split
   ·exact k2
   ·exact ZR _
  have:=h.inc d hd
  unfold O3
  omega
theorem Dom.trans {s t r:PaShow} (h:Dom s t) (k:Dom t r):Dom s r:=fun p hp=>by
 obtain⟨q,h1,h2,h3,h4⟩:=h p hp
 obtain⟨w,k1,k2,k3,k4⟩:=k q h1
 exact⟨w,k1,by omega,by omega,fun d hd=>Z4w (h4 d hd) (k4 d hd)⟩
theorem D5y {s:PaShow} (hs:ShOk s):NB s:= by
 have key:∀x:ByteArray,A1h x=true→x.size<9223372036854775808:=fun x hx=>by
  unfold A1h at hx
  simp only[Zc,decide_eq_true_eq]at hx
  omega
 exact⟨fun v hv=>key _ (hs.gname.each _ (Z10 hv)),fun v hv=>key _ (hs.fname.each _ (Z10 hv))⟩
theorem C98 {α:Type} {m:List α} {i:Nat} {x:α} (h:m[i]? = some x):P0 m (i:Int) x=m:= by
 unfold P0
 rw[Int.toNat_natCast]
 obtain⟨hi,e⟩:=Ze.mp h
 rw[← e];exact Z2h hi
theorem B2q {α:Type} {k:Nat} {l m:List α} (hk:k≤100) (h:l.length+m.length≤1000):app k l m=some (l++m):= by
 unfold app
 have:=Z2u h hk
 rw[if_pos ⟨by omega,by omega⟩]
def chG (x:law04_Richer) (g:PaGown):PaGown:=⟨g.Name,g.Looks,g.Pawn,g.Loan,A2e 0 (g.Rate-x.Rate),A2e 0 (g.Fee-x.Fee),g.Ago,g.Last⟩
def riG (x:law04_Richer) (g:PaGown):PaGown:=if g.Pawn then ⟨g.Name,g.Looks,g.Pawn,g.Loan,g.Rate,g.Fee,g.Ago,K9 364 (g.Last+x.Last)⟩ else g
def RB (x:law04_Richer):Prop:=((0≤x.Purse∧x.Purse<256)∧(0≤x.Rate∧x.Rate<256))∧(0≤x.Fee∧x.Fee<256)∧(0≤x.Last∧x.Last<256)
def chS (s:PaShow) (x:law04_Richer):PaShow:=⟨s.Gowns.map (chG x),s.Figures,s.Purse,s.Incomes⟩
theorem C5n {s:PaShow} (hs:ShOk s) {x:law04_Richer} (hx:RB x):A00 s x=some (chS s x):= by
 have hG:=hs.gowns
 obtain⟨⟨x1,x2⟩,x3,x4⟩:=hx
 unfold A00
 rw[B2q (by omega) (by simp;omega),Z00]
 simp only[Zg]
 rw[C35 (chG x) s.Gowns (r:=s.Gowns.map (chG x)) (by omega) (fun i m hi hm hmi=>by
  have hg:=hs.gown _ (K3 hi)
  have h2:=hg.rate
  have h3:=hg.fee
  unfold A0h
  simp only[]
  rw[if_pos (by simp;omega),A12 hmi]
  simp only[Zg]
  rw[F5 (n:=(i:Int)+1) (by omega),F5 (n:=x.Rate) (by omega),F5 (n:=x.Fee) (by omega),F5 (n:=s.Gowns[i]!.Rate-x.Rate) (by omega),F5 (n:=s.Gowns[i]!.Fee-x.Fee) (by omega)]
  rfl) (by
  unfold A0h
  rw[if_neg (by simp)])]
 rfl
def C2m (s:PaShow) (x:law04_Richer):PaShow:=⟨s.Gowns.map (riG x),s.Figures,K9 10000 (s.Purse+x.Purse),s.Incomes⟩
def B8q (s:PaShow) (g:PaGown):PaShow:=⟨s.Gowns++[g],s.Figures,s.Purse,s.Incomes⟩
def C06 (s:PaShow) (i:PaIncome):PaShow:=⟨s.Gowns,s.Figures,s.Purse,s.Incomes++[i]⟩
def okS (s:PaShow):Prop:=(chk s).2.2=0
instance (s:PaShow):Decidable (okS s):=inferInstanceAs (Decidable (_=_))
theorem C94 {s:PaShow} (hs:ShOk s) {x:law04_Richer} (hx:RB x):∃t,A15 s x=some t∧∃ r,(r=C2m s x∨(r=B8q (C2m s x) x.Gown∧okS r))∧(t=r∨(t=C06 r x.Income∧okS t)):= by
 have hG:=hs.gowns
 have hI:=hs.incomes
 have hpu:=hs.purse
 obtain⟨⟨x1,x2⟩,x3,x4⟩:=hx
 unfold A15
 rw[B2q (by omega) (by simp;omega),Z00]
 simp only[Zg]
 rw[C35 (riG x) s.Gowns (r:=s.Gowns.map (riG x)) (by omega) (fun i m hi hm hmi=>by
  have hg:=hs.gown _ (K3 hi)
  have h2:=hg.last
  unfold A1b
  simp only[]
  rw[if_pos (by simp;omega),A12 hmi]
  simp only[Zg]
  rw[F5 (n:=(i:Int)+1) (by omega),F5 (n:=x.Last) (by omega),F5 (n:=s.Gowns[i]!.Last+x.Last) (by omega)]
  unfold riG
  cases hp:s.Gowns[i]!.Pawn
  ·simp only[Bool.false_eq_true,if_false]
   rw[C98 hmi];rfl
  ·rfl) (by
  unfold A1b
  rw[if_neg (by simp)])]
 simp only[Zg]
 rw[F5 (n:=x.Purse) (by omega),F5 (n:=s.Purse+x.Purse) (by omega),B2q (by omega) (by simp;omega),Z00,B2q (l:=([]:List PaIncome)) (by omega) (by simp;omega),Z00]
 simp only[Zg]
 rw[B2q (by omega) (by simp;omega),B2q (by omega) (by simp;omega)]
 simp only[Zg]
 rw[B2l,B2l,B2l]
 simp only[Zg]
 split
 ·next h1 =>
  split
  ·next h2=>exact⟨_,Z,B8q (C2m s x) x.Gown,.inr ⟨Z,of_decide_eq_true h1⟩,.inr ⟨Z,of_decide_eq_true h2⟩⟩
  ·exact⟨_,Z,B8q (C2m s x) x.Gown,.inr ⟨Z,of_decide_eq_true h1⟩,.inl Z⟩
 ·split
  ·next h2=>exact⟨_,Z,C2m s x,.inl Z,.inr ⟨Z,of_decide_eq_true h2⟩⟩
  ·exact⟨_,Z,C2m s x,.inl Z,.inl Z⟩
theorem C3r {f:PaGown→PaGown} {l:List PaGown} {i:Nat} (hi:i<l.length):(l.map f)[i]! = f l[i]!:= by
 rw[getElem!_pos (l.map f) i (by simpa using hi),Z32,getElem!_pos l i hi]
theorem D8u {s:PaShow} (hs:ShOk s) {x:law04_Richer} (hx:RB x):ShOk (chS s x)∧Bet s (chS s x):= by
 obtain⟨⟨x1,x2⟩,x3,x4⟩:=hx
 have hm:∀a b:Int,0≤a→0≤b→0≤A2e 0 (a-b)∧A2e 0 (a-b)≤a:=fun a b h1 h2=>by unfold A2e;split <;> omega
 unfold chS
 refine⟨⟨by simpa using hs.gowns,fun g hg=>?_,?_,hs.figures,hs.figure,hs.fname,hs.purse,hs.incomes,hs.income⟩,⟨Z,by simp,fun i hi=>?_,fun d hd=>ZR _⟩⟩
 ·obtain⟨k,hk,rfl⟩:=ZJ.mp hg
  have h:=hs.gown k hk
  have h1:=hm k.Rate x.Rate h.rate.1 x2.1
  have h2:=hm k.Fee x.Fee h.fee.1 x3.1
  have hr:=h.rate
  have hf:=h.fee
  refine⟨h.looks,h.loan,⟨h1.1,by show A2e 0 _≤500;omega⟩,⟨h2.1,by show A2e 0 _≤100;omega⟩,h.ago,h.last,fun hp=>?_⟩
  obtain⟨q1,q2,q3,q4,q5⟩:=h.free hp
  refine⟨q1,?_,?_,q4,q5⟩
  ·show A2e 0 (k.Rate-x.Rate)=0;omega
  ·show A2e 0 (k.Fee-x.Fee)=0;omega
 ·show NmOk ((s.Gowns.map (chG x)).map _)
  rw[Z0c]
  exact hs.gname
 ·have h:=hs.gown _ (K3 hi)
  show Chp s.Gowns[i]! (s.Gowns.map (chG x))[i]!
  rw[C3r hi]
  exact⟨Z,Z,Z,(hm _ _ h.rate.1 x2.1).2,(hm _ _ h.fee.1 x3.1).2,Z,ZR _⟩
theorem D93 {s:PaShow} (hs:ShOk s) {x:law04_Richer} (hx:RB x):ShOk (C2m s x)∧Bet s (C2m s x):= by
 obtain⟨⟨x1,x2⟩,x3,x4⟩:=hx
 have hpu:=hs.purse
 have hm:∀a:Int,0≤a∧a≤364→a≤K9 364 (a+x.Last)∧K9 364 (a+x.Last)≤364:=fun a h1=>by unfold K9;split <;> omega
 have hp:s.Purse≤K9 10000 (s.Purse+x.Purse)∧K9 10000 (s.Purse+x.Purse)≤10000:= by unfold K9;split <;> omega
 have hnm:(PaGown.Name∘riG x)=PaGown.Name:= by
  funext g
  show (riG x g).Name=g.Name
  unfold riG;split <;> rfl
 unfold C2m
 refine⟨⟨by simpa using hs.gowns,fun g hg=>?_,?_,hs.figures,hs.figure,hs.fname,⟨by show 0≤K9 _ _;omega,hp.2⟩,hs.incomes,hs.income⟩,⟨Z,by simp,fun i hi=>?_,fun d hd=>?_⟩⟩
 ·obtain⟨k,hk,rfl⟩:=ZJ.mp hg
  have h:=hs.gown k hk
  unfold riG
  cases hq:k.Pawn
  ·rw[if_neg (by decide)];exact h
  ·rw[if_pos Z]
   have hl:=h.last
   have:=hm _ hl
   exact⟨h.looks,h.loan,h.rate,h.fee,h.ago,⟨by show 0≤K9 _ _;omega,this.2⟩,fun c=>by cases c⟩
 ·show NmOk ((s.Gowns.map (riG x)).map PaGown.Name)
  rw[Z0c,hnm]
  exact hs.gname
 ·have h:=hs.gown _ (K3 hi)
  show Chp s.Gowns[i]! (s.Gowns.map (riG x))[i]!
  rw[C3r hi]
  unfold riG
  split
  ·exact⟨Z,Z,Z,ZR _,ZR _,Z,(hm _ h.last).1⟩
  ·exact Chp.refl _
 ·show _≤K9 10000 (s.Purse+x.Purse)+Q8 (incs s) d
  omega
theorem D0j (s:PaShow) (g:PaGown):Bet s (B8q s g):=⟨Z,by unfold B8q;simp,fun i hi=>by
  have:(B8q s g).Gowns[i]! = s.Gowns[i]!:= by
   unfold B8q
   rw[getElem!_pos _ i (by simp;omega),getElem!_pos s.Gowns i hi,List.getElem_append_left hi]
  rw[this];exact Chp.refl _,fun d _=>ZR _⟩
theorem D0k {s:PaShow} {i:PaIncome} (h:ShOk (C06 s i)):Bet s (C06 s i):=⟨Z,Nat.le_refl _,fun _ _=>Chp.refl _,fun d hd=>by
  have hi:=(h.income i (by unfold C06;simp)).pence
  have e:incs (C06 s i)=incs s++[(i.Pence,i.Day)]:= by unfold incs C06;simp
  rw[e]
  unfold Q8
  rw[List.map_append,A6o]
  show _≤s.Purse+(sm _+((if i.Day≤d then i.Pence else 0)+0))
  split <;> omega⟩
theorem B9d {s:PaShow} {x:law04_Richer} (hb:NB s) (hx:RB x):A14 s x=some true:= by
 unfold A14
 rw[B2l,awake]
 simp only[Zg]
 by_cases hv:(chk s).2.2=0
 ·have hs:=(A1w s).mp hv
  rw[if_neg (by simp[hv]),C5n hs hx]
  obtain⟨hc,hcb⟩:=D8u hs hx
  obtain⟨t,ht,r,hr,htr⟩:=C94 hs hx
  obtain⟨hi,hib⟩:=D93 hs hx
  have hrr:ShOk r∧Dom s r:= by
   rcases hr with rfl|⟨rfl,hok⟩
   ·exact⟨hi,hib.dom hs⟩
   ·exact⟨(A1w _).mp hok,(hib.dom hs).trans ((D0j _ _).dom hi)⟩
  have htt:ShOk t∧Dom s t:= by
   rcases htr with rfl|⟨rfl,hok⟩
   ·exact hrr
   ·have:=(A1w _).mp hok
    exact⟨this,hrr.2.trans ((D0k this).dom hrr.1)⟩
  obtain⟨b1,e1⟩:=B50 hb hs
  obtain⟨b2,e2⟩:=B50 (D5y hc) hc
  obtain⟨b3,e3⟩:=B50 (D5y htt.1) htt.1
  have f1:=C7e hs hc (hcb.dom hs)
  have f2:=C7e hs htt.1 htt.2
  have f3:=D1a hs hc (hcb.dom hs)
  rw[ht,e1]
  simp only[Zg]
  rw[e2]
  simp only[Zg]
  rw[e3]
  simp only[Zg]
  rw[if_pos]
  rfl
  simp only[BEq.rfl,Z16,Zc,Bool.or_eq_true,decide_eq_true_eq]
  refine⟨⟨f1,f2⟩,?_⟩
  by_cases c:A3n (chS s x)=A3n s
  ·exact .inr (f3 c)
  ·exact .inl (by omega)
 ·rw[if_pos (by simp[hv])]
theorem C9t (r:List AV) (h:SatL [.int .u8,.int .u8,.int .u8,.int .u8,.int .i64,.int .i64,.str,.int .i64,.bool,.int .i64,.int .i64,.int .i64,.int .i64,.int .i64] r):∃x:law04_Richer,r=G5 x∧RB x:= by
 simp only[SatL,Sat]at h
 obtain⟨x1,q1,rfl,⟨n1,rfl,h1⟩,x2,q2,rfl,⟨n2,rfl,h2⟩,x3,q3,rfl,⟨n3,rfl,h3⟩,x4,q4,rfl,⟨n4,rfl,h4⟩,x5,q5,rfl,⟨n5,rfl,_⟩,x6,q6,rfl,⟨n6,rfl,_⟩,y1,p1,rfl,⟨s,rfl,_⟩,y2,p2,rfl,⟨m2,rfl,_⟩,y3,p3,rfl,⟨m3,rfl⟩,y4,p4,rfl,⟨m4,rfl,_⟩,y5,p5,rfl,⟨m5,rfl,_⟩,y6,p6,rfl,⟨m6,rfl,_⟩,y7,p7,rfl,⟨m7,rfl,_⟩,y8,p8,rfl,⟨m8,rfl,_⟩,rfl⟩:=h
 exact⟨⟨n1,n2,n3,n4,⟨n5,n6⟩,⟨s,m2,m3,m4,m5,m6,m7,m8⟩⟩,Z,⟨B8p h1,B8p h2⟩,B8p h3,B8p h4⟩
end Pw
end
