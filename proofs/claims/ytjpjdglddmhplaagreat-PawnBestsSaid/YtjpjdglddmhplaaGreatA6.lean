/- Texts that the claim stands on, one behind another. -/
import Derived.Test.YtjpjdglddmhplaaGreatA5
import Derived.Laws.RangeAny
set_option linter.unusedVariables false
set_option linter.unusedSimpArgs false
set_option linter.unnecessarySimpa false
open And renaming intro→ZE
open Array renaming length_toList→Z0j
open Bool renaming and_eq_true→Zc,and_true→Z37,eq_iff_iff→Z00,false_eq_true→Zj,not_eq_true'→Z09,not_not→Z3o,not_true→Z0s,or_eq_false_iff→Z2q,or_eq_true→Z16,or_false→Z52,or_true→Z1l
open Int renaming le_refl→ZY,mul_le_mul→Z5u,mul_nonneg→Z5t,natCast_nonneg→Z0y,tdiv→Z4c,tmod→Z5l,toNat_natCast→ZG,toNat_zero→Z4u
open List renaming all_eq_true→Zt,any_eq_true→Z1y,any_map→Z5a,append_assoc→Zz,append_nil→ZV,cons_append→Z0h,drop_zero→Z13,drop→Z3y,foldl_cons→Z0b,getElem?_eq_getElem→Zo,getElem?_eq_some_iff→Zf,getElem?_map→ZN,getElem?_take_of_lt→ZP,getElem?_toArray→Z0v,getElem_mem→Z28,head?_cons→Z2i,length_append→Zm,length_cons→ZU,length_map→Zi,length_nil→Z3m,length_take→ZC,length→Zh,map_cons→Zw,map→Ze,mem_append→ZB,mem_cons_of_mem→Zp,mem_cons_self→Zv,mem_cons→Zs,mem_filter→Z05,mem_iff_getElem→Z02,mem_map→ZJ,mem_of_mem_take→Z01,mem_singleton→Z0d,mem_take_iff_getElem→Z17,pairwise_append→Z0z,pairwise_cons→Z1o,pairwise_iff_getElem→Z0q,perm_append_comm→Z3h,set_append_right→Z0m,take_left→Z0c,take_length→Z0g,take_of_length_le→ZO,take_set→Z36,take_succ_eq_append_getElem→ZI
open Nat renaming beq_refl→Z1a,ble_eq_true_of_le→Zl,ble→ZH,blt→ZW,le_add_right→ZM,le_of_ble_eq_true→Zq,le_of_lt→Z4b,le_refl→Zn,min_self→Z5y,sub_self→Z2n,zero_add→Z1i
open Option renaming bind_some→Zd,map_some→Zb,some_inj→Z4k
open Option.some renaming injEq→Za,inj→Z0e
open Sum renaming inl→Z4v
section
namespace Pw
open Go Am
instance:Inhabited PaGown:=⟨⟨ByteArray.empty,0,false,0,0,0,0,0⟩⟩
instance:Inhabited PaFigure:=⟨⟨ByteArray.empty,0,0,0⟩⟩
instance:Inhabited PaIncome:=⟨⟨0,0⟩⟩
instance:Inhabited PaUse:=⟨⟨0,0,0⟩⟩
def D6e (s:ByteArray) (i:Nat):Bool :=
 !(decide (97≤s[i]!.toNat)&&decide (s[i]!.toNat≤122))&&(i==0||!((decide (48≤s[i]!.toNat)&&decide (s[i]!.toNat≤57))||s[i]!.toNat==46))
def bad (s:ByteArray) (i:Nat):Option Unit:=if D6e s i then some () else none
def A5m (s:ByteArray):Bool:=(!(s.size==0)&&decide (s.size≤16))&&(first (bad s) s.size).isNone
theorem nd97 {x:Nat}:decide ((97:Int)≤(x:Int))=decide (97≤x):=decide_eq_decide.mpr (by omega)
theorem nd122 {x:Nat}:decide ((x:Int)≤122)=decide (x≤122):=decide_eq_decide.mpr (by omega)
theorem nd48 {x:Nat}:decide ((48:Int)≤(x:Int))=decide (48≤x):=decide_eq_decide.mpr (by omega)
theorem nd57 {x:Nat}:decide ((x:Int)≤57)=decide (x≤57):=decide_eq_decide.mpr (by omega)
theorem nl48 {x:Nat}:decide ((x:Int)<48) = !decide (48≤x):= by rw[Z00];simp;omega
theorem nl57 {x:Nat}:decide ((57:Int)<(x:Int)) = !decide (x≤57):= by rw[Z00];simp;omega
theorem nz0 {x:Nat}:((x:Int)==0)=(x==0):= by rw[Z00];simp
theorem n46 {x:Nat}:((x:Int)==46)=(x==46):= by rw[Z00];simp;omega
theorem n46' {x:Nat}:((x:Int)==46)=(x==46):=n46
theorem D5z {s:ByteArray} {i:Nat} (h:i<s.size):B6z s (i:Int)=some (s[i]!.toNat:Int):= by
 unfold B6z
 rw[if_pos (Z0y i),ZG,getElem?_pos s i h,getElem!_pos s i h];rfl
theorem C35 (s:ByteArray):A75 s=some (A5m s):= by
 unfold A75 A5m
 by_cases h0:s.size=0
 ·rw[if_pos (by simp[h0])];simp[h0]
 by_cases h1:s.size>16
 ·rw[if_pos (by simp;omega)]
  have:decide (s.size≤16)=false:= by simp;omega
  rw[this];simp
 rw[if_neg (by simp only[Z16,beq_iff_eq,decide_eq_true_eq];omega)]
 have hl:loop (A3f s) 0=some ((first (fun i=>(bad s i).map fun _=>(Z4v false:Bool⊕Unit)) s.size).getD (.inr ())):= by
  refine A8u s.size _ _ (by omega) ?_ ?_
  ·intro i hi _
   unfold A3f
   rw[if_pos (by simpa using hi),D5z hi]
   have hb:s[i]!.toNat<256:=s[i]!.toNat_lt
   generalize hx:s[i]!.toNat=x at hb
   simp only[Zd,A40,D7 (n:=(x:Int)) (by omega),ge_iff_le,nd97,nd122,nd48,nd57,nz0,n46]
   unfold bad D6e
   rw[hx]
   generalize decide (97≤x)=b1
   generalize decide (x≤122)=b2
   generalize decide (48≤x)=b3
   generalize decide (x≤57)=b4
   generalize (x==46)=b5
   generalize (i==0)=b6
   cases b1 <;> cases b2 <;> cases b3 <;> cases b4 <;> cases b5 <;> cases b6 <;> rfl
  ·unfold A3f
   rw[if_neg (by simp)]
 rw[hl]
 cases hf:first (bad s) s.size with
 | none =>
  have:=L5.mp hf
  rw[L5.mpr fun i hi=>by rw[this i hi];rfl]
  have e1:(s.size==0)=false:= by rw[beq_eq_false_iff_ne];exact h0
  have e2:decide (s.size≤16)=true:=decide_eq_true (by omega)
  rw[e1,e2];rfl
 | some u =>
  obtain⟨i,hi,h2,h3⟩:=V7 hf
  rw[A9t (r:=.inl false) hi (by rw[h2];rfl) fun j hj=>by rw[h3 j hj];rfl]
  simp
theorem B35 (s:ByteArray) (hs:s.size<9223372036854775808):A5l s=some (A5m s):= by
 unfold A5l A5m
 have hl:loop (A26 s) (0:Nat)=some ((first (fun i=>(bad s i).map fun _=>(Z4v false:Bool⊕Nat)) s.size).getD (.inr s.size)):= by
  refine B3h (fun i=>i) s.size _ _ hs ?_ ?_
  ·intro i hi _
   unfold A26
   rw[if_pos (by simpa using hi)]
   unfold bad D6e
   rw[getElem!_pos s i hi]
   by_cases ha:(s[i]'hi).toNat<128
   ·rw[decode_ascii s i hi ha]
    generalize (s[i]'hi).toNat=x at ha ⊢
    simp only[nd97,nd122,gt_iff_lt,nl48,nl57,nz0,n46',bne]
    generalize decide (97≤x)=b1
    generalize decide (x≤122)=b2
    generalize decide (48≤x)=b3
    generalize decide (x≤57)=b4
    generalize (x==46)=b5
    generalize (i==0)=b6
    cases b1 <;> cases b2 <;> cases b3 <;> cases b4 <;> cases b5 <;> cases b6 <;> rfl
   ·have hd:=(decode_high s i hi (by omega)).1
    generalize (Utf8.decode s i).1=y at hd ⊢
    generalize (s[i]'hi).toNat=x at ha ⊢
    rw[if_pos (by simp;omega)]
    have e1:decide (x≤122)=false:= by simp;omega
    have e2:decide (x≤57)=false:= by simp;omega
    have e3:(x==46)=false:= by simp;omega
    simp[e1,e2,e3]
  ·intro _
   unfold A26
   rw[if_neg (by simp)]
 rw[hl]
 have he:eqS s (ByteArray.mk #[])=(s.size==0):= by
  unfold eqS
  cases hz:s.data.toList with
  | nil =>
   have:s.size=0:= by show s.data.size=0;rw[← Z0j,hz];rfl
   rw[this];rfl
  | cons a t =>
   have:s.size=t.length+1:= by show s.data.size=_;rw[← Z0j,hz];rfl
   rw[this];rfl
 cases hf:first (bad s) s.size with
 | none =>
  have:=L5.mp hf
  rw[L5.mpr fun i hi=>by rw[this i hi];rfl]
  have e2:decide ((s.size:Int)≤16)=decide (s.size≤16):=decide_eq_decide.mpr (by omega)
  simp[he,e2]
 | some u =>
  obtain⟨i,hi,h2,h3⟩:=V7 hf
  rw[A9t (r:=.inl false) hi (by rw[h2];rfl) fun j hj=>by rw[h3 j hj];rfl]
  simp
theorem C4f {α:Type} [Inhabited α] (l:List α) (p:α→Bool):(first (fun i=>if p l[i]! then some (i:Int) else none) l.length).isSome=l.any p:= by
 cases hf:first (fun i=>if p l[i]! then some (i:Int) else none) l.length with
 | none =>
  have h0:=L5.mp hf
  cases ha:l.any p with
  | false=>rfl
  | true =>
   rw[Z1y]at ha
   obtain⟨x,hx,hp⟩:=ha
   obtain⟨i,hi,e⟩:=Z02.mp hx
   have:=h0 i hi
   rw[getElem!_pos l i hi,e,hp]at this
   exact absurd this (by simp)
 | some r =>
  obtain⟨i,hi,h1,_⟩:=V7 hf
  rw[getElem!_pos l i hi]at h1
  cases hp:p l[i] with
  | false=>rw[hp]at h1;exact absurd h1 (by simp)
  | true=>exact(Z1y.mpr ⟨l[i],Z28 hi,hp⟩).symm
theorem C4r {α:Type} [Inhabited α] (l:List α) (p:α→Bool) {b:Int→Option (Int⊕(Int⊕Unit))} (hl:l.length<9223372036854775808)
  (hb:∀i:Nat,i<l.length→b i=some (if p l[i]! then .inr (.inl (i:Int)) else .inl (w64 ((i:Int)+1)))) (he:b l.length=some (.inr (.inr ()))) :
  ∃ o,loop b 0=some o∧(match o with|.inl i=>0≤i∧l.any p=true|.inr _=>l.any p=false):= by
 have h:=A8u (b:=b) l.length (fun i=>if p l[i]! then some (.inl (i:Int)) else none) (.inr ()) hl (fun i hi _=>by
  rw[hb i hi];cases p l[i]! <;> rfl) he
 refine⟨_,h,?_⟩
 have ha:=C4f l p
 cases hf:first (fun i=>if p l[i]! then some (Z4v (i:Int):Int⊕Unit) else none) l.length with
 | none =>
  have h0:=L5.mp hf
  rw[L5.mpr fun i hi=>by
   have:=h0 i hi
   cases hp:p l[i]! with
   | false=>rfl
   | true=>rw[hp]at this;exact absurd this (by simp)]at ha
  simpa using ha.symm
 | some r =>
  obtain⟨i,hi,h1,h2⟩:=V7 hf
  cases hp:p l[i]! with
  | false=>rw[hp]at h1;exact absurd h1 (by simp)
  | true =>
   rw[hp]at h1
   have h1:some (Z4v (i:Int))=some r:=h1
   obtain rfl:=Z0e h1
   refine⟨Z0y i,?_⟩
   rw[A9t (r:=(i:Int)) hi (by rw[hp];rfl) fun j hj=>by
    have:=h2 j hj
    cases hq:p l[j]! with
    | false=>rfl
    | true=>rw[hq]at this;exact absurd this (by simp)]at ha
   exact ha.symm
theorem A6y {α:Type} [Inhabited α] (l:List α) (g:α→Option Bool) (p:α→Bool) {b:Int→Option (Int⊕(Int⊕Unit))} {F:Option Bool} (hl:l.length<9223372036854775808) (hg:∀x∈l,g x=some (p x))
  (hb:∀i:Int,b i=if decide (i<l.length)=true then (idx l i).bind fun x=>(g x).bind fun y=>if y=true then some (.inr (.inl i)) else some (.inl (w64 (i+1))) else some (.inr (.inr ())))
  (hF:F=((loop b 0).bind fun o=>match o with|.inl v=>some v|.inr _=>some (-1)).bind fun x=>some (decide (x≥0))):F=some (l.any p):= by
 obtain⟨o,ho,hc⟩:=C4r l p (b:=b) hl (fun i hi=>by
  rw[hb,if_pos (by simpa using hi),G9 hi]
  simp only[Zd]
  rw[hg _ (by rw[getElem!_pos l i hi];exact Z28 hi)]
  simp only[Zd]
  cases p l[i]! <;> rfl) (by
  rw[hb,if_neg (by simp)])
 rw[hF,ho]
 rcases o with i|u
 ·simp only[Zd]
  rw[hc.2,decide_eq_true hc.1]
 ·simp only[Zd]
  rw[hc];rfl
theorem C6h (l:List Int) (g:Int→Option Bool) (p:Int→Bool) (hl:l.length<9223372036854775808) (hg:∀x∈l,g x=some (p x)):Q3 l g=some (l.any p) :=
 A6y l g p (b:=V0 l g) hl hg (fun _=>rfl) Z
theorem C3o (l:List PaGown) (g:PaGown→Option Bool) (p:PaGown→Bool) (hl:l.length<9223372036854775808) (hg:∀x∈l,g x=some (p x)):K3 l g=some (l.any p) :=
 A6y l g p (b:=M5 l g) hl hg (fun _=>rfl) Z
theorem B9p (l:List PaFigure) (g:PaFigure→Option Bool) (p:PaFigure→Bool) (hl:l.length<9223372036854775808) (hg:∀x∈l,g x=some (p x)):J4 l g=some (l.any p) :=
 A6y l g p (b:=L7 l g) hl hg (fun _=>rfl) Z
def out (lo hi x:Int):Bool:=decide (x<lo)||decide (x>hi)
theorem B42 (lo hi:Int) (l:List Int) (hl:l.length<9223372036854775808):G1 lo hi l=some (l.any (out lo hi)):= by
 unfold G1
 exact(congrArg (Option.bind · some) (C6h l (fun y=>A11 y lo hi) (out lo hi) hl fun x _=>rfl)).trans Z
theorem out1 (lo hi x:Int):G1 lo hi [x]=some (out lo hi x):= by
 rw[B42 lo hi [x] (by simp)];simp
theorem out2 (lo hi x y:Int):G1 lo hi [x,y]=some (out lo hi x||out lo hi y):= by
 rw[B42 lo hi [x,y] (by simp)];simp
theorem A5h (lo hi x:Int):N6 x lo hi=some (!out lo hi x):= by
 unfold N6 out
 rw[Z4k,Z00];simp
def P3 (s:ByteArray) (l:List ByteArray):Int:=if A5m s then (if l.any (fun y=>eqS y s) then 5 else 0) else 6
instance:Inhabited ByteArray:=⟨ByteArray.empty⟩
theorem B6n (s:ByteArray) (l:List ByteArray) (hl:l.length<9223372036854775808):A7k s l=some (P3 s l):= by
 unfold A7k P3
 rw[C35]
 cases A5m s
 ·rfl
 ·simp only[Zd]
  unfold A8z
  obtain⟨o,ho,hc⟩:=C4r l (fun y=>eqS y s) (b:=A12 l s) hl (fun i hi=>by
   unfold A12
   rw[if_pos (by simpa using hi),G9 hi]
   simp only[Zd]
   cases eqS l[i]! s <;> rfl) (by
   unfold A12
   rw[if_neg (by simp)])
  rw[ho]
  rcases o with i|u
  ·simp only[Zd]
   rw[hc.2,decide_eq_true hc.1];rfl
  ·simp only[Zd]
   rw[hc];rfl
def wrong (f:Nat→Int) (n:Nat):Option (Int×Int):=first (fun i=>if f i==0 then none else some ((i:Int),f i)) n
theorem A8i {f:Nat→Int} {n:Nat} {x:Int×Int} (h:wrong f n=some x):(x.2 != 0)=true:= by
 obtain⟨i,_,h1,_⟩:=V7 h
 cases hb:f i==0 with
 | true=>rw[hb]at h1;exact absurd h1 (by simp)
 | false =>
  rw[hb]at h1
  have h1:some ((i:Int),f i)=some x:=h1
  rw[← Z0e h1]
  show (f i != 0)=true
  rw[bne,hb];rfl
theorem P4 {lo hi x:Int}:out lo hi x=false↔lo≤x∧x≤hi:= by
 unfold out
 rw[Z2q,decide_eq_false_iff_not,decide_eq_false_iff_not]
 omega
theorem A5k {ρ:Type} {b:Int→Option (Int⊕ρ)} (n:Nat) (f:Nat→Int) (k:Int×Int→ρ) (z:ρ) (hn:n<9223372036854775808)
  (hs:∀i:Nat,i<n→b (i:Int)=some (if f i==0 then .inl (w64 ((i:Int)+1)) else .inr (k ((i:Int),f i))))
  (he:b (n:Int)=some (.inr z)) :
  loop b 0=some (match wrong f n with|some x=>k x|none=>z):= by
 rw[A8u n (fun i=>if f i==0 then none else some (k ((i:Int),f i))) z hn (fun i hi _=>by rw[hs i hi];cases f i==0 <;> rfl) he]
 unfold wrong
 cases hf:first (fun i=>if f i==0 then none else some ((i:Int),f i)) n with
 | none =>
  have h0:=L5.mp hf
  rw[L5.mpr fun i hi=>by
   have:=h0 i hi
   cases hb:f i==0 with
   | true=>rfl
   | false=>rw[hb]at this;exact absurd this (by simp)]
  rfl
 | some x =>
  obtain⟨i,hi,h1,h2⟩:=V7 hf
  rw[A9t (r:=k x) hi (by
   cases hb:f i==0 with
   | true=>rw[hb]at h1;exact absurd h1 (by simp)
   | false =>
    rw[hb]at h1
    have h1:some ((i:Int),f i)=some x:=h1
    rw[← Z0e h1];rfl) fun j hj=>by
   have:=h2 j hj
   cases hb:f j==0 with
   | true=>rfl
   | false=>rw[hb]at this;exact absurd this (by simp)]
  rfl
theorem J1 {α:Type} [Inhabited α] {l:List α} {i:Nat} (h:i<l.length):l[i]! ∈ l:= by
 rw[getElem!_pos l i h];exact Z28 h
theorem B8h {α β:Type} [Inhabited α] (k:α→β) {l:List α} {i:Nat} (h:i<l.length):(l.take i).map k++[k l[i]!]=(l.take (i+1)).map k:= by
 rw[ZI h,getElem!_pos l i h,List.map_append];rfl
theorem D2g {f:Nat→Int} {n:Nat} (h:wrong f n=none):∀i,i<n→f i=0:= by
 intro i hi
 have:=L5.mp h i hi
 by_cases c:f i=0
 ·exact c
 ·have e:(f i==0)=false:=beq_eq_false_iff_ne.mpr c
  rw[e]at this;exact absurd this (by simp)
def gOk (g:PaGown):Bool :=
 !out 0 15 g.Looks&&(if g.Pawn then !out 0 5000 g.Loan&&(!out 0 500 g.Rate&&(!out 0 100 g.Fee&&(!out 0 364 g.Ago&&!out 0 364 g.Last)))
  else g.Loan==0&&(g.Rate==0&&(g.Fee==0&&(g.Ago==0&&g.Last==0))))
theorem out00 (x:Int):out 0 0 x = !(x==0):= by
 unfold out
 rw[Z00];simp;omega
theorem D9f (g:PaGown):A73 g=some (!gOk g):= by
 unfold A73 gOk
 cases hp:g.Pawn
 ·simp only[out1,Zd,Bool.not_false,if_true,Zj,if_false]
  rw[B42 _ _ _ (by simp)]
  simp only[List.any_cons,List.any_nil,out00,Zd,Z52]
  generalize out 0 15 g.Looks=b0
  generalize (g.Loan==0)=b1
  generalize (g.Rate==0)=b2
  generalize (g.Fee==0)=b3
  generalize (g.Ago==0)=b4
  generalize (g.Last==0)=b5
  cases b0 <;> cases b1 <;> cases b2 <;> cases b3 <;> cases b4 <;> cases b5 <;> rfl
 ·simp only[out1,out2,Zd,Z0s,Zj,if_false,if_true]
  generalize out 0 15 g.Looks=b0
  generalize out 0 5000 g.Loan=b1
  generalize out 0 500 g.Rate=b2
  generalize out 0 100 g.Fee=b3
  generalize out 0 364 g.Ago=b4
  generalize out 0 364 g.Last=b5
  cases b0 <;> cases b1 <;> cases b2 <;> cases b3 <;> cases b4 <;> cases b5 <;> rfl
theorem C9x (g:PaGown):A8a g=some (gOk g):= by
 unfold A8a gOk
 simp only[A5h,Zd,Z3o]
 cases hp:g.Pawn
 ·generalize out 0 15 g.Looks=b0
  generalize (g.Loan==0)=b1
  generalize (g.Rate==0)=b2
  generalize (g.Fee==0)=b3
  generalize (g.Ago==0)=b4
  generalize (g.Last==0)=b5
  cases b0 <;> cases b1 <;> cases b2 <;> cases b3 <;> cases b4 <;> cases b5 <;> rfl
 ·generalize out 0 15 g.Looks=b0
  generalize out 0 5000 g.Loan=b1
  generalize out 0 500 g.Rate=b2
  generalize out 0 100 g.Fee=b3
  generalize out 0 364 g.Ago=b4
  generalize out 0 364 g.Last=b5
  cases b0 <;> cases b1 <;> cases b2 <;> cases b3 <;> cases b4 <;> cases b5 <;> rfl
def fC (f:PaFigure):Int:=if out 0 364 f.Day||(out 0 364 f.Until||out 0 15 f.Needs) then 7 else if f.Day>f.Until then 2 else 0
theorem C38 (f:PaFigure):A45 f=some (fC f):= by
 unfold A45 fC
 simp only[A5h,Zd,Z3o]
 generalize out 0 364 f.Day=b1
 generalize out 0 364 f.Until=b2
 generalize out 0 15 f.Needs=b3
 by_cases hd:f.Day>f.Until <;> cases b1 <;> cases b2 <;> cases b3 <;> simp[hd]
def B1z (l:List PaGown) (i:Nat):Int:=if P3 l[i]!.Name ((l.take i).map (·.Name))=0 then (if gOk l[i]! then 0 else 7) else P3 l[i]!.Name ((l.take i).map (·.Name))
def B1v (l:List PaFigure) (i:Nat):Int:=if P3 l[i]!.Name ((l.take i).map (·.Name))=0 then fC l[i]! else P3 l[i]!.Name ((l.take i).map (·.Name))
def B14 (l:List PaIncome) (i:Nat):Int:=if out 0 364 l[i]!.Day||out 0 10000 l[i]!.Pence then 7 else 0
def chk (s:PaShow):Int×Int×Int :=
 if s.Gowns.length>5 then (1,0,3) else
 match wrong (B1z s.Gowns) s.Gowns.length with
 | some x=>(1,x)
 | none =>
  if s.Figures.length>3 then (2,0,3) else
  match wrong (B1v s.Figures) s.Figures.length with
  | some x=>(2,x)
  | none =>
   if out 0 10000 s.Purse then (3,0,7) else
   if s.Incomes.length>3 then (4,0,3) else
   match wrong (B14 s.Incomes) s.Incomes.length with
   | some x=>(4,x)
   | none=>(0,0,0)
def NB (s:PaShow):Prop:=(∀ v∈s.Gowns,v.Name.size<9223372036854775808)∧(∀ v∈s.Figures,v.Name.size<9223372036854775808)
theorem C16 (s:ByteArray) (l:List ByteArray):P3 s l=if A5m s then (if l.any (fun y=>eqS y s) then 5 else 0) else 6:=rfl
theorem D1n {l:List PaGown} {i:Nat} (hi:i<l.length) (hl:l.length≤100) (hb:∀v∈l,v.Name.size<9223372036854775808) :
  R9 l (i:Int) (fun y=>A2m y)=some (P3 l[i]!.Name ((l.take i).map (·.Name))):= by
 unfold R9
 rw[G9 hi]
 simp only[Zd,A2m]
 rw[B35 _ (hb _ (J1 hi))]
 simp only[Zd]
 rw[C16]
 cases A5m l[i]!.Name with
 | false=>rfl
 | true =>
  rw[B6x (Z4b hi)]
  simp only[Zd,Z0s,Zj,if_false]
  rw[C3o _ _ (fun y=>eqS y.Name l[i]!.Name) (by rw[ZC];omega) (fun x _=>by unfold Q2;rw[G9 hi];rfl),Z5a]
  rw[show ((fun y=>eqS y l[i]!.Name)∘fun (x:PaGown)=>x.Name)=(fun (y:PaGown)=>eqS y.Name l[i]!.Name) from Z]
  cases (l.take i).any (fun (y:PaGown)=>eqS y.Name l[i]!.Name) <;> rfl
theorem C64 {l:List PaFigure} {i:Nat} (hi:i<l.length) (hl:l.length≤100) (hb:∀v∈l,v.Name.size<9223372036854775808) :
  Q0 l (i:Int) (fun y=>A2n y)=some (P3 l[i]!.Name ((l.take i).map (·.Name))):= by
 unfold Q0
 rw[G9 hi]
 simp only[Zd,A2n]
 rw[B35 _ (hb _ (J1 hi))]
 simp only[Zd]
 rw[C16]
 cases A5m l[i]!.Name with
 | false=>rfl
 | true =>
  rw[B6x (Z4b hi)]
  simp only[Zd,Z0s,Zj,if_false]
  rw[B9p _ _ (fun y=>eqS y.Name l[i]!.Name) (by rw[ZC];omega) (fun x _=>by unfold O5;rw[G9 hi];rfl),Z5a]
  rw[show ((fun y=>eqS y l[i]!.Name)∘fun (x:PaFigure)=>x.Name)=(fun (y:PaFigure)=>eqS y.Name l[i]!.Name) from Z]
  cases (l.take i).any (fun (y:PaFigure)=>eqS y.Name l[i]!.Name) <;> rfl
theorem C7o (s:PaShow) (hb:NB s):A30 s=some (chk s):= by
 unfold A30 chk
 by_cases h1:s.Gowns.length>5
 ·rw[if_pos (by simp;omega),if_pos h1]
 rw[if_neg (by simp;omega),if_neg h1]
 rw[A5k (b:=A29 s) s.Gowns.length (B1z s.Gowns) (fun x=>.inl (1,x)) (.inr ()) (by omega) (fun i hi=>by
  unfold A29 B1z
  rw[if_pos (by simpa using hi),G9 hi]
  simp only[Zd]
  rw[D1n hi (by omega) hb.1,D9f]
  simp only[Zd]
  generalize P3 s.Gowns[i]!.Name ((s.Gowns.take i).map (·.Name))=z
  by_cases hz:z=0
  ·subst hz
   cases gOk s.Gowns[i]! <;> rfl
  ·have e1:(z==0)=false:=beq_eq_false_iff_ne.mpr hz
   have e2:(z != 0)=true:= by simpa using hz
   simp only[e1,e2,hz,Zj,if_false,if_true,Zd]) (by
  unfold A29
  rw[if_neg (by simp)])]
 simp only[Zd]
 cases hw:wrong (B1z s.Gowns) s.Gowns.length with
 | some x=>rfl
 | none =>
  simp only
  by_cases h2:s.Figures.length>3
  ·rw[if_pos (by simp;omega),if_pos h2]
  rw[if_neg (by simp;omega),if_neg h2]
  rw[A5k (b:=A3a s) s.Figures.length (B1v s.Figures) (fun x=>.inl (2,x)) (.inr ()) (by omega) (fun i hi=>by
   unfold A3a B1v
   rw[if_pos (by simpa using hi),G9 hi]
   simp only[Zd]
   rw[C64 hi (by omega) hb.2]
   simp only[Zd,out1,out2]
   generalize P3 s.Figures[i]!.Name ((s.Figures.take i).map (·.Name))=z
   by_cases hz:z=0
   ·subst hz
    unfold fC
    generalize s.Figures[i]! = f
    generalize out 0 364 f.Day=b1
    generalize out 0 364 f.Until=b2
    generalize out 0 15 f.Needs=b3
    by_cases hd:f.Until<f.Day
    ·cases b1 <;> cases b2 <;> cases b3 <;> simp[hd]
    ·cases b1 <;> cases b2 <;> cases b3 <;> simp[hd]
   ·have e1:(z==0)=false:=beq_eq_false_iff_ne.mpr hz
    have e2:(z != 0)=true:= by simpa using hz
    simp only[e1,e2,hz,Zj,if_false,if_true]) (by
   unfold A3a
   rw[if_neg (by simp)])]
  simp only[Zd]
  cases hw2:wrong (B1v s.Figures) s.Figures.length with
  | some x=>rfl
  | none =>
   simp only[out1,Zd]
   cases out 0 10000 s.Purse with
   | true=>rfl
   | false =>
    simp only[Zj,if_false]
    by_cases h3:s.Incomes.length>3
    ·rw[if_pos (by simp;omega),if_pos h3]
    rw[if_neg (by simp;omega),if_neg h3]
    rw[A5k (b:=A3b s) s.Incomes.length (B14 s.Incomes) (fun x=>.inl (4,x)) (.inr ()) (by omega) (fun i hi=>by
     unfold A3b B14
     rw[if_pos (by simpa using hi),G9 hi]
     simp only[Zd,out1]
     generalize out 0 364 s.Incomes[i]!.Day=b1
     generalize out 0 10000 s.Incomes[i]!.Pence=b2
     cases b1 <;> cases b2 <;> rfl) (by
     unfold A3b
     rw[if_neg (by simp)])]
    simp only[Zd]
    cases wrong (B14 s.Incomes) s.Incomes.length <;> rfl
theorem C10 {α ρ:Type} [Inhabited α] (l:List α) (nm:α→ByteArray) (f:Nat→Int) (k:Int×Int→ρ) {b:Int×List ByteArray→Option ((Int×List ByteArray)⊕(ρ⊕List ByteArray))} (hl:l.length≤100)
  (hs:∀i:Nat,i<l.length→b ((i:Int),(l.take i).map nm)=some (if f i==0 then .inl (w64 ((i:Int)+1),(l.take (i+1)).map nm) else .inr (.inl (k ((i:Int),f i)))))
  (he:b ((l.length:Int),l.map nm)=some (.inr (.inr (l.map nm)))) :
  loop b (0,[])=some (match wrong f l.length with|some x=>.inl (k x)|none=>.inr (l.map nm)):= by
 have:=B3h (b:=b) (fun i=>((i:Int),(l.take i).map nm)) l.length (fun i=>if f i==0 then none else some (.inl (k ((i:Int),f i)))) (.inr (l.map nm)) (by omega) (fun i hi _=>by
  rw[hs i hi,D7 (by omega)]
  cases f i==0 <;> rfl) (fun _=>by
  rw[Z0g];exact he)
 rw[show ((0:Int),([]:List ByteArray))=(((0:Nat):Int),(l.take 0).map nm) from Z,this]
 unfold wrong
 cases hf:first (fun i=>if f i==0 then none else some ((i:Int),f i)) l.length with
 | none =>
  rw[L5.mpr fun i hi=>by
   have:=L5.mp hf i hi
   cases hb:f i==0 with
   | true=>rfl
   | false=>rw[hb]at this;exact absurd this (by simp)]
  rfl
 | some x =>
  obtain⟨i,hi,h1,h2⟩:=V7 hf
  rw[A9t (r:=(.inl (k x):ρ⊕List ByteArray)) hi (by
   cases hb:f i==0 with
   | true=>rw[hb]at h1;exact absurd h1 (by simp)
   | false=>rw[hb]at h1;have h1:some ((i:Int),_)=some x:=h1;rw[← Z0e h1];rfl) fun j hj=>by
   have:=h2 j hj
   cases hb:f j==0 with
   | true=>rfl
   | false=>rw[hb]at this;exact absurd this (by simp)]
  rfl
theorem A0y (s:PaShow):V3 s=some (chk s):= by
 unfold V3 chk
 by_cases h1:s.Gowns.length>5
 ·rw[if_pos (by simp;omega),if_pos h1]
 rw[if_neg (by simp;omega),if_neg h1]
 rw[C10 (b:=A13 s) s.Gowns (·.Name) (B1z s.Gowns) (fun x=>(1,x)) (by omega) (fun i hi=>by
  unfold A13 B1z
  simp only[]
  rw[if_pos (by simpa using hi),G9 hi]
  simp only[Zd]
  rw[B6n _ _ (by rw[Zi,ZC];omega),C9x,A0l (by omega) (by rw[Zi,ZC];simp;omega),B8h (fun x:PaGown=>x.Name) hi]
  simp only[Zd]
  generalize P3 s.Gowns[i]!.Name ((s.Gowns.take i).map (·.Name))=z
  by_cases hz:z=0
  ·subst hz
   cases gOk s.Gowns[i]! <;> rfl
  ·have e1:(z==0)=false:=beq_eq_false_iff_ne.mpr hz
   have e2:(z != 0)=true:= by simpa using hz
   simp only[e1,e2,hz,Zj,if_false,if_true,Zd]) (by
  unfold A13
  rw[if_neg (by simp)])]
 simp only[Zd]
 cases hw:wrong (B1z s.Gowns) s.Gowns.length with
 | some x=>rfl
 | none =>
  simp only
  by_cases h2:s.Figures.length>3
  ·rw[if_pos (by simp;omega),if_pos h2]
  rw[if_neg (by simp;omega),if_neg h2]
  rw[C10 (b:=A14 s) s.Figures (·.Name) (B1v s.Figures) (fun x=>(2,x)) (by omega) (fun i hi=>by
   unfold A14 B1v
   simp only[]
   rw[if_pos (by simpa using hi),G9 hi]
   simp only[Zd]
   rw[B6n _ _ (by rw[Zi,ZC];omega),C38,A0l (by omega) (by rw[Zi,ZC];simp;omega),B8h (fun x:PaFigure=>x.Name) hi]
   simp only[Zd]
   generalize P3 s.Figures[i]!.Name ((s.Figures.take i).map (·.Name))=z
   by_cases hz:z=0
   ·subst hz
    generalize fC s.Figures[i]! = y
    by_cases hy:y=0
    ·subst hy;rfl
    ·have e1:(y==0)=false:=beq_eq_false_iff_ne.mpr hy
     have e2:(y != 0)=true:= by simpa using hy
     simp[e1,e2]
   ·have e1:(z==0)=false:=beq_eq_false_iff_ne.mpr hz
    have e2:(z != 0)=true:= by simpa using hz
    simp only[e1,e2,hz,Zj,if_false,if_true]) (by
   unfold A14
   rw[if_neg (by simp)])]
  simp only[Zd]
  cases hw2:wrong (B1v s.Figures) s.Figures.length with
  | some x=>rfl
  | none =>
   simp only[A5h,Zd,Z3o]
   cases out 0 10000 s.Purse with
   | true=>rfl
   | false =>
    simp only[Zj,if_false]
    by_cases h3:s.Incomes.length>3
    ·rw[if_pos (by simp;omega),if_pos h3]
    rw[if_neg (by simp;omega),if_neg h3]
    rw[A5k (b:=A15 s) s.Incomes.length (B14 s.Incomes) (fun x=>.inl (4,x)) (.inr ()) (by omega) (fun i hi=>by
     unfold A15 B14
     rw[if_pos (by simpa using hi),G9 hi]
     simp only[Zd,A5h,Z3o]
     generalize out 0 364 s.Incomes[i]!.Day=b1
     generalize out 0 10000 s.Incomes[i]!.Pence=b2
     cases b1 <;> cases b2 <;> rfl) (by
     unfold A15
     rw[if_neg (by simp)])]
    simp only[Zd]
    cases wrong (B14 s.Incomes) s.Incomes.length <;> rfl
end Pw
end
section
set_option maxRecDepth 100000
set_option maxHeartbeats 0
namespace Pw
open Go Am Go.Proofs.YtjpjdglddmhplaaGreat.Cd
def A21 (a0:Int):Option Bool :=
 some (a0 != a0)
theorem A93 {c:Sc} {H:A2} {a0:Int} {r:Bool} (h:A21 a0=some r) :
  F0 tab c H (.fn (.func 137) [] []) [.i a0] [.b r]:= by
 unfold A21 at h
 refine cE Z Z<|s0<|qm Z<|es (ra1 Z)<|s0<|qm Z<|qm Z<|A0 (I8 Z Z) Z<|qm Z<|es (ra1 Z)<|C7 ?_
 obtain rfl:=os h
 exact retq trivial (A7 Z B7) (A5 Z B6) (A3 A4 B1)
def A4m (a0:Int) (a1:Int):Option Bool :=
 (A21 a0).bind fun x1 =>
 (if x1=true then
  (A21 a1).bind fun x3 =>
  some (!x3)
 else
  some false).bind fun x4 =>
 some (x4||(decide (a0<a1)))
theorem B9r {c:Sc} {H:A2} {a0:Int} {a1:Int} {r:Bool} (h:A4m a0 a1=some r) :
  F0 tab c H (.fn (.func 127) [] []) [.i a0,.i a1] [.b r]:= by
 unfold A4m at h
 refine cE Z Z<|s0<|qm Z<|es (ra2 Z Z)<|s0<|oB h fun x1 hx1 h=>oB h fun x4 hx4 h=>qm Z<|B2 (rs:=[.b x1]) Z Z (A1 Z B3) ((A93 hx1).frz)<|qm Z<|gp 4 11 (.b x4) 7 Z Z (fun hg2=>?_) (fun hg2=>?_) ?_
 ·refine oB (bt hx4 hg2) fun x3 hx3 hx4=>?_
  obtain rfl:=os hx4
  exact gT Z hg2<|qm Z<|gT Z hg2<|B2 (rs:=[.b x3]) Z Z (A1 Z B3) ((A93 hx3).frz)<|gT Z hg2<|A0 (M9 Z) Z<|A0 (C3 Z hg2 Z) Z<|ge 4 Z Z Z
 ·obtain rfl:=os (bf hx4 hg2)
  exact nT Z hg2 Z<|G4 (D2 Z (by rw[hg2];rfl)) Z<|nT Z hg2 Z<|A0 (C2 Z hg2 Z) Z<|ge 4 Z Z Z
 refine qm Z<|gp 4 16 (.b (x4||(decide (a0<a1)))) 12 Z Z (fun hg5=>?_) (fun hg5=>?_) ?_
 ·exact nF Z hg5 Z<|nF Z hg5 Z<|nF Z hg5 Z<|A0 (C3 Z hg5 Z) Z<|ge 4 (by rw[hg5];rfl) Z Z
 ·exact gF Z hg5<|qm Z<|gF Z hg5<|qm Z<|gF Z hg5<|A0 (I0 Z Z) Z<|A0 (C2 Z hg5 Z) Z<|ge 4 (by rw[hg5];rfl) Z Z
 refine qm Z<|es (ra1 Z)<|C7 ?_
 obtain rfl:=os h
 exact retq trivial (A7 Z B7) (A5 Z B6) (A3 A4 B1)
def A6q (a0:Int):Option Int :=
 (if (decide (a0≥4294967296))=true then
  (D81 .u64 a0 32).bind fun x3 =>
  some (x3,32)
  else
  some (a0,0)).bind fun (p1:(Int×Int)) =>
 (if (decide (p1.1≥65536))=true then
  (D81 .u64 p1.1 16).bind fun x6 =>
  some (x6,(w64 (p1.2+16)))
  else
  some (p1.1,p1.2)).bind fun (p4:(Int×Int)) =>
 if (decide (p4.1≥256))=true then
  (D81 .u64 p4.1 8).bind fun x8 =>
  (B6z (ByteArray.mk #[0,1,2,2,3,3,3,3,4,4,4,4,4,4,4,4,5,5,5,5,5,5,5,5,5,5,5,5,5,5,5,5,6,6,6,6,6,6,6,6,6,6,6,6,6,6,6,6,6,6,6,6,6,6,6,6,6,6,6,6,6,6,6,6,7,7,7,7,7,7,7,7,7,7,7,7,7,7,7,7,7,7,7,7,7,7,7,7,7,7,7,7,7,7,7,7,7,7,7,7,7,7,7,7,7,7,7,7,7,7,7,7,7,7,7,7,7,7,7,7,7,7,7,7,7,7,7,7,8,8,8,8,8,8,8,8,8,8,8,8,8,8,8,8,8,8,8,8,8,8,8,8,8,8,8,8,8,8,8,8,8,8,8,8,8,8,8,8,8,8,8,8,8,8,8,8,8,8,8,8,8,8,8,8,8,8,8,8,8,8,8,8,8,8,8,8,8,8,8,8,8,8,8,8,8,8,8,8,8,8,8,8,8,8,8,8,8,8,8,8,8,8,8,8,8,8,8,8,8,8,8,8,8,8,8,8,8,8,8,8,8,8,8,8,8,8,8,8,8,8,8,8,8,8,8,8]) (IntKind.u8.wrap x8)).bind fun x9 =>
  some (w64 ((w64 (p4.2+8))+(w64 x9)))
 else
  (B6z (ByteArray.mk #[0,1,2,2,3,3,3,3,4,4,4,4,4,4,4,4,5,5,5,5,5,5,5,5,5,5,5,5,5,5,5,5,6,6,6,6,6,6,6,6,6,6,6,6,6,6,6,6,6,6,6,6,6,6,6,6,6,6,6,6,6,6,6,6,7,7,7,7,7,7,7,7,7,7,7,7,7,7,7,7,7,7,7,7,7,7,7,7,7,7,7,7,7,7,7,7,7,7,7,7,7,7,7,7,7,7,7,7,7,7,7,7,7,7,7,7,7,7,7,7,7,7,7,7,7,7,7,7,8,8,8,8,8,8,8,8,8,8,8,8,8,8,8,8,8,8,8,8,8,8,8,8,8,8,8,8,8,8,8,8,8,8,8,8,8,8,8,8,8,8,8,8,8,8,8,8,8,8,8,8,8,8,8,8,8,8,8,8,8,8,8,8,8,8,8,8,8,8,8,8,8,8,8,8,8,8,8,8,8,8,8,8,8,8,8,8,8,8,8,8,8,8,8,8,8,8,8,8,8,8,8,8,8,8,8,8,8,8,8,8,8,8,8,8,8,8,8,8,8,8,8,8,8,8,8,8]) (IntKind.u8.wrap p4.1)).bind fun x10 =>
  some (w64 (p4.2+(w64 x10)))
theorem B4x {c:Sc} {H:A2} {a0:Int} {r:Int} (h:A6q a0=some r) :
  F0 tab c H (.fn (.func 131) [] []) [(.lit (.int .u64 a0))] [.i r]:= by
 unfold A6q at h
 refine cE Z Z<|s0<|qm Z<|es (ra2 Z Z)<|B8<|s0<|qm Z<|A0 (A8k Z Z) Z<|es (ra3 Z Z Z)<|oB h fun p1 hp1 h=>A6v (Q1:=fun e s' H'=>e=.normal∧s'=[(0,(.lit (.int .u64 p1.1))),(2,.i p1.2)]∧H'=(H++[])) ?_ ?_
 ·refine wi hp1 Z (fun hc2 hp1=>?_) fun hc2 hp1=>?_
  ·refine s0<|oB hp1 fun x3 hx3 hp1=>qm Z<|A0 (D8a Z Z hx3) Z<|qm Z<|es (ra1 Z)<|r0<|qm Z<|en (ra2 Z Z) ?_
   obtain rfl:=os hp1
   exact me (ZE Z (ZE Z Z)) (su2 Z Z)
  ·refine B9 ?_
   obtain rfl:=os hp1
   exact me (ZE Z (ZE Z Z)) (su2 Z Z)
 ·rintro e s' H' ⟨rfl,rfl,rfl⟩
  refine B8<|s0<|qm Z<|A0 (A8k Z Z) Z<|es (ra3 Z Z Z)<|oB h fun p4 hp4 h=>A6v (Q1:=fun e s' H'=>e=.normal∧s'=[(0,(.lit (.int .u64 p4.1))),(2,.i p4.2)]∧H'=(H++[])) ?_ ?_
  ·refine wi hp4 Z (fun hc5 hp4=>?_) fun hc5 hp4=>?_
   ·refine s0<|oB hp4 fun x6 hx6 hp4=>qm Z<|A0 (D8a Z Z hx6) Z<|qm Z<|es (ra2 Z Z)<|r0<|qm Z<|A0 (D9 Z Z) Z<|qm Z<|en (ra2 Z Z) ?_
    obtain rfl:=os hp4
    exact me (ZE Z (ZE Z Z)) (su2 Z Z)
   ·refine B9 ?_
    obtain rfl:=os hp4
    exact me (ZE Z (ZE Z Z)) (su2 Z Z)
  ·rintro e s' H' ⟨rfl,rfl,rfl⟩
   refine B8<|s0<|qm Z<|A0 (A8k Z Z) Z<|es (ra3 Z Z Z)<|wi h Z (fun hc7 h=>?_) fun hc7 h=>?_
   ·refine s0<|oB h fun x8 hx8 h=>qm Z<|A0 (D8a Z Z hx8) Z<|qm Z<|es (ra2 Z Z)<|r0<|qm Z<|A0 (D9 Z Z) Z<|qm Z<|en (ra2 Z Z)<|s0<|oB h fun x9 hx9 h=>qm Z<|qm Z<|A0 (A9d Z) Z<|A0 (B2b Z Z hx9) Z<|A0 (A9d Z) Z<|A0 (D9 Z Z) Z<|qm Z<|es (ra1 Z)<|C7 ?_
    obtain rfl:=os h
    exact retq trivial (A7 Z B7) (A5 Z B6) (A3 A4 B1)
   ·refine B9<|s0<|oB h fun x10 hx10 h=>qm Z<|qm Z<|A0 (A9d Z) Z<|A0 (B2b Z Z hx10) Z<|A0 (A9d Z) Z<|A0 (D9 Z Z) Z<|qm Z<|es (ra1 Z)<|C7 ?_
    obtain rfl:=os h
    exact retq trivial (A7 Z B7) (A5 Z B6) (A3 A4 B1)
def A56 (a0:Int):Option Int :=
 (A6q a0).bind fun x1 =>
 some x1
theorem B72 {c:Sc} {H:A2} {a0:Int} {r:Int} (h:A56 a0=some r) :
  F0 tab c H (.fn (.func 115) [] []) [(.lit (.int .u64 a0))] [.i r]:= by
 unfold A56 at h
 refine cE Z Z<|s0<|qm Z<|es (ra1 Z)<|B8<|S9 Z Z<|B9<|s0<|oB h fun x1 hx1 h=>qm Z<|B2 (rs:=[.i x1]) Z Z (A1 Z B3) ((B4x hx1).frz)<|qm Z<|es (ra1 Z)<|C7 ?_
 obtain rfl:=os h
 exact retq trivial (A7 Z B7) (A5 Z B6) (A3 A4 B1)
end Pw
end
section
set_option maxRecDepth 100000
namespace Am
open Go
theorem C5f {σ ρ:Type} {b:σ→Option (σ⊕ρ)} (I:σ→Prop) (J:ρ→Prop) (hs:∀x y,I x→b x=some (.inl y)→I y) (he:∀x r,I x→b x=some (.inr r)→J r) {x0:σ} {r:ρ} (h0:I x0) (h:loop b x0=some r):J r:= by
 have key:∀n x0,I x0→A7t b n x0=some r→J r:= by
  intro n
  induction n with
  | zero=>intro x0 _ h;cases h
  | succ n ih =>
   intro x0 hI h
   rw[L6]at h
   split at h
   ·next x' hb=>exact ih x' (hs _ _ hI hb) h
   ·next r' hb=>simp only[Za]at h;subst h;exact he _ _ hI hb
   ·cases h
 exact key _ _ h0 h
end Am
namespace Pw
open Go Am Go.Proofs.YtjpjdglddmhplaaGreat.Cd
def A3v (a:Int) (s:Int×List Int):Option ((Int×List Int)⊕List Int) :=
 (if (decide (s.1>a))=true then (idx s.2 s.1).bind fun x=>(idx s.2 (w64 (s.1-1))).bind fun y=>(A4m x y).bind fun z=>some z else some false).bind fun g =>
 if g=true then
  (idx s.2 (w64 (s.1-1))).bind fun y=>(idx s.2 s.1).bind fun x =>
  (idx (T3 s.2 s.1 y) (w64 (s.1-1))).bind fun _ =>
  some (.inl (w64 (s.1-1),T3 (T3 s.2 s.1 y) (w64 (s.1-1)) x))
 else some (.inr s.2)
def A85 (a b:Int) (s:Int×List Int):Option ((Int×List Int)⊕List Int) :=
 if (decide (s.1<b))=true then
  (loop (A3v a) (s.1,s.2)).bind fun l=>some (.inl (w64 (s.1+1),l))
 else some (.inr s.2)
def C5y (a b:Int) (l:List Int):Option (List Int):=loop (A85 a b) (w64 (a+1),l)
def ar1 (l:List Int):AO:=.arr 1 false (l.map cI)
theorem D82 {c:Sc} {A B:A2} {a b:Int} {l r:List Int} (h:C5y a b l=some r) :
  L3 tab c (A++(ar1 l::B)) (.fn (.func 121) [] []) [.asl (A.length+0) l.length,.i a,.i b] [] (A++(ar1 r::B)):= by
 unfold C5y at h
 have htk:∀x:AO,(x::B).take (B.length+1)=x::B:=fun x=>ZO (Zn _)
 refine A1t (aq:=[.asl (A.length+0) l.length,.i a,.i b]) Z Z Z ?_
 refine s0<|qm Z<|A0 (D9 Z Z) Z<|qm Z<|es (ra4 Z Z Z Z)<|C5<|wl (fun s=>[(0,.asl (A.length+0) s.2.length),(1,.i a),(2,.i b),(6,.i s.1)]) (fun (_:Unit) s=>ar1 s.2::B) (B.length+1) (fun r e s' H'=>PX 0 [] (A++(ar1 r::B)) e s' H') () h Z Z (fun _ _=>rfl) (fun _=>rfl) Z (fun s=>bdc (R3 (Zl (by omega))) (bdc A4 (bdc A4 (bdc A4 bdn)))) (fun _ s o hs=>?_) ?_
 ·unfold A85 at hs
  refine B8<|s0<|qm Z<|qm Z<|A0 (I0 Z Z) Z<|es (ra5 Z Z Z Z Z)<|wi hs Z (fun hc hs=>?_) fun hc hs=>?_
  ·refine oB hs fun l1 hl1 hs=>?_
   refine B9<|B8<|C5<|s0<|qm Z<|qm Z<|es (ra5 Z Z Z Z Z)<|C5<|wl (fun t=>[(0,.asl (A.length+0) t.2.length),(1,.i a),(2,.i b),(6,.i s.1),(7,.i t.1)]) (fun (_:Unit) t=>ar1 t.2::B) (B.length+1) (fun r e s' H'=>PX 2 [(0,.asl (A.length+0) r.length),(1,.i a),(2,.i b),(6,.i s.1)] (A++(ar1 r::B)) e s' H') () hl1 Z Z (fun _ _=>rfl) (fun _=>rfl) Z (fun t=>bdc (R3 (Zl (by omega))) (bdc A4 (bdc A4 (bdc A4 (bdc A4 bdn))))) (fun _ t o' ht=>?_) ?_
   ·unfold A3v at ht
    refine oB ht fun g hg ht=>?_
    refine B8<|s0<|qm Z<|qm Z<|A0 (X6 Z Z) Z<|qm Z<|gp 11 30 (.b g) 19 Z Z (fun hb=>?_) (fun hb=>?_) ?_
    ·refine oB (bt hg hb) fun x hx hg=>oB hg fun y hy hg=>oB hg fun z hz hg=>?_
     obtain rfl:=os hg
     exact gT Z hb<|qm Z<|gT Z hb<|qm Z<|gT Z hb<|A0 (A2z (f:=cI) Z Z Z Z hx) Z<|gT Z hb<|A0 (A1m (x:=.i x) Z Z (Zi _) (A2e hx) Z) Z<|gT Z hb<|qm Z<|gT Z hb<|qm Z<|gT Z hb<|A0 (W6 Z Z) Z<|gT Z hb<|A0 (A2z (f:=cI) Z Z Z Z hy) Z<|gT Z hb<|A0 (A1m (x:=.i y) Z Z (Zi _) (A2e hy) Z) Z<|gT Z hb<|B2 (rs:=[.b z]) Z Z (A1 Z (A1 Z B3)) ((B9r hz).frz)<|A0 (C3 Z hb Z) Z<|ge 11 Z Z Z
    ·obtain rfl:=os (bf hg hb)
     exact nT Z hb Z<|nT Z hb Z<|nT Z hb Z<|nT Z hb Z<|nT Z hb Z<|nT Z hb Z<|nT Z hb Z<|nT Z hb Z<|nT Z hb Z<|G4 (D2 Z (by rw[hb];rfl)) Z<|A0 (C2 Z hb Z) Z<|ge 11 Z Z Z
    ·refine es (ra6 Z Z Z Z Z Z)<|wi ht Z (fun hc2 ht=>?_) fun hc2 ht=>?_
     ·refine oB ht fun y hy ht=>oB ht fun x hx ht=>oB ht fun w hw ht=>?_
      refine B9<|B8<|C5<|r0<|qm Z<|qm Z<|qm Z<|qm Z<|A0 (W6 Z Z) Z<|A0 (A2z (f:=cI) Z Z Z Z hy) Z<|A0 (A1m (x:=.i y) Z Z (Zi _) (A2e hy) Z) Z<|qm Z<|qm Z<|A0 (A2z (f:=cI) Z Z Z Z hx) Z<|A0 (A1m (x:=.i x) Z Z (Zi _) (A2e hx) Z) Z<|A0 (A2z (f:=cI) Z Z Z Z hx) Z<|P5 (B2c (ds:=cI y) Z Z Z Z Z (Zi _) (A2e hx) Z Z) Z ?_
      rw[B18]
      refine qm Z<|qm Z<|A0 (W6 Z Z) Z<|A0 (A2z (f:=cI) (e:=T3 t.2 t.1 y) Z Z Z (Y7 _ _ _) hw) Z<|P5 (B2c (ds:=cI x) Z Z Z Z Z (by rw[Zi,Y7]) (A2e hw) Z Z) Z ?_
      rw[B18]
      refine en (ra5 Z Z Z Z Z)<|r0<|qm Z<|A0 (W6 Z Z) Z<|qm Z<|en (ra5 Z Z Z Z Z) ?_
      cases ht
      exact lnT () (htk _) (su5 (by simp only[Y7];rfl) Z Z Z Z)
     ·refine G5 ?_
      obtain rfl:=os ht
      exact lx Z px (su4 Z Z Z Z)
   ·rintro e s' H'-⟨rfl,rfl,rfl⟩
    refine r0<|qm Z<|A0 (D9 Z Z) Z<|qm Z<|en (ra4 Z Z Z Z) ?_
    cases hs
    exact lnT () (htk _) (su4 Z Z Z Z)
  ·refine G5 ?_
   obtain rfl:=os hs
   exact lx Z px (Sub.nil _)
 ·rintro e s' H'-⟨rfl,rfl,rfl⟩
  show B1l _ _ _ _ .normal _ _
  exact C20 trivial B7 B6 B1 (ZO (by simp))
def D8u (a b:Int) (l:List Int):Option (List Int):=if (decide (w64 (b-a)≤12))=true then C5y a b l else none
theorem E07 {c:Sc} {A B:A2} {a b k:Int} {l r:List Int} (h:D8u a b l=some r) :
  L3 tab c (A++(ar1 l::B)) (.fn (.func 114) [] []) [.asl (A.length+0) l.length,.i a,.i b,.i k] [] (A++(ar1 r::B)):= by
 unfold D8u at h
 split at h
 ·next hc =>
  refine A1t (aq:=[.asl (A.length+0) l.length,.i a,.i b,.i k]) Z Z Z ?_
  refine s0<|qm Z<|es (ra5 Z Z Z Z Z)<|s0<|qm Z<|es (ra6 Z Z Z Z Z Z)<|C5<|D9b (B.length+1) Z _ (fun S hS=>Q8 (live:=[0,1,2,3,8,9]) Z (by decide) (Sub.trans (su6 Z Z Z Z Z Z) hS))<|C5<|s0<|qm Z<|qm Z<|A0 (W6 Z Z) Z<|qm Z<|es (ra7 Z Z Z Z Z Z Z)<|B8<|s0<|qm Z<|A0 (A4k Z Z) Z<|es (ra8 Z Z Z Z Z Z Z Z)<|Q4 Z hc<|s0<|qm Z<|qm Z<|qm Z<|O4 (A4e Z Z (D82 h) Z) Z<|es .n<|C7 ?_
  refine .out Z ?_
  show B1l _ _ _ _ .ret _ _
  exact C20 trivial B7 B6 B1 (ZO (by simp))
 ·cases h
def B9f (l:List Int):Option (List Int) :=
 (A56 (IntKind.u64.wrap (Zh l:Int))).bind fun _=>D8u 0 (Zh l:Int) l
theorem E1f {c:Sc} {A B:A2} {l r:List Int} (h:B9f l=some r) :
  L3 tab c (A++(ar1 l::B)) (.fn (.func 97) [] []) [.asl (A.length+0) l.length] [] (A++(ar1 r::B)):= by
 unfold B9f at h
 refine oB h fun k hk h=>?_
 refine A1t (aq:=[.asl (A.length+0) l.length]) Z Z Z ?_
 refine s0<|qm Z<|A0 (B7z (f:=cI) Z Z Z) Z<|qm Z<|es (ra2 Z Z)<|r0<|qm Z<|qm Z<|qm Z<|A0 (A9d Z) Z<|B2 (rs:=[.i k]) Z Z (A1 Z B3) ((B72 hk).frz)<|O4 (A4e Z Z (E07 h) Z) Z<|en .n ?_
 show B1l _ _ _ _ .normal _ _
 exact C20 trivial B7 B6 B1 (ZO (by simp))
theorem D5u {a b:Int} {l r:List Int} (h:C5y a b l=some r):r.length=l.length:= by
 unfold C5y at h
 refine C5f (fun s=>s.2.length=l.length) (fun r=>r.length=l.length) (fun x y hx hy=>?_) (fun x r hx hr=>?_) Z h
 ·unfold A85 at hy
  split at hy
  ·refine oB hy fun l1 hl1 hy=>?_
   cases hy
   refine C5f (fun s=>s.2.length=l.length) (fun r=>r.length=l.length) (fun x y hx hy=>?_) (fun x r hx hr=>?_) hx hl1
   ·unfold A3v at hy
    refine oB hy fun g _ hy=>?_
    split at hy
    ·refine oB hy fun _ _ hy=>oB hy fun _ _ hy=>oB hy fun _ _ hy=>?_
     cases hy
     simpa only[Y7] using hx
    ·cases hy
   ·unfold A3v at hr
    refine oB hr fun g _ hr=>?_
    split at hr
    ·refine oB hr fun _ _ hr=>oB hr fun _ _ hr=>oB hr fun _ _ hr=>?_
     cases hr
    ·cases hr;exact hx
  ·cases hy
 ·unfold A85 at hr
  split at hr
  ·refine oB hr fun _ _ hr=>?_
   cases hr
  ·cases hr;exact hx
theorem D5v {l r:List Int} (h:B9f l=some r):r.length=l.length:= by
 unfold B9f D8u at h
 refine oB h fun _ _ h=>?_
 split at h
 ·exact D5u h
 ·cases h
end Pw
end
section
set_option maxRecDepth 100000
namespace Pw
open Go Am Go.Proofs.YtjpjdglddmhplaaGreat.Cd
def C8q (l:List Int) (k0:Int) (i:Int):Option Int:=if 0≤i∧i<((l.length-k0.toNat:Nat):Int) then idx l (k0+i) else none
theorem C8r {l:List Int} {k0 i a:Int} (h0:0≤k0) (h:C8q l k0 i=some a):0≤i∧i<((l.length-k0.toNat:Nat):Int)∧(l.map cI)[k0.toNat+i.toNat]? = some (cI a):= by
 unfold C8q at h
 split at h
 ·next h1 =>
  obtain⟨h2,h3⟩:=A8s h
  refine⟨h1.1,h1.2,?_⟩
  rw[show k0.toNat+i.toNat=(k0+i).toNat by omega,ZN,h3];rfl
 ·cases h
section
variable {T:Tab} {s:C0} {H0:A2} {l:List AO} {c:Sc} {n0:Nat}
theorem D8c {α:Type} {f:α→List AV} {k j m q:Nat} {p:Bool} {x:Opd} {lo hi:Option Opd} {e:List α} {a b:Int} (h:ev s x=some (.asl (H0.length+j) m)) (hl:l[j]? = some (.arr k p (e.map f))) (hm:e.length=m) (h1:bnd s 0 lo=some a) (h2:bnd s m hi=some b) (h3:0≤a∧a<b∧b≤m) (hq:b.toNat-a.toNat=q) :
  One T c n0 s (H0++l) (.sub k x lo hi) (.csl (H0.length+j) a.toNat m q) (H0++l):= by
 have:=E21 (T:=T) (c:=c) (n0:=n0) h hl hm h1 h2 ⟨h3.1,by omega,h3.2.2⟩
 rwa [if_neg (by omega),hq]at this
theorem E14 {N j k o m q:Nat} (h:ZH (j+1) k=true):(AV.csl (N+j) o m q).bd (N+k)=true:= by simp only[AV.bd];exact Zl (by have:=Zq h;omega)
end
def A1u (k0:Int) (s:Int×Int×List Int):Option ((Int×Int×List Int)⊕(Int×List Int)) :=
 if (decide (s.1<((s.2.2.length-k0.toNat:Nat):Int)))=true then
  (C8q s.2.2 k0 s.1).bind fun a=>(C8q s.2.2 k0 (w64 (s.1-1))).bind fun b =>
  if (a != b)=true then
   (idx s.2.2 s.2.1).bind fun _=>some (.inl (w64 (s.1+1),w64 (s.2.1+1),T3 s.2.2 s.2.1 a))
  else some (.inl (w64 (s.1+1),s.2.1,s.2.2))
 else some (.inr (s.2.1,s.2.2))
def clr (l:List Int) (k:Int):List Int:=l.take k.toNat++(List.replicate (l.length-k.toNat) 0++l.drop (k.toNat+(l.length-k.toNat)))
def A7m (l:List Int) (k:Int):Option (Int⊕(Bool×List Int)) :=
 if (decide (k<(l.length:Int)))=true then
  (idx l k).bind fun a=>(idx l (w64 (k-1))).bind fun b =>
  if (a==b)=true then
   (loop (A1u k) (1,k,l)).bind fun x =>
   if 0≤x.1∧x.1<(x.2.length:Int) then (slc (clr x.2 x.1) 0 x.1).bind fun r=>some (.inr (true,r)) else none
  else some (.inl (w64 (k+1)))
 else some (.inr (false,l))
def A9r (l:List Int):Option (Bool×List Int):=if (decide ((l.length:Int)<2))=true then some (false,l) else loop (A7m l) 1
theorem D2o {l:List Int} {k:Int} (h:0≤k∧k<(l.length:Int)):(clr l k).length=l.length:= by
 unfold clr;simp;omega
def CpP (A:A2) (X:AO) (l:List Int) (x:Bool×List Int) (e:Ex) (s:C0) (H:A2):Prop :=
 (x=(false,l)∧e=.exit 0∧s=[(0,.asl (A.length+0) l.length)]∧H=A++[ar1 l,X,.arr 1 false []]) ∨
 (x.1=true∧e=.ret∧s=[(2,.asl (A.length+3) x.2.length)]∧H=A++[.dead,X,.arr 1 false [],.arr 1 false (x.2.map cI)])
theorem D0y {c:Sc} {A:A2} {X:AO} {l:List Int} {x:Bool×List Int} (h:A9r l=some x) :
  L3 tab c (A++[ar1 l,X]) (.fn (.func 98) [] []) [.asl (A.length+0) l.length] (bif x.1 then [.fresh 1 (x.2.map cI)] else [.seq 1 (x.2.map cI)]) (A++[bif x.1 then .dead else .arr 1 true (l.map cI),X]):= by
 unfold A9r at h
 have hlen:(A++[ar1 l,X]).length=A.length+2:= by simp
 have fin0:∀s:C0,sget s 2=some (.asl (A.length+0) l.length)→B1l (A++[ar1 l,X]) (A++[.arr 1 true (l.map cI),X]) [.tmp 2] [.seq 1 (l.map cI)] .ret s (A++[ar1 l,X,.arr 1 false []]):=fun s hs=>by
  refine⟨trivial,_,_,A7 hs B7,by rw[hlen];exact A5 (D95 Z (Zi _) Z) B6,A3 G6 B1,?_⟩
  rw[hlen,B0d];rfl
 refine A1t (aq:=[.asl (A.length+0) l.length]) Z Z Z ?_
 refine sg (H0:=A) 2 Z<|A0 A49 Z<|es (ra1 Z)<|B8<|s0<|qm Z<|A0 (B7z (f:=cI) Z Z Z) Z<|A0 (I0 Z Z) Z<|es (ra2 Z Z)<|wi h Z (fun hc h=>?_) fun hc h=>?_
 ·refine s0<|qm Z<|qm Z<|es (ra1 Z)<|C7 ?_
  obtain rfl:=os h
  exact fin0 _ Z
 ·refine B9<|B8<|s0<|qm Z<|es (ra2 Z Z)<|C5<|wl (fun k=>[(0,.asl (A.length+0) l.length),(3,.i k)]) (fun (_:Unit) _=>[ar1 l,X,.arr 1 false []]) 3 (CpP A X l) () h Z Z (fun _ _=>rfl) (fun _=>rfl) Z (fun _=>bdc (R3 Z) (bdc A4 bdn)) (fun _ k o hs=>?_) ?_
  ·unfold A7m at hs
   refine B8<|s0<|qm Z<|qm Z<|A0 (B7z (f:=cI) Z Z Z) Z<|A0 (I0 Z Z) Z<|es (ra3 Z Z Z)<|wi hs Z (fun hc hs=>?_) fun hc hs=>?_
   ·refine oB hs fun a ha hs=>oB hs fun b hb hs=>?_
    have hk0:0≤k:=(A8s ha).1
    refine B9<|B8<|C5<|s0<|qm Z<|qm Z<|A0 (A2z (f:=cI) Z Z Z Z ha) Z<|A0 (A1m (x:=.i a) Z Z (Zi _) (A2e ha) Z) Z<|qm Z<|qm Z<|A0 (W6 Z Z) Z<|A0 (A2z (f:=cI) Z Z Z Z hb) Z<|A0 (A1m (x:=.i b) Z Z (Zi _) (A2e hb) Z) Z<|A0 (G2 Z Z) Z<|es (ra3 Z Z Z)<|wi hs Z (fun hc2 hs=>?_) fun hc2 hs=>?_
    ·refine oB hs fun y hy hs=>?_
     have hkl:k<(l.length:Int):= by have:=(Zf.1 (A8s ha).2).1;omega
     refine s0<|qm Z<|qm Z<|A0 (D8c (f:=cI) (e:=l) (q:=l.length-k.toNat) Z Z Z Z Z ⟨hk0,hkl,ZY _⟩ Z) Z<|qm Z<|es (ra3 Z Z Z)<|B8<|s0<|qm Z<|es (ra4 Z Z Z Z)<|C5<|wl (fun t=>[(0,.asl (A.length+0) t.2.2.length),(3,.i t.2.1),(4,.csl (A.length+0) k.toNat t.2.2.length (t.2.2.length-k.toNat)),(5,.i t.1)]) (fun (_:Unit) t=>[ar1 t.2.2,X,.arr 1 false []]) 3 (fun r e s' H'=>PX 2 [(0,.asl (A.length+0) r.2.length),(3,.i r.1)] (A++[ar1 r.2,X,.arr 1 false []]) e s' H') () hy Z Z (fun _ _=>rfl) (fun _=>rfl) Z (fun _=>bdc (R3 Z) (bdc A4 (bdc (E14 Z) (bdc A4 bdn)))) (fun _ t o ht=>?_) ?_
     ·unfold A1u at ht
      refine B8<|s0<|qm Z<|qm Z<|A0 (E0t Z) Z<|A0 (I0 Z Z) Z<|es (ra5 Z Z Z Z Z)<|wi ht Z (fun hc3 ht=>?_) fun hc3 ht=>?_
      ·refine oB ht fun u hu ht=>oB ht fun v hv ht=>?_
       obtain⟨u1,u2,u3⟩:=C8r hk0 hu
       obtain⟨v1,v2,v3⟩:=C8r hk0 hv
       refine B9<|B8<|C5<|s0<|qm Z<|qm Z<|A0 (D1o (f:=cI) Z Z Z Z u1 u2) Z<|A0 (A1m (x:=.i u) Z Z (Zi _) u3 Z) Z<|qm Z<|qm Z<|A0 (W6 Z Z) Z<|A0 (D1o (f:=cI) Z Z Z Z v1 v2) Z<|A0 (A1m (x:=.i v) Z Z (Zi _) v3 Z) Z<|A0 (I8 Z Z) Z<|es (ra5 Z Z Z Z Z)<|wi ht Z (fun hc4 ht=>?_) fun hc4 ht=>?_
       ·refine oB ht fun w hw ht=>?_
        refine s0<|qm Z<|qm Z<|qm Z<|qm Z<|A0 (D1o (f:=cI) Z Z Z Z u1 u2) Z<|A0 (A1m (x:=.i u) Z Z (Zi _) u3 Z) Z<|A0 (A2z (f:=cI) Z Z Z Z hw) Z<|P5 (B2c (ds:=cI u) Z Z Z Z Z (Zi _) (A2e hw) Z Z) Z ?_
        rw[B18]
        refine es (ra4 Z Z Z Z)<|r0<|qm Z<|A0 (D9 Z Z) Z<|qm Z<|en (ra4 Z Z Z Z)<|r0<|qm Z<|A0 (D9 Z Z) Z<|qm Z<|en (ra4 Z Z Z Z) ?_
        cases ht
        exact lnT () Z (su4 (by simp only[Y7];rfl) Z (by simp only[Y7];rfl) Z)
       ·refine B9<|r0<|qm Z<|A0 (D9 Z Z) Z<|qm Z<|en (ra4 Z Z Z Z) ?_
        cases ht
        exact lnT () Z (su4 Z Z Z Z)
      ·refine G5 ?_
       obtain rfl:=os ht
       exact lx Z px (su2 Z Z)
     ·rintro e s' H'-⟨rfl,rfl,rfl⟩
      obtain⟨k1,l1⟩:=y
      split at hs
      ·next hk1 =>
       refine oB hs fun r hr hs=>?_
       replace hk1:0≤k1∧k1<(l1.length:Int):=hk1
       replace hr:slc (clr l1 k1) 0 k1=some r:=hr
       have hcl:=D2o hk1
       refine s0<|qm Z<|qm Z<|A0 (D8c (f:=cI) (e:=l1) (q:=l1.length-k1.toNat) Z Z Z Z Z ⟨hk1.1,hk1.2,ZY _⟩ Z) Z<|P5 (E0o (f:=cI) (e:=l1) (a:=0) Z Z Z Z (show k1.toNat+(l1.length-k1.toNat)≤l1.length by omega) (show 0<l1.length-k1.toNat by omega)) Z<|es (ra2 Z Z)<|sg (H0:=A) 3 Z<|qm Z<|qm Z<|O4 (E49 (f:=cI) (e:=clr l1 k1) Z Z hcl Z hr) Z<|qm Z<|es (ra1 Z)<|C7 ?_
       cases hs
       exact lx Z (.inr ⟨Z,Z,Z,Z⟩) (su1 Z)
      ·cases hs
    ·refine B9<|r0<|qm Z<|A0 (D9 Z Z) Z<|qm Z<|en (ra2 Z Z) ?_
     cases hs
     exact lnT () Z (su2 Z Z)
   ·refine G5 ?_
    obtain rfl:=os hs
    exact lx Z (.inl ⟨Z,Z,Z,Z⟩) (su1 Z)
  ·rintro e s' H'-(⟨rfl,rfl,rfl,rfl⟩|⟨hx,rfl,rfl,rfl⟩)
   ·refine s0<|qm Z<|qm Z<|es (ra1 Z)<|C7 ?_
    exact fin0 _ Z
   ·obtain⟨d,r⟩:=x
    obtain rfl:d=true:=hx
    show B1l _ _ _ _ .ret _ _
    refine⟨trivial,_,_,A7 Z B7,by rw[hlen];exact A5 (E2k Z (Zi _) Z) B6,A3 X7 B1,?_⟩
    rw[hlen,B0d];rfl
end Pw
end
section
namespace Pw
open Go Am
abbrev Srt (l:List Int):Prop:=l.Pairwise (·≤·)
abbrev Str (l:List Int):Prop:=l.Pairwise (· < ·)
theorem D3g (x y:Int):A4m x y=some (decide (x<y)):= by
 unfold A4m A21
 simp
theorem D36:∀(m:Nat) (P:List Int) (x:Int) (R:List Int) (n:Nat),P.length=m→Srt P→m<4611686018427387904→m+1≤n→∃ Q,A7t (A3v 0) n ((m:Int),P++x::R)=some (Q++R)∧Srt Q∧Q.Perm (x::P)
 | 0,P,x,R,n+1,hP,hs,_,_=>by
  obtain rfl:=List.length_eq_zero_iff.mp hP
  refine⟨[x],?_,by simp[Srt],List.Perm.refl _⟩
  rw[L6]
  have:A3v 0 (((0:Nat):Int),[]++x::R)=some (.inr (x::R)):= by unfold A3v;simp
  rw[this];rfl
 | m+1,P,x,R,n+1,hP,hs,hm,hn=>by
  obtain⟨P',y,rfl⟩:∃P' y,P=P'++[y]:=⟨P.dropLast,P.getLast (by intro e;rw[e]at hP;cases hP),(List.dropLast_concat_getLast _).symm⟩
  have hP':P'.length=m:= by simpa using hP
  subst hP'
  have hs':=Z0z.mp hs
  have e1:idx (P'++[y]++x::R) ((P'.length+1:Nat):Int)=some x:=A6g (by simp)
  have ew:w64 (((P'.length+1:Nat):Int)-1)=(P'.length:Int):= by rw[D7 (by omega)];omega
  have e0:idx (P'++[y]++x::R) (P'.length:Int)=some y:=A6g (by simp)
  rw[L6]
  by_cases hxy:x<y
  ·obtain⟨Q,h1,h2,h3⟩:=D36 P'.length P' x (y::R) n Z hs'.1 (by omega) (by omega)
   have hset1:T3 (P'++[y]++x::R) ((P'.length+1:Nat):Int) y=P'++[y]++y::R:= by
    unfold T3;rw[ZG,Z0m _ _ (by simp)];simp
   have hset2:T3 (P'++[y]++y::R) (P'.length:Int) x=P'++x::(y::R):= by
    unfold T3;rw[ZG];simp
   have hb:A3v 0 (((P'.length+1:Nat):Int),P'++[y]++x::R)=some (.inl ((P'.length:Int),P'++x::(y::R))):= by
    unfold A3v
    simp only[ew]
    have e3:idx (P'++[y]++y::R) (P'.length:Int)=some y:=A6g (by simp)
    rw[if_pos (by simp <;> omega),e1,e0]
    simp only[Zd,D3g,decide_eq_true hxy,if_true]
    rw[hset1,e3,hset2]
    rfl
   rw[hb]
   refine⟨Q++[y],by show A7t (A3v 0) n ((P'.length:Int),P'++x::(y::R))=_;rw[h1];simp,?_,?_⟩
   ·refine Z0z.mpr ⟨h2,by simp,fun a ha b hb=>?_⟩
    have:b=y:= by simpa using hb
    subst this
    rcases Zs.mp (h3.mem_iff.mp ha) with rfl|ha
    ·omega
    ·exact hs'.2.2 a ha b (by simp)
   ·have:=(Z3h (l₁:=Q) (l₂:=[y]))
    refine this.trans ?_
    refine(List.Perm.cons y h3).trans ((List.Perm.swap x y P').trans ?_)
    exact List.Perm.cons x (Z3h (l₁:=[y]) (l₂:=P'))
  ·refine⟨P'++[y]++[x],?_,?_,Z3h (l₁:=P'++[y]) (l₂:=[x])⟩
   ·have hb:A3v 0 (((P'.length+1:Nat):Int),P'++[y]++x::R)=some (.inr (P'++[y]++x::R)):= by
     unfold A3v
     simp only[ew]
     rw[if_pos (by simp <;> omega),e1,e0]
     simp only[Zd,D3g,decide_eq_false hxy,Zj,if_false]
    rw[hb];simp
   ·refine Z0z.mpr ⟨hs,by simp,fun a ha b hb=>?_⟩
    have:b=x:= by simpa using hb
    subst this
    rcases ZB.mp ha with ha|ha
    ·have:=hs'.2.2 a ha y (by simp);omega
    ·have:a=y:= by simpa using ha
     omega
theorem D0c:∀(R S:List Int) (n:Nat),Srt S→S.length+R.length<4611686018427387904→R.length+1≤n→∃ l',A7t (A85 0 ((S.length+R.length:Nat):Int)) n ((S.length:Int),S++R)=some l'∧Srt l'∧l'.Perm (S++R)
 | [],S,n+1,hs,_,_=>by
  refine⟨S,?_,hs,by simp⟩
  rw[L6]
  unfold A85
  simp
 | x::R,S,n+1,hs,hl,hn=>by
  obtain⟨Q,h1,h2,h3⟩:=D36 S.length S x R 9223372036854775808 Z hs (by simp at hl;omega) (by simp at hl;omega)
  have hQ:Q.length=S.length+1:= by rw[h3.length_eq];rfl
  obtain⟨l',g1,g2,g3⟩:=D0c R Q n h2 (by simp at hl;omega) (by simp at hn;omega)
  refine⟨l',?_,g2,g3.trans ?_⟩
  ·rw[L6]
   have hb:A85 0 ((S.length+(x::R).length:Nat):Int) ((S.length:Int),S++x::R)=some (.inl ((Q.length:Int),Q++R)):= by
    unfold A85
    simp only[]
    rw[if_pos (by simp <;> omega)]
    unfold loop
    rw[h1]
    simp only[Zd]
    rw[D7 (by simp at hl;omega),hQ];rfl
   rw[hb]
   simp only
   have e:((S.length+(x::R).length:Nat):Int)=((Q.length+R.length:Nat):Int):= by rw[hQ];simp;omega
   rw[e];exact g1
  ·refine(List.Perm.append_right R h3).trans ?_
   rw[Z0h]
   exact(List.perm_middle (l₁:=S) (l₂:=R) (a:=x)).symm
theorem D4g:∀n,n<13→(A56 (IntKind.u64.wrap ((n:Nat):Int))).isSome=true:= by decide +kernel
theorem E1e (l:List Int) (h0:0<l.length) (hl:l.length<13):∃l',B9f l=some l'∧Srt l'∧l'.Perm l:= by
 obtain⟨k,hk⟩:=Option.isSome_iff_exists.mp (D4g l.length hl)
 cases l with
 | nil=>cases h0
 | cons a l =>
  obtain⟨l',h1,h2,h3⟩:=D0c l [a] 9223372036854775808 (by simp[Srt]) (by simp at hl ⊢; omega) (by simp at hl;omega)
  refine⟨l',?_,h2,h3⟩
  unfold B9f D8u C5y
  rw[hk]
  simp only[Zd]
  rw[if_pos (by rw[decide_eq_true_eq,D7 (by simp only[ZU]at hl ⊢; omega)];simp only[ZU]at hl ⊢; omega)]
  have e:(((a::l).length:Nat):Int)=(([a].length+l.length:Nat):Int):= by simp;omega
  rw[e]
  exact h1
theorem C5a {l:List Int} {k0 i:Nat} {x:Int} (h:l[k0+i]? = some x):C8q l (k0:Int) (i:Int)=some x:= by
 unfold C8q
 have:=(Zf.mp h).1
 rw[if_pos ⟨by omega,by omega⟩,show (k0:Int)+(i:Int)=((k0+i:Nat):Int) by omega]
 exact A6g h
theorem compact2 {O:List Int} {k0:Nat} (hO:Srt O) (hk0:1≤k0) (hlen:O.length<4611686018427387904):∀(d k2 k:Nat) (cur:List Int) (n:Nat),k0+k2+d=O.length→1≤k2→1≤k→k+1≤k0+k2→cur.length=O.length→(∀ i,k0+k2≤i+1→cur[i]? = O[i]?)→Str (cur.take k)→(∀ x,x∈cur.take k↔x∈O.take (k0+k2))→d+1≤n →
  ∃ (k':Nat) (cur':List Int),A7t (A1u (k0:Int)) n ((k2:Int),(k:Int),cur)=some ((k':Int),cur')∧cur'.length=O.length∧k'<O.length∧Str (cur'.take k')∧∀ x,x∈cur'.take k'↔x∈O
 | 0,k2,k,cur,n+1,hd,h2,hk,hlt,hcl,hdr,hst,hmem,_=>by
  refine⟨k,cur,?_,hcl,by omega,hst,fun x=>by rw[hmem,ZO (by omega)]⟩
  rw[L6]
  unfold A1u
  simp only[]
  rw[if_neg (by rw[hcl,ZG];simp;omega)]
 | d+1,k2,k,cur,n+1,hd,h2,hk,hlt,hcl,hdr,hst,hmem,hn=>by
  have hi1:k0+k2<O.length:= by omega
  have ha:O[k0+k2]? = some O[k0+k2]:=Zo hi1
  have hb:O[k0+(k2-1)]? = some O[k0+(k2-1)]:=Zo (by omega)
  have hle:O[k0+(k2-1)]≤O[k0+k2]:=Z0q.mp hO _ _ (by omega) hi1 (by omega)
  have ea:C8q cur (k0:Int) (k2:Int)=some O[k0+k2]:=C5a (by rw[hdr _ (by omega),ha])
  have eb:C8q cur (k0:Int) (w64 ((k2:Int)-1))=some O[k0+(k2-1)]:= by
   rw[D7 (by omega),show (k2:Int)-1=((k2-1:Nat):Int) by omega]
   exact C5a (by rw[hdr _ (by omega),hb])
  have hw1:w64 ((k2:Int)+1)=((k2+1:Nat):Int):= by rw[D7 (by omega)];omega
  have htk:∀x,x∈O.take (k0+(k2+1))↔x∈O.take (k0+k2)∨x=O[k0+k2]:=fun x=>by
   rw[show k0+(k2+1)=k0+k2+1 by omega,ZI hi1,ZB,Z0d]
  have hlast:O[k0+(k2-1)]∈O.take (k0+k2):= by
   rw[Z17];exact⟨k0+(k2-1),by omega,Z⟩
  rw[L6]
  by_cases hab:O[k0+k2]=O[k0+(k2-1)]
  ·have hB:A1u (k0:Int) ((k2:Int),(k:Int),cur)=some (.inl (((k2+1:Nat):Int),(k:Int),cur)):= by
    unfold A1u
    simp only[]
    rw[if_pos (by rw[hcl,ZG];simp;omega),ea,eb]
    simp only[Zd,hw1]
    rw[if_neg (by simp[hab])]
   rw[hB]
   exact compact2 hO hk0 hlen d (k2+1) k cur n (by omega) (by omega) hk (by omega) hcl (fun i hi=>hdr i (by omega)) hst (fun x=>by rw[hmem,htk];exact⟨fun h=>.inl h,fun h=>h.elim id fun h=>by rw[h,hab];exact hlast⟩) (by omega)
  ·have hkl:k<cur.length:= by omega
   have hB:A1u (k0:Int) ((k2:Int),(k:Int),cur)=some (.inl (((k2+1:Nat):Int),((k+1:Nat):Int),cur.set k O[k0+k2])):= by
    unfold A1u
    simp only[]
    rw[if_pos (by rw[hcl,ZG];simp;omega),ea,eb]
    simp only[Zd,hw1]
    rw[if_pos (by simpa using hab),A6g (Zo hkl)]
    simp only[Zd]
    rw[D7 (by omega)]
    unfold T3
    rw[ZG];rfl
   rw[hB]
   have htake:(cur.set k O[k0+k2]).take (k+1)=cur.take k++[O[k0+k2]]:= by
    rw[ZI (by simpa using hkl)]
    simp[Z36]
    rw[List.set_eq_of_length_le (by rw[ZC];omega)]
   refine compact2 hO hk0 hlen d (k2+1) (k+1) (cur.set k O[k0+k2]) n (by omega) (by omega) (by omega) (by omega) (by simpa using hcl) (fun i hi=>?_) ?_ ?_ (by omega)
   ·rw[List.getElem?_set_ne (by omega)];exact hdr i (by omega)
   ·rw[htake]
    refine Z0z.mpr ⟨hst,by simp,fun x hx z hz=>?_⟩
    have:z=O[k0+k2]:= by simpa using hz
    subst this
    have hx2:=(hmem x).mp hx
    rw[Z17]at hx2
    obtain⟨j,hj,rfl⟩:=hx2
    have h1:O[j]≤O[k0+(k2-1)]:= by
     by_cases hjk:j=k0+(k2-1)
     ·subst hjk;exact ZY _
     ·exact Z0q.mp hO _ _ (by omega) (by omega) (by omega)
    omega
   ·intro x
    rw[htake,htk]
    simp[hmem x]
theorem compact1 {O:List Int} (hO:Srt O) (hlen:O.length<4611686018427387904):∀(d k:Nat) (n:Nat),k+d=O.length→1≤k→Str (O.take k)→d+1≤n →
  ∃ b r,A7t (A7m O) n (k:Int)=some (b,r)∧Str r∧∀ x,x∈r↔x∈O
 | 0,k,n+1,hd,hk,hst,_=>by
  refine⟨false,O,?_,by rwa [ZO (by omega)]at hst,fun x=>Iff.rfl⟩
  rw[L6]
  unfold A7m
  rw[if_neg (by simp <;> omega)]
 | d+1,k,n+1,hd,hk,hst,hn=>by
  have hi1:k<O.length:= by omega
  have ea:idx O (k:Int)=some O[k]:=A6g (Zo hi1)
  have eb:idx O (w64 ((k:Int)-1))=some O[k-1]:= by
   rw[D7 (by omega),show (k:Int)-1=((k-1:Nat):Int) by omega]
   exact A6g (Zo (by omega))
  have hle:O[k-1]≤O[k]:=Z0q.mp hO _ _ (by omega) hi1 (by omega)
  rw[L6]
  unfold A7m
  rw[if_pos (by simp <;> omega),ea,eb]
  simp only[Zd]
  by_cases hab:O[k]=O[k-1]
  ·rw[if_pos (by simpa using hab)]
   obtain⟨k',cur',h1,h2,h3,h4,h5⟩:=compact2 hO hk hlen (O.length-k-1) 1 k O 9223372036854775808 (by omega) (by omega) hk (by omega) Z (fun _ _=>rfl) hst (fun x=>by
    rw[ZI hi1]
    simp only[ZB,Z0d]
    refine⟨fun h=>.inl h,fun h=>h.elim id fun h=>?_⟩
    rw[h,hab,Z17]
    exact⟨k-1,by omega,Z⟩) (by omega)
   unfold loop
   rw[show ((1:Int),(k:Int),O)=(((1:Nat):Int),(k:Int),O) from Z,h1]
   simp only[Zd]
   rw[if_pos ⟨by omega,by omega⟩]
   have hr:(clr cur' (k':Int)).take k'=cur'.take k':= by
    unfold clr
    rw[ZG,List.take_append_of_le_length (by simp <;> omega),List.take_take,Z5y]
   rw[B6x (by rw[D2o ⟨by omega,by omega⟩];omega),hr]
   exact⟨true,_,Z,h4,h5⟩
  ·rw[if_neg (by simpa using hab),D7 (by omega),show (k:Int)+1=((k+1:Nat):Int) by omega]
   refine compact1 hO hlen d (k+1) n (by omega) (by omega) ?_ (by omega)
   rw[ZI hi1]
   refine Z0z.mpr ⟨hst,by simp,fun x hx z hz=>?_⟩
   have:z=O[k]:= by simpa using hz
   subst this
   rw[Z17]at hx
   obtain⟨j,hj,rfl⟩:=hx
   have h1:O[j]≤O[k-1]:= by
    by_cases hjk:j=k-1
    ·subst hjk;exact ZY _
    ·exact Z0q.mp hO _ _ (by omega) (by omega) (by omega)
   omega
theorem D0x {O:List Int} (hO:Srt O) (h0:0<O.length) (hlen:O.length<100):∃b r,A9r O=some (b,r)∧Str r∧∀ x,x∈r↔x∈O:= by
 unfold A9r
 by_cases h:O.length=1
 ·rw[if_pos (by simp <;> omega)]
  refine⟨false,O,Z,?_,fun x=>Iff.rfl⟩
  match O,h with
  | [a],_=>simp[Str]
 ·rw[if_neg (by simp <;> omega)]
  refine compact1 hO (by omega) (O.length-1) 1 9223372036854775808 (by omega) (by omega) ?_ (by omega)
  match O,h0 with
  | a::l,_=>simp[Str]
end Pw
end
section
set_option maxRecDepth 100000
namespace Am
open Go
theorem D8e {c:Sc} {b a n:Nat} (h:a<b):c.okL b [.asl a n]=true:= by
 have key:∀B,(ZH B b||ZW a B)=true:=fun B=>by
  by_cases hB:B≤b
  ·rw[Zl hB];rfl
  ·rw[show ZW a B=true from Zl (by omega),Z1l]
 have h2:(c.outer.all fun B=>ZH B b||ZW a B)=true:=Zt.2 fun B _=>key B
 have h3:=key c.cur
 simp only[Sc.okL,Sc.ok,AV.plain,AV.bd,h2,h3,Z52,Z37,Z1l]
theorem C77 {T:Tab} {c:Sc} {i:Nat} {af:AFunc} {first cap args aq rs:List AV} {H H':A2} (haf:T i=some af) (has:first++args++cap=aq) (hn:(Nat.beq aq.length af.nargs&&ZW af.nargs 1000)=true)
  (h:WP T af.body (L8 0 aq) H ⟨H.length,c.cur::c.outer⟩ (fun e s H1=>(match e with|.exit _=>False|_=>True)∧∃ rs0,results s H1 af.results=some rs0∧S6 H.length H1 rs0=some (rs,H')∧bdL H.length rs=false)):L3 T c H (.fn (.func i) first cap) args rs H':= by
 obtain⟨e,S',s',H2,h1,h2,h3,rs0,h4,h5,h6⟩:=h _ (Sub.refl _)
 refine L3.fn (af:=af) (bd:=af.body) (aq:=aq) (rs0:=rs0) (rs1:=rs) (H1:=H') (e:=e) (st':=⟨S',H2,⟨H.length,c.cur::c.outer⟩⟩) Z haf Z has.symm hn Z h1 (by cases e <;> first|rfl|exact h3.elim) (U9 h2 h4) h5 Z ?_
 unfold trunc
 rw[h6];rfl
end Am
namespace Am
open Go
def New (T:Tab) (f:AV) (aq:List AV) (i:Nat) (L:List AO):Prop:=∀ (c:Sc) (H:A2) (N:Nat),H.length=N→L3 T c H f aq [.ptr (N+i) 0,.i 0] (H++L)
theorem A59 {T:Tab} {s:C0} {H0:A2} {l l1:List AO} {c:Sc} {n0 k i:Nat} {f:Opd} {args:List Opd} {fv:AV} {as0 aq:List AV} {L:List AO} (hn:New T fv aq i L) (hf:ev s f=some fv) (ha:evs s args=some as0) (hz:S5 (H0++l) as0=some (aq,H0++l1)) (hk:l1.length=k) :
  One T c n0 s (H0++l) (.call f args [] false) (.tup [.ptr (H0.length+(k+i)) 0,.i 0]) (H0++(l1++L)):= by
 have:=hn c (H0++l1) (H0.length+k) (by rw[Zm,hk])
 rw[Zz,Nat.add_assoc]at this
 exact T9 hf ha hz this Z
def inR (n:Nat) (i:Int):Option Unit:=if 0≤i∧i<n then some () else none
theorem C6u {n:Nat} {i:Int} {u:Unit} (h:inR n i=some u):0≤i∧i<n:= by
 unfold inR at h;split at h
 ·assumption
 ·cases h
def isel (i:Int) (a b c:Nat):Nat:=if i=0 then a else if i=1 then b else c
def sel3 {α:Type} (i:Int) (a b c:Option α):Option α:=if i=0 then a else if i=1 then b else c
theorem C22 {α:Type} {T:Tab} {c:Sc} {H:A2} {i:Int} {n0 n1 n2:Nat} {aq:List AV} {rs:α→List AV} {a b d:Option α} {x:α} (h0:∀{x},a=some x→A0a T c H (.fn (.func n0) [] []) aq (rs x)) (h1:∀{x},b=some x→A0a T c H (.fn (.func n1) [] []) aq (rs x)) (h2:∀{x},d=some x→A0a T c H (.fn (.func n2) [] []) aq (rs x)) (h:sel3 i a b d=some x) :
  A0a T c H (.fn (.func (isel i n0 n1 n2)) [] []) aq (rs x):= by
 unfold sel3 at h
 unfold isel
 split at h
 ·next e=>rw[if_pos e];exact h0 h
 ·next e =>
  rw[if_neg e]
  split at h
  ·next e=>rw[if_pos e];exact h1 h
  ·next e=>rw[if_neg e];exact h2 h
end Am
namespace Am
open Go
theorem D1e {H:A2} {b:Nat} {cs:List AV} (h:hcells H b=some cs):hstk H b=none:= by
 unfold hcells at h
 unfold hstk
 split at h <;> first|(rename_i e;rw[e])|cases h
end Am
namespace Pw
open Go Am Go.Proofs.YtjpjdglddmhplaaGreat.Cd
def A8e (t:PaShow) (d:AV):List AV:=[.seq 8 (Ze C6 t.Gowns),.seq 4 (Ze B5 t.Figures),.i t.Purse,.seq 2 (Ze D3 t.Incomes),.fn (.func 90) [] [],.fn (.func 91) [] [],.fn (.func 92) [] [],.fn (.func 52) [] [],.fn (.func 93) [] [],.fn (.func 94) [] [],.fn (.func 55) [] [],.fn (.func 95) [] [],.fn (.func 96) [] [],d]
def shI (t:PaShow) (w:List AV) (d:AV):List AV:=.seq 8 (Ze C6 t.Gowns)::.seq 4 (Ze B5 t.Figures)::.i t.Purse::.seq 2 (Ze D3 t.Incomes)::(w++[d])
def A5b (t:PaShow) (days:List Int):List AV:=A8e t (.seq 1 (Ze cI days))
def shw (t:PaShow) (days:List Int):pawn_show:=⟨t,⟨pawn_way.mk,pawn_way.mk,pawn_way.mk⟩,days⟩
theorem way3 {i:Int} {u:Unit} (h:inR 3 i=some u):i=0∨i=1∨i=2:= by have:=C6u h;omega
theorem E53 {t:PaShow} {d:AV} {i:Int} {u:Unit} (h:inR 3 i=some u):((A8e t d).drop (4+i.toNat*3+2)).head? = some (.fn (.func (isel i 92 94 96)) [] []):= by rcases way3 h with rfl|rfl|rfl <;> rfl
theorem E54 {t:PaShow} {d:AV} {i:Int} {u:Unit} (h:inR 3 i=some u):((A8e t d).drop (4+i.toNat*3)).take 3=[.fn (.func (isel i 90 52 55)) [] [],.fn (.func (isel i 91 93 95)) [] [],.fn (.func (isel i 92 94 96)) [] []]:= by rcases way3 h with rfl|rfl|rfl <;> rfl
theorem E55 {t:PaShow} {d:AV} {i:Int} {u:Unit} (h:inR 3 i=some u):ZH 3 ((A8e t d).drop (4+i.toNat*3)).length=true:= by rcases way3 h with rfl|rfl|rfl <;> rfl
end Pw
end
section
set_option maxRecDepth 100000
namespace Pw
open Go Am Go.Proofs.YtjpjdglddmhplaaGreat.Cd
def A7n (t:PaShow) (s:List Int×Int):Option ((List Int×Int)⊕List Int) :=
 if (decide (s.2<(Zh t.Incomes:Int)))=true then
  (idx t.Incomes s.2).bind fun x=>(app 8 s.1 [x.Day]).bind fun l=>some (.inl (l,w64 (s.2+1)))
 else some (.inr s.1)
def A3w (t:PaShow):Option (Int×List Int) :=
 (A30 t).bind fun x =>
 if (x.2.2 != 0)=true then some (x.2.2,[])
 else (loop (A7n t) ([0],0)).bind fun l=>(B9f l).bind fun l=>(A9r l).bind fun y=>some (0,y.2)
theorem A5e {c:Sc} {H:A2} {t:PaShow} {x:Int×List Int} (h:A3w t=some x) (hx:(x.1==0)=false) :
  L3 tab c H (.fn (.func 51) [] []) [.agg (A9 t)] [.lit (.pointer none),.i x.1] H:= by
 unfold A3w at h
 refine oB h fun y hy h=>?_
 refine A1t (aq:=[.agg (A9 t)]) Z Z Z (Y8 ?_)
 refine sg 0 Z<|A0 (G0 (cs:=A9 t) Z Z Z) Z<|qm Z<|qm Z<|es (ra1 Z)<|B8<|s0<|A0 (D0 Z Z Z) Z<|B2 (rs:=[.i y.1,.i y.2.1,.i y.2.2]) Z Z (A1 (C9 Z) B3) ((A9f hy).frz)<|qm Z<|A0 (A8 Z Z) Z<|A0 (A8 Z Z) Z<|A0 (A8 Z Z) Z<|qm Z<|qm Z<|qm Z<|es (ra2 Z Z)<|s0<|qm Z<|A0 (I8 Z Z) Z<|es (ra3 Z Z Z)<|wi h Z (fun hc h=>?_) fun hc h=>?_
 ·obtain rfl:=os h
  refine s0<|qm Z<|qm Z<|qm Z<|es (ra2 Z Z)<|C7 ?_
  refine⟨trivial,_,_,A7 Z (A7 Z B7),A5 Z (A5 Z B6),A3 A4 (A3 A4 B1),?_⟩
  exact Z0c
 ·refine oB h fun l hl h=>oB h fun l2 hl2 h=>oB h fun z hz h=>?_
  cases h
  cases hx
theorem D4o {c:Sc} {H:A2} {t:PaShow} {x:Int×List Int} (h:A3w t=some x) (hx:(x.1==0)=true) {y:Int×Int×Int} {l l2:List Int} {z:Bool×List Int} (hy:A30 t=some y) (hl:loop (A7n t) ([0],0)=some l) (hl2:B9f l=some l2) (hz:A9r l2=some z) :
  L3 tab c H (.fn (.func 51) [] []) [.agg (A9 t)] [.ptr (H.length+2) 0,.i 0] (H++[.cells (A9 t),bif z.1 then .dead else .arr 1 true (l2.map cI),.cells (A5b t x.2)]):= by
 unfold A3w at h
 rw[hy,Zd]at h
 split at h
 ·next hc=>cases h;rw[show y.2.2=0 by simpa using hx]at hc;cases hc
 next hc =>
 rw[hl,Zd,hl2,Zd,hz,Zd]at h
 obtain rfl:=os h
 have hsort:∀c' d,L3 tab c' (H++[.cells (A9 t),ar1 l,.cells (A8e t d)]) (.fn (.func 97) [] []) [.asl (H.length+1) l.length] [] (H++[.cells (A9 t),ar1 l2,.cells (A8e t d)]):=fun c' d=>by
  have:=E1f (c:=c') (A:=H++[.cells (A9 t)]) (B:=[.cells (A8e t d)]) hl2
  simpa using this
 have hcomp:∀c' d,L3 tab c' (H++[.cells (A9 t),ar1 l2,.cells (A8e t d)]) (.fn (.func 98) [] []) [.asl (H.length+1) l2.length] (bif z.1 then [.fresh 1 (z.2.map cI)] else [.seq 1 (z.2.map cI)]) (H++[.cells (A9 t),bif z.1 then .dead else .arr 1 true (l2.map cI),.cells (A8e t d)]):=fun c' d=>by
  have:=D0y (c:=c') (A:=H++[.cells (A9 t)]) (X:=.cells (A8e t d)) hz
  simpa using this
 have hlen2:=D5v hl2
 refine C77 (aq:=[.agg (A9 t)]) Z Z Z (Y8 ?_)
 refine sg 0 Z<|A0 (G0 (cs:=A9 t) Z Z Z) Z<|qm Z<|qm Z<|es (ra1 Z)<|B8<|s0<|A0 (D0 Z Z Z) Z<|B2 (rs:=[.i y.1,.i y.2.1,.i y.2.2]) Z Z (A1 (C9 Z) B3) ((A9f hy).frz)<|qm Z<|A0 (A8 Z Z) Z<|A0 (A8 Z Z) Z<|A0 (A8 Z Z) Z<|qm Z<|qm Z<|qm Z<|es (ra2 Z Z)<|s0<|qm Z<|A0 (I8 Z Z) Z<|es (ra3 Z Z Z)<|S9 Z (by simpa using hc)<|B9<|sg 1 Z<|A0 (D0 Z Z Z) Z<|A0 (C0j (rows:=Ze cI [0]) Z Z (D8 (fun _=>rfl) _)) Z<|A0 (R4 (cs:=(shI t [.lit .nilFunc,.lit .nilFunc,.lit .nilFunc,.lit .nilFunc,.lit .nilFunc,.lit .nilFunc,.lit .nilFunc,.lit .nilFunc,.lit .nilFunc] (.asl (H.length+1) 1))) Z Z) Z<|A0 (G0 (cs:=(shI t [.lit .nilFunc,.lit .nilFunc,.lit .nilFunc,.lit .nilFunc,.lit .nilFunc,.lit .nilFunc,.lit .nilFunc,.lit .nilFunc,.lit .nilFunc] (.asl (H.length+1) 1))) Z Z Z) Z<|qm Z<|es (ra2 Z Z) ?_
 refine s0<|qm Z<|A0 (R4 (cs:=[.fn (.func 90) [] [],.fn (.func 91) [] [],.fn (.func 92) [] []]) Z Z) Z<|A0 (N1 Z Z) Z<|A0 (C1 Z) Z<|A0 (B3m Z Z (by decide)) Z<|P5 (G3 (ds:=(shI t [.fn (.func 90) [] [],.fn (.func 91) [] [],.fn (.func 92) [] [],.lit .nilFunc,.lit .nilFunc,.lit .nilFunc,.lit .nilFunc,.lit .nilFunc,.lit .nilFunc] (.asl (H.length+1) 1))) Z Z Z Z (A2k (ZM _ _)) Z) Z<|es (ra2 Z Z) ?_
 refine s0<|qm Z<|A0 (R4 (cs:=[.fn (.func 52) [] [],.fn (.func 93) [] [],.fn (.func 94) [] []]) Z Z) Z<|A0 (N1 Z Z) Z<|A0 (C1 Z) Z<|A0 (B3m Z Z (by decide)) Z<|P5 (G3 (ds:=(shI t [.fn (.func 90) [] [],.fn (.func 91) [] [],.fn (.func 92) [] [],.fn (.func 52) [] [],.fn (.func 93) [] [],.fn (.func 94) [] [],.lit .nilFunc,.lit .nilFunc,.lit .nilFunc] (.asl (H.length+1) 1))) Z Z Z Z (A2k (ZM _ _)) Z) Z<|es (ra2 Z Z) ?_
 refine s0<|qm Z<|A0 (R4 (cs:=[.fn (.func 55) [] [],.fn (.func 95) [] [],.fn (.func 96) [] []]) Z Z) Z<|A0 (N1 Z Z) Z<|A0 (C1 Z) Z<|A0 (B3m Z Z (by decide)) Z<|P5 (G3 (ds:=(shI t [.fn (.func 90) [] [],.fn (.func 91) [] [],.fn (.func 92) [] [],.fn (.func 52) [] [],.fn (.func 93) [] [],.fn (.func 94) [] [],.fn (.func 55) [] [],.fn (.func 95) [] [],.fn (.func 96) [] []] (.asl (H.length+1) 1))) Z Z Z Z (A2k (ZM _ _)) Z) Z<|es (ra2 Z Z) ?_
 refine B8<|s0<|A0 (C1 Z) Z<|A0 (B4 Z Z Z) Z<|A0 (F1 (f:=D3) Z) Z<|qm Z<|es (ra4 Z Z Z Z)<|C5<|wl (fun s=>[(7,.ptr (H.length+2) 0),(39,.seq 2 (Ze D3 t.Incomes)),(40,.i t.Incomes.length),(41,.i s.2)]) (fun (_:Unit) s=>[.cells (A9 t),ar1 s.1,.cells (A8e t (.asl (H.length+1) s.1.length))]) 3 (fun r e s' H'=>PX 0 [(7,.ptr (H.length+2) 0)] (H++[.cells (A9 t),ar1 r,.cells (A8e t (.asl (H.length+1) r.length))]) e s' H') () hl Z Z (fun _ _=>rfl) (fun _=>rfl) Z (fun _=>bdc (J6 Z) (bdc G6 (bdc A4 (bdc A4 bdn)))) (fun _ s o hs=>?_) ?_
 ·unfold A7n at hs
  refine s0<|A0 (I0 Z Z) Z<|es (ra5 Z Z Z Z Z)<|B8<|wi hs Z (fun hc hs=>?_) fun hc hs=>?_
  ·refine oB hs fun x hx hs=>oB hs fun l' hl' hs=>?_
   refine B9<|B8<|C5<|sg 3 Z<|A0 (D4 (f:=D3) Z Z hx) Z<|A0 (C86 (ds:=D3 x) Z Z Z) Z<|A0 K1 Z<|P5 (G3 (ds:=D3 x) Z Z Z Z (A2k (Zn _)) Z) Z<|es (ra5 Z Z Z Z Z)<|r0<|qm Z<|A0 (N1 Z Z) Z<|A0 (C1 Z) Z<|A0 (B4 (x:=.asl (H.length+1) s.1.length) Z Z Z) Z<|A0 (C1 Z) Z<|A0 (B4 Z Z Z) Z<|A0 (J2 (rows:=Ze cI [x.Day]) Z Z (D8 (fun _=>rfl) _)) Z<|O4 (A0r (f:=cI) Z Z Z Z X1 (fun _=>rfl) hl') Z<|qm Z<|A0 (N1 Z Z) Z<|A0 (C1 Z) Z<|P5 (G3 (ds:=A8e t (.asl (H.length+1) l'.length)) Z Z Z Z (D8e (Nat.lt_succ_self _)) Z) Z<|en (ra4 Z Z Z Z)<|r0<|A0 (D9 Z Z) Z<|qm Z<|en (ra4 Z Z Z Z) ?_
   cases hs
   exact lnT () Z (su4 Z Z Z Z)
  ·refine G5 ?_
   obtain rfl:=os hs
   exact lx Z px (su1 Z)
 ·rintro e s' H'-⟨rfl,rfl,rfl⟩
  refine s0<|qm Z<|A0 (N1 Z Z) Z<|A0 (C1 Z) Z<|A0 (B4 (x:=.asl (H.length+1) l.length) Z Z Z) Z<|O4 (A4e Z Z (hsort _ _) Z) Z<|es (ra1 Z) ?_
  have hrs:((bif z.1 then [AV.fresh 1 (z.2.map cI)] else [.seq 1 (z.2.map cI)]):List AV).map fzA=[.seq 1 (z.2.map cI)]:= by cases z.1 <;> rfl
  rw[← hlen2]
  refine s0<|qm Z<|qm Z<|A0 (N1 Z Z) Z<|A0 (C1 Z) Z<|A0 (B4 (x:=.asl (H.length+1) l2.length) Z Z Z) Z<|O4 (A4e Z Z (hcomp _ _) hrs) Z<|A0 (N1 Z Z) Z<|A0 (C1 Z) Z<|P5 (G3 (ds:=A5b t z.2) Z Z Z Z (F7 Z) Z) Z<|es (ra1 Z)<|s0<|qm Z<|qm Z<|qm Z<|es (ra2 Z Z)<|C7 ?_
  refine⟨trivial,_,A7 Z (A7 Z B7),A5 Z (A5 Z B6),X8 ?_⟩
  have:=A8m (N:=H.length) (B:=0) (j:=2) (o:=0) Z
  exact this
end Pw
namespace Pw
open Go Am Go.Proofs.YtjpjdglddmhplaaGreat.Cd
theorem nef {a:Int} (h:¬ (a==0)=true):(a != 0)=true:= by simpa [bne] using h
theorem A4b {t:PaShow} {x:Int×List Int} (h:A3w t=some x) (hx:(x.1==0)=true):∃X,New tab (.fn (.func 51) [] []) [.agg (A9 t)] 2 [.cells (A9 t),X,.cells (A5b t x.2)]:= by
 have h0:=h
 unfold A3w at h0
 refine oB h0 fun y hy h0=>?_
 split at h0
 ·next hc=>cases h0;rw[show y.2.2=0 by simpa using hx]at hc;cases hc
 refine oB h0 fun l hl h0=>oB h0 fun l2 hl2 h0=>oB h0 fun z hz h0=>?_
 refine⟨bif z.1 then .dead else .arr 1 true (l2.map cI),fun c H N hN=>?_⟩
 subst hN
 exact D4o h hx hy hl hl2 hz
end Pw
end
section
set_option maxRecDepth 100000
set_option maxHeartbeats 0
namespace Pw
open Go Am Go.Proofs.YtjpjdglddmhplaaGreat.Cd
end Pw
end
section
namespace Pw
open Go Am
structure GwOk (g:PaGown):Prop where
 looks:0≤g.Looks∧g.Looks≤15
 loan:0≤g.Loan∧g.Loan≤5000
 rate:0≤g.Rate∧g.Rate≤500
 fee:0≤g.Fee∧g.Fee≤100
 ago:0≤g.Ago∧g.Ago≤364
 last:0≤g.Last∧g.Last≤364
 free:g.Pawn=false→g.Loan=0∧g.Rate=0∧g.Fee=0∧g.Ago=0∧g.Last=0
structure FgOk (f:PaFigure):Prop where
 day:0≤f.Day∧f.Day≤f.Until
 til:f.Until≤364
 needs:0≤f.Needs∧f.Needs≤15
structure InOk (x:PaIncome):Prop where
 day:0≤x.Day∧x.Day≤364
 pence:0≤x.Pence∧x.Pence≤10000
theorem A4v {α:Type} [Inhabited α] {l:List α} {x:α} (h:x∈l):∃i,i<l.length∧l[i]! = x:= by
 obtain⟨i,hi,e⟩:=Z02.mp h
 exact⟨i,hi,by rw[getElem!_pos l i hi,e]⟩
structure NmOk (l:List ByteArray):Prop where
 each:∀s∈l,A5m s=true
 two:l.Pairwise fun a b=>eqS a b=false
theorem D6t (a b:ByteArray):eqS a b=eqS b a:= by
 unfold eqS
 rw[Z00,beq_iff_eq,beq_iff_eq]
 exact eq_comm
theorem B0x {s:ByteArray} {l:List ByteArray}:P3 s l=0↔A5m s=true∧∀ y∈l,eqS y s=false:= by
 unfold P3
 cases A5m s with
 | false=>simp
 | true =>
  rw[if_pos Z]
  cases hl:l.any (fun y=>eqS y s) with
  | true =>
   rw[Z1y]at hl
   obtain⟨y,h1,h2⟩:=hl
   refine⟨fun q=>absurd q (by decide),fun q=>?_⟩
   rw[q.2 y h1]at h2;cases h2
  | false =>
   rw[List.any_eq_false]at hl
   refine⟨fun _=>⟨Z,fun y hy=>by have:=hl y hy;simpa using this⟩,fun _=>rfl⟩
theorem D7x (l:List ByteArray):(∀ i,i<l.length→P3 l[i]! (l.take i)=0)↔NmOk l:= by
 constructor
 ·intro h
  refine⟨fun s hs=>?_,?_⟩
  ·obtain⟨i,hi,rfl⟩:=A4v hs
   exact(B0x.mp (h i hi)).1
  ·rw[Z0q]
   intro i j hi hj hij
   have:=(B0x.mp (h j hj)).2 l[i] (by
    rw[Z17]
    exact⟨i,by omega,Z⟩)
   rwa [getElem!_pos l j hj]at this
 ·intro h i hi
  refine B0x.mpr ⟨h.each _ (J1 hi),fun y hy=>?_⟩
  rw[Z17]at hy
  obtain⟨j,hj,rfl⟩:=hy
  have:=Z0q.mp h.two j i (by omega) hi (by omega)
  rwa [getElem!_pos l i hi]
theorem D7y {α:Type} [Inhabited α] (k:α→ByteArray) (l:List α):(∀ i,i<l.length→P3 (k l[i]!) ((l.take i).map k)=0)↔NmOk (l.map k):= by
 rw[← D7x,Zi]
 refine forall_congr' fun i=>forall_congr' fun hi=>?_
 rw[List.map_take,getElem!_pos (l.map k) i (by rw[Zi];exact hi),List.getElem_map,getElem!_pos l i hi]
theorem NmOk.reverse {l:List ByteArray} (h:NmOk l):NmOk l.reverse :=
 ⟨fun s hs=>h.each s (List.mem_reverse.mp hs),by
  rw[List.pairwise_reverse]
  exact h.two.imp fun {a b} e=>by rw[D6t];exact e⟩
structure ShOk (s:PaShow):Prop where
 gowns:s.Gowns.length≤5
 gown:∀g∈s.Gowns,GwOk g
 gname:NmOk (s.Gowns.map (·.Name))
 figures:s.Figures.length≤3
 figure:∀f∈s.Figures,FgOk f
 fname:NmOk (s.Figures.map (·.Name))
 purse:0≤s.Purse∧s.Purse≤10000
 incomes:s.Incomes.length≤3
 income:∀x∈s.Incomes,InOk x
theorem D20 (g:PaGown):gOk g=true↔GwOk g:= by
 unfold gOk
 cases hp:g.Pawn
 ·simp only[Zc,Z09,P4,Zj,if_false,beq_iff_eq]
  constructor
  ·rintro⟨h1,h2,h3,h4,h5,h6⟩
   exact⟨h1,by omega,by omega,by omega,by omega,by omega,fun _=>⟨h2,h3,h4,h5,h6⟩⟩
  ·intro h
   have:=h.free hp
   exact⟨h.looks,this⟩
 ·simp only[Zc,Z09,P4,if_true]
  constructor
  ·rintro⟨h1,h2,h3,h4,h5,h6⟩
   exact⟨h1,h2,h3,h4,h5,h6,fun h=>by rw[hp]at h;cases h⟩
  ·intro h
   exact⟨h.looks,h.loan,h.rate,h.fee,h.ago,h.last⟩
theorem D2s (f:PaFigure):fC f=0↔FgOk f:= by
 unfold fC
 constructor
 ·intro h
  split at h
  ·cases h
  ·next h1 =>
   split at h
   ·cases h
   ·next h2 =>
    have h1:(out 0 364 f.Day||(out 0 364 f.Until||out 0 15 f.Needs))=false:= by simpa using h1
    rw[Z2q,Z2q,P4,P4,P4]at h1
    exact⟨by omega,by omega,h1.2.2⟩
 ·intro h
  have h1:=h.day
  have h2:=h.til
  rw[P4.mpr (by omega:0≤f.Day∧f.Day≤364),P4.mpr (by omega:0≤f.Until∧f.Until≤364),P4.mpr h.needs,if_neg (by decide),if_neg (by omega)]
theorem B0e {f:Nat→Int} {n:Nat} (h:∀i,i<n→f i=0):wrong f n=none:= by
 unfold wrong
 rw[L5]
 intro i hi
 rw[h i hi];rfl
theorem A6c {f:Nat→Int} {n:Nat}:wrong f n=none↔∀ i,i<n→f i=0:=⟨D2g,B0e⟩
theorem C1m {l:List PaGown}:(∀ i,i<l.length→B1z l i=0)↔(∀ g∈l,GwOk g)∧NmOk (l.map (·.Name)):= by
 rw[← D7y]
 have key:∀i,B1z l i=0↔P3 l[i]!.Name ((l.take i).map (·.Name))=0∧gOk l[i]! = true:=fun i=>by
  unfold B1z
  by_cases c:P3 l[i]!.Name ((l.take i).map (·.Name))=0
  ·rw[if_pos c]
   cases gOk l[i]! with
   | true=>exact⟨fun _=>⟨c,Z⟩,fun _=>rfl⟩
   | false=>exact⟨fun q=>absurd q (by decide),fun q=>absurd q.2 (by decide)⟩
  ·rw[if_neg c];exact⟨fun q=>absurd q c,fun q=>absurd q.1 c⟩
 constructor
 ·intro q
  refine⟨fun x hx=>?_,fun i hi=>((key i).mp (q i hi)).1⟩
  obtain⟨i,hi,rfl⟩:=A4v hx
  exact(D20 _).mp ((key i).mp (q i hi)).2
 ·intro q i hi
  exact(key i).mpr ⟨q.2 i hi,(D20 _).mpr (q.1 _ (J1 hi))⟩
theorem C1c {l:List PaFigure}:(∀ i,i<l.length→B1v l i=0)↔(∀ g∈l,FgOk g)∧NmOk (l.map (·.Name)):= by
 rw[← D7y]
 have key:∀i,B1v l i=0↔P3 l[i]!.Name ((l.take i).map (·.Name))=0∧fC l[i]! = 0:=fun i=>by
  unfold B1v
  by_cases c:P3 l[i]!.Name ((l.take i).map (·.Name))=0
  ·rw[if_pos c];exact⟨fun q=>⟨c,q⟩,fun q=>q.2⟩
  ·rw[if_neg c];exact⟨fun q=>absurd q c,fun q=>absurd q.1 c⟩
 constructor
 ·intro q
  refine⟨fun x hx=>?_,fun i hi=>((key i).mp (q i hi)).1⟩
  obtain⟨i,hi,rfl⟩:=A4v hx
  exact(D2s _).mp ((key i).mp (q i hi)).2
 ·intro q i hi
  exact(key i).mpr ⟨q.2 i hi,(D2s _).mpr (q.1 _ (J1 hi))⟩
theorem C1q {l:List PaIncome}:(∀ i,i<l.length→B14 l i=0)↔∀ g∈l,InOk g:= by
 have key:∀i,B14 l i=0↔InOk l[i]!:=fun i=>by
  unfold B14
  cases h1:out 0 364 l[i]!.Day with
  | true=>exact⟨fun q=>by simp at q,fun q=>by rw[P4.mpr q.day]at h1;cases h1⟩
  | false =>
   cases h2:out 0 10000 l[i]!.Pence with
   | true=>exact⟨fun q=>by simp at q,fun q=>by rw[P4.mpr q.pence]at h2;cases h2⟩
   | false=>exact⟨fun _=>⟨P4.mp h1,P4.mp h2⟩,fun _=>rfl⟩
 constructor
 ·intro q x hx
  obtain⟨i,hi,rfl⟩:=A4v hx
  exact(key i).mp (q i hi)
 ·intro q i hi
  exact(key i).mpr (q _ (J1 hi))
theorem Q5 (s:PaShow):(chk s).2.2=0↔ShOk s:= by
 unfold chk
 by_cases h1:s.Gowns.length>5
 ·rw[if_pos h1];exact⟨fun q=>absurd q (by decide:(3:Int)≠0),fun q=>absurd q.gowns (by omega)⟩
 rw[if_neg h1]
 cases hw:wrong (B1z s.Gowns) s.Gowns.length with
 | some x =>
  refine⟨fun q=>?_,fun q=>?_⟩
  ·have:=A8i hw
   have q:x.2=0:=q
   rw[q]at this;cases this
  ·rw[B0e (C1m.mpr ⟨q.gown,q.gname⟩)]at hw;cases hw
 | none =>
  simp only
  have hg:=C1m.mp (A6c.mp hw)
  by_cases h2:s.Figures.length>3
  ·rw[if_pos h2];exact⟨fun q=>absurd q (by decide:(3:Int)≠0),fun q=>absurd q.figures (by omega)⟩
  rw[if_neg h2]
  cases hw2:wrong (B1v s.Figures) s.Figures.length with
  | some x =>
   refine⟨fun q=>?_,fun q=>?_⟩
   ·have:=A8i hw2
    have q:x.2=0:=q
    rw[q]at this;cases this
   ·rw[B0e (C1c.mpr ⟨q.figure,q.fname⟩)]at hw2;cases hw2
  | none =>
   simp only
   have hf:=C1c.mp (A6c.mp hw2)
   cases hp:out 0 10000 s.Purse with
   | true=>exact⟨fun q=>absurd q (by decide:(7:Int)≠0),fun q=>by rw[P4.mpr q.purse]at hp;cases hp⟩
   | false =>
    simp only[Zj,if_false]
    by_cases h3:s.Incomes.length>3
    ·rw[if_pos h3];exact⟨fun q=>absurd q (by decide:(3:Int)≠0),fun q=>absurd q.incomes (by omega)⟩
    rw[if_neg h3]
    cases hw3:wrong (B14 s.Incomes) s.Incomes.length with
    | some x =>
     refine⟨fun q=>?_,fun q=>?_⟩
     ·have:=A8i hw3
      have q:x.2=0:=q
      rw[q]at this;cases this
     ·rw[B0e (C1q.mpr q.income)]at hw3;cases hw3
    | none =>
     exact⟨fun _=>⟨by omega,hg.1,hg.2,by omega,hf.1,hf.2,P4.mp hp,by omega,C1q.mp (A6c.mp hw3)⟩,fun _=>rfl⟩
theorem D37:∀{l m:List Int},Str l→Str m→(∀ x,x∈l↔x∈m)→l=m
 | [],[],_,_,_=>rfl
 | [],y::m,_,_,h=>absurd ((h y).mpr (Zv ..)) (by simp)
 | x::l,[],_,_,h=>absurd ((h x).mp (Zv ..)) (by simp)
 | x::l,y::m,hl,hm,h=>by
  have hl':=Z1o.mp hl
  have hm':=Z1o.mp hm
  have hxy:x=y:= by
   rcases Zs.mp ((h x).mp (Zv ..)) with e|h1
   ·exact e
   ·rcases Zs.mp ((h y).mpr (Zv ..)) with e|h2
    ·exact e.symm
    ·have:=hm'.1 x h1;have:=hl'.1 y h2;omega
  subst hxy
  rw[D37 hl'.2 hm'.2 fun z=>?_]
  constructor
  ·intro hz
   rcases Zs.mp ((h z).mp (Zp _ hz)) with e|h1
   ·subst e;have:=hl'.1 z hz;omega
   ·exact h1
  ·intro hz
   rcases Zs.mp ((h z).mpr (Zp _ hz)) with e|h1
   ·subst e;have:=hm'.1 z hz;omega
   ·exact h1
def F3 (s:PaShow):List Int:=0::((List.range 364).map fun (i:Nat)=>(i:Int)+1).filter fun d=>s.Incomes.any fun x=>x.Day==d
theorem B7a (s:PaShow):Str (F3 s):= by
 unfold F3
 refine Z1o.mpr ⟨fun x hx=>?_,?_⟩
 ·have:=(Z05.mp hx).1
  obtain⟨i,_,rfl⟩:=ZJ.mp this
  omega
 ·refine List.Pairwise.filter _ ?_
  rw[List.pairwise_map]
  exact List.pairwise_lt_range.imp (fun h=>by omega)
theorem B23 {s:PaShow} (hs:ShOk s) (d:Int):d∈F3 s↔d=0∨∃ x∈s.Incomes,x.Day=d:= by
 unfold F3
 rw[Zs,Z05,ZJ,Z1y]
 constructor
 ·rintro (h|⟨_,x,hx,e⟩)
  ·exact .inl h
  ·exact .inr ⟨x,hx,by simpa using e⟩
 ·rintro (h|⟨x,hx,rfl⟩)
  ·exact .inl h
  ·have:=(hs.income x hx).day
   by_cases h0:x.Day=0
   ·exact .inl h0
   ·exact .inr ⟨⟨(x.Day-1).toNat,by simp;omega,by omega⟩,x,hx,by simp⟩
theorem D05 (s:PaShow) (hl:s.Incomes.length≤3):loop (A7n s) ([0],0)=some ([0]++s.Incomes.map (·.Day)):= by
 have:=B3h (b:=A7n s) (fun i=>([0]++(s.Incomes.take i).map (·.Day),(i:Int))) s.Incomes.length (fun _=>none) ([0]++s.Incomes.map (·.Day)) (by omega) (fun i hi _=>by
  unfold A7n
  rw[if_pos (by simpa using hi),G9 hi]
  simp only[Zd]
  rw[A0l (by omega) (by simp;omega),D7 (by omega)]
  simp only[Zd]
  rw[Zz,B8h (fun x:PaIncome=>x.Day) hi]
  rfl) (fun _=>by
  unfold A7n
  rw[if_neg (by simp),Z0g])
 rw[show (([0]:List Int),(0:Int))=([0]++(s.Incomes.take 0).map (·.Day),((0:Nat):Int)) from Z,this]
 rw[L5.mpr fun _ _=>rfl];rfl
theorem A7o (s:PaShow) (hb:NB s):A3w s=some (if (chk s).2.2=0 then (0,F3 s) else ((chk s).2.2,[])):= by
 unfold A3w
 rw[C7o s hb]
 simp only[Zd]
 by_cases h:(chk s).2.2=0
 ·have hs:=(Q5 s).mp h
  rw[if_neg (by simp[h]),if_pos h,D05 s hs.incomes]
  simp only[Zd]
  have hle:=hs.incomes
  obtain⟨l',h1,h2,h3⟩:=E1e ([0]++s.Incomes.map (·.Day)) (by simp) (by simp;omega)
  rw[h1]
  simp only[Zd]
  have hlen:=h3.length_eq
  obtain⟨b,r,h4,h5,h6⟩:=D0x h2 (by rw[hlen];simp) (by rw[hlen];simp;omega)
  rw[h4]
  simp only[Zd]
  rw[D37 h5 (B7a s) fun x=>?_]
  rw[h6,h3.mem_iff,B23 hs]
  simp
 ·rw[if_pos (by simpa using h),if_neg h]
theorem A6m {α:Type} {l:List Sh} {c:α→List AV} {Q:α→Prop} (h:∀r,SatL l r→∃ x,r=c x∧Q x):∀rows:List (List AV),(∀ r∈rows,SatL l r)→∃ xs:List α,rows=xs.map c∧xs.length=rows.length∧∀ x∈xs,Q x
 | [],_=>⟨[],Z,Z,by simp⟩
 | r::rows,hr=>by
  obtain⟨x,hx,hq⟩:=h r (hr r (Zv ..))
  obtain⟨xs,hxs,hlen,hqs⟩:=A6m h rows fun r' h'=>hr r' (Zp _ h')
  refine⟨x::xs,by rw[hx,hxs];rfl,by rw[ZU,ZU,hlen],?_⟩
  intro y hy
  rcases Zs.mp hy with rfl|hy
  ·exact hq
  ·exact hqs y hy
theorem D5c (r:List AV) (h:SatL [.str,.int .i64,.bool,.int .i64,.int .i64,.int .i64,.int .i64,.int .i64] r):∃x:PaGown,r=C6 x∧x.Name.size≤maxLen:= by
 simp only[SatL,Sat]at h
 obtain⟨x1,q1,rfl,⟨s,rfl,hs⟩,x2,q2,rfl,⟨n2,rfl,_⟩,x3,q3,rfl,⟨n3,rfl⟩,x4,q4,rfl,⟨n4,rfl,_⟩,x5,q5,rfl,⟨n5,rfl,_⟩,x6,q6,rfl,⟨n6,rfl,_⟩,x7,q7,rfl,⟨n7,rfl,_⟩,x8,q8,rfl,⟨n8,rfl,_⟩,rfl⟩:=h
 exact⟨⟨s,n2,n3,n4,n5,n6,n7,n8⟩,Z,hs⟩
theorem C9b (r:List AV) (h:SatL [.str,.int .i64,.int .i64,.int .i64] r):∃x:PaFigure,r=B5 x∧x.Name.size≤maxLen:= by
 simp only[SatL,Sat]at h
 obtain⟨x1,q1,rfl,⟨s,rfl,hs⟩,x2,q2,rfl,⟨n2,rfl,_⟩,x4,q4,rfl,⟨n4,rfl,_⟩,x5,q5,rfl,⟨n5,rfl,_⟩,rfl⟩:=h
 exact⟨⟨s,n2,n4,n5⟩,Z,hs⟩
theorem C9c (r:List AV) (h:SatL [.int .i64,.int .i64] r):∃x:PaIncome,r=D3 x∧True:= by
 simp only[SatL,Sat]at h
 obtain⟨x1,q1,rfl,⟨n1,rfl,_⟩,x2,q2,rfl,⟨n2,rfl,_⟩,rfl⟩:=h
 exact⟨⟨n1,n2⟩,Z,trivial⟩
def D15:List Sh:=[.seq 8 [.str,.int .i64,.bool,.int .i64,.int .i64,.int .i64,.int .i64,.int .i64],.seq 4 [.str,.int .i64,.int .i64,.int .i64],.int .i64,.seq 2 [.int .i64,.int .i64]]
theorem D5d (r:List AV) (h:SatL D15 r):∃x:PaShow,r=A9 x∧NB x:= by
 unfold D15 at h
 rw[SatL]at h;obtain⟨x0,q0,rfl,h0,h⟩:=h
 rw[SatL]at h;obtain⟨x1,q1,rfl,h1,h⟩:=h
 rw[SatL]at h;obtain⟨x2,q2,rfl,h2,h⟩:=h
 rw[SatL]at h;obtain⟨x3,q3,rfl,h3,h⟩:=h
 rw[SatL]at h;subst h
 simp only[Sat]at h0 h1 h2 h3
 obtain⟨rows0,rfl,_,hr0⟩:=h0
 obtain⟨rows1,rfl,_,hr1⟩:=h1
 obtain⟨n2,rfl,_⟩:=h2
 obtain⟨rows3,rfl,_,hr3⟩:=h3
 obtain⟨xs,rfl,_,hq0⟩:=A6m D5c rows0 hr0
 obtain⟨ys,rfl,_,hq1⟩:=A6m C9b rows1 hr1
 obtain⟨ws,rfl,_,_⟩:=A6m C9c rows3 hr3
 refine⟨⟨xs,ys,n2,ws⟩,Z,fun v hv=>?_,fun v hv=>?_⟩
 ·have:=hq0 v hv;simp only[maxLen]at this;omega
 ·have:=hq1 v hv;simp only[maxLen]at this;omega
theorem D9m {g:Ghost} {cs:List Value} {r:List AV} (hr:r.length=cs.length) (h:∀(j:Nat) (x:AV),r[j]? = some x→∃ v,cs[j]? = some v∧Den g.Φ x v∧v.oneCell'=true):V g (.agg r) (.agg cs.toArray):= by
 refine .agg r cs.toArray (by simpa using hr.symm) ?_ ?_
 ·intro j x hx
  obtain⟨v,hv,hd,_⟩:=h j x hx
  rw[Z0v,hv];exact .den _ _ hd
 ·intro j x hx
  obtain⟨v,hv,_,h1⟩:=h j x hx
  rw[Z0v,hv];exact h1
end Pw
end
section
set_option maxRecDepth 100000
set_option maxHeartbeats 0
namespace Pw
open Go Am Go.Proofs.YtjpjdglddmhplaaGreat.Cd
def A09 :Option PaUse :=
 some (PaUse.mk (-1) 0 0)
theorem A64 {c:Sc} {H:A2}  {r:PaUse} (h:A09  = some r) :
  F0 tab c H (.fn (.func 99) [] []) [] [(.agg (A6 r))]:= by
 unfold A09 at h
 refine cE Z Z<|sg 0 Z<|A0 K1 Z<|es (ra1 Z)<|s0<|A0 (R4 (cs:=A6 (PaUse.mk (-1) 0 0)) Z Z) Z<|P5 (G3 (ds:=(A6 (PaUse.mk (-1) 0 0))) Z Z Z Z (F7 Z) Z) Z<|es (ra1 Z)<|C7 ?_
 obtain rfl:=os h
 exact retq trivial (B3r (A57 (ds:=A6 (PaUse.mk (-1) 0 0)) Z Z Z Z) B7) (A5 (B77 Z) B6) (A3 (B67 Z) B1)
def A69 (a0:PaGown) (a1:PaFigure) (a2:Int):Option Bool :=
 some (a2==0)
theorem B9v {c:Sc} {H:A2} {a0:PaGown} {a1:PaFigure} {a2:Int} {r:Bool} (h:A69 a0 a1 a2=some r) :
  F0 tab c H (.fn (.func 92) [] []) [(.agg (C6 a0)),(.agg (B5 a1)),.i a2] [.b r]:= by
 unfold A69 at h
 refine cE Z Z<|sg 0 Z<|A0 (G0 (cs:=C6 a0) Z Z Z) Z<|A0 (G0 (cs:=B5 a1) Z Z Z) Z<|qm Z<|es (ra1 Z)<|s0<|qm Z<|A0 (G2 Z Z) Z<|qm Z<|es (ra1 Z)<|C7 ?_
 obtain rfl:=os h
 exact retq trivial (A7 Z B7) (A5 Z B6) (A3 A4 B1)
def A7a (a0:PaGown) (a1:PaFigure) (a2:Int):Option Bool :=
 some (decide (a2≤(A47 a0.Last a1.Day)))
theorem B9x {c:Sc} {H:A2} {a0:PaGown} {a1:PaFigure} {a2:Int} {r:Bool} (h:A7a a0 a1 a2=some r) :
  F0 tab c H (.fn (.func 94) [] []) [(.agg (C6 a0)),(.agg (B5 a1)),.i a2] [.b r]:= by
 unfold A7a at h
 refine cE Z Z<|sg 0 Z<|A0 (G0 (cs:=C6 a0) Z Z Z) Z<|A0 (G0 (cs:=B5 a1) Z Z Z) Z<|qm Z<|es (ra3 Z Z Z)<|s0<|qm Z<|A0 (C1 Z) Z<|A0 (B4 Z Z Z) Z<|A0 (C1 Z) Z<|A0 (B4 Z Z Z) Z<|A0 (C88 Z Z) Z<|A0 (A4k Z Z) Z<|qm Z<|es (ra1 Z)<|C7 ?_
 obtain rfl:=os h
 exact retq trivial (A7 Z B7) (A5 Z B6) (A3 A4 B1)
def A2o (a0:PaGown) (a1:PaFigure) (a2:Int):Option Bool :=
 some (decide (a1.Until≤a0.Last))
theorem B1h {c:Sc} {H:A2} {a0:PaGown} {a1:PaFigure} {a2:Int} {r:Bool} (h:A2o a0 a1 a2=some r) :
  F0 tab c H (.fn (.func 96) [] []) [(.agg (C6 a0)),(.agg (B5 a1)),.i a2] [.b r]:= by
 unfold A2o at h
 refine cE Z Z<|sg 0 Z<|A0 (G0 (cs:=C6 a0) Z Z Z) Z<|A0 (G0 (cs:=B5 a1) Z Z Z) Z<|qm Z<|es (ra2 Z Z)<|s0<|A0 (C1 Z) Z<|A0 (B4 Z Z Z) Z<|A0 (C1 Z) Z<|A0 (B4 Z Z Z) Z<|A0 (A4k Z Z) Z<|qm Z<|es (ra1 Z)<|C7 ?_
 obtain rfl:=os h
 exact retq trivial (A7 Z B7) (A5 Z B6) (A3 A4 B1)
def Z4 (a0:pawn_show) (a1:Int) (a2:PaUse):Option Int :=
 (A09).bind fun x1 =>
 if ((a2.Gown==x1.Gown)&&((a2.How==x1.How)&&((a2.Day==x1.Day)&&true)))=true then
  some 0
 else
  if (a2.Gown==(-1))=true then
  some 2
  else
  (G1 0 (w64 ((Zh a0.PaShow.Gowns:Int)-1)) [a2.Gown]).bind fun x4 =>
  if x4=true then
   some 4
  else
   (idx a0.PaShow.Gowns a2.Gown).bind fun x6 =>
   (idx a0.PaShow.Figures a1).bind fun x7 =>
   (if (a2.How==1)=true then
    some 364
   else
    some 0).bind fun (p8:Int) =>
   (G1 0 2 [a2.How]).bind fun x10 =>
   (if (x10||(!(x6.Pawn==(a2.How != 0))))=true then
   some true
   else
   (G1 0 p8 [a2.Day]).bind fun x13 =>
   some x13).bind fun x14 =>
   if x14=true then
   some 2
   else
   (if ((A2f x7.Needs x6.Looks) != 0)=true then
    some true
   else
    (inR 3 a2.How).bind fun x17 =>
    (sel3 a2.How (A69 x6 x7 a2.Day) (A7a x6 x7 a2.Day) (A2o x6 x7 a2.Day)).bind fun x18 =>
    some (!x18)).bind fun x19 =>
   if x19=true then
    some 9
   else
    some 0
theorem A5o {c:Sc} {H:A2} {a0:pawn_show} {b0:Nat} (hb0:hcells H b0=some [(.seq 8 (Ze C6 a0.PaShow.Gowns)),(.seq 4 (Ze B5 a0.PaShow.Figures)),.i a0.PaShow.Purse,(.seq 2 (Ze D3 a0.PaShow.Incomes)),(.fn (.func 90) [] []),(.fn (.func 91) [] []),(.fn (.func 92) [] []),(.fn (.func 52) [] []),(.fn (.func 93) [] []),(.fn (.func 94) [] []),(.fn (.func 55) [] []),(.fn (.func 95) [] []),(.fn (.func 96) [] []),(.seq 1 (Ze cI a0.days_))]) {a1:Int} {a2:PaUse} {r:Int} (h:Z4 a0 a1 a2=some r) :
  F0 tab c H (.fn (.func 57) [] []) [.ptr b0 0,.i a1,(.agg (A6 a2))] [.i r]:= by
 unfold Z4 at h
 refine cE Z Z<|sg 0 Z<|A0 (G0 (cs:=A6 a2) Z Z Z) Z<|qm Z<|es (ra3 Z Z Z)<|B8<|C5<|s0<|oB h fun x1 hx1 h=>A0 (D0 Z Z Z) Z<|T1 (rs:=[(.agg (A6 x1))]) Z Z A0e B3 ((A64 hx1).frz)<|A0 (C67 (a:=A6 a2) (b:=A6 x1) Z Z Z Z (U6 (U6 (U6 B24)))) Z<|qm Z<|es (ra4 Z Z Z Z)<|wi h Z (fun hc2 h=>?_) fun hc2 h=>?_
 ·refine s0<|qm Z<|es (ra1 Z)<|C7 ?_
  obtain rfl:=os h
  exact retq trivial (A7 Z B7) (A5 Z B6) (A3 A4 B1)
 ·refine s0<|A0 (C1 Z) Z<|A0 (B4 Z Z Z) Z<|A0 (G2 Z Z) Z<|qm Z<|es (ra4 Z Z Z Z)<|wi h Z (fun hc3 h=>?_) fun hc3 h=>?_
  ·refine s0<|qm Z<|es (ra1 Z)<|C7 ?_
   obtain rfl:=os h
   exact retq trivial (A7 Z B7) (A5 Z B6) (A3 A4 B1)
  ·refine s0<|oB h fun x4 hx4 h=>qm Z<|A0 (N1 Z Z) Z<|A0 (C1 Z) Z<|A0 (C1 Z) Z<|A0 (I4 (x:=(.seq 8 (Ze C6 a0.PaShow.Gowns))) Z hb0 Z) Z<|A0 (F1 (f:=C6) Z) Z<|A0 (W6 Z Z) Z<|A0 (C1 Z) Z<|A0 (B4 Z Z Z) Z<|A0 (J2 (rows:=Ze cI [a2.Gown]) Z Z (D8 (fun _=>rfl) _)) Z<|B2 (rs:=[.b x4]) Z Z (A1 Z (A1 Z (A1 Z B3))) ((H8 hx4).frz)<|qm Z<|es (ra4 Z Z Z Z)<|wi h Z (fun hc5 h=>?_) fun hc5 h=>?_
   ·refine s0<|qm Z<|es (ra1 Z)<|C7 ?_
    obtain rfl:=os h
    exact retq trivial (A7 Z B7) (A5 Z B6) (A3 A4 B1)
   ·refine B9<|sg 1 Z<|oB h fun x6 hx6 h=>oB h fun x7 hx7 h=>qm Z<|A0 (N1 Z Z) Z<|A0 (C1 Z) Z<|A0 (C1 Z) Z<|J3 [1,2] (O1 [1,2] rfl H7 Z Z) (seen0 Z) (I4 (x:=(.seq 8 (Ze C6 a0.PaShow.Gowns))) Z hb0 Z) Z<|A0 (C1 Z) Z<|J3 [1,2] (O1 [1,2] rfl H7 Z Z) (seen0 Z) (B4 Z Z Z) Z<|J3 [1,2] (O1 [1,2] rfl H7 Z Z) (seen0 Z) (D4 (f:=C6) Z Z hx6) Z<|J3 [1,2] (O1 [1,2] rfl H7 Z Z) (seen0 Z) (H9 Z Z) Z<|A0 K1 Z<|A0 K1 Z<|D8m [] [(.cells (A6 a2)),(.cells (C6 x6)),(.cells (B5 (PaFigure.mk (ByteArray.mk #[]) 0 0 0)))] (A61 hb0) (E2j [] rfl (B3v Z B0q H7) Z Z (A61 hb0) (D1e hb0)) (seen0 Z) (D72 (I3 _ _ _) (ds:=(C6 x6)) Z Z Z Z Z Z) Z Z Z<|qm Z<|A0 (N1 Z Z) Z<|A0 (C1 Z) Z<|A0 (C1 Z) Z<|J3 [1,2] (O1 [1,2] rfl H7 Z Z) (C0o (b:=b0) Z (B3t (C3p _ _) B6v)) (I4 (x:=(.seq 4 (Ze B5 a0.PaShow.Figures))) Z hb0 Z) Z<|qm Z<|J3 [1,2] (O1 [1,2] rfl H7 Z Z) (A50 Z) (D4 (f:=B5) Z Z hx7) Z<|J3 [1,2] (O1 [1,2] rfl H7 Z Z) (A50 Z) (H9 Z Z) Z<|P5 (G3 (ds:=(B5 x7)) Z Z Z Z (F7 Z) Z) Z<|es (ra4 Z Z Z Z)<|s0<|qm Z<|es (ra5 Z Z Z Z Z)<|B8<|s0<|A0 (C1 Z) Z<|A0 (B4 Z Z Z) Z<|A0 (G2 Z Z) Z<|es (ra6 Z Z Z Z Z Z)<|oB h fun p8 hp8 h=>A6v (Q1:=fun e s' H'=>e=.normal∧s'=[(0,.ptr b0 0),(5,(.ptr (H.length+0) 0)),(7,(.ptr (H.length+1) 0)),(8,(.ptr (H.length+2) 0)),(9,.i p8)]∧H'=(H++[(.cells (A6 a2)),(.cells (C6 x6)),(.cells (B5 x7))])) ?_ ?_
    ·refine wi hp8 Z (fun hc9 hp8=>?_) fun hc9 hp8=>?_
     ·refine r0<|qm Z<|en (ra5 Z Z Z Z Z) ?_
      obtain rfl:=os hp8
      exact me (ZE Z (ZE Z Z)) (su5 Z Z Z Z Z)
     ·refine B9 ?_
      obtain rfl:=os hp8
      exact me (ZE Z (ZE Z Z)) (su5 Z Z Z Z Z)
    ·rintro e s' H' ⟨rfl,rfl,rfl⟩
     refine B8<|C5<|s0<|oB h fun x10 hx10 h=>oB h fun x14 hx14 h=>A0 (C1 Z) Z<|A0 (B4 Z Z Z) Z<|A0 (J2 (rows:=Ze cI [a2.How]) Z Z (D8 (fun _=>rfl) _)) Z<|B2 (rs:=[.b x10]) Z Z (A1 Z (A1 Z (A1 Z B3))) ((H8 hx10).frz)<|qm Z<|gp 7 62 (.b (x10||(!(x6.Pawn==(a2.How != 0))))) 55 Z Z (fun hg11=>?_) (fun hg11=>?_) ?_
     ·exact nF Z hg11 Z<|nF Z hg11 Z<|nF Z hg11 Z<|nF Z hg11 Z<|nF Z hg11 Z<|nF Z hg11 Z<|A0 (C3 Z hg11 Z) Z<|ge 7 (by rw[hg11];rfl) Z Z
     ·exact gF Z hg11<|A0 (C1 Z) Z<|gF Z hg11<|A0 (B4 Z Z Z) Z<|gF Z hg11<|A0 (C1 Z) Z<|gF Z hg11<|A0 (B4 Z Z Z) Z<|gF Z hg11<|A0 (I8 Z Z) Z<|gF Z hg11<|A0 (E2w Z Z) Z<|A0 (C2 Z hg11 Z) Z<|ge 7 (by rw[hg11];rfl) Z Z
     refine qm Z<|gp 6 69 (.b x14) 63 Z Z (fun hg12=>?_) (fun hg12=>?_) ?_
     ·obtain rfl:=os (bt hx14 hg12)
      exact nF Z hg12 Z<|nF Z hg12 Z<|nF Z hg12 Z<|nF Z hg12 Z<|G4 (D2 Z (by rw[hg12];rfl)) Z<|A0 (C3 Z hg12 Z) Z<|ge 6 Z Z Z
     ·refine oB (bf hx14 hg12) fun x13 hx13 hx14=>?_
      obtain rfl:=os hx14
      exact gF Z hg12<|qm Z<|gF Z hg12<|A0 (C1 Z) Z<|gF Z hg12<|A0 (B4 Z Z Z) Z<|gF Z hg12<|A0 (J2 (rows:=Ze cI [a2.Day]) Z Z (D8 (fun _=>rfl) _)) Z<|gF Z hg12<|B2 (rs:=[.b x13]) Z Z (A1 Z (A1 Z (A1 Z B3))) ((H8 hx13).frz)<|A0 (C2 Z hg12 Z) Z<|ge 6 Z Z Z
     refine qm Z<|es (ra5 Z Z Z Z Z)<|wi h Z (fun hc15 h=>?_) fun hc15 h=>?_
     ·refine s0<|qm Z<|es (ra1 Z)<|C7 ?_
      obtain rfl:=os h
      exact retq trivial (A7 Z B7) (A5 Z B6) (A3 A4 B1)
     ·refine s0<|oB h fun x19 hx19 h=>A0 (C1 Z) Z<|A0 (B4 Z Z Z) Z<|A0 (C1 Z) Z<|A0 (B4 Z Z Z) Z<|A0 (R8 (v:=(.i (A2f x7.Needs x6.Looks))) Z Z Z) Z<|A0 (I8 Z Z) Z<|qm Z<|gp 15 92 (.b x19) 77 Z Z (fun hg16=>?_) (fun hg16=>?_) ?_
      ·obtain rfl:=os (bt hx19 hg16)
       exact nF Z hg16 Z<|nF Z hg16 Z<|nF Z hg16 Z<|nF Z hg16 Z<|nF Z hg16 Z<|nF Z hg16 Z<|nF Z hg16 Z<|nF Z hg16 Z<|nF Z hg16 Z<|nF Z hg16 Z<|nF Z hg16 Z<|nF Z hg16 Z<|G4 (D2 Z (by rw[hg16];rfl)) Z<|nF Z hg16 Z<|A0 (C3 Z hg16 Z) Z<|ge 15 Z Z Z
      ·refine oB (bf hx19 hg16) fun x17 hx17 hx19=>oB hx19 fun x18 hx18 hx19=>?_
       obtain rfl:=os hx19
       exact gF Z hg16<|qm Z<|gF Z hg16<|A0 (C1 Z) Z<|gF Z hg16<|A0 (B4 Z Z Z) Z<|gF Z hg16<|A0 (N1 Z Z) Z<|gF Z hg16<|A0 (C1 Z) Z<|gF Z hg16<|A0 (B3m Z Z (C6u hx17)) Z<|gF Z hg16<|A0 (C1 Z) Z<|gF Z hg16<|A0 (I4 (x:=(.fn (.func (isel a2.How 92 94 96)) [] [])) Z hb0 (E53 hx17)) Z<|gF Z hg16<|A0 (D0 Z Z Z) Z<|gF Z hg16<|A0 (D0 Z Z Z) Z<|gF Z hg16<|A0 (C1 Z) Z<|gF Z hg16<|A0 (B4 Z Z Z) Z<|gF Z hg16<|B2 (rs:=[.b x18]) Z Z (A1 (C9 Z) (A1 (C9 Z) (A1 Z B3))) (C22 (rs:=fun (y:Bool)=>[.b y]) (fun h=>(B9v h).frz) (fun h=>(B9x h).frz) (fun h=>(B1h h).frz) hx18)<|gF Z hg16<|A0 (M9 Z) Z<|A0 (C2 Z hg16 Z) Z<|ge 15 Z Z Z
      refine qm Z<|es (ra1 Z)<|wi h Z (fun hc20 h=>?_) fun hc20 h=>?_
      ·refine s0<|qm Z<|es (ra1 Z)<|C7 ?_
       obtain rfl:=os h
       exact retq trivial (A7 Z B7) (A5 Z B6) (A3 A4 B1)
      ·refine B9<|s0<|qm Z<|es (ra1 Z)<|C7 ?_
       obtain rfl:=os h
       exact retq trivial (A7 Z B7) (A5 Z B6) (A3 A4 B1)
def A5t (a0:PaGown) (a1:PaFigure) (a2:Int):Option Int :=
 some (w64 (a0.Fee*(w64 ((w64 (a1.Until-a1.Day))+1))))
theorem B4b {c:Sc} {H:A2} {a0:PaGown} {a1:PaFigure} {a2:Int} {r:Int} (h:A5t a0 a1 a2=some r) :
  F0 tab c H (.fn (.func 55) [] []) [(.agg (C6 a0)),(.agg (B5 a1)),.i a2] [.i r]:= by
 unfold A5t at h
 refine cE Z Z<|sg 0 Z<|A0 (G0 (cs:=C6 a0) Z Z Z) Z<|A0 (G0 (cs:=B5 a1) Z Z Z) Z<|qm Z<|es (ra2 Z Z)<|s0<|A0 (C1 Z) Z<|A0 (B4 Z Z Z) Z<|A0 (C1 Z) Z<|A0 (B4 Z Z Z) Z<|A0 (C1 Z) Z<|A0 (B4 Z Z Z) Z<|A0 (W6 Z Z) Z<|A0 (D9 Z Z) Z<|A0 (B3z Z Z) Z<|qm Z<|es (ra1 Z)<|C7 ?_
 obtain rfl:=os h
 exact retq trivial (A7 Z B7) (A5 Z B6) (A3 A4 B1)
def B00 (a0:PaFigure) (a1:Int):Option Int :=
 some 0
theorem B9u {c:Sc} {H:A2} {a0:PaFigure} {a1:Int} {r:Int} (h:B00 a0 a1=some r) :
  F0 tab c H (.fn (.func 91) [] []) [(.agg (B5 a0)),.i a1] [.i r]:= by
 unfold B00 at h
 refine cE Z Z<|sg 0 Z<|A0 (G0 (cs:=B5 a0) Z Z Z) Z<|qm Z<|es .n<|s0<|qm Z<|es (ra1 Z)<|C7 ?_
 obtain rfl:=os h
 exact retq trivial (A7 Z B7) (A5 Z B6) (A3 A4 B1)
def B01 (a0:PaFigure) (a1:Int):Option Int :=
 some a1
theorem B9w {c:Sc} {H:A2} {a0:PaFigure} {a1:Int} {r:Int} (h:B01 a0 a1=some r) :
  F0 tab c H (.fn (.func 93) [] []) [(.agg (B5 a0)),.i a1] [.i r]:= by
 unfold B01 at h
 refine cE Z Z<|sg 0 Z<|A0 (G0 (cs:=B5 a0) Z Z Z) Z<|qm Z<|es (ra1 Z)<|s0<|qm Z<|qm Z<|es (ra1 Z)<|C7 ?_
 obtain rfl:=os h
 exact retq trivial (A7 Z B7) (A5 Z B6) (A3 A4 B1)
def B02 (a0:PaFigure) (a1:Int):Option Int :=
 some a0.Day
theorem B9y {c:Sc} {H:A2} {a0:PaFigure} {a1:Int} {r:Int} (h:B02 a0 a1=some r) :
  F0 tab c H (.fn (.func 95) [] []) [(.agg (B5 a0)),.i a1] [.i r]:= by
 unfold B02 at h
 refine cE Z Z<|sg 0 Z<|A0 (G0 (cs:=B5 a0) Z Z Z) Z<|qm Z<|es (ra1 Z)<|s0<|A0 (C1 Z) Z<|A0 (B4 Z Z Z) Z<|qm Z<|es (ra1 Z)<|C7 ?_
 obtain rfl:=os h
 exact retq trivial (A7 Z B7) (A5 Z B6) (A3 A4 B1)
def B8c (a0:PaGown) (a1:PaFigure) (a2:Int):Option Int :=
 some 0
theorem C7c {c:Sc} {H:A2} {a0:PaGown} {a1:PaFigure} {a2:Int} {r:Int} (h:B8c a0 a1 a2=some r) :
  F0 tab c H (.fn (.func 90) [] []) [(.agg (C6 a0)),(.agg (B5 a1)),.i a2] [.i r]:= by
 unfold B8c at h
 refine cE Z Z<|sg 0 Z<|A0 (G0 (cs:=C6 a0) Z Z Z) Z<|A0 (G0 (cs:=B5 a1) Z Z Z) Z<|qm Z<|es .n<|s0<|qm Z<|es (ra1 Z)<|C7 ?_
 obtain rfl:=os h
 exact retq trivial (A7 Z B7) (A5 Z B6) (A3 A4 B1)
def A0v (a0:PaGown) (a1:PaFigure) (a2:Int):Option Int :=
 some (w64 (a0.Loan+(w64 (a0.Rate*(w64 (1+(w64 (Z4c (w64 (a0.Ago+a2)) 30))))))))
theorem B1i {c:Sc} {H:A2} {a0:PaGown} {a1:PaFigure} {a2:Int} {r:Int} (h:A0v a0 a1 a2=some r) :
  F0 tab c H (.fn (.func 52) [] []) [(.agg (C6 a0)),(.agg (B5 a1)),.i a2] [.i r]:= by
 unfold A0v at h
 refine cE Z Z<|sg 0 Z<|A0 (G0 (cs:=C6 a0) Z Z Z) Z<|A0 (G0 (cs:=B5 a1) Z Z Z) Z<|qm Z<|es (ra2 Z Z)<|s0<|A0 (C1 Z) Z<|A0 (B4 Z Z Z) Z<|A0 (C1 Z) Z<|A0 (B4 Z Z Z) Z<|A0 (C1 Z) Z<|A0 (B4 Z Z Z) Z<|qm Z<|A0 (D9 Z Z) Z<|A0 (R8 (v:=(.i (w64 (Z4c (w64 (a0.Ago+a2)) 30)))) Z Z Z) Z<|A0 (D9 Z Z) Z<|A0 (B3z Z Z) Z<|A0 (D9 Z Z) Z<|qm Z<|es (ra1 Z)<|C7 ?_
 obtain rfl:=os h
 exact retq trivial (A7 Z B7) (A5 Z B6) (A3 A4 B1)
def W2 (a0:pawn_show) (a1:Int) (a2:PaUse):Option (Int×Int) :=
 (A09).bind fun x1 =>
 if ((a2.Gown==x1.Gown)&&((a2.How==x1.How)&&((a2.Day==x1.Day)&&true)))=true then
  some (0,0)
 else
  (inR 3 a2.How).bind fun x3 =>
  (idx a0.PaShow.Gowns a2.Gown).bind fun x4 =>
  (idx a0.PaShow.Figures a1).bind fun x5 =>
  (sel3 a2.How (B8c x4 x5 a2.Day) (A0v x4 x5 a2.Day) (A5t x4 x5 a2.Day)).bind fun x6 =>
  (idx a0.PaShow.Figures a1).bind fun x7 =>
  (sel3 a2.How (B00 x7 a2.Day) (B01 x7 a2.Day) (B02 x7 a2.Day)).bind fun x8 =>
  some (x6,x8)
theorem Y4 {c:Sc} {H:A2} {a0:pawn_show} {b0:Nat} (hb0:hcells H b0=some [(.seq 8 (Ze C6 a0.PaShow.Gowns)),(.seq 4 (Ze B5 a0.PaShow.Figures)),.i a0.PaShow.Purse,(.seq 2 (Ze D3 a0.PaShow.Incomes)),(.fn (.func 90) [] []),(.fn (.func 91) [] []),(.fn (.func 92) [] []),(.fn (.func 52) [] []),(.fn (.func 93) [] []),(.fn (.func 94) [] []),(.fn (.func 55) [] []),(.fn (.func 95) [] []),(.fn (.func 96) [] []),(.seq 1 (Ze cI a0.days_))]) {a1:Int} {a2:PaUse} {r:(Int×Int)} (h:W2 a0 a1 a2=some r) :
  F0 tab c H (.fn (.func 103) [] []) [.ptr b0 0,.i a1,(.agg (A6 a2))] [.i r.1,.i r.2]:= by
 unfold W2 at h
 refine cE Z Z<|sg 0 Z<|A0 (G0 (cs:=A6 a2) Z Z Z) Z<|qm Z<|qm Z<|es (ra3 Z Z Z)<|B8<|s0<|oB h fun x1 hx1 h=>A0 (D0 Z Z Z) Z<|T1 (rs:=[(.agg (A6 x1))]) Z Z A0e B3 ((A64 hx1).frz)<|A0 (C67 (a:=A6 a2) (b:=A6 x1) Z Z Z Z (U6 (U6 (U6 B24)))) Z<|es (ra4 Z Z Z Z)<|wi h Z (fun hc2 h=>?_) fun hc2 h=>?_
 ·refine s0<|qm Z<|qm Z<|es (ra2 Z Z)<|C7 ?_
  obtain rfl:=os h
  exact retq trivial (A7 Z (A7 Z B7)) (A5 Z (A5 Z B6)) (A3 A4 (A3 A4 B1))
 ·refine B9<|sg 1 Z<|oB h fun x3 hx3 h=>qm Z<|A0 (C1 Z) Z<|J3 [1] (O1 [1] rfl H7 Z Z) (seen0 Z) (B4 Z Z Z) Z<|A0 (N1 Z Z) Z<|A0 (C1 Z) Z<|A0 (B3m Z Z (C6u hx3)) Z<|J3 [1] (O1 [1] rfl H7 Z Z) (seen0 Z) (C18 (ds:=[(.fn (.func (isel a2.How 90 52 55)) [] []),(.fn (.func (isel a2.How 91 93 95)) [] []),(.fn (.func (isel a2.How 92 94 96)) [] [])]) Z hb0 (E55 hx3) (E54 hx3)) Z<|A0 K1 Z<|P5 (G3 (ds:=[(.fn (.func (isel a2.How 90 52 55)) [] []),(.fn (.func (isel a2.How 91 93 95)) [] []),(.fn (.func (isel a2.How 92 94 96)) [] [])]) Z Z Z Z (A2k (ZM _ _)) Z) Z<|es (ra4 Z Z Z Z)<|s0<|oB h fun x4 hx4 h=>oB h fun x5 hx5 h=>oB h fun x6 hx6 h=>oB h fun x7 hx7 h=>oB h fun x8 hx8 h=>A0 (C1 Z) Z<|A0 (B4 (x:=(.fn (.func (isel a2.How 90 52 55)) [] [])) Z Z Z) Z<|qm Z<|A0 (N1 Z Z) Z<|A0 (C1 Z) Z<|A0 (C1 Z) Z<|A0 (I4 (x:=(.seq 8 (Ze C6 a0.PaShow.Gowns))) Z hb0 Z) Z<|A0 (C1 Z) Z<|A0 (B4 Z Z Z) Z<|A0 (D4 (f:=C6) Z Z hx4) Z<|A0 (H9 Z Z) Z<|qm Z<|A0 (N1 Z Z) Z<|A0 (C1 Z) Z<|A0 (C1 Z) Z<|A0 (I4 (x:=(.seq 4 (Ze B5 a0.PaShow.Figures))) Z hb0 Z) Z<|qm Z<|A0 (D4 (f:=B5) Z Z hx5) Z<|A0 (H9 Z Z) Z<|A0 (C1 Z) Z<|A0 (B4 Z Z Z) Z<|T1 (rs:=[.i x6]) Z Z (R5 Z (R5 Z (R5 Z A0e))) (A1 (C9 Z) (A1 (C9 Z) (A1 Z B3))) (C22 (rs:=fun (y:Int)=>[.i y]) (fun h=>(C7c h).frz) (fun h=>(B1i h).frz) (fun h=>(B4b h).frz) hx6)<|A0 (C1 Z) Z<|A0 (B4 (x:=(.fn (.func (isel a2.How 91 93 95)) [] [])) Z Z Z) Z<|qm Z<|A0 (N1 Z Z) Z<|A0 (C1 Z) Z<|A0 (C1 Z) Z<|A0 (I4 (x:=(.seq 4 (Ze B5 a0.PaShow.Figures))) Z hb0 Z) Z<|qm Z<|A0 (D4 (f:=B5) Z Z hx7) Z<|A0 (H9 Z Z) Z<|A0 (C1 Z) Z<|A0 (B4 Z Z Z) Z<|B2 (rs:=[.i x8]) Z Z (A1 (C9 Z) (A1 Z B3)) (C22 (rs:=fun (y:Int)=>[.i y]) (fun h=>(B9u h).frz) (fun h=>(B9w h).frz) (fun h=>(B9y h).frz) hx8)<|qm Z<|qm Z<|es (ra2 Z Z)<|C7 ?_
  obtain rfl:=os h
  exact retq trivial (A7 Z (A7 Z B7)) (A5 Z (A5 Z B6)) (A3 A4 (A3 A4 B1))
def U0 (a0:pawn_show) (a2:Int) (s1:(Int×Int)):Option ((Int×Int)⊕Int) :=
 if (decide (s1.2<(Zh a0.PaShow.Incomes:Int)))=true then
  (idx a0.PaShow.Incomes s1.2).bind fun x4 =>
  if (decide (x4.Day≤a2))=true then
  some (.inl ((w64 (s1.1+x4.Pence)),(w64 (s1.2+1))))
  else
  some (.inl (s1.1,(w64 (s1.2+1))))
 else
  some (.inr s1.1)
def U1 (a0:pawn_show) (a1:(List PaUse)) (a2:Int) (s7:(Int×Int)):Option ((Int×Int)⊕Int) :=
 if (decide (s7.2<(Zh a1:Int)))=true then
  (idx a1 s7.2).bind fun x10 =>
  (W2 a0 s7.2 x10).bind fun x11 =>
  if (decide (x11.2≤a2))=true then
  some (.inl ((w64 (s7.1-x11.1)),(w64 (s7.2+1))))
  else
  some (.inl (s7.1,(w64 (s7.2+1))))
 else
  some (.inr s7.1)
def T2 (a0:pawn_show) (a1:(List PaUse)) (a2:Int):Option Int :=
 (loop (U0 a0 a2) (a0.PaShow.Purse,0)).bind fun (o6:Int) =>
 (loop (U1 a0 a1 a2) (o6,0)).bind fun (o13:Int) =>
 some o13
theorem A8w {c:Sc} {H:A2} {a0:pawn_show} {b0:Nat} (hb0:hcells H b0=some [(.seq 8 (Ze C6 a0.PaShow.Gowns)),(.seq 4 (Ze B5 a0.PaShow.Figures)),.i a0.PaShow.Purse,(.seq 2 (Ze D3 a0.PaShow.Incomes)),(.fn (.func 90) [] []),(.fn (.func 91) [] []),(.fn (.func 92) [] []),(.fn (.func 52) [] []),(.fn (.func 93) [] []),(.fn (.func 94) [] []),(.fn (.func 55) [] []),(.fn (.func 95) [] []),(.fn (.func 96) [] []),(.seq 1 (Ze cI a0.days_))]) {a1:(List PaUse)} {a2:Int} {r:Int} (h:T2 a0 a1 a2=some r) :
  F0 tab c H (.fn (.func 63) [] []) [.ptr b0 0,(.seq 3 (Ze A6 a1)),.i a2] [.i r]:= by
 unfold T2 at h
 refine cE Z Z<|s0<|qm Z<|es (ra3 Z Z Z)<|s0<|qm Z<|A0 (N1 Z Z) Z<|A0 (C1 Z) Z<|A0 (C1 Z) Z<|A0 (I4 (x:=(.i a0.PaShow.Purse)) Z hb0 Z) Z<|qm Z<|es (ra4 Z Z Z Z)<|B8<|s0<|qm Z<|A0 (N1 Z Z) Z<|A0 (C1 Z) Z<|A0 (C1 Z) Z<|A0 (I4 (x:=(.seq 2 (Ze D3 a0.PaShow.Incomes))) Z hb0 Z) Z<|A0 (F1 (f:=D3) Z) Z<|qm Z<|es (ra7 Z Z Z Z Z Z Z)<|C5<|oB h fun o6 ho6 h=>wl (fun s1=>[(0,.ptr b0 0),(1,(.seq 3 (Ze A6 a1))),(2,.i a2),(7,.i s1.1),(23,(.seq 2 (Ze D3 a0.PaShow.Incomes))),(24,(.i (Zh a0.PaShow.Incomes:Int))),(25,.i s1.2)]) (fun (q2:Unit) s1=>[]) 0 (fun r e s' H'=>PX 0 [(0,.ptr b0 0),(1,(.seq 3 (Ze A6 a1))),(2,.i a2),(7,.i r)] (H++[]) e s' H') () ho6 Z Z (fun _ _=>rfl) (fun _=>rfl) Z (fun s1=>(bdc (A8l hb0) (bdc G6 (bdc A4 (bdc A4 (bdc G6 (bdc A4 (bdc A4 bdn)))))))) (fun q2 s1 ys1 hs1=>?_) ?_
 ·unfold U0 at hs1
  refine s0<|A0 (I0 Z Z) Z<|es (ra8 Z Z Z Z Z Z Z Z)<|B8<|wi hs1 Z (fun hc3 hs1=>?_) fun hc3 hs1=>?_
  ·refine B9<|B8<|C5<|sg 0 Z<|oB hs1 fun x4 hx4 hs1=>A0 (D4 (f:=D3) Z Z hx4) Z<|A0 (H9 Z Z) Z<|A0 K1 Z<|P5 (G3 (ds:=(D3 x4)) Z Z Z Z (F7 Z) Z) Z<|es (ra8 Z Z Z Z Z Z Z Z)<|s0<|A0 (C1 Z) Z<|A0 (B4 Z Z Z) Z<|qm Z<|A0 (A4k Z Z) Z<|es (ra9 Z Z Z Z Z Z Z Z Z)<|wi hs1 Z (fun hc5 hs1=>?_) fun hc5 hs1=>?_
   ·refine r0<|qm Z<|A0 (C1 Z) Z<|A0 (B4 Z Z Z) Z<|A0 (D9 Z Z) Z<|qm Z<|en (ra7 Z Z Z Z Z Z Z)<|r0<|A0 (D9 Z Z) Z<|qm Z<|en (ra7 Z Z Z Z Z Z Z) ?_
    cases hs1
    exact lnT () Z (su7 Z Z Z Z Z Z Z)
   ·refine B9<|r0<|A0 (D9 Z Z) Z<|qm Z<|en (ra7 Z Z Z Z Z Z Z) ?_
    cases hs1
    exact lnT () Z (su7 Z Z Z Z Z Z Z)
  ·refine G5 ?_
   obtain rfl:=os hs1
   exact lx Z px (su4 Z Z Z Z)
 ·rintro e s' H'-⟨rfl,rfl,rfl⟩
  refine B8<|s0<|qm Z<|A0 (F1 (f:=A6) Z) Z<|qm Z<|es (ra6 Z Z Z Z Z Z)<|C5<|oB h fun o13 ho13 h=>wl (fun s7=>[(0,.ptr b0 0),(2,.i a2),(7,.i s7.1),(38,(.seq 3 (Ze A6 a1))),(39,(.i (Zh a1:Int))),(40,.i s7.2)]) (fun (q8:Unit) s7=>[]) 0 (fun r e s' H'=>PX 2 [(7,.i r)] (H++[]) e s' H') () ho13 Z Z (fun _ _=>rfl) (fun _=>rfl) Z (fun s7=>(bdc (A8l hb0) (bdc A4 (bdc A4 (bdc G6 (bdc A4 (bdc A4 bdn))))))) (fun q8 s7 ys7 hs7=>?_) ?_
  ·unfold U1 at hs7
   refine s0<|A0 (I0 Z Z) Z<|es (ra7 Z Z Z Z Z Z Z)<|B8<|wi hs7 Z (fun hc9 hs7=>?_) fun hc9 hs7=>?_
   ·refine B9<|B8<|C5<|sg 0 Z<|oB hs7 fun x10 hx10 hs7=>qm Z<|A0 (D4 (f:=A6) Z Z hx10) Z<|A0 (H9 Z Z) Z<|A0 K1 Z<|qm Z<|P5 (G3 (ds:=(A6 x10)) Z Z Z Z (F7 Z) Z) Z<|es (ra8 Z Z Z Z Z Z Z Z)<|s0<|oB hs7 fun x11 hx11 hs7=>qm Z<|qm Z<|A0 (D0 Z Z Z) Z<|B2 (rs:=[.i x11.1,.i x11.2]) Z Z (A1 Z (A1 Z (A1 (C9 Z) B3))) ((Y4 (F2 hb0 _) hx11).frz)<|qm Z<|A0 (A8 Z Z) Z<|A0 (A8 Z Z) Z<|qm Z<|qm Z<|es (ra8 Z Z Z Z Z Z Z Z)<|s0<|qm Z<|qm Z<|A0 (A4k Z Z) Z<|es (ra8 Z Z Z Z Z Z Z Z)<|wi hs7 Z (fun hc12 hs7=>?_) fun hc12 hs7=>?_
    ·refine r0<|qm Z<|qm Z<|A0 (W6 Z Z) Z<|qm Z<|en (ra6 Z Z Z Z Z Z)<|r0<|A0 (D9 Z Z) Z<|qm Z<|en (ra6 Z Z Z Z Z Z) ?_
     cases hs7
     exact lnT () Z (su6 Z Z Z Z Z Z)
    ·refine B9<|r0<|A0 (D9 Z Z) Z<|qm Z<|en (ra6 Z Z Z Z Z Z) ?_
     cases hs7
     exact lnT () Z (su6 Z Z Z Z Z Z)
   ·refine G5 ?_
    obtain rfl:=os hs7
    exact lx Z px (su1 Z)
  ·rintro e s' H'-⟨rfl,rfl,rfl⟩
   refine s0<|qm Z<|qm Z<|es (ra1 Z)<|C7 ?_
   obtain rfl:=os h
   exact retq trivial (A7 Z B7) (A5 Z B6) (A3 A4 B1)
def S3 (a0:pawn_show) (a1:(List PaUse)) (s1:(Int×Int×Int)):Option ((Int×Int×Int)⊕(Int×Int)) :=
 if (decide (s1.2.2<(Zh a1:Int)))=true then
  (idx a1 s1.2.2).bind fun x4 =>
  (W2 a0 s1.2.2 x4).bind fun x5 =>
  (T2 a0 a1 x5.2).bind fun x6 =>
  if (decide (x6<0))=true then
  some (.inl ((C62 s1.1 (w64 (0-x6))),(A47 s1.2.1 x5.2),(w64 (s1.2.2+1))))
  else
  some (.inl (s1.1,s1.2.1,(w64 (s1.2.2+1))))
 else
  some (.inr (s1.1,s1.2.1))
def R2 (a0:pawn_show) (a1:(List PaUse)):Option (Int×Int) :=
 (loop (S3 a0 a1) (0,365,0)).bind fun (o8:(Int×Int)) =>
 some (o8.1,o8.2)
theorem B4z {c:Sc} {H:A2} {a0:pawn_show} {b0:Nat} (hb0:hcells H b0=some [(.seq 8 (Ze C6 a0.PaShow.Gowns)),(.seq 4 (Ze B5 a0.PaShow.Figures)),.i a0.PaShow.Purse,(.seq 2 (Ze D3 a0.PaShow.Incomes)),(.fn (.func 90) [] []),(.fn (.func 91) [] []),(.fn (.func 92) [] []),(.fn (.func 52) [] []),(.fn (.func 93) [] []),(.fn (.func 94) [] []),(.fn (.func 55) [] []),(.fn (.func 95) [] []),(.fn (.func 96) [] []),(.seq 1 (Ze cI a0.days_))]) {a1:(List PaUse)} {r:(Int×Int)} (h:R2 a0 a1=some r) :
  F0 tab c H (.fn (.func 66) [] []) [.ptr b0 0,(.seq 3 (Ze A6 a1))] [.i r.1,.i r.2]:= by
 unfold R2 at h
 refine cE Z Z<|s0<|qm Z<|qm Z<|es (ra3 Z Z Z)<|s0<|qm Z<|es (ra4 Z Z Z Z)<|B8<|s0<|qm Z<|A0 (F1 (f:=A6) Z) Z<|qm Z<|es (ra7 Z Z Z Z Z Z Z)<|C5<|oB h fun o8 ho8 h=>wl (fun s1=>[(0,.ptr b0 0),(1,(.seq 3 (Ze A6 a1))),(4,.i s1.1),(5,.i s1.2.1),(11,(.seq 3 (Ze A6 a1))),(12,(.i (Zh a1:Int))),(13,.i s1.2.2)]) (fun (q2:Unit) s1=>[]) 0 (fun r e s' H'=>PX 0 [(4,.i r.1),(5,.i r.2)] (H++[]) e s' H') () ho8 Z Z (fun _ _=>rfl) (fun _=>rfl) Z (fun s1=>(bdc (A8l hb0) (bdc G6 (bdc A4 (bdc A4 (bdc G6 (bdc A4 (bdc A4 bdn)))))))) (fun q2 s1 ys1 hs1=>?_) ?_
 ·unfold S3 at hs1
  refine s0<|A0 (I0 Z Z) Z<|es (ra8 Z Z Z Z Z Z Z Z)<|B8<|wi hs1 Z (fun hc3 hs1=>?_) fun hc3 hs1=>?_
  ·refine B9<|B8<|C5<|sg 0 Z<|oB hs1 fun x4 hx4 hs1=>qm Z<|A0 (D4 (f:=A6) Z Z hx4) Z<|A0 (H9 Z Z) Z<|A0 K1 Z<|qm Z<|P5 (G3 (ds:=(A6 x4)) Z Z Z Z (F7 Z) Z) Z<|es (ra9 Z Z Z Z Z Z Z Z Z)<|s0<|oB hs1 fun x5 hx5 hs1=>qm Z<|qm Z<|A0 (D0 Z Z Z) Z<|B2 (rs:=[.i x5.1,.i x5.2]) Z Z (A1 Z (A1 Z (A1 (C9 Z) B3))) ((Y4 (F2 hb0 _) hx5).frz)<|qm Z<|A0 (A8 Z Z) Z<|A0 (A8 Z Z) Z<|qm Z<|qm Z<|es (ra8 Z Z Z Z Z Z Z Z)<|s0<|oB hs1 fun x6 hx6 hs1=>qm Z<|qm Z<|qm Z<|O4 (Z2 (rs:=[.i x6]) Z Z ((A8w (F2 hb0 _) hx6).frz)) Z<|qm Z<|es (ra9 Z Z Z Z Z Z Z Z Z)<|s0<|qm Z<|A0 (I0 Z Z) Z<|es (ra10 Z Z Z Z Z Z Z Z Z Z)<|wi hs1 Z (fun hc7 hs1=>?_) fun hc7 hs1=>?_
   ·refine r0<|qm Z<|qm Z<|A0 (C9a Z Z) Z<|A0 (C88 Z Z) Z<|qm Z<|qm Z<|A0 (C88 Z Z) Z<|qm Z<|qm Z<|en (ra7 Z Z Z Z Z Z Z)<|r0<|A0 (D9 Z Z) Z<|qm Z<|en (ra7 Z Z Z Z Z Z Z) ?_
    cases hs1
    exact lnT () Z (su7 Z Z Z Z Z Z Z)
   ·refine B9<|r0<|A0 (D9 Z Z) Z<|qm Z<|en (ra7 Z Z Z Z Z Z Z) ?_
    cases hs1
    exact lnT () Z (su7 Z Z Z Z Z Z Z)
  ·refine G5 ?_
   obtain rfl:=os hs1
   exact lx Z px (su2 Z Z)
 ·rintro e s' H'-⟨rfl,rfl,rfl⟩
  refine s0<|qm Z<|qm Z<|qm Z<|qm Z<|es (ra2 Z Z)<|C7 ?_
  obtain rfl:=os h
  exact retq trivial (A7 Z (A7 Z B7)) (A5 Z (A5 Z B6)) (A3 A4 (A3 A4 B1))
end Pw
end
section
set_option maxRecDepth 100000
namespace Pw
open Go Am Go.Proofs.YtjpjdglddmhplaaGreat.Cd
inductive SlV (H:A2):AV→List PaUse→Prop
 | seq (l:List PaUse):SlV H (.seq 3 (l.map A6)) l
 | asl (b:Nat) (p:Bool) (l:List PaUse) (h:harr H b=some (3,p,l.map A6)):SlV H (.asl b l.length) l
 | csl (b:Nat) (p:Bool) (o:Nat) (full l:List PaUse) (h:harr H b=some (3,p,full.map A6)) (hl:∀n a,l[n]? = some a→full[o+n]? = some a) (hq:o+l.length≤full.length):SlV H (.csl b o full.length l.length) l
theorem B4r {H:A2} {b:Nat} {x:Nat×Bool×List (List AV)} (h:harr H b=some x):b<H.length:= by
 unfold harr hget at h
 cases e:H[b]? with
 | none=>rw[e]at h;cases h
 | some o=>exact(Zf.1 e).1
theorem A1v {H L:A2} {b:Nat} {x:Nat×Bool×List (List AV)} (h:harr H b=some x):harr (H++L) b=some x:= by
 have:=B4r h
 unfold harr hget at h ⊢
 rw[List.getElem?_append_left this];exact h
theorem SlV.app {H L:A2} {v:AV} {l:List PaUse} (h:SlV H v l):SlV (H++L) v l:= by
 cases h with
 | seq=>exact .seq l
 | asl b p _ h=>exact .asl b p l (A1v h)
 | csl b p o full _ h hl hq=>exact .csl b p o full l (A1v h) hl hq
theorem SlV.bd {H:A2} {v:AV} {l:List PaUse} {k:Nat} (h:SlV H v l):v.bd (H.length+k)=true:= by
 cases h with
 | seq=>exact G6
 | asl b p _ h=>have:=B4r h;simp only[AV.bd];exact Zl (by omega)
 | csl b p o full _ h hl hq=>have:=B4r h;simp only[AV.bd];exact Zl (by omega)
def elP (v:AV) (n:Nat):AV:=match v with
 | .seq _ rows=>.cptr ((rows[n]?).getD [])
 | .asl b m=>.eptr b m n 0
 | .csl b o m _=>.eptr b m (o+n) 0
 | _=>.undef
def elF (off:Nat) (v:AV):AV:=match v with
 | .eptr b m i o=>.eptr b m i (o+off)
 | .cptr cs=>.cptr (cs.drop off)
 | _=>.undef
theorem C4l {H:A2} {v:AV} {l:List PaUse} {n:Int} {a:PaUse} (hv:SlV H v l) (ha:idx l n=some a):H6 H (elP v n.toNat)=some (A6 a):= by
 obtain⟨h1,h2⟩:=A8s ha
 cases hv with
 | seq=>simp only[elP,H6,ZN,h2,Zb,Option.getD_some]
 | asl b p _ h=>simp only[elP,H6,h,Zi,Z1a,if_true,ZN,h2,Zb,Z13]
 | csl b p o full _ h hl hq=>simp only[elP,H6,h,Zi,Z1a,if_true,ZN,hl _ _ h2,Zb,Z13]
section
variable {T:Tab} {s:C0} {H0:A2} {l:List AO} {c:Sc} {n0:Nat} {v:AV} {e:List PaUse}
theorem B70 {x:Opd} (hv:SlV H0 v e) (h:ev s x=some v):One T c n0 s (H0++l) (.lenL x) (.lit (.int .i64 e.length)) (H0++l):=⟨0,by
 cases hv with
 | seq=>simp[core,prim,h]
 | asl b p _ hb=>simp[core,prim,h,A1v hb]
 | csl b p o full _ hb hl hq=>simp[core,prim,h]⟩
theorem B7y {x i:Opd} {kk:IntKind} {n:Int} {a:PaUse} (hv:SlV H0 v e) (ha:idx e n=some a) (h:ev s x=some v) (hi:ev s i=some (.lit (.int kk n))):One T c n0 s (H0++l) (.idxS 3 x i) (elP v n.toNat) (H0++l):=⟨0,by
 obtain⟨h1,h2⟩:=A8s ha
 have hlt:n<(e.length:Int):= by have:=(Zf.1 h2).1;omega
 cases hv with
 | seq=>simp[core,prim,h,hi,h1,h2,elP]
 | asl b p _ hb=>simp[core,prim,h,hi,h1,hlt,A1v hb,elP]
 | csl b p o full _ hb hl hq=>simp[core,prim,h,hi,h1,hlt,A1v hb,elP]⟩
theorem C0k {x:Opd} {n:Int} {a:PaUse} (hv:SlV H0 v e) (ha:idx e n=some a) (h:ev s x=some (elP v n.toNat)):One T c n0 s (H0++l) (.load (some 3) x) (.agg (A6 a)) (H0++l):=⟨0,by
 have:=C4l (hv.app (L:=l)) ha
 simp[core,prim,h,this,A6,ZH]⟩
theorem E1v {x:Opd} {off:Nat} {n:Int} {a:PaUse} (hv:SlV H0 v e) (ha:idx e n=some a) (h:ev s x=some (elP v n.toNat)):One T c n0 s (H0++l) (.fieldAddr off x) (elF off (elP v n.toNat)) (H0++l):=⟨0,by
 cases hv <;> simp[core,prim,h,elP,elF]⟩
theorem C87 {x:Opd} {off:Nat} {n:Int} {a:PaUse} {y:AV} (hv:SlV H0 v e) (ha:idx e n=some a) (h:ev s x=some (elF off (elP v n.toNat))) (hy:((A6 a).drop off).head? = some y):One T c n0 s (H0++l) (.load none x) y (H0++l):=⟨0,by
 have h1:=C4l (hv.app (L:=l)) ha
 have h2:H6 (H0++l) (elF off (elP v n.toNat))=some ((A6 a).drop off):= by
  cases hv with
  | seq =>
   simp only[elP,H6,Za]at h1
   simp only[elP,elF,H6,h1]
  | asl b p _ hb =>
   simp only[elP,H6,A1v hb,Zi,Z1a,if_true]at h1
   simp only[elP,elF,H6,A1v hb,Zi,Z1a,if_true]
   split at h1
   ·next r hr=>simp only[Z13,Za]at h1;simp only[h1,Z1i]
   ·cases h1
  | csl b p o full _ hb hl hq =>
   simp only[elP,H6,A1v hb,Zi,Z1a,if_true]at h1
   simp only[elP,elF,H6,A1v hb,Zi,Z1a,if_true]
   split at h1
   ·next r hr=>simp only[Z13,Za]at h1;simp only[h1,Z1i]
   ·cases h1
 simp only[core,prim,h,h2]
 cases hd:(A6 a).drop off with
 | nil=>rw[hd]at hy;cases hy
 | cons u t=>rw[hd]at hy;simp only[Z2i,Za]at hy;subst hy;rfl⟩
def E1g (v:AV) (i:Nat) (m:List PaUse):AV:=match v with
 | .asl b n=>if i=0 then .seq 3 [] else .csl b 0 n i
 | _=>.seq 3 (m.map A6)
theorem E1h {i:Int} {m:List PaUse} (hv:SlV H0 v e) (hne:∀b o a q,v≠.csl b o a q) (hm:slc e 0 i=some m):SlV H0 (E1g v i.toNat m) m:= by
 obtain⟨h3,rfl⟩:=A6b hm
 simp only[Z4u,Z13]
 cases hv with
 | seq=>exact .seq _
 | asl b p _ hb =>
  have hl:(e.take i.toNat).length=i.toNat:= by simp;omega
  unfold E1g
  simp only
  split
  ·next hz=>rw[hz];exact .seq []
  ·next hz =>
   have:=SlV.csl (H:=H0) b p 0 e (e.take i.toNat) hb (fun n a hn=>by
    rw[Z1i]
    have:=(Zf.1 hn).1
    rw[ZP (by omega)]at hn;exact hn) (by omega)
   rwa [hl]at this
 | csl b p o full _ hb hl hq=>exact absurd Z (hne _ _ _ _)
theorem E22 {x hi:Opd} {i:Int} {m:List PaUse} (hv:SlV H0 v e) (hne:∀b o a q,v≠.csl b o a q) (hm:slc e 0 i=some m) (h:ev s x=some v) (hi':ev s hi=some (.lit (.int .i64 i))):One T c n0 s (H0++l) (.sub 3 x none (some hi)) (E1g v i.toNat m) (H0++l):= by
 have hm0:=hm
 obtain⟨h3,rfl⟩:=A6b hm
 simp only[Z4u,Z13]
 cases hv with
 | seq=>exact E5p (f:=A6) (a:=0) (b:=i) h Z (by simp[bnd,B1t,hi']) (by simpa using hm0)
 | asl b p _ hb =>
  refine⟨0,?_⟩
  have hq:(0=i)↔(i.toNat=0):= by omega
  simp[core,prim,h,A1v hb,bnd,B1t,hi',h3.2.1,h3.2.2,E1g,hq]
 | csl b p o full _ hb hl hq=>exact absurd Z (hne _ _ _ _)
end
end Pw
namespace Am
open Go
def B3y {α β:Type} (T:Tab) (H:A2) (i:Nat) (ff fc:List AV) (g:α→Option β) (ea:α→List AV) (er:β→List AV):Prop :=
 (bdL H.length ff=true∧bdL H.length fc=true)∧∀ (L:A2) c x r,g x=some r→A0a T c (H++L) (.fn (.func i) ff fc) (ea x) (er r)
theorem B3y.app {α β:Type} {T:Tab} {H:A2} {i:Nat} {ff fc:List AV} {g:α→Option β} {ea:α→List AV} {er:β→List AV} (h:B3y T H i ff fc g ea er) (l:List AO):B3y T (H++l) i ff fc g ea er :=
 ⟨⟨bdL_more (by simp) h.1.1,bdL_more (by simp) h.1.2⟩,fun L c x r e=>by rw[Zz];exact h.2 (l++L) c x r e⟩
theorem B3y.call {α β:Type} {T:Tab} {c:Sc} {H:A2} {i:Nat} {ff fc:List AV} {g:α→Option β} {ea:α→List AV} {er:β→List AV} (h:B3y T H i ff fc g ea er) {x:α} {r:β} (e:g x=some r) (l:List AO):A0a T c (H++l) (.fn (.func i) ff fc) (ea x) (er r):=h.2 l c x r e
end Am
end
section
set_option maxRecDepth 100000
set_option maxHeartbeats 0
namespace Pw
open Go Am Go.Proofs.YtjpjdglddmhplaaGreat.Cd
def K5 (a0:(List PaUse)) (g1:(PaUse→Option Bool)) (s1:Int):Option (Int⊕(Int⊕Unit)) :=
 if (decide (s1<(Zh a0:Int)))=true then
  (idx a0 s1).bind fun x4 =>
  (g1 x4).bind fun x5 =>
  if x5=true then
  some (.inr (.inl s1))
  else
  some (.inl (w64 (s1+1)))
 else
  some (.inr (.inr ()))
def K0 (a0:(List PaUse)) (g1:(PaUse→Option Bool)):Option Int :=
 (loop (K5 a0 g1) 0).bind fun (o7:(Int⊕Unit)) =>
 match o7 with
 | (.inl vo7_0) =>
  some vo7_0
 | (.inr vo7_1) =>
  some (-1)
theorem A1q {c:Sc} {H:A2} {a0:(List PaUse)} {g1:PaUse→Option Bool} {g1_i:Nat} {g1_f g1_c:List AV} (g1_h:Impl tab H g1_i g1_f g1_c g1 (fun y=>[(.agg (A6 y))]) (fun y=>[.b y])) {r:Int} (h:K0 a0 g1=some r) :
  F0 tab c H (.fn (.func 117) [] []) [(.seq 3 (Ze A6 a0)),.fn (.func g1_i) g1_f g1_c] [.i r]:= by
 unfold K0 at h
 refine cE Z Z<|s0<|qm Z<|es (ra2 Z Z)<|B8<|s0<|qm Z<|A0 (F1 (f:=A6) Z) Z<|qm Z<|es (ra4 Z Z Z Z)<|C5<|oB h fun o7 ho7 h=>wl (fun s1=>[(0,(.seq 3 (Ze A6 a0))),(1,(.fn (.func g1_i) g1_f g1_c)),(7,(.i (Zh a0:Int))),(8,.i s1)]) (fun (q2:Unit) s1=>[]) 0 (fun r e s' H'=>(match r with|(.inl v)=>e=.ret∧RetQ H [.tmp 4] [.i v] e s' H' | (.inr v)=>PX 0 [] (H++[]) e s' H':Prop)) () ho7 Z Z (fun _ _=>rfl) (fun _=>rfl) Z (fun s1=>(bdc G6 (bdc (C73 g1_h.1) (bdc A4 (bdc A4 bdn))))) (fun q2 s1 ys1 hs1=>?_) ?_
 ·unfold K5 at hs1
  refine s0<|A0 (I0 Z Z) Z<|es (ra5 Z Z Z Z Z)<|B8<|wi hs1 Z (fun hc3 hs1=>?_) fun hc3 hs1=>?_
  ·refine B9<|B8<|C5<|s0<|qm Z<|qm Z<|es (ra5 Z Z Z Z Z)<|s0<|oB hs1 fun x4 hx4 hs1=>oB hs1 fun x5 hx5 hs1=>qm Z<|qm Z<|qm Z<|A0 (D4 (f:=A6) Z Z hx4) Z<|A0 (H9 Z Z) Z<|B2 (rs:=[.b x5]) Z Z (A1 (C9 Z) B3) (Impl.call g1_h hx5 _)<|es (ra6 Z Z Z Z Z Z)<|wi hs1 Z (fun hc6 hs1=>?_) fun hc6 hs1=>?_
   ·refine s0<|qm Z<|qm Z<|es (ra1 Z)<|C7 ?_
    obtain rfl:=os hs1
    exact lx Z (ZE Z (retq trivial (A7 Z B7) (A5 Z B6) (A3 A4 B1))) (Sub.refl _)
   ·refine B9<|r0<|A0 (D9 Z Z) Z<|qm Z<|en (ra4 Z Z Z Z) ?_
    cases hs1
    exact lnT () Z (su4 Z Z Z Z)
  ·refine G5 ?_
   obtain rfl:=os hs1
   exact lx Z px (.nil _)
 ·rcases o7 with vo7_0|vo7_1
  ·rintro e s' H'-⟨rfl,hret⟩
   cases h
   exact hret
  ·rintro e s' H'-⟨rfl,rfl,rfl⟩
   refine s0<|qm Z<|es (ra1 Z)<|C7 ?_
   obtain rfl:=os h
   exact retq trivial (A7 Z B7) (A5 Z B6) (A3 A4 B1)
def G8 (a0:(List PaUse)) (g1:(PaUse→Option Bool)):Option Bool :=
 (K0 a0 g1).bind fun x1 =>
 some (decide (x1≥0))
theorem A0s {c:Sc} {H:A2} {a0:(List PaUse)} {g1:PaUse→Option Bool} {g1_i:Nat} {g1_f g1_c:List AV} (g1_h:Impl tab H g1_i g1_f g1_c g1 (fun y=>[(.agg (A6 y))]) (fun y=>[.b y])) {r:Bool} (h:G8 a0 g1=some r) :
  F0 tab c H (.fn (.func 104) [] []) [(.seq 3 (Ze A6 a0)),.fn (.func g1_i) g1_f g1_c] [.b r]:= by
 unfold G8 at h
 refine cE Z Z<|s0<|qm Z<|es (ra2 Z Z)<|s0<|oB h fun x1 hx1 h=>qm Z<|qm Z<|O4 (Z2 (rs:=[.i x1]) Z Z ((A1q (Impl.app g1_h _) hx1).frz)) Z<|A0 (A8k Z Z) Z<|qm Z<|es (ra1 Z)<|C7 ?_
 obtain rfl:=os h
 exact retq trivial (A7 Z B7) (A5 Z B6) (A3 A4 B1)
theorem A1i {c:Sc} {H:A2} {a0:(List PaUse)} {v:AV} (hv:SlV H v a0) {g1:PaUse→Option Bool} {g1_i:Nat} {g1_f g1_c:List AV} (g1_h:B3y tab H g1_i g1_f g1_c g1 (fun y=>[(.agg (A6 y))]) (fun y=>[.b y])) {r:Int} (h:K0 a0 g1=some r) :
  F0 tab c H (.fn (.func 117) [] []) [v,.fn (.func g1_i) g1_f g1_c] [.i r]:= by
 unfold K0 at h
 refine cE Z Z<|s0<|qm Z<|es (ra2 Z Z)<|B8<|s0<|qm Z<|A0 (B70 hv Z) Z<|qm Z<|es (ra4 Z Z Z Z)<|C5<|oB h fun o7 ho7 h=>wl (fun s1=>[(0,v),(1,(.fn (.func g1_i) g1_f g1_c)),(7,(.i (Zh a0:Int))),(8,.i s1)]) (fun (q2:Unit) s1=>[]) 0 (fun r e s' H'=>(match r with|(.inl v)=>e=.ret∧RetQ H [.tmp 4] [.i v] e s' H' | (.inr v)=>PX 0 [] (H++[]) e s' H':Prop)) () ho7 Z Z (fun _ _=>rfl) (fun _=>rfl) Z (fun s1=>(bdc hv.bd (bdc (C73 g1_h.1) (bdc A4 (bdc A4 bdn))))) (fun q2 s1 ys1 hs1=>?_) ?_
 ·unfold K5 at hs1
  refine s0<|A0 (I0 Z Z) Z<|es (ra5 Z Z Z Z Z)<|B8<|wi hs1 Z (fun hc3 hs1=>?_) fun hc3 hs1=>?_
  ·refine B9<|B8<|C5<|s0<|qm Z<|qm Z<|es (ra5 Z Z Z Z Z)<|s0<|oB hs1 fun x4 hx4 hs1=>oB hs1 fun x5 hx5 hs1=>qm Z<|qm Z<|qm Z<|A0 (B7y hv hx4 Z Z) Z<|A0 (C0k hv hx4 Z) Z<|B2 (rs:=[.b x5]) Z Z (A1 (C9 Z) B3) (B3y.call g1_h hx5 _)<|es (ra6 Z Z Z Z Z Z)<|wi hs1 Z (fun hc6 hs1=>?_) fun hc6 hs1=>?_
   ·refine s0<|qm Z<|qm Z<|es (ra1 Z)<|C7 ?_
    obtain rfl:=os hs1
    exact lx Z (ZE Z (retq trivial (A7 Z B7) (A5 Z B6) (A3 A4 B1))) (Sub.refl _)
   ·refine B9<|r0<|A0 (D9 Z Z) Z<|qm Z<|en (ra4 Z Z Z Z) ?_
    cases hs1
    exact lnT () Z (su4 Z Z Z Z)
  ·refine G5 ?_
   obtain rfl:=os hs1
   exact lx Z px (.nil _)
 ·rcases o7 with vo7_0|vo7_1
  ·rintro e s' H'-⟨rfl,hret⟩
   cases h
   exact hret
  ·rintro e s' H'-⟨rfl,rfl,rfl⟩
   refine s0<|qm Z<|es (ra1 Z)<|C7 ?_
   obtain rfl:=os h
   exact retq trivial (A7 Z B7) (A5 Z B6) (A3 A4 B1)
theorem A0k {c:Sc} {H:A2} {a0:(List PaUse)} {v:AV} (hv:SlV H v a0) {g1:PaUse→Option Bool} {g1_i:Nat} {g1_f g1_c:List AV} (g1_h:B3y tab H g1_i g1_f g1_c g1 (fun y=>[(.agg (A6 y))]) (fun y=>[.b y])) {r:Bool} (h:G8 a0 g1=some r) :
  F0 tab c H (.fn (.func 104) [] []) [v,.fn (.func g1_i) g1_f g1_c] [.b r]:= by
 unfold G8 at h
 refine cE Z Z<|s0<|qm Z<|es (ra2 Z Z)<|s0<|oB h fun x1 hx1 h=>qm Z<|qm Z<|O4 (Z2 (rs:=[.i x1]) Z Z ((A1i hv.app (B3y.app g1_h _) hx1).frz)) Z<|A0 (A8k Z Z) Z<|qm Z<|es (ra1 Z)<|C7 ?_
 obtain rfl:=os h
 exact retq trivial (A7 Z B7) (A5 Z B6) (A3 A4 B1)
def A0w (a0:PaUse) (a1:(List PaUse)) (a2:Int):Option Bool :=
 (idx a1 a2).bind fun x1 =>
 some (a0.Gown==x1.Gown)
theorem B73 {c:Sc} {H:A2} {a0:PaUse} {a1:List PaUse} {v:AV} (hv:SlV H v a1) {b1:Nat} (hb1:hcells H b1=some [v]) {a2:Int} {b2:Nat} (hb2:hcells H b2=some (cI a2)) {r:Bool} (h:A0w a0 a1 a2=some r) :
  F0 tab c H (.fn (.func 116) [] []) [(.agg (A6 a0)),.ptr b1 0,.ptr b2 0] [.b r]:= by
 unfold A0w at h
 refine cE Z Z<|sg 0 Z<|A0 (G0 (cs:=A6 a0) Z Z Z) Z<|qm Z<|es (ra3 Z Z Z)<|s0<|oB h fun x1 hx1 h=>A0 (C1 Z) Z<|A0 (B4 Z Z Z) Z<|A0 (I4 Z hb1 Z) Z<|A0 (I4 Z hb2 Z) Z<|A0 (B7y hv hx1 Z Z) Z<|A0 (E1v hv hx1 Z) Z<|A0 (C87 (y:=.i x1.Gown) hv hx1 Z Z) Z<|A0 (G2 Z Z) Z<|qm Z<|es (ra1 Z)<|C7 ?_
 obtain rfl:=os h
 exact retq trivial (A7 Z B7) (A5 Z B6) (A3 A4 B1)
def A5u (a0:List PaUse) (a1:Int):Option Bool :=
 (idx a0 a1).bind fun x =>
 (if (x.Gown != (-1))=true then (slc a0 0 a1).bind fun m=>(G8 m (fun y=>A0w y a0 a1)).bind fun z=>some z else some false).bind fun g=>some g
theorem B2h {c:Sc} {H:A2} {a0:List PaUse} {v:AV} (hv:SlV H v a0) (hne:∀b o a q,v≠.csl b o a q) (hc:v.cellsOf=[v]) {a1:Int} {r:Bool} (h:A5u a0 a1=some r) :
  F0 tab c H (.fn (.func 102) [] []) [v,.i a1] [.b r]:= by
 unfold A5u at h
 refine oB h fun x hx h=>oB h fun g hg h=>?_
 have hbd:v.bd (H.length+2)=true:=hv.bd
 refine cE Z Z<|sg 0 Z<|A0 (G0 (cs:=[v]) Z hc Z) Z<|A0 (G0 (cs:=cI a1) Z Z Z) Z<|qm Z<|es (ra2 Z Z)<|s0<|A0 (B4 (x:=v) Z Z Z) Z<|A0 (B4 (x:=.i a1) Z Z Z) Z<|A0 (B7y hv hx Z Z) Z<|A0 (E1v hv hx Z) Z<|A0 (C87 (y:=.i x.Gown) hv hx Z Z) Z<|A0 (I8 Z Z) Z<|qm Z ?_
 refine gp 6 17 (.b g) 11 Z Z (fun hb=>?_) (fun hb=>?_) ?_
 ·refine oB (bt hg hb) fun m hm hg=>oB hg fun z hz hg=>?_
  obtain rfl:=os hg
  refine gT Z hb<|A0 (B4 (x:=v) Z Z Z) Z<|gT Z hb<|A0 (B4 (x:=.i a1) Z Z Z) Z<|gT Z hb<|A0 (E22 hv hne hm Z Z) Z<|gT Z hb<|A0 (A5n Z Z) Z<|gT Z hb<|O4 (Z2 (rs:=[.b z]) Z Z ((A0k (E1h hv hne hm).app (show B3y tab _ 116 [] [.ptr (H.length+0) 0,.ptr (H.length+1) 0] (fun y=>A0w y a0 a1) (fun y=>[.agg (A6 y)]) (fun y=>[.b y]) from ⟨⟨B1,by rw[Zm];exact A3 (J6 Z) (A3 (J6 Z) B1)⟩,fun L c y r hr=>(A5c (B73 hv.app.app (F2 (F5 Z) _) (F2 (F5 Z) _) hr)).frz⟩) hz).frz)) Z<|A0 (C3 Z hb Z) Z<|ge 6 Z Z Z
 ·obtain rfl:=os (bf hg hb)
  exact nT Z hb Z<|nT Z hb Z<|nT Z hb Z<|nT Z hb Z<|G4 (D2 Z (by rw[hb];rfl)) Z<|A0 (C2 Z hb Z) Z<|ge 6 Z Z Z
 ·refine qm Z<|es (ra1 Z)<|C7 ?_
  obtain rfl:=os h
  exact retq trivial (A7 Z B7) (A5 Z B6) (A3 A4 B1)
end Pw
end
section
namespace Pw
open Go Am
def A9v (g:PaGown) (x:PaUse):Bool:=if g.Pawn then (x.How==2&&x.Day==0)||(x.How==1&&!out 0 364 x.Day) else x.How==0&&x.Day==0
def B32 (g:PaGown) (y:PaFigure) (x:PaUse):Bool:=(x.How==1&&(decide (x.Day>g.Last)||decide (x.Day>y.Day)))||(x.How==2&&decide (y.Until>g.Last))
def B54 (g:PaGown) (y:PaFigure):Bool:=A2f y.Needs g.Looks==0
def E3r (s:PaShow) (f:Int) (x:PaUse):Int :=
 if x.Gown = -1 then (if x.How=0∧x.Day=0 then 0 else 2) else
 if out 0 ((s.Gowns.length:Int)-1) x.Gown then 4 else
 if A9v s.Gowns[x.Gown.toNat]! x=false then 2 else
 if B32 s.Gowns[x.Gown.toNat]! s.Figures[f.toNat]! x||!B54 s.Gowns[x.Gown.toNat]! s.Figures[f.toNat]! then 9 else 0
theorem D2b {s:PaShow} (hs:ShOk s) (days:List Int) {f:Int} (hf:0≤f∧f<s.Figures.length) (x:PaUse):Z4 (shw s days) f x=some (E3r s f x):= by
 have hG:=hs.gowns
 unfold Z4 A09 E3r
 simp only[Zd]
 by_cases hx:x.Gown = -1
 ·rw[if_pos hx]
  by_cases hb:x.How=0∧x.Day=0
  ·rw[if_pos hb,if_pos (by simp[hx,hb.1,hb.2])]
  ·rw[if_neg hb,if_neg (by simp[hx];omega),if_pos (by simp[hx])]
 ·rw[if_neg hx,if_neg (by simp[hx]),if_neg (by simp[hx])]
  rw[show (shw s days).PaShow=s from Z,D7 (by omega),out1]
  simp only[Zd]
  cases ho:out 0 ((s.Gowns.length:Int)-1) x.Gown with
  | true=>rfl
  | false =>
   have hg:=P4.mp ho
   simp only[Zj,if_false]
   rw[A0o (l:=s.Gowns) hg.1 (by omega),A0o (l:=s.Figures) hf.1 hf.2]
   simp only[Zd]
   generalize s.Gowns[x.Gown.toNat]! = g
   generalize s.Figures[f.toNat]! = y
   obtain⟨gn,how,day⟩:=x
   simp only at hx hg ⊢
   by_cases h0:how=0
   ·subst h0
    have e1:G1 0 2 [0]=some false:= by rw[out1];rfl
    have e2:∀z,out 0 0 z = !(z==0):=out00
    rw[e1]
    simp only[Zd]
    unfold A9v B32 B54
    cases hp:g.Pawn
    ·simp only[out1,e2,Zd]
     by_cases hd:day=0
     ·subst hd
      cases hk:A2f y.Needs g.Looks==0
      ·have:(A2f y.Needs g.Looks != 0)=true:= by simpa [bne] using hk
       simp[this,e2]
      ·have:(A2f y.Needs g.Looks != 0)=false:= by simpa [bne] using hk
       simp[this,inR,sel3,A69,e2]
     ·simp[hd,e2]
    ·simp
   ·by_cases h1:how=1
    ·subst h1
     have e1:G1 0 2 [1]=some false:= by rw[out1];rfl
     rw[e1]
     simp only[Zd]
     unfold A9v B32 B54
     cases hp:g.Pawn
     ·simp
     ·simp only[out1,Zd]
      cases hd:out 0 364 day
      ·have hmin:(decide (day≤A47 g.Last y.Day)) = !(decide (day>g.Last)||decide (day>y.Day)):= by
        unfold A47
        rw[Z00]
        split <;> simp <;> omega
       cases hk:A2f y.Needs g.Looks==0
       ·have:(A2f y.Needs g.Looks != 0)=true:= by simpa [bne] using hk
        simp[hd,this]
       ·have:(A2f y.Needs g.Looks != 0)=false:= by simpa [bne] using hk
        simp[hd,this,inR,sel3,A7a,hmin]
        split <;> rfl
      ·simp[hd]
    ·by_cases h2:how=2
     ·subst h2
      have e1:G1 0 2 [2]=some false:= by rw[out1];rfl
      have e2:∀z,out 0 0 z = !(z==0):=out00
      rw[e1]
      simp only[Zd]
      unfold A9v B32 B54
      cases hp:g.Pawn
      ·simp
      ·simp only[out1,e2,Zd]
       by_cases hd:day=0
       ·subst hd
        have hle:(decide (y.Until≤g.Last)) = !(decide (y.Until>g.Last)):= by
         rw[Z00];simp
        cases hk:A2f y.Needs g.Looks==0
        ·have:(A2f y.Needs g.Looks != 0)=true:= by simpa [bne] using hk
         simp[this,e2]
        ·have:(A2f y.Needs g.Looks != 0)=false:= by simpa [bne] using hk
         simp[this,inR,sel3,A2o,hle,e2]
         split <;> rfl
       ·simp[hd,e2]
     ·have e1:G1 0 2 [how]=some true:= by
       rw[out1];unfold out
       rw[Z4k,Z00];simp;omega
      rw[e1]
      simp only[Zd]
      unfold A9v
      cases hp:g.Pawn <;> simp[h0,h1,h2]
end Pw
end
section
set_option maxRecDepth 100000
set_option maxHeartbeats 0
namespace Pw
open Go Am Go.Proofs.YtjpjdglddmhplaaGreat.Cd
def A4f (a0:PaShow) (a1:Int) (a2:Int):Option (Int×Int) :=
 (A3w a0).bind fun x1 =>
 if (x1.1==0)=true then
  (G1 0 (w64 ((Zh a0.Gowns:Int)-1)) [a1]).bind fun x4 =>
  if x4=true then
  some (0,4)
  else
  (idx a0.Gowns a1).bind fun x6 =>
  if (!x6.Pawn)=true then
   some (0,2)
  else
   (G1 0 364 [a2]).bind fun x8 =>
   if x8=true then
   some (0,7)
   else
   (idx a0.Gowns a1).bind fun x10 =>
   if (decide (a2>x10.Last))=true then
    some (0,9)
   else
    (idx a0.Gowns a1).bind fun x12 =>
    (A0v x12 (PaFigure.mk (ByteArray.mk #[]) 0 0 0) a2).bind fun x13 =>
    some (x13,0)
 else
  some (0,x1.1)
theorem B2d {c:Sc} {H:A2} {a0:PaShow} {a1:Int} {a2:Int} {r:(Int×Int)} (h:A4f a0 a1 a2=some r) :
  F0 tab c H (.fn (.func 12) [] []) [(.agg (A9 a0)),.i a1,.i a2] [.i r.1,.i r.2]:= by
 unfold A4f at h
 refine cE Z Z<|sg 0 Z<|A0 (G0 (cs:=A9 a0) Z Z Z) Z<|qm Z<|qm Z<|es (ra3 Z Z Z)<|s0<|oB h fun x1 hx1 h=>A0 (D0 Z Z Z) Z ?_
 by_cases hc2:(x1.1==0)=true
 ·rw[if_pos hc2]at h
  obtain⟨X3,hX3⟩:=A4b hx1 hc2
  refine O4 (A59 hX3 Z Z (A1 (C9 Z) B3) Z) Z<|qm Z<|A0 (A8 Z Z) Z<|A0 (A8 Z Z) Z<|qm Z<|qm Z<|es (ra4 Z Z Z Z)<|B8<|C5<|s0<|qm Z<|A0 (R8 (v:=(.b false)) Z Z Z) Z<|qm Z<|es (ra5 Z Z Z Z Z)<|S9 Z Z<|s0<|oB h fun x4 hx4 h=>A0 (C1 Z) Z<|A0 (B4 Z Z Z) Z<|A0 (F1 (f:=C6) Z) Z<|A0 (W6 Z Z) Z<|qm Z<|A0 (J2 (rows:=Ze cI [a1]) Z Z (D8 (fun _=>rfl) _)) Z<|B2 (rs:=[.b x4]) Z Z (A1 Z (A1 Z (A1 Z B3))) ((H8 hx4).frz)<|qm Z<|es (ra4 Z Z Z Z)<|wi h Z (fun hc5 h=>?_) fun hc5 h=>?_
  ·refine s0<|qm Z<|qm Z<|es (ra2 Z Z)<|C7 ?_
   obtain rfl:=os h
   exact retq trivial (A7 Z (A7 Z B7)) (A5 Z (A5 Z B6)) (A3 A4 (A3 A4 B1))
  ·refine s0<|oB h fun x6 hx6 h=>A0 (C1 Z) Z<|A0 (B4 Z Z Z) Z<|qm Z<|A0 (D4 (f:=C6) Z Z hx6) Z<|A0 (R1 (ds:=(Z3y 2 (C6 x6))) Z Z) Z<|A0 (F9 Z Z) Z<|A0 (M9 Z) Z<|qm Z<|es (ra4 Z Z Z Z)<|wi h Z (fun hc7 h=>?_) fun hc7 h=>?_
   ·refine s0<|qm Z<|qm Z<|es (ra2 Z Z)<|C7 ?_
    obtain rfl:=os h
    exact retq trivial (A7 Z (A7 Z B7)) (A5 Z (A5 Z B6)) (A3 A4 (A3 A4 B1))
   ·refine s0<|oB h fun x8 hx8 h=>qm Z<|A0 (J2 (rows:=Ze cI [a2]) Z Z (D8 (fun _=>rfl) _)) Z<|B2 (rs:=[.b x8]) Z Z (A1 Z (A1 Z (A1 Z B3))) ((H8 hx8).frz)<|qm Z<|es (ra4 Z Z Z Z)<|wi h Z (fun hc9 h=>?_) fun hc9 h=>?_
    ·refine s0<|qm Z<|qm Z<|es (ra2 Z Z)<|C7 ?_
     obtain rfl:=os h
     exact retq trivial (A7 Z (A7 Z B7)) (A5 Z (A5 Z B6)) (A3 A4 (A3 A4 B1))
    ·refine s0<|oB h fun x10 hx10 h=>qm Z<|A0 (C1 Z) Z<|A0 (B4 Z Z Z) Z<|qm Z<|A0 (D4 (f:=C6) Z Z hx10) Z<|A0 (R1 (ds:=(Z3y 7 (C6 x10))) Z Z) Z<|A0 (F9 Z Z) Z<|A0 (X6 Z Z) Z<|qm Z<|es (ra4 Z Z Z Z)<|wi h Z (fun hc11 h=>?_) fun hc11 h=>?_
     ·refine s0<|qm Z<|qm Z<|es (ra2 Z Z)<|C7 ?_
      obtain rfl:=os h
      exact retq trivial (A7 Z (A7 Z B7)) (A5 Z (A5 Z B6)) (A3 A4 (A3 A4 B1))
     ·refine B9<|s0<|oB h fun x12 hx12 h=>oB h fun x13 hx13 h=>A0 (C1 Z) Z<|A0 (B4 Z Z Z) Z<|qm Z<|A0 (D4 (f:=C6) Z Z hx12) Z<|A0 (H9 Z Z) Z<|A0 (R4 (cs:=B5 (PaFigure.mk (ByteArray.mk #[]) 0 0 0)) Z Z) Z<|qm Z<|B2 (rs:=[.i x13]) Z Z (A1 (C9 Z) (A1 (C9 Z) (A1 Z B3))) ((B1i hx13).frz)<|qm Z<|qm Z<|es (ra2 Z Z)<|C7 ?_
      obtain rfl:=os h
      exact retq trivial (A7 Z (A7 Z B7)) (A5 Z (A5 Z B6)) (A3 A4 (A3 A4 B1))
 ·rw[if_neg hc2]at h
  refine O4 (T9 (rs:=[.lit (.pointer none),.i x1.1]) Z Z (A1 (C9 Z) B3) (A5e hx1 (by simpa using hc2)) Z) Z<|qm Z<|A0 (A8 Z Z) Z<|A0 (A8 Z Z) Z<|qm Z<|qm Z<|es (ra4 Z Z Z Z)<|B8<|C5<|s0<|qm Z<|A0 (I8 Z Z) Z<|qm Z<|es (ra5 Z Z Z Z Z)<|Q4 Z (nef hc2)<|s0<|qm Z<|qm Z<|qm Z<|es (ra2 Z Z)<|C7 ?_
  obtain rfl:=os h
  exact retq trivial (A7 Z (A7 Z B7)) (A5 Z (A5 Z B6)) (A3 A4 (A3 A4 B1))
def A10 (a0:PaShow) (a1:Int) (a2:Int):Option (Int×Int) :=
 (A3w a0).bind fun x1 =>
 if (x1.1==0)=true then
  (G1 0 (w64 ((Zh a0.Gowns:Int)-1)) [a1]).bind fun x4 =>
  (if x4=true then
  some true
  else
  (G1 0 (w64 ((Zh a0.Figures:Int)-1)) [a2]).bind fun x6 =>
  some x6).bind fun x7 =>
  if x7=true then
  some (0,4)
  else
  (idx a0.Gowns a1).bind fun x9 =>
  if (!x9.Pawn)=true then
   some (0,2)
  else
   (idx a0.Gowns a1).bind fun x11 =>
   (idx a0.Figures a2).bind fun x12 =>
   (A2o x11 x12 0).bind fun x13 =>
   if (!x13)=true then
   some (0,9)
   else
   (idx a0.Gowns a1).bind fun x15 =>
   (idx a0.Figures a2).bind fun x16 =>
   (A5t x15 x16 0).bind fun x17 =>
   some (x17,0)
 else
  some (0,x1.1)
theorem A7y {c:Sc} {H:A2} {a0:PaShow} {a1:Int} {a2:Int} {r:(Int×Int)} (h:A10 a0 a1 a2=some r) :
  F0 tab c H (.fn (.func 14) [] []) [(.agg (A9 a0)),.i a1,.i a2] [.i r.1,.i r.2]:= by
 unfold A10 at h
 refine cE Z Z<|sg 0 Z<|A0 (G0 (cs:=A9 a0) Z Z Z) Z<|qm Z<|qm Z<|es (ra3 Z Z Z)<|s0<|oB h fun x1 hx1 h=>A0 (D0 Z Z Z) Z ?_
 by_cases hc2:(x1.1==0)=true
 ·rw[if_pos hc2]at h
  obtain⟨X3,hX3⟩:=A4b hx1 hc2
  refine O4 (A59 hX3 Z Z (A1 (C9 Z) B3) Z) Z<|qm Z<|A0 (A8 Z Z) Z<|A0 (A8 Z Z) Z<|qm Z<|qm Z<|es (ra5 Z Z Z Z Z)<|B8<|C5<|s0<|qm Z<|A0 (R8 (v:=(.b false)) Z Z Z) Z<|qm Z<|es (ra6 Z Z Z Z Z Z)<|S9 Z Z<|s0<|oB h fun x4 hx4 h=>oB h fun x7 hx7 h=>A0 (C1 Z) Z<|A0 (B4 Z Z Z) Z<|A0 (F1 (f:=C6) Z) Z<|A0 (W6 Z Z) Z<|qm Z<|A0 (J2 (rows:=Ze cI [a1]) Z Z (D8 (fun _=>rfl) _)) Z<|B2 (rs:=[.b x4]) Z Z (A1 Z (A1 Z (A1 Z B3))) ((H8 hx4).frz)<|qm Z<|gp 8 35 (.b x7) 27 Z Z (fun hg5=>?_) (fun hg5=>?_) ?_
  ·obtain rfl:=os (bt hx7 hg5)
   exact nF Z hg5 Z<|nF Z hg5 Z<|nF Z hg5 Z<|nF Z hg5 Z<|nF Z hg5 Z<|nF Z hg5 Z<|G4 (D2 Z (by rw[hg5];rfl)) Z<|A0 (C3 Z hg5 Z) Z<|ge 8 Z Z Z
  ·refine oB (bf hx7 hg5) fun x6 hx6 hx7=>?_
   obtain rfl:=os hx7
   exact gF Z hg5<|A0 (C1 Z) Z<|gF Z hg5<|A0 (B4 Z Z Z) Z<|gF Z hg5<|A0 (F1 (f:=B5) Z) Z<|gF Z hg5<|A0 (W6 Z Z) Z<|gF Z hg5<|qm Z<|gF Z hg5<|A0 (J2 (rows:=Ze cI [a2]) Z Z (D8 (fun _=>rfl) _)) Z<|gF Z hg5<|B2 (rs:=[.b x6]) Z Z (A1 Z (A1 Z (A1 Z B3))) ((H8 hx6).frz)<|A0 (C2 Z hg5 Z) Z<|ge 8 Z Z Z
  refine qm Z<|es (ra5 Z Z Z Z Z)<|wi h Z (fun hc8 h=>?_) fun hc8 h=>?_
  ·refine s0<|qm Z<|qm Z<|es (ra2 Z Z)<|C7 ?_
   obtain rfl:=os h
   exact retq trivial (A7 Z (A7 Z B7)) (A5 Z (A5 Z B6)) (A3 A4 (A3 A4 B1))
  ·refine s0<|oB h fun x9 hx9 h=>A0 (C1 Z) Z<|A0 (B4 Z Z Z) Z<|qm Z<|A0 (D4 (f:=C6) Z Z hx9) Z<|A0 (R1 (ds:=(Z3y 2 (C6 x9))) Z Z) Z<|A0 (F9 Z Z) Z<|A0 (M9 Z) Z<|qm Z<|es (ra5 Z Z Z Z Z)<|wi h Z (fun hc10 h=>?_) fun hc10 h=>?_
   ·refine s0<|qm Z<|qm Z<|es (ra2 Z Z)<|C7 ?_
    obtain rfl:=os h
    exact retq trivial (A7 Z (A7 Z B7)) (A5 Z (A5 Z B6)) (A3 A4 (A3 A4 B1))
   ·refine s0<|oB h fun x11 hx11 h=>oB h fun x12 hx12 h=>oB h fun x13 hx13 h=>qm Z<|A0 (N1 Z Z) Z<|A0 (C1 Z) Z<|A0 (B3m Z Z (by decide)) Z<|A0 (C1 Z) Z<|A0 (B4 (x:=(.fn (.func 96) [] [])) Z Z Z) Z<|A0 (C1 Z) Z<|A0 (B4 Z Z Z) Z<|qm Z<|A0 (D4 (f:=C6) Z Z hx11) Z<|A0 (H9 Z Z) Z<|A0 (C1 Z) Z<|A0 (B4 Z Z Z) Z<|qm Z<|A0 (D4 (f:=B5) Z Z hx12) Z<|A0 (H9 Z Z) Z<|B2 (rs:=[.b x13]) Z Z (A1 (C9 Z) (A1 (C9 Z) (A1 Z B3))) ((B1h hx13).frz)<|A0 (M9 Z) Z<|qm Z<|es (ra4 Z Z Z Z)<|wi h Z (fun hc14 h=>?_) fun hc14 h=>?_
    ·refine s0<|qm Z<|qm Z<|es (ra2 Z Z)<|C7 ?_
     obtain rfl:=os h
     exact retq trivial (A7 Z (A7 Z B7)) (A5 Z (A5 Z B6)) (A3 A4 (A3 A4 B1))
    ·refine B9<|s0<|oB h fun x15 hx15 h=>oB h fun x16 hx16 h=>oB h fun x17 hx17 h=>A0 (C1 Z) Z<|A0 (B4 Z Z Z) Z<|qm Z<|A0 (D4 (f:=C6) Z Z hx15) Z<|A0 (H9 Z Z) Z<|A0 (C1 Z) Z<|A0 (B4 Z Z Z) Z<|qm Z<|A0 (D4 (f:=B5) Z Z hx16) Z<|A0 (H9 Z Z) Z<|B2 (rs:=[.i x17]) Z Z (A1 (C9 Z) (A1 (C9 Z) (A1 Z B3))) ((B4b hx17).frz)<|qm Z<|qm Z<|es (ra2 Z Z)<|C7 ?_
     obtain rfl:=os h
     exact retq trivial (A7 Z (A7 Z B7)) (A5 Z (A5 Z B6)) (A3 A4 (A3 A4 B1))
 ·rw[if_neg hc2]at h
  refine O4 (T9 (rs:=[.lit (.pointer none),.i x1.1]) Z Z (A1 (C9 Z) B3) (A5e hx1 (by simpa using hc2)) Z) Z<|qm Z<|A0 (A8 Z Z) Z<|A0 (A8 Z Z) Z<|qm Z<|qm Z<|es (ra5 Z Z Z Z Z)<|B8<|C5<|s0<|qm Z<|A0 (I8 Z Z) Z<|qm Z<|es (ra6 Z Z Z Z Z Z)<|Q4 Z (nef hc2)<|s0<|qm Z<|qm Z<|qm Z<|es (ra2 Z Z)<|C7 ?_
  obtain rfl:=os h
  exact retq trivial (A7 Z (A7 Z B7)) (A5 Z (A5 Z B6)) (A3 A4 (A3 A4 B1))
end Pw
end
section
namespace Pw
open Go Am
theorem X2 {α σ τ ρ:Type} [Inhabited α] {b:σ→Option (σ⊕ρ)} (l:List α) (f:τ→α→τ) (t0:τ) (mk:Nat→τ→σ) {r:ρ} (hn:l.length<9223372036854775808)
  (hs:∀i,i<l.length→b (mk i ((l.take i).foldl f t0))=some (.inl (mk (i+1) (f ((l.take i).foldl f t0) l[i]!)))) (he:b (mk l.length (l.foldl f t0))=some (.inr r)):loop b (mk 0 t0)=some r:= by
 have:=N4 (b:=b) (fun i=>mk i ((l.take i).foldl f t0)) l.length (r:=r) hn (fun i hi=>by
  rw[hs i hi,ZI hi,List.foldl_append,getElem!_pos l i hi];rfl) (by
  rw[Z0g];exact he)
 exact this
def sm:List Int→Int
 | []=>0
 | x::l=>x+sm l
theorem A53:∀l m:List Int,sm (l++m)=sm l+sm m
 | [],m=>by simp[sm]
 | x::l,m=>by simp only[Z0h,sm,A53 l m];omega
theorem D0a {a b:Int}:∀{l:List Int},(∀ x∈l,a≤x∧x≤b)→a*l.length≤sm l∧sm l≤b*l.length
 | [],_=>by simp[sm]
 | x::l,h=>by
  have h1:=h x (Zv ..)
  have ih:=D0a (l:=l) fun y hy=>h y (Zp _ hy)
  simp only[sm,ZU,Int.natCast_add,Int.mul_add]
  omega
theorem D0b {α:Type} {f g:α→Int}:∀{l:List α},(∀ x∈l,f x≤g x)→sm (l.map f)≤sm (l.map g)
 | [],_=>ZY _
 | x::l,h=>by
  have h1:=h x (Zv ..)
  have ih:=D0b (l:=l) fun y hy=>h y (Zp _ hy)
  simp only[Zw,sm];omega
theorem C0p {α:Type} {f:α→Int} {l:List α} (h:∀x∈l,f x=0):sm (l.map f)=0:= by
 induction l with
 | nil=>rfl
 | cons x l ih =>
  simp only[Zw,sm,h x (Zv ..),ih fun y hy=>h y (Zp _ hy)];rfl
theorem A22 {α:Type} (f:α→Int):∀(l:List α) (t:Int),l.foldl (fun a x=>a+f x) t=t+sm (l.map f)
 | [],t=>by simp[sm]
 | x::l,t=>by simp only[Z0b,Zw,sm,A22 f l];omega
def price (g:PaGown) (day:Int):Int:=g.Loan+g.Rate*(1+(g.Ago+day) / 30)
theorem C9o {g:PaGown} (h:GwOk g) {day:Int} (hd:0≤day∧day≤364):0≤price g day∧price g day≤20000∧0≤g.Rate*(1+(g.Ago+day) / 30)∧g.Rate*(1+(g.Ago+day) / 30)≤500*26:= by
 have h1:=h.loan
 have h2:=h.rate
 have h3:=h.ago
 have h4:0≤(g.Ago+day) / 30∧(g.Ago+day) / 30≤24:= by omega
 have h5:0≤g.Rate*(1+(g.Ago+day) / 30):=Z5t h2.1 (by omega)
 have h6:g.Rate*(1+(g.Ago+day) / 30)≤500*26:=Z5u h2.2 (by omega) (by omega) (by omega)
 unfold price
 omega
theorem B4u {g:PaGown} (h:GwOk g) (f:PaFigure) {day:Int} (hd:0≤day∧day≤364):A0v g f day=some (price g day):= by
 have h1:=h.loan
 have h3:=h.ago
 have h7:=C9o h hd
 have hq:Z4c (g.Ago+day) 30=(g.Ago+day) / 30:=Int.tdiv_eq_ediv_of_nonneg (by omega)
 unfold A0v
 unfold price at h7 ⊢
 rw[D7 (n:=g.Ago+day) (by omega),hq,D7 (n:=(g.Ago+day) / 30) (by omega),D7 (n:=1+(g.Ago+day) / 30) (by omega),D7 (n:=g.Rate*(1+(g.Ago+day) / 30)) (by omega),D7 (by omega)]
def C1d (g:PaGown) (f:PaFigure):Int:=g.Fee*(f.Until-f.Day+1)
theorem D6v {g:PaGown} (h:GwOk g) {f:PaFigure} (hf:FgOk f):0≤C1d g f∧C1d g f≤40000:= by
 have h1:=h.fee
 have h2:=hf.day
 have h3:=hf.til
 have h5:0≤g.Fee*(f.Until-f.Day+1):=Z5t h1.1 (by omega)
 have h6:g.Fee*(f.Until-f.Day+1)≤100*365:=Z5u h1.2 (by omega) (by omega) (by omega)
 unfold C1d
 omega
theorem C06 {g:PaGown} (h:GwOk g) {f:PaFigure} (hf:FgOk f) (d:Int):A5t g f d=some (C1d g f):= by
 have h2:=hf.day
 have h3:=hf.til
 have h4:=D6v h hf
 unfold A5t C1d
 unfold C1d at h4
 rw[D7 (n:=f.Until-f.Day) (by omega),D7 (n:=f.Until-f.Day+1) (by omega),D7 (by omega)]
end Pw
end
section
set_option maxRecDepth 100000
set_option maxHeartbeats 0
namespace Am
open Go
theorem C0f {N:Nat} {L M:A2} (h:grL N L=true) (k:grL N M=true):grL N (L++M)=true:= by
 unfold grL at h k ⊢
 rw[List.all_append,h,k];rfl
theorem s0' {T:Tab} {s:C0} {H:A2} {c:Sc} {d:Bool} {live:List Nat} {ops:List AOper} {b:ACode} {Q:Ex→C0→A2→Prop} (h:N0 T c (H.length+0) ops s (H++[]) [] (RG live (D0s T b c Q))):WP T (.seq (.region d 0 [] ops live) b) s H c Q:=Y8 (s0 h)
theorem B9n {T:Tab} {ac:ACode} {s:C0} {H H':A2} {c:Sc} {Q:Ex→C0→A2→Prop} (e:H=H') (h:WP T ac s H' c Q):WP T ac s H c Q:=e▸h
def C0r {α:Type} (T:Tab) (i:Nat) (fc:List AV) (sh:Nat→A2→α→AV→Prop) (pre:A2→Prop) (it:∀(σ ρ:Type),(α→σ→Option (σ⊕ρ))→σ→Option (σ⊕ρ)):Prop :=
 ∀ {σ ρ:Type} (Hm:σ⊕ρ→A2) (N:Nat),(∀ x,(Hm x).length=N)→(∀ x,pre (Hm x))→∀ (y:AV),y.bd N=true→y.cellsOf=[y]→∀ (body:α→σ→Option (σ⊕ρ)),
  (∀ {L:A2} {c:Sc} {x:α} {s:σ} {o:σ⊕ρ} {v:AV},T4 c (Hm (.inl s)++L)=true→grL N L=true→sh N L x v→body x s=some o→L3 T c (Hm (.inl s)++L) y [v] [.b o.isLeft] (Hm o++L)) →
  ∀ {s0:σ} {o:σ⊕ρ},it σ ρ body s0=some o→∀ {c:Sc},T4 c (Hm (.inl s0))=true→L3 T c (Hm (.inl s0)) (.fn (.func i) [] fc) [y] [] (Hm o)
section
variable {T:Tab} {s:C0} {H0:A2} {l:List AO} {c:Sc} {n0 N:Nat}
theorem A63 {H:A2} {a:Opd} {b o:Nat} {cs:List AV} {x:AV} (h:ev s a=some (.ptr b o)) (hl:hcells H b=some cs) (hd:(cs.drop o).head? = some x):One T c n0 s H (.load none a) x H :=
 ⟨0,by
  simp only[core,prim,h,H6,hl]
  cases hc:cs.drop o with
  | nil=>simp[hc]at hd
  | cons y t=>simp only[hc,Z2i,Za]at hd;subst hd;rfl⟩
theorem A92 {H:A2} {a:Opd} {b o k:Nat} {cs ds:List AV} (h:ev s a=some (.ptr b o)) (hl:hcells H b=some cs) (hk:ZH k (cs.drop o).length=true) (hd:(cs.drop o).take k=ds):One T c n0 s H (.load (some k) a) (.agg ds) H :=
 ⟨0,by simp only[core,prim,h,H6,hl,hk,if_true,hd]⟩
theorem D3q {α:Type} {f:α→List AV} {k j m:Nat} {p:Bool} {kk:IntKind} {x i:Opd} {e:List α} {n:Int} {a:α} (hN:H0.length=N) (h:ev s x=some (.asl (N+j) m)) (hi:ev s i=some (.lit (.int kk n))) (hl:l[j]? = some (.arr k p (e.map f))) (hm:e.length=m) (ha:idx e n=some a) :
  One T c n0 s (H0++l) (.idxS k x i) (.eptr (N+j) m n.toNat 0) (H0++l):= by subst hN;exact A2z h hi hl hm ha
theorem C5i {a x:Opd} {j n i o k kk:Nat} {rows:List (List AV)} {r ds:List AV} {v:AV} (hN:H0.length=N) (h:ev s a=some (.eptr (N+j) n i o)) (hv:ev s x=some v) (hp:v.cellsOf.all AV.plain=true) (hz:v.cellsOf.all AV.frz=true) (hl:l[j]? = some (.arr kk false rows)) (hn:rows.length=n) (hr:rows[i]? = some r)
  (hk:(Nat.beq v.cellsOf.length k&&ZH (o+k) r.length)=true) (hd:splice r o v.cellsOf=ds) :
  One T c n0 s (H0++l) (.store k a x) (.tup []) (H0++l.set j (.arr kk false (rows.set i ds))):= by subst hN;exact B2c h hv hp hz hl hn hr hk hd
end
end Am
namespace Pw
open Go Am Go.Proofs.YtjpjdglddmhplaaGreat.Cd
def plx (t:PaShow) (days:List Int) (n:Int):Option PaUse :=
 (C34 n (Zh days:Int)).bind fun q=>(C34 q 3).bind fun g=>(B1n q 3).bind fun h=>(B1n n (Zh days:Int)).bind fun r=>(idx days r).bind fun d=>some ⟨g,h,d⟩
def bare0:PaUse:=⟨-1,0,0⟩
section
variable {σ ρ:Type}
def B5b (t:PaShow) (days:List Int) (figure:Int) (rec:Int→List PaUse→σ→Option (List PaUse×(σ⊕ρ))) (x:Int×List PaUse×σ):Option ((Int×List PaUse×σ)⊕((List PaUse×ρ)⊕(List PaUse×σ))) :=
 if (decide (x.1<w64 (w64 ((Zh t.Gowns:Int)*3)*(Zh days:Int))))=true then
  (plx t days x.1).bind fun u =>
  (idx x.2.1 figure).bind fun _ =>
  (Z4 (shw t days) figure u).bind fun e =>
  (if (e != 0)=true then some true else (A5u (T3 x.2.1 figure u) figure).bind fun z=>some z).bind fun g =>
  if g=true then some (.inl (w64 (x.1+1),T3 x.2.1 figure u,x.2.2))
  else (rec (w64 (figure+1)) (T3 x.2.1 figure u) x.2.2).bind fun y =>
   match y with
   | (p,.inl s')=>some (.inl (w64 (x.1+1),p,s'))
   | (p,.inr r)=>some (.inr (.inl (p,r)))
 else some (.inr (.inr (x.2.1,x.2.2)))
def B36 (t:PaShow) (days:List Int) (body:List PaUse→σ→Option (σ⊕ρ)):Nat→Int→List PaUse→σ→Option (List PaUse×(σ⊕ρ))
 | 0,_,_,_=>none
 | k+1,figure,p,s =>
  if (figure==(Zh p:Int))=true then (body p s).bind fun o=>some (p,o)
  else (loop (B5b t days figure (B36 t days body k)) (0,p,s)).bind fun o =>
   match o with
   | .inl (p,r)=>some (p,.inr r)
   | .inr (p,s)=>(A09).bind fun b=>(idx p figure).bind fun _=>B36 t days body k (w64 (figure+1)) (T3 p figure b) s
end
def B3o (t:PaShow) (days:List Int) (σ ρ:Type) (body:List PaUse→σ→Option (σ⊕ρ)) (s:σ):Option (σ⊕ρ) :=
 (B34 24 (Zh t.Figures:Int) (PaUse.mk 0 0 0)).bind fun p=>(B36 t days body 64 0 p s).bind fun y=>some y.2
def caps (N bS:Nat):List AV:=[.ptr (N+3) 0,.ptr (N+0) 0,.ptr bS 0,.ptr (N+4) 0]
def L0 (N bS:Nat) (y:AV) (p:List PaUse):List AO:=[.cells [y],.arr 3 false (p.map A6),.arr 3 false [],.cells [.asl (N+1) p.length],.cells [.fn (.func 120) [] (caps N bS)]]
def shP (N:Nat) (L:A2) (x:List PaUse) (v:AV):Prop:=∃ j,v=.asl (N+j) x.length∧L[j]? = some (.arr 3 false (x.map A6))
theorem D33 {l:List PaUse} {i:Int} {u:PaUse}:(l.map A6).set i.toNat (A6 u)=(T3 l i u).map A6:=B18 l i u
section
variable {σ ρ:Type} {t:PaShow} {days:List Int} {Hm:σ⊕ρ→A2} {N bS b:Nat} {y:AV} {body:List PaUse→σ→Option (σ⊕ρ)}
theorem D3o (hN:∀x,(Hm x).length=N) (h1:∀x,hcells (Hm x) bS=some [.ptr b 0]) (ht:∀x,hcells (Hm x) b=some (A5b t days))
  (hy:∀{L:A2} {c:Sc} {p:List PaUse} {s:σ} {o:σ⊕ρ} {v:AV},T4 c (Hm (.inl s)++L)=true→grL N L=true→shP N L p v→body p s=some o→L3 tab c (Hm (.inl s)++L) y [v] [.b o.isLeft] (Hm o++L)) :
  ∀ (k:Nat) (figure:Int) (p:List PaUse) (s:σ) (x:List PaUse×(σ⊕ρ)),B36 t days body k figure p s=some x→∀ (M:A2) (c:Sc),grL N M=true→T4 c (Hm (.inl s)++(L0 N bS y p++M))=true →
   L3 tab c (Hm (.inl s)++(L0 N bS y p++M)) (.fn (.func 120) [] (caps N bS)) [.i figure] [.b x.2.isLeft] (Hm x.2++(L0 N bS y x.1++M))
 | 0,_,_,_,_,h,_,_,_,_=>by cases h
 | k+1,figure,p,s,x,h,M,c,hgr,hsc=>by
  have ih:=D3o hN h1 ht hy k
  unfold B36 at h
  have hl5:∀z p,(Hm z++(L0 N bS y p++M)).length=N+(M.length+5):=fun z p=>by rw[Zm,hN,Zm];simp only[L0,ZU,Z3m];omega
  have hb1:∀z p,hcells (Hm z++(L0 N bS y p++M)) bS=some [.ptr b 0]:=fun z p=>F2 (h1 z) _
  have hbt:∀z p,hcells (Hm z++(L0 N bS y p++M)) b=some (A5b t days):=fun z p=>F2 (ht z) _
  have q0:∀z p,hcells (Hm z++(L0 N bS y p++M)) (N+0)=some [y]:=fun z p=>by rw[← hN z];exact F5 Z
  have q3:∀z p,hcells (Hm z++(L0 N bS y p++M)) (N+3)=some [.asl (N+1) p.length]:=fun z p=>by rw[← hN z];exact F5 Z
  have q4:∀z p,hcells (Hm z++(L0 N bS y p++M)) (N+4)=some [.fn (.func 120) [] (caps N bS)]:=fun z p=>by rw[← hN z];exact F5 Z
  have qa:∀z p,harr (Hm z++(L0 N bS y p++M)) (N+1)=some (3,false,p.map A6):=fun z p=>by rw[← hN z];exact P8 Z
  have hbdS:bS<N:= by have:=A61 (h1 (.inl s));rwa [hN]at this
  have htk:∀z p' Y,(Hm z++(L0 N bS y p'++M)++Y).take (Hm (.inl s)++(L0 N bS y p++M)).length=Hm z++(L0 N bS y p'++M):=fun z p' Y=>by rw[hl5,← hl5 z p'];exact Z0c
  have hK:∀z p',(Hm z++(L0 N bS y p'++M)).length=(Hm (.inl s)++(L0 N bS y p++M)).length:=fun z p'=>by rw[hl5,hl5]
  refine A1t (aq:=[.i figure,.ptr (N+3) 0,.ptr (N+0) 0,.ptr bS 0,.ptr (N+4) 0]) Z Z Z (Y8 ?_)
  refine s0<|qm Z<|es (ra5 Z Z Z Z Z)<|B8<|s0<|qm Z<|A0 (I4 Z (q3 _ _) Z) Z<|A0 (B70 (SlV.asl _ _ _ (qa (.inl s) p)) Z) Z<|A0 (G2 Z Z) Z<|es (ra6 Z Z Z Z Z Z)<|wi h Z (fun hc h=>?_) fun hc h=>?_
  ·refine oB h fun o ho h=>?_
   cases h
   have hcall:L3 tab ⟨(Hm (.inl s)++(L0 N bS y p++M)).length,c.cur::c.outer⟩ (Hm (.inl s)++(L0 N bS y p++M)++[]) y [.asl (N+1) p.length] [.b o.isLeft] (Hm o++(L0 N bS y p++M)++[]):= by
    rw[ZV,ZV]
    exact hy (B2t hsc (Zn _) (Zn _)) (C0f Z hgr) ⟨1,Z,Z⟩ ho
   refine s0<|A0 (I4 Z (q0 _ _) Z) Z<|A0 (I4 Z (q3 _ _) Z) Z<|O4 (A4e Z Z hcall Z) Z<|qm Z<|es (ra1 Z)<|C7 ?_
   show B1l _ _ _ _ .ret _ _
   exact C20 trivial (A7 Z B7) (A5 (v:=.lit (.bool o.isLeft)) Z B6) (A3 A4 B1) (htk _ _ _)
  ·refine oB h fun o ho h=>?_
   have hKN:∀z p',(Hm z++(L0 N bS y p'++M)).length=N+(M.length+5):=hl5
   refine B9<|B8<|s0<|A0 (I4 Z (hb1 _ _) Z) Z<|A0 (N1 Z Z) Z<|A0 (C1 Z) Z<|A0 (C1 Z) Z<|A0 (I4 (x:=.seq 8 (Ze C6 t.Gowns)) Z (hbt _ _) Z) Z<|A0 (F1 (f:=C6) Z) Z<|A0 (B3z Z Z) Z<|A0 (I4 Z (hb1 _ _) Z) Z<|A0 (N1 Z Z) Z<|A0 (C1 Z) Z<|A0 (I4 (x:=.seq 1 (Ze cI days)) Z (hbt _ _) Z) Z<|A0 (F1 (f:=cI) Z) Z<|A0 (B3z Z Z) Z<|qm Z<|es (ra6 Z Z Z Z Z Z)<|C5 ?_
   refine A2x (B9n (ZV _) (C3h (γ:=Unit) (live:=[0,1,3,4,28,29]) (body:=B5b t days figure (B36 t days body k)) (fun x=>[(0,.i figure),(1,.ptr (N+3) 0),(3,.ptr bS 0),(4,.ptr (N+4) 0),(28,.i (w64 (w64 ((Zh t.Gowns:Int)*3)*(Zh days:Int)))),(29,.i x.1)]) (fun _ x=>Hm (.inl x.2.2)++(L0 N bS y x.2.1++M)) (N+(M.length+5))
    (fun r e s' H'=>match r with
     | .inl r=>e=.ret∧s'=[(6,.b false)]∧H'.take (N+(M.length+5))=Hm (.inr r.2)++(L0 N bS y r.1++M)
     | .inr r=>e=.exit 0∧s'=[(0,.i figure),(1,.ptr (N+3) 0),(4,.ptr (N+4) 0)]∧H'=Hm (.inl r.2)++(L0 N bS y r.1++M)) (fun _ x=>hl5 _ _) (fun _=>rfl) (by decide) (fun x _=>?_) ?_ ho ())) ?_
   ·refine bdc A4 (bdc ?_ (bdc ?_ (bdc ?_ (bdc A4 (bdc A4 bdn)))))
    all_goals (simp only[AV.bd];exact Zl (by omega))
   ·intro _ x o' hb
    obtain⟨n,p1,s1⟩:=x
    unfold B5b at hb
    simp only at hb
    refine s0'<|A0 (I0 Z Z) Z<|es (ra7 Z Z Z Z Z Z Z)<|B8<|wi hb Z (fun hc hb=>?_) fun hc hb=>?_
    ·refine oB hb fun u hu hb=>oB hb fun w hw hb=>oB hb fun e he hb=>oB hb fun g hg hb=>?_
     refine oB hu fun q hq hu=>oB hu fun ug hug hu=>oB hu fun uh huh hu=>oB hu fun ur hur hu=>oB hu fun ud hud hu=>?_
     obtain rfl:=os hu
     have hKe:=hl5 (.inl s1) p1
     have hu8:∀z p',hcells (Hm z++(L0 N bS y p'++(M++[AO.cells (A6 ⟨ug,uh,ud⟩)]))) ((Hm (.inl s1)++(L0 N bS y p1++M)).length+(0+0))=some (A6 ⟨ug,uh,ud⟩):=fun z p'=>by
      rw[show Hm z++(L0 N bS y p'++(M++[AO.cells (A6 ⟨ug,uh,ud⟩)]))=(Hm z++(L0 N bS y p'++M))++[AO.cells (A6 ⟨ug,uh,ud⟩)] by simp only[Zz],hKe,← hl5 z p']
      exact F5 Z
     have hset1:∀z Y,Hm z++(L0 N bS y p1++Y).set 1 (.arr 3 false ((p1.map A6).set figure.toNat (A6 ⟨ug,uh,ud⟩)))=Hm z++(L0 N bS y (T3 p1 figure ⟨ug,uh,ud⟩)++Y):=fun z Y=>by
      rw[D33]
      have:(T3 p1 figure (⟨ug,uh,ud⟩:PaUse)).length=p1.length:=Y7 _ _ _
      simp only[L0,this];rfl
     have hb1':∀z p' Y,hcells (Hm z++(L0 N bS y p'++Y)) bS=some [.ptr b 0]:=fun z p' Y=>F2 (h1 z) _
     have hbt':∀z p' Y,hcells (Hm z++(L0 N bS y p'++Y)) b=some (A5b t days):=fun z p' Y=>F2 (ht z) _
     have q3':∀z p' Y,hcells (Hm z++(L0 N bS y p'++Y)) (N+3)=some [.asl (N+1) p'.length]:=fun z p' Y=>by rw[← hN z];exact F5 Z
     have q4':∀z p' Y,hcells (Hm z++(L0 N bS y p'++Y)) (N+4)=some [.fn (.func 120) [] (caps N bS)]:=fun z p' Y=>by rw[← hN z];exact F5 Z
     have qa':∀z p' Y,harr (Hm z++(L0 N bS y p'++Y)) (N+1)=some (3,false,p'.map A6):=fun z p' Y=>by rw[← hN z];exact P8 Z
     have htk2:∀z p' Y,(Hm z++(L0 N bS y p'++(M++Y))).take (N+(M.length+5))=Hm z++(L0 N bS y p'++M):=fun z p' Y=>by
      rw[show Hm z++(L0 N bS y p'++(M++Y))=(Hm z++(L0 N bS y p'++M))++Y by simp only[Zz],← hl5 z p']
      exact Z0c
     refine B9<|B8<|C5<|s0<|qm Z<|qm Z<|es (ra7 Z Z Z Z Z Z Z)<|sg 0 Z<|qm Z<|J3 [0] (O1 [0] rfl H7 Z Z) (seen0 Z) (I4 Z (hb1 _ _) Z) Z<|A0 (N1 Z Z) Z<|A0 (C1 Z) Z<|J3 [0] (O1 [0] rfl H7 Z Z) (seen0 Z) (I4 (x:=.seq 1 (Ze cI days)) Z (hbt _ _) Z) Z<|J3 [0] (O1 [0] rfl H7 Z Z) (seen0 Z) (F1 (f:=cI) Z) Z<|A0 (C89 Z Z hq) Z<|A0 (C89 Z Z hug) Z<|qm Z<|J3 [0] (O1 [0] rfl H7 Z Z) (seen0 Z) (I4 Z (hb1 _ _) Z) Z<|A0 (N1 Z Z) Z<|A0 (C1 Z) Z<|J3 [0] (O1 [0] rfl H7 Z Z) (seen0 Z) (I4 (x:=.seq 1 (Ze cI days)) Z (hbt _ _) Z) Z<|J3 [0] (O1 [0] rfl H7 Z Z) (seen0 Z) (F1 (f:=cI) Z) Z<|A0 (C89 Z Z hq) Z<|A0 (C5j Z Z huh) Z<|J3 [0] (O1 [0] rfl H7 Z Z) (seen0 Z) (I4 Z (hb1 _ _) Z) Z<|A0 (N1 Z Z) Z<|A0 (C1 Z) Z<|J3 [0] (O1 [0] rfl H7 Z Z) (seen0 Z) (I4 (x:=.seq 1 (Ze cI days)) Z (hbt _ _) Z) Z<|qm Z<|J3 [0] (O1 [0] rfl H7 Z Z) (seen0 Z) (I4 Z (hb1 _ _) Z) Z<|A0 (N1 Z Z) Z<|A0 (C1 Z) Z<|J3 [0] (O1 [0] rfl H7 Z Z) (seen0 Z) (I4 (x:=.seq 1 (Ze cI days)) Z (hbt _ _) Z) Z<|J3 [0] (O1 [0] rfl H7 Z Z) (seen0 Z) (F1 (f:=cI) Z) Z<|A0 (C5j Z Z hur) Z<|J3 [0] (O1 [0] rfl H7 Z Z) (seen0 Z) (D4 (f:=cI) Z Z hud) Z<|J3 [0] (O1 [0] rfl H7 Z Z) (seen0 Z) (F9 (x:=.i ud) Z Z) Z<|A0 (R4 (cs:=A6 ⟨ug,uh,ud⟩) Z Z) Z<|A0 K1 Z<|P5 (G3 (ds:=A6 ⟨ug,uh,ud⟩) Z Z Z Z (F7 Z) Z) Z<|es (ra7 Z Z Z Z Z Z Z)<|B9n (show _=Hm (.inl s1)++(L0 N bS y p1++(M++[AO.cells (A6 ⟨ug,uh,ud⟩)])) by simp) ?_
     refine B8<|s0<|A0 (A63 (x:=.asl (N+1) p1.length) Z (q3' _ _ _) Z) Z<|qm Z<|A0 (A92 (ds:=A6 ⟨ug,uh,ud⟩) Z (hu8 _ _) Z Z) Z<|A0 (D3q (f:=A6) (j:=1) (hN _) Z Z Z Z hw) Z<|P5 (C5i (ds:=A6 ⟨ug,uh,ud⟩) (j:=1) (hN _) Z Z Z Z Z (Zi _) (A2e hw) Z Z) Z ?_
     rw[hset1]
     refine es (ra7 Z Z Z Z Z Z Z)<|s0<|A0 (A63 Z (hb1' _ _ _) Z) Z<|qm Z<|A0 (A92 (ds:=A6 ⟨ug,uh,ud⟩) Z (hu8 _ _) Z Z) Z<|B2 (rs:=[.i e]) Z Z (A1 Z (A1 Z (A1 (C9 Z) B3))) ((A5o (a0:=shw t days) (hbt' _ _ _) he).frz)<|A0 (I8 Z Z) Z<|qm Z<|gp 4 75 (.b g) 71 Z Z (fun hc1=>?_) (fun hc1=>?_) ?_
     ·obtain rfl:=os (bt hg hc1)
      exact nF Z hc1 Z<|nF Z hc1 Z<|G4 (D2 Z (by rw[hc1];rfl)) Z<|A0 (C3 Z hc1 Z) Z<|ge 4 Z Z Z
     ·refine oB (bf hg hc1) fun z hz hg=>?_
      obtain rfl:=os hg
      exact gF Z hc1<|A0 (A63 (x:=.asl (N+1) (T3 p1 figure ⟨ug,uh,ud⟩).length) Z (q3' _ _ _) Z) Z<|gF Z hc1<|qm Z<|gF Z hc1<|O4 (Z2 (rs:=[.b z]) Z Z ((B2h (SlV.asl _ _ _ (qa' _ _ _)) (fun _ _ _ _ hh=>by cases hh) rfl hz).frz)) rfl<|A0 (C2 rfl hc1 rfl) rfl<|ge 4 rfl rfl rfl
     ·refine es (ra7 Z Z Z Z Z Z Z)<|wi hb Z (fun hc2 hb=>?_) fun hc2 hb=>?_
      ·cases hb
       refine G5<|r0<|A0 (D9 Z Z) Z<|qm Z<|en (ra6 Z Z Z Z Z Z) ?_
       exact⟨Z,su6 Z Z Z Z Z Z,(),htk2 _ _ _⟩
      ·refine oB hb fun x1 hx1 hb=>?_
       have hnext:∀c',T4 c' (Hm (.inl s1)++(L0 N bS y (T3 p1 figure ⟨ug,uh,ud⟩)++(M++[AO.cells (A6 ⟨ug,uh,ud⟩)])))=true→L3 tab c' (Hm (.inl s1)++(L0 N bS y (T3 p1 figure ⟨ug,uh,ud⟩)++(M++[AO.cells (A6 ⟨ug,uh,ud⟩)]))) (.fn (.func 120) [] (caps N bS)) [.i (w64 (figure+1))] [.b x1.2.isLeft] (Hm x1.2++(L0 N bS y x1.1++(M++[AO.cells (A6 ⟨ug,uh,ud⟩)]))):=fun c' hc'=>ih _ _ _ _ hx1 (M++[AO.cells (A6 ⟨ug,uh,ud⟩)]) c' (C0f hgr Z) hc'
       have hlen6:(Hm (.inl s1)++(L0 N bS y (T3 p1 figure ⟨ug,uh,ud⟩)++(M++[AO.cells (A6 ⟨ug,uh,ud⟩)]))).length=N+(M.length+5)+1:= by
        rw[show Hm (.inl s1)++(L0 N bS y (T3 p1 figure ⟨ug,uh,ud⟩)++(M++[AO.cells (A6 ⟨ug,uh,ud⟩)]))=(Hm (.inl s1)++(L0 N bS y (T3 p1 figure ⟨ug,uh,ud⟩)++M))++[AO.cells (A6 ⟨ug,uh,ud⟩)] by simp only[Zz],Zm,hl5];rfl
       refine B9<|s0<|A0 (A63 Z (q4' _ _ _) Z) Z<|qm Z<|A0 (D9 Z Z) Z<|O4 (A4e Z Z (hnext _ ?_) Z) Z<|A0 (C9a Z Z) Z<|es (ra7 Z Z Z Z Z Z Z) ?_
       ·exact B2t (c:=⟨(Hm (.inl s)++(L0 N bS y p++M)).length,c.cur::c.outer⟩) (H:=Hm (.inl s)++(L0 N bS y p++M)) (B2t hsc (Zn _) (Zn _)) (by rw[hlen6,hl5];omega) (by rw[hlen6];omega)
       ·obtain⟨p2,x2⟩:=x1
        cases x2 with
        | inl s2 =>
         cases hb
         refine S9 Z Z<|B9<|r0<|A0 (D9 Z Z) Z<|qm Z<|en (ra6 Z Z Z Z Z Z) ?_
         exact⟨Z,su6 Z Z Z Z Z Z,(),htk2 _ _ _⟩
        | inr r2 =>
         cases hb
         refine Q4 Z Z<|s0<|qm Z<|es (ra1 Z)<|C7 ?_
         exact⟨Z,_,Sub.refl _,Z,Z,htk2 _ _ _⟩
    ·refine G5 ?_
     cases hb
     exact⟨Z,_,su3 Z Z Z,Z,Z,ZV _⟩
   ·intro e s' H' q
    obtain⟨_,q⟩:=q
    rcases o with r|r
    ·obtain⟨p1,r⟩:=r
     obtain⟨rfl,rfl,q⟩:=q
     cases h
     show B1l _ _ _ _ .ret _ _
     exact C20 trivial (A7 Z B7) (A5 (v:=.lit (.bool false)) Z B6) (A3 A4 B1) (by rw[hl5];exact q)
    ·obtain⟨p1,s1⟩:=r
     obtain⟨rfl,rfl,rfl⟩:=q
     refine oB h fun bb hbb h=>oB h fun w hw h=>?_
     have hset1:Hm (.inl s1)++(L0 N bS y p1++M).set 1 (.arr 3 false ((p1.map A6).set figure.toNat (A6 bb)))=Hm (.inl s1)++(L0 N bS y (T3 p1 figure bb)++M):= by
      rw[D33]
      have:(T3 p1 figure bb).length=p1.length:=Y7 _ _ _
      simp only[L0,this];rfl
     have hnext:∀c',T4 c' (Hm (.inl s1)++(L0 N bS y (T3 p1 figure bb)++M))=true→L3 tab c' (Hm (.inl s1)++(L0 N bS y (T3 p1 figure bb)++M)) (.fn (.func 120) [] (caps N bS)) [.i (w64 (figure+1))] [.b x.2.isLeft] (Hm x.2++(L0 N bS y x.1++M)):=fun c' hc'=>ih _ _ _ _ h M c' hgr hc'
     refine s0<|A0 (A63 (x:=.asl (N+1) p1.length) Z (q3 _ _) Z) Z<|qm Z<|T1 (rs:=[(.agg (A6 bb))]) Z Z A0e B3 ((A64 hbb).frz)<|A0 (D3q (f:=A6) (j:=1) (hN _) Z Z Z Z hw) Z<|P5 (C5i (ds:=A6 bb) (j:=1) (hN _) Z Z Z Z Z (Zi _) (A2e hw) Z Z) Z ?_
     rw[hset1]
     refine es (ra2 Z Z)<|s0<|A0 (A63 Z (q4 _ _) Z) Z<|qm Z<|A0 (D9 Z Z) Z<|O4 (A4e Z Z (hnext _ ?_) Z) Z<|qm Z<|es (ra1 Z)<|C7 ?_
     ·exact B2t hsc (by rw[hl5,hl5];exact Zn _) (by rw[hl5,hl5];exact Zn _)
     ·show B1l _ _ _ _ .ret _ _
      exact C20 trivial (A7 Z B7) (A5 (v:=.lit (.bool x.2.isLeft)) Z B6) (A3 A4 B1) (by rw[hl5,← hl5 x.2 x.1];exact Z0g)
end
theorem D8w {t:PaShow} {days:List Int} {bS b:Nat}:C0r tab 119 [.ptr bS 0] shP (fun H=>hcells H bS=some [.ptr b 0]∧hcells H b=some (A5b t days)) (B3o t days):= by
 intro σ ρ Hm N hN hpre y hyb hyc body hy a0 o ho c hc
 unfold B3o at ho
 refine oB ho fun p0 hp0 ho=>oB ho fun x0 hx0 ho=>?_
 obtain rfl:=os ho
 have h1:∀x,hcells (Hm x) bS=some [.ptr b 0]:=fun x=>(hpre x).1
 have ht:∀x,hcells (Hm x) b=some (A5b t days):=fun x=>(hpre x).2
 have e:=hN (.inl a0)
 have hl5:∀x p,(Hm x++L0 N bS y p).length=N+5:=fun x p=>by rw[Zm,hN];rfl
 have htk:∀x p,(Hm x++L0 N bS y p).take (Hm (.inl a0)).length=Hm x:=fun x p=>by rw[e,← hN x];exact Z0c
 have hcall:∀c',T4 c' (Hm (.inl a0)++L0 N bS y p0)=true→L3 tab c' (Hm (.inl a0)++L0 N bS y p0) (.fn (.func 120) [] (caps N bS)) [.i 0] [.b x0.2.isLeft] (Hm x0.2++L0 N bS y x0.1):=fun c' hc'=>by
  have:=D3o hN h1 ht hy 64 0 p0 a0 x0 hx0 [] c' Z (by rw[ZV];exact hc')
  rwa [ZV,ZV]at this
 have key:WP tab c119 [(0,y),(1,.ptr bS 0)] (Hm (.inl a0)++[]) ⟨(Hm (.inl a0)).length,c.cur::c.outer⟩ (B1l (Hm (.inl a0)) (Hm x0.2) [] []):= by
  subst e
  refine sg 0 Z<|A0 (G0 Z hyc Z) Z<|es (ra2 Z Z)<|sg 1 Z<|A0 (I4 Z (h1 _) Z) Z<|A0 (N1 Z Z) Z<|A0 (C1 Z) Z<|A0 (C1 Z) Z<|A0 (I4 (x:=.seq 4 (Ze B5 t.Figures)) Z (ht _) Z) Z<|A0 (F1 (f:=B5) Z) Z<|A0 (B71 (f:=A6) (zt:=PaUse.mk 0 0 0) Z Z Z hp0) Z<|A0 C85 Z<|P5 (G3 (ds:=[.asl ((Hm (.inl a0)).length+1) p0.length]) Z Z Z Z (A2k ?_) Z) Z<|es (ra3 Z Z Z)<|sg 4 Z<|A0 K1 Z<|es (ra4 Z Z Z Z)<|s0<|A0 (A5n Z Z) Z<|P5 (G3 (ds:=[.fn (.func 120) [] (caps (Hm (.inl a0)).length bS)]) Z Z Z Z (A2k ?_) Z) Z<|es (ra1 Z)<|r0<|A0 (B4 (x:=.fn (.func 120) [] (caps (Hm (.inl a0)).length bS)) Z Z Z) Z<|O4 (T9 (rs:=[.b x0.2.isLeft]) Z Z (A1 Z B3) (hcall _ ?_) Z) Z<|en .n ?_
  ·exact ZM _ _
  ·exact ZM _ _
  ·exact B2t hc (by rw[hl5];omega) (by rw[hl5];omega)
  ·show B1l _ _ _ _ .normal _ _
   exact C20 trivial Z Z Z (htk _ _)
 rw[ZV]at key
 exact A1t (aq:=[y,.ptr bS 0]) Z Z Z key
end Pw
end
section
namespace Pw
open Go Am
def T5 (G:List PaGown) (y:PaFigure) (x:PaUse):Int :=
 if x.Gown = -1 then (if x.How=0∧x.Day=0 then 0 else 2) else
 if out 0 ((G.length:Int)-1) x.Gown then 4 else
 if A9v G[x.Gown.toNat]! x=false then 2 else
 if B32 G[x.Gown.toNat]! y x||!B54 G[x.Gown.toNat]! y then 9 else 0
theorem D2a (s:PaShow) (f:Int) (x:PaUse):E3r s f x=T5 s.Gowns s.Figures[f.toNat]! x:=rfl
structure Hu (G:List PaGown) (y:PaFigure) (x:PaUse):Prop where
 lo:0≤x.Gown
 hi:x.Gown<G.length
 form:A9v G[x.Gown.toNat]! x=true
 late:B32 G[x.Gown.toNat]! y x=false
 look:B54 G[x.Gown.toNat]! y=true
theorem W4 {G:List PaGown} {y:PaFigure} {x:PaUse}:T5 G y x=0↔x=bare0∨Hu G y x:= by
 obtain⟨g,how,day⟩:=x
 unfold T5 bare0
 simp only
 constructor
 ·intro h
  split at h
  ·next hg =>
   split at h
   ·next hh=>left;subst hg;rw[hh.1,hh.2]
   ·cases h
  ·next hg =>
   split at h
   ·cases h
   ·next ho =>
    split at h
    ·cases h
    ·next hf =>
     split at h
     ·cases h
     ·next hl =>
      have ho:=P4.mp (by simpa using ho)
      have hl:B32 G[g.toNat]! y ⟨g,how,day⟩=false∧B54 G[g.toNat]! y=true:= by simpa using hl
      exact .inr ⟨ho.1,by simp only;omega,by simpa using hf,hl.1,hl.2⟩
 ·rintro (h|h)
  ·cases h
   rfl
  ·have h1:=h.lo
   have h2:=h.hi
   have h3:=h.form
   have h4:=h.late
   have h5:=h.look
   simp only at h1 h2 h3 h4 h5
   rw[if_neg (by omega),if_neg (by rw[P4.mpr (by omega)];decide),if_neg (by rw[h3];decide),h4,h5]
   rfl
def A1s (G:List PaGown) (y:PaFigure) (x:PaUse):Int×Int :=
 if x.Gown = -1 then (0,0) else if x.How=1 then (price G[x.Gown.toNat]! x.Day,x.Day) else if x.How=2 then (C1d G[x.Gown.toNat]! y,y.Day) else (0,0)
theorem form1 {g:PaGown} {x:PaUse} (h:A9v g x=true):(g.Pawn=false∧x.How=0∧x.Day=0)∨(g.Pawn=true∧((x.How=2∧x.Day=0)∨(x.How=1∧0≤x.Day∧x.Day≤364))):= by
 unfold A9v at h
 cases hp:g.Pawn
 ·rw[hp]at h
  simp at h
  exact .inl ⟨Z,h⟩
 ·rw[hp]at h
  simp only[if_true,Z16,Zc,beq_iff_eq,Z09,P4]at h
  exact .inr ⟨Z,h⟩
theorem D1t {G:List PaGown} (hG:∀g∈G,GwOk g) {y:PaFigure} (hy:FgOk y) {x:PaUse} (h:T5 G y x=0):(0≤(A1s G y x).1∧(A1s G y x).1≤100000)∧(0≤(A1s G y x).2∧(A1s G y x).2≤364):= by
 rcases W4.mp h with rfl|h
 ·exact⟨⟨ZY _,by show (0:Int)≤100000;decide⟩,ZY _,by show (0:Int)≤364;decide⟩
 ·have h1:=h.lo
  have h2:=h.hi
  have hg:=hG _ (J1 (l:=G) (i:=x.Gown.toNat) (by omega))
  have hf:=hy.day
  have ht:=hy.til
  unfold A1s
  rw[if_neg (by omega)]
  rcases form1 h.form with⟨_,hh,hd⟩|⟨_,⟨hh,hd⟩|⟨hh,hd⟩⟩
  ·rw[if_neg (by omega),if_neg (by omega)]
   exact⟨by decide,by decide⟩
  ·rw[if_neg (by omega),if_pos hh]
   have:=D6v hg hy
   exact⟨⟨this.1,by show C1d _ _≤100000;omega⟩,hf.1,by show y.Day≤364;omega⟩
  ·rw[if_pos hh]
   have:=C9o hg hd
   exact⟨⟨this.1,by show price _ _≤100000;omega⟩,hd⟩
theorem C7d {s:PaShow} (hs:ShOk s) (days:List Int) {f:Int} (hf:0≤f∧f<s.Figures.length) {x:PaUse} (h:T5 s.Gowns s.Figures[f.toNat]! x=0):W2 (shw s days) f x=some (A1s s.Gowns s.Figures[f.toNat]! x):= by
 have hy:=hs.figure _ (J1 (l:=s.Figures) (i:=f.toNat) (by omega))
 unfold W2 A09
 simp only[Zd]
 rcases W4.mp h with rfl|h
 ·rfl
 ·have h1:=h.lo
  have h2:=h.hi
  have hg:=hs.gown _ (J1 (l:=s.Gowns) (i:=x.Gown.toNat) (by omega))
  have hfm:=h.form
  rw[if_neg (by simp only[Zc,beq_iff_eq];omega),show (shw s days).PaShow=s from Z,A0o (l:=s.Gowns) h1 h2,A0o (l:=s.Figures) hf.1 hf.2]
  unfold A1s
  rw[if_neg (by omega)]
  generalize s.Figures[f.toNat]! = y at hy
  generalize s.Gowns[x.Gown.toNat]! = g at hg hfm
  rcases form1 hfm with⟨_,hh,hd⟩|⟨_,⟨hh,hd⟩|⟨hh,hd⟩⟩
  ·rw[hh];rfl
  ·rw[hh]
   simp only[sel3,inR,Zd]
   rw[C06 hg hy]
   rfl
  ·rw[hh]
   simp only[sel3,inR,Zd]
   rw[B4u hg y hd]
   rfl
def P0 (l:List (Int×Int)) (d:Int):Int:=sm (l.map fun x=>if x.2≤d then x.1 else 0)
def incs (s:PaShow):List (Int×Int):=s.Incomes.map fun x=>(x.Pence,x.Day)
def pays (s:PaShow) (p:List PaUse):List (Int×Int):=List.zipWith (A1s s.Gowns) s.Figures p
def I1 (s:PaShow) (p:List PaUse) (d:Int):Int:=s.Purse+P0 (incs s) d-P0 (pays s p) d
theorem A2w {l:List (Int×Int)} (h:∀x∈l,0≤x.1∧x.1≤100000) (d:Int):0≤P0 l d∧P0 l d≤100000*l.length:= by
 have:=D0a (a:=0) (b:=100000) (l:=l.map fun x=>if x.2≤d then x.1 else 0) (fun z hz=>by
  obtain⟨x,hx,rfl⟩:=ZJ.mp hz
  have:=h x hx
  split <;> omega)
 rw[Zi]at this
 unfold P0
 omega
structure PlU (s:PaShow) (p:List PaUse):Prop where
 len:p.length=s.Figures.length
 use:∀i,i<p.length→T5 s.Gowns s.Figures[i]! p[i]! = 0
theorem K9 {s:PaShow} {p:List PaUse} (h:PlU s p):(pays s p).length=p.length:= by
 have:=h.len
 unfold pays
 rw[List.length_zipWith];omega
theorem A4x {s:PaShow} {p:List PaUse} (h:PlU s p) {i:Nat} (hi:i<p.length):(pays s p)[i]! = A1s s.Gowns s.Figures[i]! p[i]!:= by
 have:=h.len
 rw[getElem!_pos (pays s p) i (by rw[K9 h];exact hi)]
 unfold pays
 rw[List.getElem_zipWith,getElem!_pos p i hi,getElem!_pos s.Figures i (by omega)]
theorem U8 {s:PaShow} (hs:ShOk s) {p:List PaUse} (h:PlU s p):∀x∈pays s p,(0≤x.1∧x.1≤100000)∧(0≤x.2∧x.2≤364):= by
 intro x hx
 obtain⟨i,hi,rfl⟩:=A4v hx
 rw[K9 h]at hi
 have:=h.len
 rw[A4x h hi]
 exact D1t hs.gown (hs.figure _ (J1 (by omega))) (h.use i hi)
theorem Y0 {s:PaShow} (hs:ShOk s):∀x∈incs s,(0≤x.1∧x.1≤100000)∧(0≤x.2∧x.2≤364):= by
 intro x hx
 obtain⟨y,hy,rfl⟩:=ZJ.mp hx
 have:=hs.income y hy
 have h1:=this.pence
 have h2:=this.day
 exact⟨⟨h1.1,by show y.Pence≤_;omega⟩,h2⟩
theorem R7 (s:PaShow):(incs s).length=s.Incomes.length:= by simp[incs]
theorem C1t {s:PaShow} {i:Nat} (hi:i<s.Incomes.length):(incs s)[i]! = (s.Incomes[i]!.Pence,s.Incomes[i]!.Day):= by
 rw[getElem!_pos (incs s) i (by rw[R7];exact hi),getElem!_pos s.Incomes i hi]
 simp[incs]
theorem C50 (l:List (Int×Int)) (d:Int) (t:Int) (i:Nat):(l.take i).foldl (fun a (x:Int×Int)=>a+if x.2≤d then x.1 else 0) t=t+P0 (l.take i) d:=A22 _ _ _
theorem B3f {s:PaShow} (hs:ShOk s) {p:List PaUse} (h:PlU s p) (d:Int):-300000≤I1 s p d∧I1 s p d≤310000:= by
 have h1:=A2w (fun x hx=>(Y0 hs x hx).1) d
 have h2:=A2w (fun x hx=>(U8 hs h x hx).1) d
 rw[R7]at h1
 rw[K9 h]at h2
 have:=hs.incomes
 have:=hs.figures
 have:=h.len
 have:=hs.purse
 unfold I1
 omega
theorem D3f {s:PaShow} (hs:ShOk s) (days:List Int) {p:List PaUse} (h:PlU s p) (d:Int):T2 (shw s days) p d=some (I1 s p d):= by
 have hin:=hs.incomes
 have hfl:=hs.figures
 have hlen:=h.len
 have hpu:=hs.purse
 have hb1:∀i,0≤P0 ((incs s).take i) d∧P0 ((incs s).take i) d≤300000:=fun i=>by
  have:=A2w (l:=(incs s).take i) (fun x hx=>(Y0 hs x (Z01 hx)).1) d
  rw[ZC,R7]at this
  omega
 have hb2:∀i,0≤P0 ((pays s p).take i) d∧P0 ((pays s p).take i) d≤300000:=fun i=>by
  have:=A2w (l:=(pays s p).take i) (fun x hx=>(U8 hs h x (Z01 hx)).1) d
  rw[ZC,K9 h]at this
  omega
 unfold T2
 rw[show (shw s days).PaShow=s from Z]
 have e1:loop (U0 (shw s days) d) (s.Purse,0)=some (s.Purse+P0 (incs s) d):= by
  refine X2 (incs s) (fun a (x:Int×Int)=>a+if x.2≤d then x.1 else 0) s.Purse (fun i t=>(t,(i:Int))) (by rw[R7];omega) (fun i hi=>?_) ?_
  ·rw[R7]at hi
   have hx:=(Y0 hs _ (J1 (l:=incs s) (i:=i) (by rw[R7];exact hi))).1
   rw[C1t hi]at hx ⊢
   rw[C50]
   have:=hb1 i
   unfold U0
   rw[show (shw s days).PaShow=s from Z,if_pos (by simpa using hi),G9 hi]
   simp only[Zd]
   rw[D7 (n:=(i:Int)+1) (by omega)]
   by_cases hd:s.Incomes[i]!.Day≤d
   ·rw[if_pos (decide_eq_true hd),if_pos hd,D7 (by omega)];rfl
   ·rw[if_neg (by simpa using hd),if_neg hd,Int.add_zero];rfl
  ·rw[A22,R7]
   unfold U0
   rw[show (shw s days).PaShow=s from Z,if_neg (by simp)]
   rfl
 rw[e1]
 simp only[Zd]
 have hI:=hb1 (incs s).length
 rw[Z0g]at hI
 have e2:loop (U1 (shw s days) p d) (s.Purse+P0 (incs s) d,0)=some (I1 s p d):= by
  refine X2 (pays s p) (fun a (x:Int×Int)=>a-if x.2≤d then x.1 else 0) (s.Purse+P0 (incs s) d) (fun i t=>(t,(i:Int))) (by rw[K9 h];omega) (fun i hi=>?_) ?_
  ·rw[K9 h]at hi
   have hx:=(U8 hs h _ (J1 (l:=pays s p) (i:=i) (by rw[K9 h];exact hi))).1
   have hsub:∀(l:List (Int×Int)) (t:Int),l.foldl (fun a (x:Int×Int)=>a-if x.2≤d then x.1 else 0) t=t-P0 l d:= by
    intro l
    induction l with
    | nil=>intro t;simp[P0,sm]
    | cons x l ih=>intro t;rw[Z0b,ih];simp only[P0,Zw,sm];omega
   rw[hsub,A4x h hi]at *
   have:=hb2 i
   unfold U1
   simp only[]
   rw[if_pos (by simpa using hi),G9 hi]
   simp only[Zd]
   rw[C7d hs days (f:=(i:Int)) (by omega) (by rw[ZG];exact h.use i hi),ZG]
   simp only[Zd]
   rw[D7 (n:=(i:Int)+1) (by omega)]
   generalize A1s s.Gowns s.Figures[i]! p[i]! = z at hx
   by_cases hd:z.2≤d
   ·rw[if_pos (decide_eq_true hd),if_pos hd,D7 (by omega)];rfl
   ·rw[if_neg (by simpa using hd),if_neg hd,Int.sub_zero];rfl
  ·unfold U1
   simp only[]
   rw[K9 h,if_neg (by simp)]
   have hsub:∀(l:List (Int×Int)) (t:Int),l.foldl (fun a (x:Int×Int)=>a-if x.2≤d then x.1 else 0) t=t-P0 l d:= by
    intro l
    induction l with
    | nil=>intro t;simp[P0,sm]
    | cons x l ih=>intro t;rw[Z0b,ih];simp only[P0,Zw,sm];omega
   rw[hsub];rfl
 rw[e2];rfl
end Pw
end
section
set_option maxRecDepth 100000
set_option maxHeartbeats 0
namespace Pw
open Go Am Go.Proofs.YtjpjdglddmhplaaGreat.Cd
def A5v (t:PaShow) (days:List Int) (plan:List PaUse) (i:Int):Option (Int⊕(Int⊕Unit)) :=
 if (decide (i<(Zh plan:Int)))=true then
  (idx plan i).bind fun u=>(Z4 (shw t days) i u).bind fun e =>
  (if (e != 4)=true then (A5u plan i).bind fun z=>some z else some false).bind fun g =>
  (if g=true then some 5 else some e).bind fun e' =>
  if (e' != 0)=true then some (.inr (.inl e')) else some (.inl (w64 (i+1)))
 else some (.inr (.inr ()))
def A4y (t:PaShow) (plan:List PaUse):Option (Int×List Int) :=
 (A3w t).bind fun x =>
 if (x.1==0)=true then
  if ((Zh plan:Int) != (Zh t.Figures:Int))=true then some (3,[])
  else (loop (A5v t x.2 plan) 0).bind fun o=>match o with
   | .inl e=>some (e,[])
   | .inr _=>some (0,x.2)
 else some (x.1,[])
def plB (t:PaShow) (X:AO) (days:List Int):List AO:=[.cells (A9 t),.cells (A9 t),X,.cells (A5b t days)]
def PlQ (H:A2) (t:PaShow) (X:AO) (x:Int×List Int) (e:Ex) (s:C0) (H1:A2):Prop :=
 e=.ret∧sget s 5=some (.i x.1)∧(((x.1 != 0)=true∧sget s 4=some (.lit (.pointer none))∧∃ L,H1=H++L)∨(x.1=0∧sget s 4=some (.ptr (H.length+3) 0)∧H1=H++plB t X x.2))
theorem B6g {c:Sc} {H:A2} {t:PaShow} {plan:List PaUse} {x y:Int×List Int} {X:AO} (hX:New tab (.fn (.func 51) [] []) [.agg (A9 t)] 2 [.cells (A9 t),X,.cells (A5b t y.2)])
  (h:(if ((Zh plan:Int) != (Zh t.Figures:Int))=true then some (3,[])
  else (loop (A5v t y.2 plan) 0).bind fun o=>match o with
   | .inl e=>some (e,[])
   | .inr _=>some (0,y.2))=some x) :
  WP tab c62 [(0,.agg (A9 t)),(1,.seq 3 (plan.map A6))] (H++[]) ⟨H.length,c.cur::c.outer⟩ (PlQ H t X x):= by
 refine sg 0 Z<|A0 (G0 (cs:=A9 t) Z Z Z) Z<|qm Z<|qm Z<|es (ra2 Z Z)<|s0<|A0 (D0 Z Z Z) Z<|O4 (A59 hX Z Z (A1 (C9 Z) B3) Z) Z<|qm Z<|A0 (A8 Z Z) Z<|A0 (A8 Z Z) Z<|qm Z<|qm Z<|es (ra4 Z Z Z Z)<|B8<|C5<|s0<|qm Z<|A0 (I8 Z Z) Z<|qm Z<|es (ra5 Z Z Z Z Z)<|S9 Z Z<|s0<|qm Z<|A0 (F1 (f:=A6) Z) Z<|A0 (C1 Z) Z<|A0 (B4 Z Z Z) Z<|A0 (F1 (f:=B5) Z) Z<|A0 (I8 Z Z) Z<|qm Z<|es (ra3 Z Z Z)<|wi h Z (fun hc h=>?_) fun hc h=>?_
 ·refine s0<|qm Z<|qm Z<|es (ra2 Z Z)<|C7 ?_
  obtain rfl:=os h
  exact⟨Z,Z,.inl ⟨Z,Z,_,Z⟩⟩
 ·refine oB h fun o ho h=>?_
  have hsl:SlV H (.seq 3 (plan.map A6)) plan:=.seq plan
  refine B9<|B8<|s0<|qm Z<|A0 (F1 (f:=A6) Z) Z<|qm Z<|es (ra5 Z Z Z Z Z)<|C5<|wl (fun i=>[(1,.seq 3 (plan.map A6)),(6,.ptr (H.length+3) 0),(26,.seq 3 (plan.map A6)),(27,.i plan.length),(28,.i i)]) (fun (_:Unit) _=>plB t X y.2) 4 (fun r e s' H'=>match r with|.inl v=>e=.ret∧s'=[(4,.lit (.pointer none)),(5,.i v)]∧(v != 0)=true∧∃ L,H'=H++L|.inr _=>PX 1 [(6,.ptr (H.length+3) 0)] (H++plB t X y.2) e s' H') () ho Z Z (fun _ _=>rfl) (fun _=>rfl) Z (fun _=>bdc G6 (bdc (J6 Z) (bdc G6 (bdc A4 (bdc A4 bdn))))) (fun _ i o hs=>?_) ?_
  ·unfold A5v at hs
   refine s0<|A0 (I0 Z Z) Z<|es (ra6 Z Z Z Z Z Z)<|B8<|wi hs Z (fun hc hs=>?_) fun hc hs=>?_
   ·refine oB hs fun u hu hs=>oB hs fun e he hs=>oB hs fun g hg hs=>oB hs fun e' he' hs=>?_
    refine B9<|B8<|C5<|sg 4 Z<|qm Z<|A0 (D4 (f:=A6) Z Z hu) Z<|A0 (H9 Z Z) Z<|A0 K1 Z<|qm Z<|P5 (G3 (ds:=A6 u) Z Z Z Z (F7 Z) Z) Z<|es (ra7 Z Z Z Z Z Z Z)<|s0<|qm Z<|qm Z<|A0 (D0 Z Z Z) Z<|B2 (rs:=[.i e]) Z Z (A1 Z (A1 Z (A1 (C9 Z) B3))) ((A5o (a0:=shw t y.2) (F5 Z) he).frz)<|qm Z<|es (ra7 Z Z Z Z Z Z Z)<|B8<|s0<|qm Z<|A0 (I8 Z Z) Z<|qm Z<|gp 4 43 (.b g) 39 Z Z (fun hb=>?_) (fun hb=>?_) ?_
    ·refine oB (bt hg hb) fun z hz hg=>?_
     obtain rfl:=os hg
     exact gT Z hb<|qm Z<|gT Z hb<|qm Z<|gT Z hb<|O4 (Z2 (rs:=[.b z]) Z Z ((B2h hsl.app (fun _ _ _ _ hh=>by cases hh) rfl hz).frz)) rfl<|A0 (C3 rfl hb rfl) rfl<|ge 4 rfl rfl rfl
    ·obtain rfl:=os (bf hg hb)
     exact nT Z hb Z<|nT Z hb Z<|G4 (D2 Z (by rw[hb];rfl)) Z<|A0 (C2 Z hb Z) Z<|ge 4 Z Z Z
    ·refine es (ra7 Z Z Z Z Z Z Z) ?_
     have fin:∀{e'':Int},e''=e'→WP tab (.s 0 [M 0 44 7,B 1 45 .neq 44 (.i 0)] [1,6,7,26,27,28,45] (.cond 45 (.s 0 [M 0 46 7,M 1 4 (.c (.lit (.pointer none))),M 2 5 46] [4,5] .ret) .skip)) [(1,.seq 3 (plan.map A6)),(6,.ptr (H.length+3) 0),(7,.i e''),(26,.seq 3 (plan.map A6)),(27,.i plan.length),(28,.i i)] (H++(plB t X y.2++[.cells (A6 u)])) ⟨H.length+4,H.length::c.cur::c.outer⟩ (C0q 2 (D0s tab (.g 0 [B 0 47 .add 28 (.i 1),M 1 28 47] [1,6,26,27,28]) ⟨H.length+4,H.length::c.cur::c.outer⟩ (D2i true (fun i=>[(1,.seq 3 (plan.map A6)),(6,.ptr (H.length+3) 0),(26,.seq 3 (plan.map A6)),(27,.i plan.length),(28,.i i)]) (fun (_:Unit) _=>H++plB t X y.2) (H.length+4) (fun r e s' H'=>match r with|.inl v=>e=.ret∧s'=[(4,.lit (.pointer none)),(5,.i v)]∧(v != 0)=true∧∃ L,H'=H++L|.inr _=>PX 1 [(6,.ptr (H.length+3) 0)] (H++plB t X y.2) e s' H') o))):=fun {e''} hee=>by
      subst hee
      refine s0<|qm Z<|A0 (I8 Z Z) Z<|es (ra7 Z Z Z Z Z Z Z)<|wi hs Z (fun hc2 hs=>?_) fun hc2 hs=>?_
      ·refine s0<|qm Z<|qm Z<|qm Z<|es (ra2 Z Z)<|C7 ?_
       obtain rfl:=os hs
       exact lx Z ⟨Z,Z,hc2,_,Z⟩ (su2 Z Z)
      ·refine B9<|r0<|A0 (D9 Z Z) Z<|qm Z<|en (ra5 Z Z Z Z Z) ?_
       cases hs
       exact lnT () Z (su5 Z Z Z Z Z)
     cases g with
     | true =>
      obtain rfl:=os he'
      exact Q4 Z Z<|r0<|qm Z<|en (ra6 Z Z Z Z Z Z) (fin Z)
     | false =>
      obtain rfl:=os he'
      exact S9 Z Z<|B9<|D53 (su6 Z Z Z Z Z Z) (fin Z)
   ·refine G5 ?_
    obtain rfl:=os hs
    exact lx Z px (su1 Z)
  ·rcases o with v|v
   ·rintro e s' H'-⟨rfl,rfl,hv,L,rfl⟩
    obtain rfl:=os h
    exact⟨Z,Z,.inl ⟨hv,Z,L,Z⟩⟩
   ·rintro e s' H'-⟨rfl,rfl,rfl⟩
    obtain rfl:=os h
    refine s0<|qm Z<|qm Z<|qm Z<|es (ra2 Z Z)<|C7 ?_
    exact⟨Z,Z,.inr ⟨Z,Z,Z⟩⟩
theorem B2k {t:PaShow} {plan:List PaUse} {x:Int×List Int} (h:A4y t plan=some x) (hx:(x.1==0)=true):∃X,New tab (.fn (.func 62) [] []) [.agg (A9 t),.seq 3 (plan.map A6)] 3 [.cells (A9 t),.cells (A9 t),X,.cells (A5b t x.2)]:= by
 unfold A4y at h
 refine oB h fun y hy h=>?_
 split at h
 ·next hc =>
  obtain⟨X,hX⟩:=A4b hy hc
  refine⟨X,fun c H N hN=>?_⟩
  subst hN
  refine C77 (aq:=[.agg (A9 t),.seq 3 (plan.map A6)]) Z Z Z (Y8 (A2x (B6g hX h) ?_))
  rintro e s' H' ⟨rfl,h5,⟨h6,_⟩|⟨h6,h4,rfl⟩⟩
  ·rw[show x.1=0 by simpa using hx]at h6;cases h6
  ·rw[h6]at h5
   refine⟨trivial,_,A7 h4 (A7 h5 B7),A5 Z (A5 Z B6),X8 ?_⟩
   exact A8m (N:=H.length) (B:=0) (j:=3) (o:=0) Z
 ·next hc=>cases h;exact absurd hx hc
theorem B2j {c:Sc} {H:A2} {t:PaShow} {plan:List PaUse} {x:Int×List Int} (h:A4y t plan=some x) (hx:(x.1==0)=false) :
  L3 tab c H (.fn (.func 62) [] []) [.agg (A9 t),.seq 3 (plan.map A6)] [.lit (.pointer none),.i x.1] H:= by
 unfold A4y at h
 refine oB h fun y hy h=>?_
 split at h
 ·next hc =>
  obtain⟨X,hX⟩:=A4b hy hc
  refine A1t (aq:=[.agg (A9 t),.seq 3 (plan.map A6)]) Z Z Z (Y8 (A2x (B6g hX h) ?_))
  rintro e s' H' ⟨rfl,h5,⟨h6,h4,L,rfl⟩|⟨h6,_⟩⟩
  ·exact⟨trivial,_,_,A7 h4 (A7 h5 B7),A5 Z (A5 Z B6),A3 A4 (A3 A4 B1),Z0c⟩
  ·rw[h6]at hx;cases hx
 ·next hc =>
  obtain rfl:=os h
  refine A1t (aq:=[.agg (A9 t),.seq 3 (plan.map A6)]) Z Z Z (Y8 ?_)
  refine sg 0 Z<|A0 (G0 (cs:=A9 t) Z Z Z) Z<|qm Z<|qm Z<|es (ra2 Z Z)<|s0<|A0 (D0 Z Z Z) Z<|O4 (T9 (rs:=[.lit (.pointer none),.i y.1]) Z Z (A1 (C9 Z) B3) (A5e hy (by simpa using hc)) Z) Z<|qm Z<|A0 (A8 Z Z) Z<|A0 (A8 Z Z) Z<|qm Z<|qm Z<|es (ra4 Z Z Z Z)<|B8<|C5<|s0<|qm Z<|A0 (I8 Z Z) Z<|qm Z<|es (ra5 Z Z Z Z Z)<|Q4 Z (nef hc)<|s0<|qm Z<|qm Z<|qm Z<|es (ra2 Z Z)<|C7 ?_
  exact⟨trivial,_,_,A7 Z (A7 Z B7),A5 Z (A5 Z B6),A3 A4 (A3 A4 B1),Z0c⟩
end Pw
end
section
namespace Pw
open Go Am
theorem C6i (l:List PaUse) (g:PaUse→Option Bool) (p:PaUse→Bool) (hl:l.length<9223372036854775808) (hg:∀x∈l,g x=some (p x)):G8 l g=some (l.any p) :=
 A6y l g p (b:=K5 l g) hl hg (fun _=>rfl) Z
def twP (p:List PaUse) (i:Nat):Bool:=(p[i]!.Gown != -1)&&(p.take i).any fun x=>x.Gown==p[i]!.Gown
theorem D0h {p:List PaUse} {i:Nat} (hi:i<p.length) (hl:p.length≤100):A5u p (i:Int)=some (twP p i):= by
 unfold A5u twP
 rw[G9 hi]
 simp only[Zd]
 cases hg:p[i]!.Gown != -1
 ·rfl
 ·rw[if_pos Z,B6x (Z4b hi)]
  simp only[Zd]
  rw[C6i _ _ (fun x=>x.Gown==p[i]!.Gown) (by rw[ZC];omega) (fun x _=>by unfold A0w;rw[G9 hi];rfl)]
  rfl
structure PlOk (s:PaShow) (p:List PaUse):Prop where
 u:PlU s p
 tw:∀i,i<p.length→twP p i=false
theorem D35 (F:Int→Int):∀(l:List (Int×Int)) (t:Int×Int),∀ r,r=l.foldl (fun (a:Int×Int) (x:Int×Int)=>if F x.2<0 then (C62 a.1 (0-F x.2),A47 a.2 x.2) else a) t →
  t.1≤r.1∧(∀ x∈l,F x.2<0→-F x.2≤r.1)∧(r.1=t.1∨∃ x∈l,F x.2<0∧-F x.2=r.1)∧r.2≤t.2∧(∀ x∈l,F x.2<0→r.2≤x.2)∧(r.2=t.2∨∃ x∈l,F x.2<0∧x.2=r.2)
 | [],t,r,h=>by subst h;exact⟨ZY _,by simp,.inl Z,ZY _,by simp,.inl Z⟩
 | x::l,t,r,h=>by
  rw[Z0b]at h
  obtain⟨h1,h2,h3,h4,h5,h6⟩:=D35 F l _ r h
  by_cases hx:F x.2<0
  ·rw[if_pos hx]at h1 h3 h4 h6
   simp only at h1 h3 h4 h6
   have m1:t.1≤C62 t.1 (0-F x.2)∧-F x.2≤C62 t.1 (0-F x.2)∧(C62 t.1 (0-F x.2)=t.1∨C62 t.1 (0-F x.2) = -F x.2):= by unfold C62;split <;> omega
   have m2:A47 t.2 x.2≤t.2∧A47 t.2 x.2≤x.2∧(A47 t.2 x.2=t.2∨A47 t.2 x.2=x.2):= by unfold A47;split <;> omega
   refine⟨by omega,?_,?_,by omega,?_,?_⟩
   ·intro y hy hf
    rcases Zs.mp hy with rfl|hy
    ·omega
    ·exact h2 y hy hf
   ·rcases h3 with h3|⟨y,hy,hf,e⟩
    ·rcases m1.2.2 with e|e
     ·left;omega
     ·exact .inr ⟨x,Zv ..,hx,by omega⟩
    ·exact .inr ⟨y,Zp _ hy,hf,e⟩
   ·intro y hy hf
    rcases Zs.mp hy with rfl|hy
    ·omega
    ·exact h5 y hy hf
   ·rcases h6 with h6|⟨y,hy,hf,e⟩
    ·rcases m2.2.2 with e|e
     ·left;omega
     ·exact .inr ⟨x,Zv ..,hx,by omega⟩
    ·exact .inr ⟨y,Zp _ hy,hf,e⟩
  ·rw[if_neg hx]at h1 h3 h4 h6
   refine⟨h1,?_,?_,h4,?_,?_⟩
   ·intro y hy hf
    rcases Zs.mp hy with rfl|hy
    ·exact absurd hf hx
    ·exact h2 y hy hf
   ·rcases h3 with h3|⟨y,hy,hf,e⟩
    ·exact .inl h3
    ·exact .inr ⟨y,Zp _ hy,hf,e⟩
   ·intro y hy hf
    rcases Zs.mp hy with rfl|hy
    ·exact absurd hf hx
    ·exact h5 y hy hf
   ·rcases h6 with h6|⟨y,hy,hf,e⟩
    ·exact .inl h6
    ·exact .inr ⟨y,Zp _ hy,hf,e⟩
def I7 (s:PaShow) (p:List PaUse):Int×Int:=(pays s p).foldl (fun (a:Int×Int) (x:Int×Int)=>if I1 s p x.2<0 then (C62 a.1 (0-I1 s p x.2),A47 a.2 x.2) else a) (0,365)
theorem C99 {s:PaShow} (hs:ShOk s) (days:List Int) {p:List PaUse} (h:PlU s p):R2 (shw s days) p=some (I7 s p):= by
 have hfl:=hs.figures
 have hlen:=h.len
 unfold R2
 have e1:loop (S3 (shw s days) p) (0,365,0)=some (I7 s p):= by
  refine X2 (pays s p) (fun (a:Int×Int) (x:Int×Int)=>if I1 s p x.2<0 then (C62 a.1 (0-I1 s p x.2),A47 a.2 x.2) else a) (0,365) (fun i t=>(t.1,t.2,(i:Int))) (by rw[K9 h];omega) (fun i hi=>?_) ?_
  ·rw[K9 h]at hi
   rw[A4x h hi]
   unfold S3
   simp only[]
   rw[if_pos (by simpa using hi),G9 hi]
   simp only[Zd]
   rw[C7d hs days (f:=(i:Int)) (by omega) (by rw[ZG];exact h.use i hi),ZG]
   simp only[Zd]
   rw[D3f hs days h]
   simp only[Zd]
   have:=B3f hs h (A1s s.Gowns s.Figures[i]! p[i]!).2
   rw[D7 (n:=(i:Int)+1) (by omega),D7 (by omega)]
   by_cases hd:I1 s p (A1s s.Gowns s.Figures[i]! p[i]!).2<0
   ·rw[if_pos (decide_eq_true hd),if_pos hd];rfl
   ·rw[if_neg (by simpa using hd),if_neg hd];rfl
  ·rw[K9 h]
   unfold S3
   simp only[]
   rw[if_neg (by simp)]
   rfl
 rw[e1];rfl
theorem A37 (s:PaShow) (p:List PaUse):0≤(I7 s p).1∧(∀ x∈pays s p,I1 s p x.2<0→-I1 s p x.2≤(I7 s p).1)∧((I7 s p).1=0∨∃ x∈pays s p,I1 s p x.2<0∧-I1 s p x.2=(I7 s p).1)∧(I7 s p).2≤365∧(∀ x∈pays s p,I1 s p x.2<0→(I7 s p).2≤x.2)∧((I7 s p).2=365∨∃ x∈pays s p,I1 s p x.2<0∧x.2=(I7 s p).2) :=
 D35 (I1 s p) (pays s p) (0,365) _ Z
end Pw
end
section
set_option maxRecDepth 100000
set_option maxHeartbeats 0
namespace Pw
open Go Am Go.Proofs.YtjpjdglddmhplaaGreat.Cd
def B2m (a0:PaGown) (a1:PaFigure) (s1:Int):Option (Int⊕(Bool⊕Unit)) :=
 if (decide (s1≤15))=true then
  (C34 a1.Needs s1).bind fun x4 =>
  (if ((Z5l x4 2)==1)=true then
  (C34 a0.Looks s1).bind fun x6 =>
  some ((Z5l x6 2)==0)
  else
  some false).bind fun x7 =>
  if x7=true then
  some (.inr (.inl false))
  else
  some (.inl (w64 (2*s1)))
 else
  some (.inr (.inr ()))
def A6k (a0:PaGown) (a1:PaFigure):Option Bool :=
 (loop (B2m a0 a1) 1).bind fun (o9:(Bool⊕Unit)) =>
 match o9 with
 | (.inl vo9_0) =>
  some vo9_0
 | (.inr vo9_1) =>
  some true
theorem C2f {c:Sc} {H:A2} {a0:PaGown} {a1:PaFigure} {r:Bool} (h:A6k a0 a1=some r) :
  F0 tab c H (.fn (.func 101) [] []) [(.agg (C6 a0)),(.agg (B5 a1))] [.b r]:= by
 unfold A6k at h
 refine cE Z Z<|sg 0 Z<|A0 (G0 (cs:=C6 a0) Z Z Z) Z<|A0 (G0 (cs:=B5 a1) Z Z Z) Z<|qm Z<|es (ra2 Z Z)<|B8<|s0<|qm Z<|es (ra3 Z Z Z)<|C5<|oB h fun o9 ho9 h=>wl (fun s1=>[(2,(.ptr (H.length+0) 0)),(3,(.ptr (H.length+1) 0)),(5,.i s1)]) (fun (q2:Unit) s1=>[(.cells (C6 a0)),(.cells (B5 a1))]) 2 (fun r e s' H'=>(match r with|(.inl v)=>e=.ret∧RetQ H [.tmp 4] [.b v] e s' H' | (.inr v)=>PX 0 [] (H++[(.cells (C6 a0)),(.cells (B5 a1))]) e s' H':Prop)) () ho9 Z Z (fun _ _=>rfl) (fun _=>rfl) Z (fun s1=>(bdc (J6 Z) (bdc (J6 Z) (bdc A4 bdn)))) (fun q2 s1 ys1 hs1=>?_) ?_
 ·unfold B2m at hs1
  refine B8<|s0<|qm Z<|A0 (A4k Z Z) Z<|es (ra4 Z Z Z Z)<|wi hs1 Z (fun hc3 hs1=>?_) fun hc3 hs1=>?_
  ·refine B9<|B8<|C5<|s0<|oB hs1 fun x4 hx4 hs1=>oB hs1 fun x7 hx7 hs1=>A0 (C1 Z) Z<|A0 (B4 Z Z Z) Z<|qm Z<|A0 (C89 Z Z hx4) Z<|A0 (R8 (v:=(.i (Z5l x4 2))) Z Z Z) Z<|A0 (G2 Z Z) Z<|qm Z<|gp 7 23 (.b x7) 16 Z Z (fun hg5=>?_) (fun hg5=>?_) ?_
   ·refine oB (bt hx7 hg5) fun x6 hx6 hx7=>?_
    obtain rfl:=os hx7
    exact gT Z hg5<|A0 (C1 Z) Z<|gT Z hg5<|A0 (B4 Z Z Z) Z<|gT Z hg5<|qm Z<|gT Z hg5<|A0 (C89 Z Z hx6) Z<|gT Z hg5<|A0 (R8 (v:=(.i (Z5l x6 2))) Z Z Z) Z<|gT Z hg5<|A0 (G2 Z Z) Z<|A0 (C3 Z hg5 Z) Z<|ge 7 Z Z Z
   ·obtain rfl:=os (bf hx7 hg5)
    exact nT Z hg5 Z<|nT Z hg5 Z<|nT Z hg5 Z<|nT Z hg5 Z<|nT Z hg5 Z<|nT Z hg5 Z<|A0 (C2 Z hg5 Z) Z<|ge 7 Z Z Z
   refine es (ra4 Z Z Z Z)<|wi hs1 Z (fun hc8 hs1=>?_) fun hc8 hs1=>?_
   ·refine s0<|qm Z<|es (ra1 Z)<|C7 ?_
    obtain rfl:=os hs1
    exact lx Z (ZE Z (retq trivial (A7 Z B7) (A5 Z B6) (A3 A4 B1))) (Sub.refl _)
   ·refine B9<|r0<|qm Z<|A0 (B3z Z Z) Z<|qm Z<|en (ra3 Z Z Z) ?_
    cases hs1
    exact lnT () Z (su3 Z Z Z)
  ·refine G5 ?_
   obtain rfl:=os hs1
   exact lx Z px (.nil _)
 ·rcases o9 with vo9_0|vo9_1
  ·rintro e s' H'-⟨rfl,hret⟩
   cases h
   exact hret
  ·rintro e s' H'-⟨rfl,rfl,rfl⟩
   refine s0<|qm Z<|es (ra1 Z)<|C7 ?_
   obtain rfl:=os h
   exact retq trivial (A7 Z B7) (A5 Z B6) (A3 A4 B1)
def A79 (a0:PaGown) (a1:PaUse):Option Bool :=
 if (!a0.Pawn)=true then
  some ((a1.How==0)&&(a1.Day==0))
 else
  (if ((a1.How==2)&&(a1.Day==0))=true then
  some true
  else
  (if (a1.How==1)=true then
   (N6 a1.Day 0 364).bind fun x6 =>
   some x6
  else
   some false).bind fun x7 =>
  some x7).bind fun x8 =>
  some x8
theorem C30 {c:Sc} {H:A2} {a0:PaGown} {a1:PaUse} {r:Bool} (h:A79 a0 a1=some r) :
  F0 tab c H (.fn (.func 100) [] []) [(.agg (C6 a0)),(.agg (A6 a1))] [.b r]:= by
 unfold A79 at h
 refine cE Z Z<|sg 0 Z<|A0 (G0 (cs:=C6 a0) Z Z Z) Z<|A0 (G0 (cs:=A6 a1) Z Z Z) Z<|qm Z<|es (ra2 Z Z)<|B8<|s0<|A0 (C1 Z) Z<|A0 (B4 Z Z Z) Z<|A0 (M9 Z) Z<|es (ra2 Z Z)<|wi h Z (fun hc1 h=>?_) fun hc1 h=>?_
 ·refine s0<|A0 (C1 Z) Z<|A0 (B4 Z Z Z) Z<|A0 (G2 Z Z) Z<|qm Z<|gp 4 15 (.b ((a1.How==0)&&(a1.Day==0))) 11 Z Z (fun hg2=>?_) (fun hg2=>?_) ?_
  ·exact gT Z hg2<|A0 (C1 Z) Z<|gT Z hg2<|A0 (B4 Z Z Z) Z<|gT Z hg2<|A0 (G2 Z Z) Z<|A0 (C3 Z hg2 Z) Z<|ge 4 (by rw[hg2];rfl) Z Z
  ·exact nT Z hg2 Z<|nT Z hg2 Z<|nT Z hg2 Z<|A0 (C2 Z hg2 Z) Z<|ge 4 (by rw[hg2];rfl) Z Z
  refine qm Z<|es (ra1 Z)<|C7 ?_
  obtain rfl:=os h
  exact retq trivial (A7 Z B7) (A5 Z B6) (A3 A4 B1)
 ·refine B9<|s0<|oB h fun x8 hx8 h=>A0 (C1 Z) Z<|A0 (B4 Z Z Z) Z<|A0 (G2 Z Z) Z<|qm Z<|gp 4 23 (.b ((a1.How==2)&&(a1.Day==0))) 19 Z Z (fun hg3=>?_) (fun hg3=>?_) ?_
  ·exact gT Z hg3<|A0 (C1 Z) Z<|gT Z hg3<|A0 (B4 Z Z Z) Z<|gT Z hg3<|A0 (G2 Z Z) Z<|A0 (C3 Z hg3 Z) Z<|ge 4 (by rw[hg3];rfl) Z Z
  ·exact nT Z hg3 Z<|nT Z hg3 Z<|nT Z hg3 Z<|A0 (C2 Z hg3 Z) Z<|ge 4 (by rw[hg3];rfl) Z Z
  refine qm Z<|gp 9 33 (.b x8) 24 Z Z (fun hg4=>?_) (fun hg4=>?_) ?_
  ·obtain rfl:=os (bt hx8 hg4)
   exact nF Z hg4 Z<|nF Z hg4 Z<|nF Z hg4 Z<|nF Z hg4 Z<|nX Z Z<|nX Z Z<|G4 (A38 Z) Z<|nF Z hg4 Z<|A0 (C3 Z hg4 Z) Z<|ge 9 Z Z Z
  ·refine oB (bf hx8 hg4) fun x7 hx7 hx8=>?_
   obtain rfl:=os hx8
   refine gF Z hg4<|A0 (C1 Z) Z<|gF Z hg4<|A0 (B4 Z Z Z) Z<|gF Z hg4<|A0 (G2 Z Z) Z<|gF Z hg4<|qm Z<|gq 4 32 (.b x7) 28 Z Z (fun hg5=>?_) (fun hg5=>?_) ?_
   ·refine oB (bt hx7 hg5) fun x6 hx6 hx7=>?_
    obtain rfl:=os hx7
    exact gT Z hg5<|A0 (C1 Z) Z<|gT Z hg5<|A0 (B4 Z Z Z) Z<|gT Z hg5<|B2 (rs:=[.b x6]) Z Z (A1 Z (A1 Z (A1 Z B3))) ((K8 hx6).frz)<|gF Z hg4<|A0 (C3 Z hg5 Z) Z<|ge 4 Z Z Z
   ·obtain rfl:=os (bf hx7 hg5)
    exact nT Z hg5 Z<|nT Z hg5 Z<|G4 (D2 Z (by rw[hg5];rfl)) Z<|gF Z hg4<|A0 (C2 Z hg5 Z) Z<|ge 4 Z Z Z
   exact A0 (C2 Z hg4 Z) Z<|ge 6 Z Z Z
  refine qm Z<|es (ra1 Z)<|C7 ?_
  obtain rfl:=os h
  exact retq trivial (A7 Z B7) (A5 Z B6) (A3 A4 B1)
def A2r (a0:PaShow) (a1:Int) (a2:PaUse):Option Int :=
 if (a2.Gown==(-1))=true then
  if ((a2.How != 0)||(a2.Day != 0))=true then
  some 2
  else
  some 0
 else
  (N6 a2.Gown 0 (w64 ((Zh a0.Gowns:Int)-1))).bind fun x4 =>
  if (!x4)=true then
  some 4
  else
  (idx a0.Gowns a2.Gown).bind fun x6 =>
  (idx a0.Figures a1).bind fun x7 =>
  (A79 x6 a2).bind fun x8 =>
  if (!x8)=true then
   some 2
  else
   (if (((a2.How==1)&&((decide (a2.Day>x6.Last))||(decide (a2.Day>x7.Day))))||((a2.How==2)&&(decide (x7.Until>x6.Last))))=true then
   some true
   else
   (A6k x6 x7).bind fun x15 =>
   some (!x15)).bind fun x16 =>
   if x16=true then
   some 9
   else
   some 0
theorem A66 {c:Sc} {H:A2} {a0:PaShow} {a1:Int} {a2:PaUse} {r:Int} (h:A2r a0 a1 a2=some r) :
  F0 tab c H (.fn (.func 58) [] []) [(.agg (A9 a0)),.i a1,(.agg (A6 a2))] [.i r]:= by
 unfold A2r at h
 refine cE Z Z<|sg 0 Z<|A0 (G0 (cs:=A9 a0) Z Z Z) Z<|A0 (G0 (cs:=A6 a2) Z Z Z) Z<|qm Z<|es (ra3 Z Z Z)<|B8<|s0<|A0 (C1 Z) Z<|A0 (B4 Z Z Z) Z<|A0 (G2 Z Z) Z<|es (ra4 Z Z Z Z)<|wi h Z (fun hc1 h=>?_) fun hc1 h=>?_
 ·refine B8<|s0<|A0 (C1 Z) Z<|A0 (B4 Z Z Z) Z<|A0 (I8 Z Z) Z<|qm Z<|gp 4 20 (.b ((a2.How != 0)||(a2.Day != 0))) 16 Z Z (fun hg2=>?_) (fun hg2=>?_) ?_
  ·exact nF Z hg2 Z<|nF Z hg2 Z<|nF Z hg2 Z<|A0 (C3 Z hg2 Z) Z<|ge 4 (by rw[hg2];rfl) Z Z
  ·exact gF Z hg2<|A0 (C1 Z) Z<|gF Z hg2<|A0 (B4 Z Z Z) Z<|gF Z hg2<|A0 (I8 Z Z) Z<|A0 (C2 Z hg2 Z) Z<|ge 4 (by rw[hg2];rfl) Z Z
  refine es (ra1 Z)<|wi h Z (fun hc3 h=>?_) fun hc3 h=>?_
  ·refine s0<|qm Z<|es (ra1 Z)<|C7 ?_
   obtain rfl:=os h
   exact retq trivial (A7 Z B7) (A5 Z B6) (A3 A4 B1)
  ·refine B9<|s0<|qm Z<|es (ra1 Z)<|C7 ?_
   obtain rfl:=os h
   exact retq trivial (A7 Z B7) (A5 Z B6) (A3 A4 B1)
 ·refine B9<|B8<|s0<|oB h fun x4 hx4 h=>A0 (C1 Z) Z<|A0 (B4 Z Z Z) Z<|A0 (C1 Z) Z<|A0 (B4 Z Z Z) Z<|A0 (F1 (f:=C6) Z) Z<|A0 (W6 Z Z) Z<|B2 (rs:=[.b x4]) Z Z (A1 Z (A1 Z (A1 Z B3))) ((K8 hx4).frz)<|A0 (M9 Z) Z<|es (ra4 Z Z Z Z)<|wi h Z (fun hc5 h=>?_) fun hc5 h=>?_
  ·refine s0<|qm Z<|es (ra1 Z)<|C7 ?_
   obtain rfl:=os h
   exact retq trivial (A7 Z B7) (A5 Z B6) (A3 A4 B1)
  ·refine B9<|sg 2 Z<|oB h fun x6 hx6 h=>oB h fun x7 hx7 h=>A0 (C1 Z) Z<|J3 [2,3] (O1 [2,3] rfl H7 Z Z) (seen0 Z) (B4 Z Z Z) Z<|A0 (C1 Z) Z<|J3 [2,3] (O1 [2,3] rfl H7 Z Z) (seen0 Z) (B4 Z Z Z) Z<|J3 [2,3] (O1 [2,3] rfl H7 Z Z) (seen0 Z) (D4 (f:=C6) Z Z hx6) Z<|J3 [2,3] (O1 [2,3] rfl H7 Z Z) (seen0 Z) (H9 Z Z) Z<|A0 K1 Z<|A0 K1 Z<|C0l [0] [(.cells (A9 a0)),(.cells (A6 a2)),(.cells (C6 x6)),(.cells (B5 (PaFigure.mk (ByteArray.mk #[]) 0 0 0)))] (O1 [] rfl (B3v Z B0q H7) Z Z) (seen0 Z) (G3 (ds:=(C6 x6)) Z Z Z Z (F7 Z) Z) Z Z Z<|A0 (C1 Z) Z<|J3 [2,3] (O1 [2,3] rfl H7 Z Z) (C0o (b:=H.length+0) Z (B3t (A6z _ Z) B6v)) (B4 Z Z Z) Z<|qm Z<|J3 [2,3] (O1 [2,3] rfl H7 Z Z) (A50 Z) (D4 (f:=B5) Z Z hx7) Z<|J3 [2,3] (O1 [2,3] rfl H7 Z Z) (A50 Z) (H9 Z Z) Z<|P5 (G3 (ds:=(B5 x7)) Z Z Z Z (F7 Z) Z) Z<|es (ra3 Z Z Z)<|B8<|s0<|oB h fun x8 hx8 h=>A0 (D0 Z Z Z) Z<|A0 (D0 Z Z Z) Z<|B2 (rs:=[.b x8]) Z Z (A1 (C9 Z) (A1 (C9 Z) B3)) ((C30 hx8).frz)<|A0 (M9 Z) Z<|es (ra4 Z Z Z Z)<|wi h Z (fun hc9 h=>?_) fun hc9 h=>?_
   ·refine s0<|qm Z<|es (ra1 Z)<|C7 ?_
    obtain rfl:=os h
    exact retq trivial (A7 Z B7) (A5 Z B6) (A3 A4 B1)
   ·refine B9<|s0<|A0 (C1 Z) Z<|A0 (B4 Z Z Z) Z<|A0 (G2 Z Z) Z<|qm Z<|gp 13 60 (.b ((a2.How==1)&&((decide (a2.Day>x6.Last))||(decide (a2.Day>x7.Day))))) 47 Z Z (fun hg10=>?_) (fun hg10=>?_) ?_
    ·refine gT Z hg10<|A0 (C1 Z) Z<|gT Z hg10<|A0 (B4 Z Z Z) Z<|gT Z hg10<|A0 (C1 Z) Z<|gT Z hg10<|A0 (B4 Z Z Z) Z<|gT Z hg10<|A0 (X6 Z Z) Z<|gT Z hg10<|qm Z<|gq 6 59 (.b ((decide (a2.Day>x6.Last))||(decide (a2.Day>x7.Day)))) 53 Z Z (fun hg11=>?_) (fun hg11=>?_) ?_
     ·exact nF Z hg11 Z<|nF Z hg11 Z<|nF Z hg11 Z<|nF Z hg11 Z<|nF Z hg11 Z<|gT Z hg10<|A0 (C3 Z hg11 Z) Z<|ge 6 (by rw[hg11];rfl) Z Z
     ·exact gF Z hg11<|A0 (C1 Z) Z<|gF Z hg11<|A0 (B4 Z Z Z) Z<|gF Z hg11<|A0 (C1 Z) Z<|gF Z hg11<|A0 (B4 Z Z Z) Z<|gF Z hg11<|A0 (X6 Z Z) Z<|gT Z hg10<|A0 (C2 Z hg11 Z) Z<|ge 6 (by rw[hg11];rfl) Z Z
     exact A0 (C3 Z hg10 Z) Z<|ge 8 (by rw[hg10];rfl) Z Z
    ·exact nT Z hg10 Z<|nT Z hg10 Z<|nT Z hg10 Z<|nT Z hg10 Z<|nT Z hg10 Z<|nT Z hg10 Z<|nX Z Z<|nX Z Z<|nX Z Z<|nX Z Z<|nX Z Z<|nT Z hg10 Z<|A0 (C2 Z hg10 Z) Z<|ge 13 (by rw[hg10];rfl) Z Z
    refine qm Z<|gp 11 72 (.b (((a2.How==1)&&((decide (a2.Day>x6.Last))||(decide (a2.Day>x7.Day))))||((a2.How==2)&&(decide (x7.Until>x6.Last))))) 61 Z Z (fun hg12=>?_) (fun hg12=>?_) ?_
    ·exact nF Z hg12 Z<|nF Z hg12 Z<|nF Z hg12 Z<|nF Z hg12 Z<|nX Z Z<|nX Z Z<|nX Z Z<|nX Z Z<|nX Z Z<|nF Z hg12 Z<|A0 (C3 Z hg12 Z) Z<|ge 11 (by rw[hg12];rfl) Z Z
    ·refine gF Z hg12<|A0 (C1 Z) Z<|gF Z hg12<|A0 (B4 Z Z Z) Z<|gF Z hg12<|A0 (G2 Z Z) Z<|gF Z hg12<|qm Z<|gq 6 71 (.b ((a2.How==2)&&(decide (x7.Until>x6.Last)))) 65 Z Z (fun hg13=>?_) (fun hg13=>?_) ?_
     ·exact gT Z hg13<|A0 (C1 Z) Z<|gT Z hg13<|A0 (B4 Z Z Z) Z<|gT Z hg13<|A0 (C1 Z) Z<|gT Z hg13<|A0 (B4 Z Z Z) Z<|gT Z hg13<|A0 (X6 Z Z) Z<|gF Z hg12<|A0 (C3 Z hg13 Z) Z<|ge 6 (by rw[hg13];rfl) Z Z
     ·exact nT Z hg13 Z<|nT Z hg13 Z<|nT Z hg13 Z<|nT Z hg13 Z<|nT Z hg13 Z<|gF Z hg12<|A0 (C2 Z hg13 Z) Z<|ge 6 (by rw[hg13];rfl) Z Z
     exact A0 (C2 Z hg12 Z) Z<|ge 6 (by rw[hg12];rfl) Z Z
    refine qm Z<|es (ra3 Z Z Z)<|B8<|s0<|oB h fun x16 hx16 h=>qm Z<|qm Z<|gp 5 79 (.b x16) 74 Z Z (fun hg14=>?_) (fun hg14=>?_) ?_
    ·obtain rfl:=os (bt hx16 hg14)
     exact nF Z hg14 Z<|nF Z hg14 Z<|G4 (D2 Z (by rw[hg14];rfl)) Z<|nF Z hg14 Z<|A0 (C3 Z hg14 Z) Z<|ge 5 Z Z Z
    ·refine oB (bf hx16 hg14) fun x15 hx15 hx16=>?_
     obtain rfl:=os hx16
     exact gF Z hg14<|A0 (D0 Z Z Z) Z<|gF Z hg14<|A0 (D0 Z Z Z) Z<|gF Z hg14<|B2 (rs:=[.b x15]) Z Z (A1 (C9 Z) (A1 (C9 Z) B3)) ((C2f hx15).frz)<|gF Z hg14<|A0 (M9 Z) Z<|A0 (C2 Z hg14 Z) Z<|ge 5 Z Z Z
    refine es (ra1 Z)<|wi h Z (fun hc17 h=>?_) fun hc17 h=>?_
    ·refine s0<|qm Z<|es (ra1 Z)<|C7 ?_
     obtain rfl:=os h
     exact retq trivial (A7 Z B7) (A5 Z B6) (A3 A4 B1)
    ·refine B9<|s0<|qm Z<|es (ra1 Z)<|C7 ?_
     obtain rfl:=os h
     exact retq trivial (A7 Z B7) (A5 Z B6) (A3 A4 B1)
def A4g (a0:PaGown) (a1:Int):Option Int :=
 some (w64 (a0.Loan+(w64 (a0.Rate*(w64 ((w64 (Z4c (w64 (a0.Ago+a1)) 30))+1))))))
theorem B2f {c:Sc} {H:A2} {a0:PaGown} {a1:Int} {r:Int} (h:A4g a0 a1=some r) :
  F0 tab c H (.fn (.func 54) [] []) [(.agg (C6 a0)),.i a1] [.i r]:= by
 unfold A4g at h
 refine cE Z Z<|sg 0 Z<|A0 (G0 (cs:=C6 a0) Z Z Z) Z<|qm Z<|es (ra2 Z Z)<|s0<|A0 (C1 Z) Z<|A0 (B4 Z Z Z) Z<|A0 (C1 Z) Z<|A0 (B4 Z Z Z) Z<|A0 (C1 Z) Z<|A0 (B4 Z Z Z) Z<|qm Z<|A0 (D9 Z Z) Z<|A0 (R8 (v:=(.i (w64 (Z4c (w64 (a0.Ago+a1)) 30)))) Z Z Z) Z<|A0 (D9 Z Z) Z<|A0 (B3z Z Z) Z<|A0 (D9 Z Z) Z<|qm Z<|es (ra1 Z)<|C7 ?_
 obtain rfl:=os h
 exact retq trivial (A7 Z B7) (A5 Z B6) (A3 A4 B1)
def A97 (a0:PaGown) (a1:PaFigure):Option Int :=
 some (w64 (a0.Fee*(w64 ((w64 (a1.Until-a1.Day))+1))))
theorem B6b {c:Sc} {H:A2} {a0:PaGown} {a1:PaFigure} {r:Int} (h:A97 a0 a1=some r) :
  F0 tab c H (.fn (.func 56) [] []) [(.agg (C6 a0)),(.agg (B5 a1))] [.i r]:= by
 unfold A97 at h
 refine cE Z Z<|sg 0 Z<|A0 (G0 (cs:=C6 a0) Z Z Z) Z<|A0 (G0 (cs:=B5 a1) Z Z Z) Z<|qm Z<|es (ra2 Z Z)<|s0<|A0 (C1 Z) Z<|A0 (B4 Z Z Z) Z<|A0 (C1 Z) Z<|A0 (B4 Z Z Z) Z<|A0 (C1 Z) Z<|A0 (B4 Z Z Z) Z<|A0 (W6 Z Z) Z<|A0 (D9 Z Z) Z<|A0 (B3z Z Z) Z<|qm Z<|es (ra1 Z)<|C7 ?_
 obtain rfl:=os h
 exact retq trivial (A7 Z B7) (A5 Z B6) (A3 A4 B1)
def A3c (a0:PaShow) (a1:Int) (x1:(Int×(List Int))) (s6:(Int×(List Int))) (s9:Int):Option (Int⊕((List Int)⊕Unit)) :=
 if (decide (s9<3))=true then
  (Z4 (pawn_show.mk a0 (Ar3.mk (pawn_way.mk ) (pawn_way.mk ) (pawn_way.mk )) x1.2) a1 (PaUse.mk s6.1 s9 0)).bind fun x12 =>
  if (x12==0)=true then
  (app 8 s6.2 [s6.1]).bind fun x14 =>
  some (.inr (.inl x14))
  else
  some (.inl (w64 (s9+1)))
 else
  some (.inr (.inr ()))
def A6a (a0:PaShow) (a1:Int) (x1:(Int×(List Int))) (s6:(Int×(List Int))):Option ((Int×(List Int))⊕(List Int)) :=
 if (decide (s6.1<(Zh a0.Gowns:Int)))=true then
  (loop (A3c a0 a1 x1 s6) 0).bind fun (o15:((List Int)⊕Unit)) =>
  match o15 with
  | (.inl vo15_0) =>
  some (.inl ((w64 (s6.1+1)),vo15_0))
  | (.inr vo15_1) =>
  some (.inl ((w64 (s6.1+1)),s6.2))
 else
  some (.inr s6.2)
def A5s (a0:PaShow) (a1:Int):Option ((List Int)×Int) :=
 (A3w a0).bind fun x1 =>
 if (x1.1==0)=true then
  (G1 0 (w64 ((Zh a0.Figures:Int)-1)) [a1]).bind fun x4 =>
  if x4=true then
  some (([]:List Int),4)
  else
  (loop (A6a a0 a1 x1) (0,([]:List Int))).bind fun (o16:(List Int)) =>
  some (o16,0)
 else
  some (([]:List Int),x1.1)
theorem B4a {c:Sc} {H:A2} {a0:PaShow} {a1:Int} {r:((List Int)×Int)} (h:A5s a0 a1=some r) :
  F0 tab c H (.fn (.func 16) [] []) [(.agg (A9 a0)),.i a1] [(.fresh 1 (Ze cI r.1)),.i r.2]:= by
 unfold A5s at h
 refine cE Z Z<|sg 0 Z<|A0 (G0 (cs:=A9 a0) Z Z Z) Z<|A0 A49 Z<|qm Z<|es (ra3 Z Z Z)<|D4a<|s0<|oB h fun x1 hx1 h=>A0 (D0 Z Z Z) Z ?_
 by_cases hc2:(x1.1==0)=true
 ·rw[if_pos hc2]at h
  obtain⟨X3,hX3⟩:=A4b hx1 hc2
  refine O4 (A59 hX3 Z Z (A1 (C9 Z) B3) Z) Z<|qm Z<|A0 (A8 Z Z) Z<|A0 (A8 Z Z) Z<|qm Z<|qm Z<|es (ra5 Z Z Z Z Z)<|B8<|C5<|s0<|qm Z<|A0 (R8 (v:=(.b false)) Z Z Z) Z<|qm Z<|es (ra6 Z Z Z Z Z Z)<|S9 Z Z<|s0<|oB h fun x4 hx4 h=>A0 (C1 Z) Z<|A0 (B4 Z Z Z) Z<|A0 (F1 (f:=B5) Z) Z<|A0 (W6 Z Z) Z<|qm Z<|A0 (J2 (rows:=Ze cI [a1]) Z Z (D8 (fun _=>rfl) _)) Z<|B2 (rs:=[.b x4]) Z Z (A1 Z (A1 Z (A1 Z B3))) ((H8 hx4).frz)<|qm Z<|es (ra5 Z Z Z Z Z)<|wi h Z (fun hc5 h=>?_) fun hc5 h=>?_
  ·refine sg 5 Z<|A0 A49 Z<|qm Z<|es (ra2 Z Z)<|C7 ?_
   obtain rfl:=os h
   exact retq trivial (A7 Z (A7 Z B7)) (A5 (A5q Z (Zi _)) (A5 Z B6)) (A3 X7 (A3 A4 B1))
  ·refine B9<|B8<|B9<|B8<|s0<|A0 (C1 Z) Z<|A0 (B4 Z Z Z) Z<|A0 (F1 (f:=C6) Z) Z<|qm Z<|es (ra5 Z Z Z Z Z)<|C5<|oB h fun o16 ho16 h=>wl (fun s6=>[(1,.i a1),(4,(.asl (H.length+1) (Zh s6.2))),(6,(.ptr (H.length+4) 0)),(28,(.i (Zh a0.Gowns:Int))),(29,.i s6.1)]) (fun (q7:Unit) s6=>[(.cells (A9 a0)),(.arr 1 false (Ze cI s6.2)),(.cells (A9 a0)),X3,(.cells [(.seq 8 (Ze C6 a0.Gowns)),(.seq 4 (Ze B5 a0.Figures)),.i a0.Purse,(.seq 2 (Ze D3 a0.Incomes)),(.fn (.func 90) [] []),(.fn (.func 91) [] []),(.fn (.func 92) [] []),(.fn (.func 52) [] []),(.fn (.func 93) [] []),(.fn (.func 94) [] []),(.fn (.func 55) [] []),(.fn (.func 95) [] []),(.fn (.func 96) [] []),(.seq 1 (Ze cI x1.2))])]) 5 (fun r e s' H'=>PX 1 [(4,(.asl (H.length+1) (Zh r)))] (H++[(.cells (A9 a0)),(.arr 1 false (Ze cI r)),(.cells (A9 a0)),X3,(.cells [(.seq 8 (Ze C6 a0.Gowns)),(.seq 4 (Ze B5 a0.Figures)),.i a0.Purse,(.seq 2 (Ze D3 a0.Incomes)),(.fn (.func 90) [] []),(.fn (.func 91) [] []),(.fn (.func 92) [] []),(.fn (.func 52) [] []),(.fn (.func 93) [] []),(.fn (.func 94) [] []),(.fn (.func 55) [] []),(.fn (.func 95) [] []),(.fn (.func 96) [] []),(.seq 1 (Ze cI x1.2))])]) e s' H') () ho16 Z Z (fun _ _=>rfl) (fun _=>rfl) Z (fun s6=>(bdc A4 (bdc (R3 Z) (bdc (J6 Z) (bdc A4 (bdc A4 bdn)))))) (fun q7 s6 ys6 hs6=>?_) ?_
   ·unfold A6a at hs6
    refine s0<|A0 (I0 Z Z) Z<|es (ra6 Z Z Z Z Z Z)<|B8<|wi hs6 Z (fun hc8 hs6=>?_) fun hc8 hs6=>?_
    ·refine B9<|B8<|C5<|s0<|qm Z<|qm Z<|es (ra6 Z Z Z Z Z Z)<|s0<|qm Z<|es (ra7 Z Z Z Z Z Z Z)<|C5<|oB hs6 fun o15 ho15 hs6=>wl (fun s9=>[(1,.i a1),(4,(.asl (H.length+1) (Zh s6.2))),(6,(.ptr (H.length+4) 0)),(7,.i s6.1),(28,(.i (Zh a0.Gowns:Int))),(29,.i s6.1),(32,.i s9)]) (fun (q10:Unit) s9=>[(.cells (A9 a0)),(.arr 1 false (Ze cI s6.2)),(.cells (A9 a0)),X3,(.cells [(.seq 8 (Ze C6 a0.Gowns)),(.seq 4 (Ze B5 a0.Figures)),.i a0.Purse,(.seq 2 (Ze D3 a0.Incomes)),(.fn (.func 90) [] []),(.fn (.func 91) [] []),(.fn (.func 92) [] []),(.fn (.func 52) [] []),(.fn (.func 93) [] []),(.fn (.func 94) [] []),(.fn (.func 55) [] []),(.fn (.func 95) [] []),(.fn (.func 96) [] []),(.seq 1 (Ze cI x1.2))])]) 5 (fun r e s' H'=>(match r with|(.inl v)=>PX 2 [(1,.i a1),(4,(.asl (H.length+1) (Zh v))),(6,(.ptr (H.length+4) 0)),(28,(.i (Zh a0.Gowns:Int))),(29,.i s6.1)] (H++[(.cells (A9 a0)),(.arr 1 false (Ze cI v)),(.cells (A9 a0)),X3,(.cells [(.seq 8 (Ze C6 a0.Gowns)),(.seq 4 (Ze B5 a0.Figures)),.i a0.Purse,(.seq 2 (Ze D3 a0.Incomes)),(.fn (.func 90) [] []),(.fn (.func 91) [] []),(.fn (.func 92) [] []),(.fn (.func 52) [] []),(.fn (.func 93) [] []),(.fn (.func 94) [] []),(.fn (.func 55) [] []),(.fn (.func 95) [] []),(.fn (.func 96) [] []),(.seq 1 (Ze cI x1.2))])]) e s' H' | (.inr v)=>PX 3 [(1,.i a1),(4,(.asl (H.length+1) (Zh s6.2))),(6,(.ptr (H.length+4) 0)),(28,(.i (Zh a0.Gowns:Int))),(29,.i s6.1)] (H++[(.cells (A9 a0)),(.arr 1 false (Ze cI s6.2)),(.cells (A9 a0)),X3,(.cells [(.seq 8 (Ze C6 a0.Gowns)),(.seq 4 (Ze B5 a0.Figures)),.i a0.Purse,(.seq 2 (Ze D3 a0.Incomes)),(.fn (.func 90) [] []),(.fn (.func 91) [] []),(.fn (.func 92) [] []),(.fn (.func 52) [] []),(.fn (.func 93) [] []),(.fn (.func 94) [] []),(.fn (.func 55) [] []),(.fn (.func 95) [] []),(.fn (.func 96) [] []),(.seq 1 (Ze cI x1.2))])]) e s' H':Prop)) () ho15 Z Z (fun _ _=>rfl) (fun _=>rfl) Z (fun s9=>(bdc A4 (bdc (R3 Z) (bdc (J6 Z) (bdc A4 (bdc A4 (bdc A4 (bdc A4 bdn)))))))) (fun q10 s9 ys9 hs9=>?_) ?_
     ·unfold A3c at hs9
      refine s0<|A0 (I0 Z Z) Z<|es (ra8 Z Z Z Z Z Z Z Z)<|B8<|wi hs9 Z (fun hc11 hs9=>?_) fun hc11 hs9=>?_
      ·refine B9<|B8<|C5<|s0<|qm Z<|qm Z<|es (ra8 Z Z Z Z Z Z Z Z)<|s0<|oB hs9 fun x12 hx12 hs9=>qm Z<|qm Z<|qm Z<|qm Z<|A0 (R4 (cs:=A6 (PaUse.mk s6.1 s9 0)) Z Z) Z<|B2 (rs:=[.i x12]) Z Z (A1 Z (A1 Z (A1 (C9 Z) B3))) ((A5o (F5 Z) hx12).frz)<|A0 (G2 Z Z) Z<|es (ra8 Z Z Z Z Z Z Z Z)<|wi hs9 Z (fun hc13 hs9=>?_) fun hc13 hs9=>?_
       ·refine s0<|oB hs9 fun x14 hx14 hs9=>qm Z<|qm Z<|A0 (J2 (rows:=Ze cI [s6.1]) Z Z (D8 (fun _=>rfl) _)) Z<|O4 (A0r (f:=cI) Z Z Z Z X1 (fun _=>rfl) hx14) Z<|qm Z<|es (ra5 Z Z Z Z Z)<|G5 ?_
        obtain rfl:=os hs9
        exact lx Z px (su5 Z Z Z Z Z)
       ·refine B9<|r0<|A0 (D9 Z Z) Z<|qm Z<|en (ra7 Z Z Z Z Z Z Z) ?_
        cases hs9
        exact lnT () Z (su7 Z Z Z Z Z Z Z)
      ·refine G5 ?_
       obtain rfl:=os hs9
       exact lx Z px (su5 Z Z Z Z Z)
     ·rcases o15 with vo15_0|vo15_1
      ·rintro e s' H'-⟨rfl,rfl,rfl⟩
       refine r0<|A0 (D9 Z Z) Z<|qm Z<|en (ra5 Z Z Z Z Z) ?_
       cases hs6
       exact lnT () Z (su5 Z Z Z Z Z)
      ·rintro e s' H'-⟨rfl,rfl,rfl⟩
       refine r0<|A0 (D9 Z Z) Z<|qm Z<|en (ra5 Z Z Z Z Z) ?_
       cases hs6
       exact lnT () Z (su5 Z Z Z Z Z)
    ·refine G5 ?_
     obtain rfl:=os hs6
     exact lx Z px (su1 Z)
   ·rintro e s' H'-⟨rfl,rfl,rfl⟩
    refine s0<|qm Z<|qm Z<|qm Z<|es (ra2 Z Z)<|C7 ?_
    obtain rfl:=os h
    exact retq trivial (A7 Z (A7 Z B7)) (A5 (A5q Z (Zi _)) (A5 Z B6)) (A3 X7 (A3 A4 B1))
 ·rw[if_neg hc2]at h
  refine O4 (T9 (rs:=[.lit (.pointer none),.i x1.1]) Z Z (A1 (C9 Z) B3) (A5e hx1 (by simpa using hc2)) Z) Z<|qm Z<|A0 (A8 Z Z) Z<|A0 (A8 Z Z) Z<|qm Z<|qm Z<|es (ra5 Z Z Z Z Z)<|B8<|C5<|s0<|qm Z<|A0 (I8 Z Z) Z<|qm Z<|es (ra6 Z Z Z Z Z Z)<|Q4 Z (nef hc2)<|sg 2 Z<|qm Z<|A0 A49 Z<|qm Z<|es (ra2 Z Z)<|C7 ?_
  obtain rfl:=os h
  exact retq trivial (A7 Z (A7 Z B7)) (A5 (A5q Z (Zi _)) (A5 Z B6)) (A3 X7 (A3 A4 B1))
def A3d (a0:(List Int)) (a1:(List Int)) (s1:(Bool×Int)):Option ((Bool×Int)⊕Bool) :=
 if (s1.1&&(decide (s1.2<(Zh a0:Int))))=true then
  (idx a0 s1.2).bind fun x5 =>
  (idx a1 s1.2).bind fun x6 =>
  some (.inl ((x5==x6),(w64 (s1.2+1))))
 else
  some (.inr s1.1)
def W3 (a0:(List Int)) (a1:(List Int)):Option Bool :=
 (loop (A3d a0 a1) (((Zh a0:Int)==(Zh a1:Int)),0)).bind fun (o7:Bool) =>
 some o7
theorem Z1 {c:Sc} {H:A2} {a0:(List Int)} {a1:(List Int)} {r:Bool} (h:W3 a0 a1=some r) :
  F0 tab c H (.fn (.func 18) [] []) [(.seq 1 (Ze cI a0)),(.seq 1 (Ze cI a1))] [.b r]:= by
 unfold W3 at h
 refine cE Z Z<|s0<|qm Z<|es (ra2 Z Z)<|s0<|qm Z<|A0 (F1 (f:=cI) Z) Z<|qm Z<|A0 (F1 (f:=cI) Z) Z<|A0 (G2 Z Z) Z<|qm Z<|es (ra3 Z Z Z)<|B8<|s0<|qm Z<|es (ra4 Z Z Z Z)<|C5<|oB h fun o7 ho7 h=>wl (fun s1=>[(0,(.seq 1 (Ze cI a0))),(1,(.seq 1 (Ze cI a1))),(5,.b s1.1),(6,.i s1.2)]) (fun (q2:Unit) s1=>[]) 0 (fun r e s' H'=>PX 0 [(5,.b r)] (H++[]) e s' H') () ho7 Z Z (fun _ _=>rfl) (fun _=>rfl) Z (fun s1=>(bdc G6 (bdc G6 (bdc A4 (bdc A4 bdn))))) (fun q2 s1 ys1 hs1=>?_) ?_
 ·unfold A3d at hs1
  refine B8<|s0<|qm Z<|qm Z<|gp 5 18 (.b (s1.1&&(decide (s1.2<(Zh a0:Int))))) 13 Z Z (fun hg3=>?_) (fun hg3=>?_) ?_
  ·exact gT Z hg3<|qm Z<|gT Z hg3<|qm Z<|gT Z hg3<|A0 (F1 (f:=cI) Z) Z<|gT Z hg3<|A0 (I0 Z Z) Z<|A0 (C3 Z hg3 Z) Z<|ge 5 (by rw[hg3];rfl) Z Z
  ·exact nT Z hg3 Z<|nT Z hg3 Z<|nT Z hg3 Z<|nT Z hg3 Z<|A0 (C2 Z hg3 Z) Z<|ge 5 (by rw[hg3];rfl) Z Z
  refine es (ra5 Z Z Z Z Z)<|wi hs1 Z (fun hc4 hs1=>?_) fun hc4 hs1=>?_
  ·refine B9<|B8<|C5<|r0<|oB hs1 fun x5 hx5 hs1=>oB hs1 fun x6 hx6 hs1=>qm Z<|qm Z<|A0 (D4 (f:=cI) Z Z hx5) Z<|A0 (F9 Z Z) Z<|qm Z<|qm Z<|A0 (D4 (f:=cI) Z Z hx6) Z<|A0 (F9 Z Z) Z<|A0 (G2 Z Z) Z<|qm Z<|en (ra4 Z Z Z Z)<|r0<|qm Z<|A0 (D9 Z Z) Z<|qm Z<|en (ra4 Z Z Z Z) ?_
   cases hs1
   exact lnT () Z (su4 Z Z Z Z)
  ·refine G5 ?_
   obtain rfl:=os hs1
   exact lx Z px (su1 Z)
 ·rintro e s' H'-⟨rfl,rfl,rfl⟩
  refine s0<|qm Z<|qm Z<|es (ra1 Z)<|C7 ?_
  obtain rfl:=os h
  exact retq trivial (A7 Z B7) (A5 Z B6) (A3 A4 B1)
def T7 (a0:Int) (a1:Int) (a2:Int):Option PaUse :=
 some (PaUse.mk a0 a1 a2)
theorem Y3 {c:Sc} {H:A2} {a0:Int} {a1:Int} {a2:Int} {r:PaUse} (h:T7 a0 a1 a2=some r) :
  F0 tab c H (.fn (.func 61) [] []) [.i a0,.i a1,.i a2] [(.agg (A6 r))]:= by
 unfold T7 at h
 refine cE Z Z<|sg 0 Z<|A0 K1 Z<|es (ra4 Z Z Z Z)<|s0<|qm Z<|qm Z<|qm Z<|A0 (R4 (cs:=A6 (PaUse.mk a0 a1 a2)) Z Z) Z<|P5 (G3 (ds:=(A6 (PaUse.mk a0 a1 a2))) Z Z Z Z (F7 Z) Z) Z<|es (ra1 Z)<|C7 ?_
 obtain rfl:=os h
 exact retq trivial (B3r (A57 (ds:=A6 (PaUse.mk a0 a1 a2)) Z Z Z Z) B7) (A5 (B77 Z) B6) (A3 (B67 Z) B1)
def A5j :Option (List PaUse) :=
 (T7 0 1 0).bind fun x1 =>
 (T7 1 0 0).bind fun x2 =>
 (T7 2 2 0).bind fun x3 =>
 some [x1,x2,x3]
theorem A58 {c:Sc} {H:A2}  {r:(List PaUse)} (h:A5j  = some r) :
  F0 tab c H (.fn (.func 60) [] []) [] [(.seq 3 (Ze A6 r))]:= by
 unfold A5j at h
 refine cE Z Z<|s0<|qm Z<|es .n<|s0<|oB h fun x1 hx1 h=>oB h fun x2 hx2 h=>oB h fun x3 hx3 h=>B2 (rs:=[(.agg (A6 x1))]) Z Z (A1 Z (A1 Z (A1 Z B3))) ((Y3 hx1).frz)<|B2 (rs:=[(.agg (A6 x2))]) Z Z (A1 Z (A1 Z (A1 Z B3))) ((Y3 hx2).frz)<|B2 (rs:=[(.agg (A6 x3))]) Z Z (A1 Z (A1 Z (A1 Z B3))) ((Y3 hx3).frz)<|A0 (J2 (rows:=Ze A6 [x1,x2,x3]) Z Z (D8 (fun _=>rfl) _)) Z<|qm Z<|es (ra1 Z)<|C7 ?_
 obtain rfl:=os h
 exact retq trivial (A7 Z B7) (A5 Z B6) (A3 G6 B1)
def B0v (a0:Bool):Option PaShow :=
 if a0=true then
  some (PaShow.mk ((PaShow.mk [(PaGown.mk (ByteArray.mk #[114,101,100]) 3 true 90 10 3 20 100),(PaGown.mk (ByteArray.mk #[98,108,117,101]) 1 false 0 0 0 0 0),(PaGown.mk (ByteArray.mk #[103,111,108,100]) 7 true 120 5 8 0 60)] [(PaFigure.mk (ByteArray.mk #[113,117,101,101,110]) 50 59 2),(PaFigure.mk (ByteArray.mk #[98,105,115,104,111,112]) 20 80 1),(PaFigure.mk (ByteArray.mk #[108,97,100,121]) 45 50 4)] 100 [(PaIncome.mk 40 150)]).Gowns) ((PaShow.mk [(PaGown.mk (ByteArray.mk #[114,101,100]) 3 true 90 10 3 20 100),(PaGown.mk (ByteArray.mk #[98,108,117,101]) 1 false 0 0 0 0 0),(PaGown.mk (ByteArray.mk #[103,111,108,100]) 7 true 120 5 8 0 60)] [(PaFigure.mk (ByteArray.mk #[113,117,101,101,110]) 50 59 2),(PaFigure.mk (ByteArray.mk #[98,105,115,104,111,112]) 20 80 1),(PaFigure.mk (ByteArray.mk #[108,97,100,121]) 45 50 4)] 100 [(PaIncome.mk 40 150)]).Figures) 20 ([]:List PaIncome))
 else
  some (PaShow.mk [(PaGown.mk (ByteArray.mk #[114,101,100]) 3 true 90 10 3 20 100),(PaGown.mk (ByteArray.mk #[98,108,117,101]) 1 false 0 0 0 0 0),(PaGown.mk (ByteArray.mk #[103,111,108,100]) 7 true 120 5 8 0 60)] [(PaFigure.mk (ByteArray.mk #[113,117,101,101,110]) 50 59 2),(PaFigure.mk (ByteArray.mk #[98,105,115,104,111,112]) 20 80 1),(PaFigure.mk (ByteArray.mk #[108,97,100,121]) 45 50 4)] 100 [(PaIncome.mk 40 150)])
theorem B38 {c:Sc} {H:A2} {a0:Bool} {r:PaShow} (h:B0v a0=some r) :
  F0 tab c H (.fn (.func 59) [] []) [.b a0] [(.agg (A9 r))]:= by
 unfold B0v at h
 refine cE Z Z<|sg 0 Z<|A0 K1 Z<|es (ra2 Z Z)<|sg 1 Z<|A0 (R4 (cs:=C6 (PaGown.mk (ByteArray.mk #[114,101,100]) 3 true 90 10 3 20 100)) Z Z) Z<|A0 (R4 (cs:=C6 (PaGown.mk (ByteArray.mk #[98,108,117,101]) 1 false 0 0 0 0 0)) Z Z) Z<|A0 (R4 (cs:=C6 (PaGown.mk (ByteArray.mk #[103,111,108,100]) 7 true 120 5 8 0 60)) Z Z) Z<|A0 (J2 (rows:=Ze C6 [(PaGown.mk (ByteArray.mk #[114,101,100]) 3 true 90 10 3 20 100),(PaGown.mk (ByteArray.mk #[98,108,117,101]) 1 false 0 0 0 0 0),(PaGown.mk (ByteArray.mk #[103,111,108,100]) 7 true 120 5 8 0 60)]) Z Z (D8 (fun _=>rfl) _)) Z<|A0 (R4 (cs:=B5 (PaFigure.mk (ByteArray.mk #[113,117,101,101,110]) 50 59 2)) Z Z) Z<|A0 (R4 (cs:=B5 (PaFigure.mk (ByteArray.mk #[98,105,115,104,111,112]) 20 80 1)) Z Z) Z<|A0 (R4 (cs:=B5 (PaFigure.mk (ByteArray.mk #[108,97,100,121]) 45 50 4)) Z Z) Z<|A0 (J2 (rows:=Ze B5 [(PaFigure.mk (ByteArray.mk #[113,117,101,101,110]) 50 59 2),(PaFigure.mk (ByteArray.mk #[98,105,115,104,111,112]) 20 80 1),(PaFigure.mk (ByteArray.mk #[108,97,100,121]) 45 50 4)]) Z Z (D8 (fun _=>rfl) _)) Z<|A0 (R4 (cs:=D3 (PaIncome.mk 40 150)) Z Z) Z<|A0 (J2 (rows:=Ze D3 [(PaIncome.mk 40 150)]) Z Z (D8 (fun _=>rfl) _)) Z<|A0 (R4 (cs:=A9 (PaShow.mk [(PaGown.mk (ByteArray.mk #[114,101,100]) 3 true 90 10 3 20 100),(PaGown.mk (ByteArray.mk #[98,108,117,101]) 1 false 0 0 0 0 0),(PaGown.mk (ByteArray.mk #[103,111,108,100]) 7 true 120 5 8 0 60)] [(PaFigure.mk (ByteArray.mk #[113,117,101,101,110]) 50 59 2),(PaFigure.mk (ByteArray.mk #[98,105,115,104,111,112]) 20 80 1),(PaFigure.mk (ByteArray.mk #[108,97,100,121]) 45 50 4)] 100 [(PaIncome.mk 40 150)])) Z Z) Z<|A0 K1 Z<|P5 (G3 (ds:=(A9 (PaShow.mk [(PaGown.mk (ByteArray.mk #[114,101,100]) 3 true 90 10 3 20 100),(PaGown.mk (ByteArray.mk #[98,108,117,101]) 1 false 0 0 0 0 0),(PaGown.mk (ByteArray.mk #[103,111,108,100]) 7 true 120 5 8 0 60)] [(PaFigure.mk (ByteArray.mk #[113,117,101,101,110]) 50 59 2),(PaFigure.mk (ByteArray.mk #[98,105,115,104,111,112]) 20 80 1),(PaFigure.mk (ByteArray.mk #[108,97,100,121]) 45 50 4)] 100 [(PaIncome.mk 40 150)]))) Z Z Z Z (F7 Z) Z) Z<|es (ra3 Z Z Z)<|B8<|s0<|qm Z<|es (ra3 Z Z Z)<|wi h Z (fun hc1 h=>?_) fun hc1 h=>?_
 ·refine r0<|A0 (C1 Z) Z<|P5 (G3 (ds:=(A9 (PaShow.mk ((PaShow.mk [(PaGown.mk (ByteArray.mk #[114,101,100]) 3 true 90 10 3 20 100),(PaGown.mk (ByteArray.mk #[98,108,117,101]) 1 false 0 0 0 0 0),(PaGown.mk (ByteArray.mk #[103,111,108,100]) 7 true 120 5 8 0 60)] [(PaFigure.mk (ByteArray.mk #[113,117,101,101,110]) 50 59 2),(PaFigure.mk (ByteArray.mk #[98,105,115,104,111,112]) 20 80 1),(PaFigure.mk (ByteArray.mk #[108,97,100,121]) 45 50 4)] 100 [(PaIncome.mk 40 150)]).Gowns) ((PaShow.mk [(PaGown.mk (ByteArray.mk #[114,101,100]) 3 true 90 10 3 20 100),(PaGown.mk (ByteArray.mk #[98,108,117,101]) 1 false 0 0 0 0 0),(PaGown.mk (ByteArray.mk #[103,111,108,100]) 7 true 120 5 8 0 60)] [(PaFigure.mk (ByteArray.mk #[113,117,101,101,110]) 50 59 2),(PaFigure.mk (ByteArray.mk #[98,105,115,104,111,112]) 20 80 1),(PaFigure.mk (ByteArray.mk #[108,97,100,121]) 45 50 4)] 100 [(PaIncome.mk 40 150)]).Figures) 20 ((PaShow.mk [(PaGown.mk (ByteArray.mk #[114,101,100]) 3 true 90 10 3 20 100),(PaGown.mk (ByteArray.mk #[98,108,117,101]) 1 false 0 0 0 0 0),(PaGown.mk (ByteArray.mk #[103,111,108,100]) 7 true 120 5 8 0 60)] [(PaFigure.mk (ByteArray.mk #[113,117,101,101,110]) 50 59 2),(PaFigure.mk (ByteArray.mk #[98,105,115,104,111,112]) 20 80 1),(PaFigure.mk (ByteArray.mk #[108,97,100,121]) 45 50 4)] 100 [(PaIncome.mk 40 150)]).Incomes)))) Z Z Z Z (F7 Z) Z) Z<|A0 (C1 Z) Z<|P5 (G3 (ds:=(A9 (PaShow.mk ((PaShow.mk [(PaGown.mk (ByteArray.mk #[114,101,100]) 3 true 90 10 3 20 100),(PaGown.mk (ByteArray.mk #[98,108,117,101]) 1 false 0 0 0 0 0),(PaGown.mk (ByteArray.mk #[103,111,108,100]) 7 true 120 5 8 0 60)] [(PaFigure.mk (ByteArray.mk #[113,117,101,101,110]) 50 59 2),(PaFigure.mk (ByteArray.mk #[98,105,115,104,111,112]) 20 80 1),(PaFigure.mk (ByteArray.mk #[108,97,100,121]) 45 50 4)] 100 [(PaIncome.mk 40 150)]).Gowns) ((PaShow.mk [(PaGown.mk (ByteArray.mk #[114,101,100]) 3 true 90 10 3 20 100),(PaGown.mk (ByteArray.mk #[98,108,117,101]) 1 false 0 0 0 0 0),(PaGown.mk (ByteArray.mk #[103,111,108,100]) 7 true 120 5 8 0 60)] [(PaFigure.mk (ByteArray.mk #[113,117,101,101,110]) 50 59 2),(PaFigure.mk (ByteArray.mk #[98,105,115,104,111,112]) 20 80 1),(PaFigure.mk (ByteArray.mk #[108,97,100,121]) 45 50 4)] 100 [(PaIncome.mk 40 150)]).Figures) 20 ([]:List PaIncome)))) Z Z Z Z (F7 Z) Z) Z<|en (ra2 Z Z)<|s0<|A0 (D0 Z Z Z) Z<|P5 (G3 (ds:=(A9 (PaShow.mk ((PaShow.mk [(PaGown.mk (ByteArray.mk #[114,101,100]) 3 true 90 10 3 20 100),(PaGown.mk (ByteArray.mk #[98,108,117,101]) 1 false 0 0 0 0 0),(PaGown.mk (ByteArray.mk #[103,111,108,100]) 7 true 120 5 8 0 60)] [(PaFigure.mk (ByteArray.mk #[113,117,101,101,110]) 50 59 2),(PaFigure.mk (ByteArray.mk #[98,105,115,104,111,112]) 20 80 1),(PaFigure.mk (ByteArray.mk #[108,97,100,121]) 45 50 4)] 100 [(PaIncome.mk 40 150)]).Gowns) ((PaShow.mk [(PaGown.mk (ByteArray.mk #[114,101,100]) 3 true 90 10 3 20 100),(PaGown.mk (ByteArray.mk #[98,108,117,101]) 1 false 0 0 0 0 0),(PaGown.mk (ByteArray.mk #[103,111,108,100]) 7 true 120 5 8 0 60)] [(PaFigure.mk (ByteArray.mk #[113,117,101,101,110]) 50 59 2),(PaFigure.mk (ByteArray.mk #[98,105,115,104,111,112]) 20 80 1),(PaFigure.mk (ByteArray.mk #[108,97,100,121]) 45 50 4)] 100 [(PaIncome.mk 40 150)]).Figures) 20 ([]:List PaIncome)))) Z Z Z Z (F7 Z) Z) Z<|es (ra1 Z)<|C7 ?_
  obtain rfl:=os h
  exact retq trivial (B3r (A57 (ds:=A9 (PaShow.mk ((PaShow.mk [(PaGown.mk (ByteArray.mk #[114,101,100]) 3 true 90 10 3 20 100),(PaGown.mk (ByteArray.mk #[98,108,117,101]) 1 false 0 0 0 0 0),(PaGown.mk (ByteArray.mk #[103,111,108,100]) 7 true 120 5 8 0 60)] [(PaFigure.mk (ByteArray.mk #[113,117,101,101,110]) 50 59 2),(PaFigure.mk (ByteArray.mk #[98,105,115,104,111,112]) 20 80 1),(PaFigure.mk (ByteArray.mk #[108,97,100,121]) 45 50 4)] 100 [(PaIncome.mk 40 150)]).Gowns) ((PaShow.mk [(PaGown.mk (ByteArray.mk #[114,101,100]) 3 true 90 10 3 20 100),(PaGown.mk (ByteArray.mk #[98,108,117,101]) 1 false 0 0 0 0 0),(PaGown.mk (ByteArray.mk #[103,111,108,100]) 7 true 120 5 8 0 60)] [(PaFigure.mk (ByteArray.mk #[113,117,101,101,110]) 50 59 2),(PaFigure.mk (ByteArray.mk #[98,105,115,104,111,112]) 20 80 1),(PaFigure.mk (ByteArray.mk #[108,97,100,121]) 45 50 4)] 100 [(PaIncome.mk 40 150)]).Figures) 20 ([]:List PaIncome))) Z Z Z Z) B7) (A5 (B77 Z) B6) (A3 (B67 Z) B1)
 ·refine B9<|s0<|A0 (D0 Z Z Z) Z<|P5 (G3 (ds:=(A9 (PaShow.mk [(PaGown.mk (ByteArray.mk #[114,101,100]) 3 true 90 10 3 20 100),(PaGown.mk (ByteArray.mk #[98,108,117,101]) 1 false 0 0 0 0 0),(PaGown.mk (ByteArray.mk #[103,111,108,100]) 7 true 120 5 8 0 60)] [(PaFigure.mk (ByteArray.mk #[113,117,101,101,110]) 50 59 2),(PaFigure.mk (ByteArray.mk #[98,105,115,104,111,112]) 20 80 1),(PaFigure.mk (ByteArray.mk #[108,97,100,121]) 45 50 4)] 100 [(PaIncome.mk 40 150)]))) Z Z Z Z (F7 Z) Z) Z<|es (ra1 Z)<|C7 ?_
  obtain rfl:=os h
  exact retq trivial (B3r (A57 (ds:=A9 (PaShow.mk [(PaGown.mk (ByteArray.mk #[114,101,100]) 3 true 90 10 3 20 100),(PaGown.mk (ByteArray.mk #[98,108,117,101]) 1 false 0 0 0 0 0),(PaGown.mk (ByteArray.mk #[103,111,108,100]) 7 true 120 5 8 0 60)] [(PaFigure.mk (ByteArray.mk #[113,117,101,101,110]) 50 59 2),(PaFigure.mk (ByteArray.mk #[98,105,115,104,111,112]) 20 80 1),(PaFigure.mk (ByteArray.mk #[108,97,100,121]) 45 50 4)] 100 [(PaIncome.mk 40 150)])) Z Z Z Z) B7) (A5 (B77 Z) B6) (A3 (B67 Z) B1)
def A20 (a0:(List Int)) (s1:Int):Option (Int⊕(Int⊕Unit)) :=
 if (decide (s1<(Zh a0:Int)))=true then
  (idx a0 s1).bind fun x4 =>
  if (x4 != 0)=true then
  some (.inr (.inl x4))
  else
  some (.inl (w64 (s1+1)))
 else
  some (.inr (.inr ()))
def A5d (a0:(List Int)):Option Int :=
 (loop (A20 a0) 0).bind fun (o6:(Int⊕Unit)) =>
 match o6 with
 | (.inl vo6_0) =>
  some vo6_0
 | (.inr vo6_1) =>
  some 0
theorem B37 {c:Sc} {H:A2} {a0:(List Int)} {r:Int} (h:A5d a0=some r) :
  F0 tab c H (.fn (.func 72) [] []) [(.seq 1 (Ze cI a0))] [.i r]:= by
 unfold A5d at h
 refine cE Z Z<|s0<|qm Z<|es (ra1 Z)<|s0<|qm Z<|es (ra2 Z Z)<|B8<|s0<|qm Z<|A0 (F1 (f:=cI) Z) Z<|qm Z<|es (ra4 Z Z Z Z)<|C5<|oB h fun o6 ho6 h=>wl (fun s1=>[(3,.i 0),(6,(.seq 1 (Ze cI a0))),(7,(.i (Zh a0:Int))),(8,.i s1)]) (fun (q2:Unit) s1=>[]) 0 (fun r e s' H'=>(match r with|(.inl v)=>e=.ret∧RetQ H [.tmp 2] [.i v] e s' H' | (.inr v)=>PX 0 [(3,.i 0)] (H++[]) e s' H':Prop)) () ho6 Z Z (fun _ _=>rfl) (fun _=>rfl) Z (fun s1=>(bdc A4 (bdc G6 (bdc A4 (bdc A4 bdn))))) (fun q2 s1 ys1 hs1=>?_) ?_
 ·unfold A20 at hs1
  refine s0<|A0 (I0 Z Z) Z<|es (ra5 Z Z Z Z Z)<|B8<|wi hs1 Z (fun hc3 hs1=>?_) fun hc3 hs1=>?_
  ·refine B9<|B8<|C5<|s0<|oB hs1 fun x4 hx4 hs1=>A0 (D4 (f:=cI) Z Z hx4) Z<|A0 (F9 Z Z) Z<|qm Z<|es (ra5 Z Z Z Z Z)<|s0<|qm Z<|qm Z<|A0 (I8 Z Z) Z<|es (ra6 Z Z Z Z Z Z)<|wi hs1 Z (fun hc5 hs1=>?_) fun hc5 hs1=>?_
   ·refine s0<|qm Z<|qm Z<|es (ra1 Z)<|C7 ?_
    obtain rfl:=os hs1
    exact lx Z (ZE Z (retq trivial (A7 Z B7) (A5 Z B6) (A3 A4 B1))) (Sub.refl _)
   ·refine B9<|r0<|A0 (D9 Z Z) Z<|qm Z<|en (ra4 Z Z Z Z) ?_
    cases hs1
    exact lnT () Z (su4 Z Z Z Z)
  ·refine G5 ?_
   obtain rfl:=os hs1
   exact lx Z px (su1 Z)
 ·rcases o6 with vo6_0|vo6_1
  ·rintro e s' H'-⟨rfl,hret⟩
   cases h
   exact hret
  ·rintro e s' H'-⟨rfl,rfl,rfl⟩
   refine s0<|qm Z<|qm Z<|es (ra1 Z)<|C7 ?_
   obtain rfl:=os h
   exact retq trivial (A7 Z B7) (A5 Z B6) (A3 A4 B1)
def A6i (a0:pawn_found) (a1:pawn_found):Option Int :=
 (A5d [(w64 (a0.without_-a1.without_)),(w64 (a0.cost_-a1.cost_))]).bind fun x1 =>
 some x1
theorem C2c {c:Sc} {H:A2} {a0:pawn_found} {a1:pawn_found} {r:Int} (h:A6i a0 a1=some r) :
  F0 tab c H (.fn (.func 71) [] []) [(.agg (C8 a0)),(.agg (C8 a1))] [.i r]:= by
 unfold A6i at h
 refine cE Z Z<|sg 0 Z<|A0 (G0 (cs:=C8 a0) Z Z Z) Z<|A0 (G0 (cs:=C8 a1) Z Z Z) Z<|qm Z<|es (ra2 Z Z)<|s0<|oB h fun x1 hx1 h=>A0 (C1 Z) Z<|A0 (B4 Z Z Z) Z<|A0 (C1 Z) Z<|A0 (B4 Z Z Z) Z<|A0 (W6 Z Z) Z<|A0 (C1 Z) Z<|A0 (B4 Z Z Z) Z<|A0 (C1 Z) Z<|A0 (B4 Z Z Z) Z<|A0 (W6 Z Z) Z<|A0 (J2 (rows:=Ze cI [(w64 (a0.without_-a1.without_)),(w64 (a0.cost_-a1.cost_))]) Z Z (D8 (fun _=>rfl) _)) Z<|B2 (rs:=[.i x1]) Z Z (A1 Z B3) ((B37 hx1).frz)<|qm Z<|es (ra1 Z)<|C7 ?_
 obtain rfl:=os h
 exact retq trivial (A7 Z B7) (A5 Z B6) (A3 A4 B1)
end Pw
end
section
set_option maxRecDepth 100000
namespace Am
open Go
theorem C7k {c:Sc} {H H':A2} (h:T4 c H=true) (hl:H.length≤H'.length):T4 c H'=true:= by
 unfold T4 at h ⊢
 rw[Zt]at h ⊢
 intro B hB
 have:=Zq (h B hB)
 exact Zl (by omega)
theorem C8o {M N:Nat} {L:A2} (hMN:N≤M) (h:grL M L=true):grL N L=true:= by
 unfold grL at h ⊢
 rw[Zt]at h ⊢
 intro o ho
 have:=h o ho
 rw[Zt]at this ⊢
 intro b hb
 have:=Zq (this b hb)
 exact Zl (by omega)
theorem A9y {N:Nat} {o:AO} {L:A2} (ho:o.anc=[]) (h:grL N L=true):grL N (o::L)=true:= by
 unfold grL at h ⊢
 rw[List.all_cons,h,ho];rfl
theorem D50 {H:A2} {n K:Nat} {o:AO}:(hset H K o).take n=hset (H.take n) K o:= by unfold hset;rw[Z36]
section
variable {T:Tab} {s:C0} {H:A2} {c:Sc} {Q:Ex→C0→A2→Prop}
def E7e {σ ρ:Type} (Hs:σ→A2) (Hx:ρ→A2) (K:Nat) (ex:ρ→Ex) (b:AO) (L:A2) (o:σ⊕ρ) (e:Ex) (_s:C0) (H2:A2):Prop :=
 match o with
  | .inl s'=>e=.normal∧H2.take (K+1+L.length)=Hs s'++b::L
  | .inr r=>e=ex r∧H2.take (K+1+L.length)=Hx r++b::L
def E7d (T:Tab) (G:A2) (b0 b1:AO) (bd:ACode) (c:Sc) (Q:Ex→C0→A2→Prop) (e:Ex) (s1:C0) (H1:A2):Prop :=
 e=.normal∧∃ L1,H1=G++b0::L1∧WP T bd s1 (G++b1::L1) c Q
theorem B60 {σ ρ α:Type} {f:Opd} {p i K:Nat} {live:List Nat} {aq bd:ACode} {fc:List AV} {sh:Nat→A2→α→AV→Prop} {pre:A2→Prop} {it:∀(σ ρ:Type),(α→σ→Option (σ⊕ρ))→σ→Option (σ⊕ρ)} {s0:σ} {o:σ⊕ρ} {body:α→σ→Option (σ⊕ρ)}
  (hit:C0r T i fc sh pre it) (sl:C0) (Hs:σ→A2) (Hx:ρ→A2) (ex:ρ→Ex) (h:it σ ρ body s0=some o) (hex:∀r,(ex r).out=true)
  (hf:ev s f=some (.fn (.func i) [] fc)) (hs:∀S,Sub s S→restrict S live=sl) (hH:Hs s0=H) (hk:∀x,(Hs x).length=K) (hkx:∀x,(Hx x).length=K)
  (hpre:(∀ x b,pre (Hs x++[b]))∧∀ x b,pre (Hx x++[b])) (hc:T4 c H=true)
  (hb:∀c x s o L v,T4 ⟨K+1+L.length,c⟩ (Hs s++.dead::L)=true→grL (K+1) L=true→sh (K+1) L x v→body x s=some o→∀ y0 y1:AO,y0.anc=[]→y1.anc=[]→WP T aq ((p,v)::sl) (Hs s++y0::L) ⟨K+1+L.length,c⟩ (E7d T (Hs s) y0 y1 bd ⟨K+1+L.length,c⟩ (E7e Hs Hx K ex y1 L o)))
  (kont:match o with|.inl s'=>Q .normal s (Hs s'++[.dead])|.inr r=>Q (ex r) s (Hx r++[.dead])):WP T (.rangeFunc f [p] live aq bd) s H c Q:= by
 subst hH
 intro S hS
 let Hm:σ⊕ρ→A2:=fun o=>match o with
  | .inl x=>Hs x++[.loop 0 sl [p] aq bd false none]
  | .inr r=>Hx r++[.loop 0 sl [p] aq bd false (some (ex r))]
 have hN:∀x,(Hm x).length=K+1:= by
  intro x
  cases x with
  | inl x=>simp[Hm,hk]
  | inr x=>simp[Hm,hkx]
 have hap:∀(A:List AO) (b:AO) (L:A2),A++[b]++L=A++b::L:=fun A b L=>by simp
 have gat:∀(A:A2) (b:AO) (L:A2),A.length=K→hget (A++b::L) K=some b:=fun A b L hA=>by
  unfold hget;rw[← hA,List.getElem?_append_right (Zn _),Z2n];rfl
 have sat:∀(A:A2) (b b':AO) (L:A2),A.length=K→hset (A++b::L) K b'=A++b'::L:=fun A b b' L hA=>by
  unfold hset;rw[← hA,Z0m _ _ (Zn _),Z2n];rfl
 have hy:∀{L:A2} {c:Sc} {x:α} {s:σ} {o:σ⊕ρ} {v:AV},T4 c (Hm (.inl s)++L)=true→grL (K+1) L=true→sh (K+1) L x v→body x s=some o→L3 T c (Hm (.inl s)++L) (.fn (.yield K) [] []) [v] [.b o.isLeft] (Hm o++L):= by
  intro L c x s o v hsc hgr hsh hbo
  have hml:∀b,(Hs s++b::L).length=K+1+L.length:=fun b=>by simp[hk];omega
  have hm:Hm (.inl s)++L=Hs s++.loop 0 sl [p] aq bd false none::L:=hap _ _ _
  have hsc2:T4 ⟨K+1+L.length,c.cur::c.outer⟩ (Hs s++.dead::L)=true:= by
   rw[hm]at hsc
   exact B2t (c:=c) hsc (by rw[hml,hml];exact Zn _) (by rw[hml];exact Zn _)
  obtain⟨e1,S1,s1,H1,r1,q1,rfl,L1,rfl,hw⟩:=hb (c.cur::c.outer) x s o L v hsc2 hgr hsh hbo (.loop 0 sl [p] aq bd false none) (.loop 0 sl [p] aq bd true none) Z Z _ (Sub.refl _)
  obtain⟨e2,S2,s2,H2,r2,q2,hb2⟩:=hw S1 q1
  rw[hm]
  have fin:∀(B:A2) (er:Ex),B.length=K→H2.take (K+1+L.length)=B++.loop 0 sl [p] aq bd true none::L→e2=er→L3 T c (Hs s++.loop 0 sl [p] aq bd false none::L) (.fn (.yield K) [] []) [v] [.b (!er.out)] (B++.loop 0 sl [p] aq bd false (match er with|.normal=>none|e=>some e)::L):= by
   intro B er hB tk he
   subst he
   have g2:hget H2 K=some (.loop 0 sl [p] aq bd true none):= by
    have:hget (H2.take (K+1+L.length)) K=hget H2 K:= by unfold hget;exact ZP (by omega)
    rw[← this,tk];exact gat _ _ _ hB
   refine L3.yield (ps:=[p]) (st0:=⟨(p,v)::sl,Hs s++.loop 0 sl [p] aq bd false none::L,⟨K+1+L.length,c.cur::c.outer⟩⟩) (st1:=⟨S1,Hs s++.loop 0 sl [p] aq bd false none::L1,⟨K+1+L.length,c.cur::c.outer⟩⟩)
    (st2:=⟨S2,H2,⟨K+1+L.length,c.cur::c.outer⟩⟩) (e:=e2) Z (gat _ _ _ (hk s)) Z (by rw[hml];rfl) r1 (gat _ _ _ (hk s)) (by rw[sat _ _ _ _ (hk s)]) r2 g2 Z ?_
   rw[hml]
   simp only[trunc,bdL,if_true]
   rw[D50,tk,sat _ _ _ _ hB]
   cases e2 <;> rfl
  cases o with
  | inl s' =>
   have:=fin (Hs s') .normal (hk s') hb2.2 hb2.1
   have hm2:Hm (.inl s')++L=Hs s'++.loop 0 sl [p] aq bd false none::L:=hap _ _ _
   rw[hm2];exact this
  | inr r =>
   have:=fin (Hx r) (ex r) (hkx r) hb2.2 hb2.1
   have he:(match ex r with|.normal=>none|e=>some e)=some (ex r):= by
    have:=hex r
    cases hq:ex r <;> rw[hq]at this <;> first|rfl|cases this
   rw[he,hex r]at this
   have hm2:Hm (.inr r)++L=Hx r++.loop 0 sl [p] aq bd false (some (ex r))::L:=hap _ _ _
   rw[hm2];exact this
 have hcall:=hit Hm (K+1) hN (by
  intro x
  cases x with
  | inl x=>exact hpre.1 x _
  | inr x=>exact hpre.2 x _) (.fn (.yield K) [] []) (by simp only[AV.bd,bdL,Z37];exact Zl (by omega)) Z body hy h (c:=c) (by
  have hq:=hN (.inl s0)
  exact C7k hc (by rw[hq,hk];omega))
 have hres:=hs S hS
 have g:∀o:σ⊕ρ,hget (Hm o) K=some (.loop 0 sl [p] aq bd false (C7e ex o)):= by
  intro o
  cases o with
  | inl x=>exact gat _ _ [] (hk x)
  | inr x=>exact gat _ _ [] (hkx x)
 have hr:=J5.rangeFunc (T:=T) (ac:=.rangeFunc f [p] live aq bd) (st:=⟨S,Hs s0,c⟩) (l:=K) (H0:=Hm (.inl s0)) (H':=Hm o) (pend:=C7e ex o) (e:=E4s ex o)
  (st':=⟨S,hset (Hm o) K .dead,c⟩) Z (A3q hS hf) (hk s0).symm (by simp only[hres,Hm]) hcall (g o) (by cases o <;> rfl) Z
 refine⟨_,S,s,_,hr,hS,?_⟩
 cases o with
 | inl x =>
  have:hset (Hm (.inl x)) K .dead=Hs x++[.dead]:=sat _ _ _ [] (hk x)
  show Q .normal s (hset (Hm (.inl x)) K .dead)
  rw[this];exact kont
 | inr r =>
  have:hset (Hm (.inr r)) K .dead=Hx r++[.dead]:=sat _ _ _ [] (hkx r)
  show Q (ex r) s (hset (Hm (.inr r)) K .dead)
  rw[this];exact kont
end
end Am
end
section
set_option maxRecDepth 100000
set_option maxHeartbeats 0
namespace Pw
open Go Am Go.Proofs.YtjpjdglddmhplaaGreat.Cd
theorem B40 {c:Sc} {H:A2} {a0:pawn_show} {b0:Nat} (hb0:hcells H b0=some [(.seq 8 (Ze C6 a0.PaShow.Gowns)),(.seq 4 (Ze B5 a0.PaShow.Figures)),.i a0.PaShow.Purse,(.seq 2 (Ze D3 a0.PaShow.Incomes)),(.fn (.func 90) [] []),(.fn (.func 91) [] []),(.fn (.func 92) [] []),(.fn (.func 52) [] []),(.fn (.func 93) [] []),(.fn (.func 94) [] []),(.fn (.func 55) [] []),(.fn (.func 95) [] []),(.fn (.func 96) [] []),(.seq 1 (Ze cI a0.days_))]) {a1:(List PaUse)} {v:AV} (hv:SlV H v a1) {a2:Int} {r:Int} (h:T2 a0 a1 a2=some r) :
  F0 tab c H (.fn (.func 63) [] []) [.ptr b0 0,v,.i a2] [.i r]:= by
 unfold T2 at h
 refine cE Z Z<|s0<|qm Z<|es (ra3 Z Z Z)<|s0<|qm Z<|A0 (N1 Z Z) Z<|A0 (C1 Z) Z<|A0 (C1 Z) Z<|A0 (I4 (x:=(.i a0.PaShow.Purse)) Z hb0 Z) Z<|qm Z<|es (ra4 Z Z Z Z)<|B8<|s0<|qm Z<|A0 (N1 Z Z) Z<|A0 (C1 Z) Z<|A0 (C1 Z) Z<|A0 (I4 (x:=(.seq 2 (Ze D3 a0.PaShow.Incomes))) Z hb0 Z) Z<|A0 (F1 (f:=D3) Z) Z<|qm Z<|es (ra7 Z Z Z Z Z Z Z)<|C5<|oB h fun o6 ho6 h=>wl (fun s1=>[(0,.ptr b0 0),(1,v),(2,.i a2),(7,.i s1.1),(23,(.seq 2 (Ze D3 a0.PaShow.Incomes))),(24,(.i (Zh a0.PaShow.Incomes:Int))),(25,.i s1.2)]) (fun (q2:Unit) s1=>[]) 0 (fun r e s' H'=>PX 0 [(0,.ptr b0 0),(1,v),(2,.i a2),(7,.i r)] (H++[]) e s' H') () ho6 Z Z (fun _ _=>rfl) (fun _=>rfl) Z (fun s1=>(bdc (A8l hb0) (bdc hv.bd (bdc A4 (bdc A4 (bdc G6 (bdc A4 (bdc A4 bdn)))))))) (fun q2 s1 ys1 hs1=>?_) ?_
 ·unfold U0 at hs1
  refine s0<|A0 (I0 Z Z) Z<|es (ra8 Z Z Z Z Z Z Z Z)<|B8<|wi hs1 Z (fun hc3 hs1=>?_) fun hc3 hs1=>?_
  ·refine B9<|B8<|C5<|sg 0 Z<|oB hs1 fun x4 hx4 hs1=>A0 (D4 (f:=D3) Z Z hx4) Z<|A0 (H9 Z Z) Z<|A0 K1 Z<|P5 (G3 (ds:=(D3 x4)) Z Z Z Z (F7 Z) Z) Z<|es (ra8 Z Z Z Z Z Z Z Z)<|s0<|A0 (C1 Z) Z<|A0 (B4 Z Z Z) Z<|qm Z<|A0 (A4k Z Z) Z<|es (ra9 Z Z Z Z Z Z Z Z Z)<|wi hs1 Z (fun hc5 hs1=>?_) fun hc5 hs1=>?_
   ·refine r0<|qm Z<|A0 (C1 Z) Z<|A0 (B4 Z Z Z) Z<|A0 (D9 Z Z) Z<|qm Z<|en (ra7 Z Z Z Z Z Z Z)<|r0<|A0 (D9 Z Z) Z<|qm Z<|en (ra7 Z Z Z Z Z Z Z) ?_
    cases hs1
    exact lnT () Z (su7 Z Z Z Z Z Z Z)
   ·refine B9<|r0<|A0 (D9 Z Z) Z<|qm Z<|en (ra7 Z Z Z Z Z Z Z) ?_
    cases hs1
    exact lnT () Z (su7 Z Z Z Z Z Z Z)
  ·refine G5 ?_
   obtain rfl:=os hs1
   exact lx Z px (su4 Z Z Z Z)
 ·rintro e s' H'-⟨rfl,rfl,rfl⟩
  refine B8<|s0<|qm Z<|A0 (B70 hv Z) Z<|qm Z<|es (ra6 Z Z Z Z Z Z)<|C5<|oB h fun o13 ho13 h=>wl (fun s7=>[(0,.ptr b0 0),(2,.i a2),(7,.i s7.1),(38,v),(39,(.i (Zh a1:Int))),(40,.i s7.2)]) (fun (q8:Unit) s7=>[]) 0 (fun r e s' H'=>PX 2 [(7,.i r)] (H++[]) e s' H') () ho13 Z Z (fun _ _=>rfl) (fun _=>rfl) Z (fun s7=>(bdc (A8l hb0) (bdc A4 (bdc A4 (bdc hv.bd (bdc A4 (bdc A4 bdn))))))) (fun q8 s7 ys7 hs7=>?_) ?_
  ·unfold U1 at hs7
   refine s0<|A0 (I0 Z Z) Z<|es (ra7 Z Z Z Z Z Z Z)<|B8<|wi hs7 Z (fun hc9 hs7=>?_) fun hc9 hs7=>?_
   ·refine B9<|B8<|C5<|sg 0 Z<|oB hs7 fun x10 hx10 hs7=>qm Z<|A0 (B7y hv hx10 Z Z) Z<|A0 (C0k hv hx10 Z) Z<|A0 K1 Z<|qm Z<|P5 (G3 (ds:=(A6 x10)) Z Z Z Z (F7 Z) Z) Z<|es (ra8 Z Z Z Z Z Z Z Z)<|s0<|oB hs7 fun x11 hx11 hs7=>qm Z<|qm Z<|A0 (D0 Z Z Z) Z<|B2 (rs:=[.i x11.1,.i x11.2]) Z Z (A1 Z (A1 Z (A1 (C9 Z) B3))) ((Y4 (F2 hb0 _) hx11).frz)<|qm Z<|A0 (A8 Z Z) Z<|A0 (A8 Z Z) Z<|qm Z<|qm Z<|es (ra8 Z Z Z Z Z Z Z Z)<|s0<|qm Z<|qm Z<|A0 (A4k Z Z) Z<|es (ra8 Z Z Z Z Z Z Z Z)<|wi hs7 Z (fun hc12 hs7=>?_) fun hc12 hs7=>?_
    ·refine r0<|qm Z<|qm Z<|A0 (W6 Z Z) Z<|qm Z<|en (ra6 Z Z Z Z Z Z)<|r0<|A0 (D9 Z Z) Z<|qm Z<|en (ra6 Z Z Z Z Z Z) ?_
     cases hs7
     exact lnT () Z (su6 Z Z Z Z Z Z)
    ·refine B9<|r0<|A0 (D9 Z Z) Z<|qm Z<|en (ra6 Z Z Z Z Z Z) ?_
     cases hs7
     exact lnT () Z (su6 Z Z Z Z Z Z)
   ·refine G5 ?_
    obtain rfl:=os hs7
    exact lx Z px (su1 Z)
  ·rintro e s' H'-⟨rfl,rfl,rfl⟩
   refine s0<|qm Z<|qm Z<|es (ra1 Z)<|C7 ?_
   obtain rfl:=os h
   exact retq trivial (A7 Z B7) (A5 Z B6) (A3 A4 B1)
theorem B3x {c:Sc} {H:A2} {a0:pawn_show} {b0:Nat} (hb0:hcells H b0=some [(.seq 8 (Ze C6 a0.PaShow.Gowns)),(.seq 4 (Ze B5 a0.PaShow.Figures)),.i a0.PaShow.Purse,(.seq 2 (Ze D3 a0.PaShow.Incomes)),(.fn (.func 90) [] []),(.fn (.func 91) [] []),(.fn (.func 92) [] []),(.fn (.func 52) [] []),(.fn (.func 93) [] []),(.fn (.func 94) [] []),(.fn (.func 55) [] []),(.fn (.func 95) [] []),(.fn (.func 96) [] []),(.seq 1 (Ze cI a0.days_))]) {a1:(List PaUse)} {v:AV} (hv:SlV H v a1) {r:(Int×Int)} (h:R2 a0 a1=some r) :
  F0 tab c H (.fn (.func 66) [] []) [.ptr b0 0,v] [.i r.1,.i r.2]:= by
 unfold R2 at h
 refine cE Z Z<|s0<|qm Z<|qm Z<|es (ra3 Z Z Z)<|s0<|qm Z<|es (ra4 Z Z Z Z)<|B8<|s0<|qm Z<|A0 (B70 hv Z) Z<|qm Z<|es (ra7 Z Z Z Z Z Z Z)<|C5<|oB h fun o8 ho8 h=>wl (fun s1=>[(0,.ptr b0 0),(1,v),(4,.i s1.1),(5,.i s1.2.1),(11,v),(12,(.i (Zh a1:Int))),(13,.i s1.2.2)]) (fun (q2:Unit) s1=>[]) 0 (fun r e s' H'=>PX 0 [(4,.i r.1),(5,.i r.2)] (H++[]) e s' H') () ho8 Z Z (fun _ _=>rfl) (fun _=>rfl) Z (fun s1=>(bdc (A8l hb0) (bdc hv.bd (bdc A4 (bdc A4 (bdc hv.bd (bdc A4 (bdc A4 bdn)))))))) (fun q2 s1 ys1 hs1=>?_) ?_
 ·unfold S3 at hs1
  refine s0<|A0 (I0 Z Z) Z<|es (ra8 Z Z Z Z Z Z Z Z)<|B8<|wi hs1 Z (fun hc3 hs1=>?_) fun hc3 hs1=>?_
  ·refine B9<|B8<|C5<|sg 0 Z<|oB hs1 fun x4 hx4 hs1=>qm Z<|A0 (B7y hv hx4 Z Z) Z<|A0 (C0k hv hx4 Z) Z<|A0 K1 Z<|qm Z<|P5 (G3 (ds:=(A6 x4)) Z Z Z Z (F7 Z) Z) Z<|es (ra9 Z Z Z Z Z Z Z Z Z)<|s0<|oB hs1 fun x5 hx5 hs1=>qm Z<|qm Z<|A0 (D0 Z Z Z) Z<|B2 (rs:=[.i x5.1,.i x5.2]) Z Z (A1 Z (A1 Z (A1 (C9 Z) B3))) ((Y4 (F2 hb0 _) hx5).frz)<|qm Z<|A0 (A8 Z Z) Z<|A0 (A8 Z Z) Z<|qm Z<|qm Z<|es (ra8 Z Z Z Z Z Z Z Z)<|s0<|oB hs1 fun x6 hx6 hs1=>qm Z<|qm Z<|qm Z<|O4 (Z2 (rs:=[.i x6]) Z Z ((B40 (F2 hb0 _) hv.app hx6).frz)) Z<|qm Z<|es (ra9 Z Z Z Z Z Z Z Z Z)<|s0<|qm Z<|A0 (I0 Z Z) Z<|es (ra10 Z Z Z Z Z Z Z Z Z Z)<|wi hs1 Z (fun hc7 hs1=>?_) fun hc7 hs1=>?_
   ·refine r0<|qm Z<|qm Z<|A0 (C9a Z Z) Z<|A0 (C88 Z Z) Z<|qm Z<|qm Z<|A0 (C88 Z Z) Z<|qm Z<|qm Z<|en (ra7 Z Z Z Z Z Z Z)<|r0<|A0 (D9 Z Z) Z<|qm Z<|en (ra7 Z Z Z Z Z Z Z) ?_
    cases hs1
    exact lnT () Z (su7 Z Z Z Z Z Z Z)
   ·refine B9<|r0<|A0 (D9 Z Z) Z<|qm Z<|en (ra7 Z Z Z Z Z Z Z) ?_
    cases hs1
    exact lnT () Z (su7 Z Z Z Z Z Z Z)
  ·refine G5 ?_
   obtain rfl:=os hs1
   exact lx Z px (su2 Z Z)
 ·rintro e s' H'-⟨rfl,rfl,rfl⟩
  refine s0<|qm Z<|qm Z<|qm Z<|qm Z<|es (ra2 Z Z)<|C7 ?_
  obtain rfl:=os h
  exact retq trivial (A7 Z (A7 Z B7)) (A5 Z (A5 Z B6)) (A3 A4 (A3 A4 B1))
structure Fd where
 w:Int
 c:Int
 h:Ar3 Int
def B28 (t:PaShow) (days:List Int) (p:List PaUse) (x:Fd×Int):Option ((Fd×Int)⊕Fd) :=
 if (decide (x.2<(Zh p:Int)))=true then
  (idx p x.2).bind fun u=>(W2 (shw t days) x.2 u).bind fun y=>(idx x.1.h.l x.2).bind fun _=>(A09).bind fun bb =>
  if ((u.Gown==bb.Gown)&&((u.How==bb.How)&&((u.Day==bb.Day)&&true)))=true then
   some (.inl (⟨w64 (x.1.w+1),w64 (x.1.c+y.1),x.1.h.set x.2 (w64 (u.Gown+1))⟩,w64 (x.2+1)))
  else some (.inl (⟨x.1.w,w64 (x.1.c+y.1),x.1.h.set x.2 (w64 (u.Gown+1))⟩,w64 (x.2+1)))
 else some (.inr x.1)
def B5r (t:PaShow) (days:List Int) (p:List PaUse):Option pawn_found :=
 (B34 24 (Zh p:Int) (PaUse.mk 0 0 0)).bind fun _ =>
 (loop (B28 t days p) (⟨0,0,⟨0,0,0⟩⟩,0)).bind fun x =>
 (R2 (shw t days) p).bind fun y=>some ⟨p,x.w,x.c,y.1,x.h⟩
def C0v (t:PaShow) (days:List Int) (σ ρ:Type) (body:pawn_found→σ→Option (σ⊕ρ)) (s:σ):Option (σ⊕ρ) :=
 B3o t days σ ρ (fun p s=>(B5r t days p).bind fun x=>body x s) s
def shF (_:Nat) (_:A2) (x:pawn_found) (v:AV):Prop:=v=.agg (C8 x)
theorem E2a {α:Type} {d m:List α} (h:d.length=m.length):cpy d m=m:= by
 unfold cpy;rw[h,Z5y,Z0g,List.drop_of_length_le (by omega),ZV]
theorem E3o {H:A2} {b:Nat} {p:Bool} {l:List PaUse} (h:harr H b=some (3,p,l.map A6)):rd H (.asl b l.length) 3 (l.map A6):=⟨by simp only[A0j,h,Zi,Z1a,if_true],by simp only[kOf,h]⟩
def fnC (q:AV) (x:Fd) (s:Int):List AV:=[q,.i x.w,.i x.c,.i s,.i x.h.x0,.i x.h.x1,.i x.h.x2]
section
variable {σ ρ:Type} {t:PaShow} {days:List Int} {b bS:Nat}
theorem D59 {G:A2} {c:Sc} {v:AV} {bY:Nat} {y:AV} {p:List PaUse} {x:pawn_found} {ok:Bool} {GE:A2} (hv:∃bp pb,v=.asl bp p.length∧harr G bp=some (3,pb,p.map A6)) (h1:hcells G bS=some [.ptr b 0]) (h2:hcells G b=some (A5b t days)) (hY:hcells G bY=some [y]) (hc:c.cur≤G.length)
  (hx:B5r t days p=some x) (hcall:∀(c':Sc) (l:List AO),(∀ o∈l,o.anc=[])→T4 c (G++l)=true→c'=c→L3 tab c' (G++l) y [.agg (C8 x)] [.b ok] (GE++l)) (hsc:T4 c G=true) :
  WP tab (.block 1 (.s 3 [M 0 12 3,LE 1 13 12,q 2 14 (.mkslice 3 24 [.lit (.int .i64 0),.lit (.int .i64 0),.lit (.int .i64 0)] 13 13 0),q 3 15 (.build [.seq 3 [],.lit (.int .i64 0),.lit (.int .i64 0),.lit (.int .i64 0),.lit (.int .i64 0),.lit (.int .i64 0),.lit (.int .i64 0)] [(0,1,14)]),q 4 4 (.alloc [.nils 3,.lit (.int .i64 0),.lit (.int .i64 0),.lit (.int .i64 0),.lit (.int .i64 0),.lit (.int .i64 0),.lit (.int .i64 0)] [(0,1,3)] 2),ST 5 7 4 15] [1,2,3,4] (.s 0 [FA 0 16 0 4,L 1 17 16,M 2 18 3,q 3 19 (.copy 3 17 18)] [1,2,3,4] (.seq (.s 0 [M 0 20 3,LE 1 21 20,M 2 22 (.i 0)] [1,2,3,4,20,21,22] (.block 2 (.loop true [1,2,3,4,20,21,22] (.s 0 [B 0 23 .lss 22 21] [1,2,3,4,20,21,22,23] (.seq (.cond 23 .skip (.exit 2)) (.seq (.block 3 (.s 1 [M 0 24 22,IX 1 25 3 20 22,LK 2 26 3 25,q 3 6 (.alloc [.lit (.int .i64 0),.lit (.int .i64 0),.lit (.int .i64 0)] [] 0),M 4 5 24,ST 5 3 6 26] [1,2,3,4,5,6,20,21,22] (.s 0 [L 0 28 1,M 1 29 5,LK 2 30 3 6,CL 3 31 103 [28,29,30],M 4 27 31,EX 5 32 27 0,EX 6 33 27 1,M 7 7 32,M 8 8 33] [1,2,3,4,5,6,7,20,21,22] (.s 0 [FA 0 34 2 4,L 1 35 34,M 2 36 7,B 3 37 .add 35 36,FA 4 38 2 4,ST 5 1 38 37] [1,2,3,4,5,6,20,21,22] (.s 0 [M 0 39 5,FA 1 40 0 6,L 2 41 40,B 3 42 .add 41 (.i 1),FA 4 43 4 4,q 5 44 (.idxA 1 3 43 39),ST 6 1 44 42] [1,2,3,4,6,20,21,22] (.sd 0 [LK 0 45 3 6,CP 1 46 99 [],q 2 47 (.cmp false [0,0,0] 45 46)]
 [1,2,3,4,20,21,22,47] (.cond 47 (.g 0 [FA 0 48 1 4,L 1 49 48,B 2 50 .add 49 (.i 1),FA 3 51 1 4,ST 4 1 51 50] [1,2,3,4,20,21,22]) .skip))))))) (.g 0 [B 0 52 .add 22 (.i 1),M 1 22 52] [1,2,3,4,20,21,22]))))))) (.s 0 [L 0 54 1,M 1 55 3,q 2 56 (.call (.f 66) [54,55] [[],[],[],[],[],[],[],[],[]] false),M 3 53 56,EX 4 57 53 0,EX 5 58 53 1,FA 6 59 3 4,ST 7 1 59 57] [2,4] (.s 0 [L 0 60 2,LK 1 61 7 4,q 2 62 (.call 60 [61] [] false),q 3 63 (.un .not 62)] [63] (.cond 63 .ret .skip)))))))
   [(1,.ptr bS 0),(2,.ptr bY 0),(3,v)] G c (fun e _ H'=>e=(if ok then .normal else .ret)∧∃ l,H'=GE++l):= by
 obtain⟨bp,pb,rfl,hbp⟩:=hv
 have hGv:SlV G (.asl bp p.length) p:=.asl bp pb p hbp
 unfold B5r at hx
 refine oB hx fun p0 hp0 hx=>oB hx fun z hz hx=>oB hx fun sh hsh hx=>?_
 obtain rfl:=os hx
 have hlp:p0.length=p.length:= by obtain⟨_,rfl⟩:=C5g hp0;simp
 have hcp:=E2a hlp
 refine Y8<|C5<|sg 0 Z<|qm Z<|A0 (B70 hGv Z) Z<|A0 (B71 (f:=A6) (zt:=PaUse.mk 0 0 0) Z Z Z hp0) Z<|A0 (R4 (cs:=[.asl (G.length+0) p0.length,.i 0,.i 0,.i 0,.i 0,.i 0,.i 0]) Z Z) Z<|A0 C85 Z<|P5 (G3 (ds:=fnC (.asl (G.length+0) p0.length) ⟨0,0,⟨0,0,0⟩⟩ 0) Z Z Z Z (A2k (Nat.le_trans hc (ZM _ _))) Z) Z<|es (ra4 Z Z Z Z)<|s0<|A0 (C1 Z) Z<|A0 (B4 (x:=.asl (G.length+0) p0.length) Z Z Z) Z<|qm Z<|O4 (E0p (f:=A6) (d:=p0) (m:=p) Z Z Z Z (E3o (A1v hbp)) (fun _=>rfl)) Z ?_
 rw[hcp]
 refine es (ra4 Z Z Z Z)<|B8<|s0<|qm Z<|A0 (B70 hGv Z) Z<|qm Z<|es (ra7 Z Z Z Z Z Z Z)<|C5<|wl (fun x=>[(1,.ptr bS 0),(2,.ptr bY 0),(3,.asl bp p.length),(4,.ptr (G.length+2) 0),(20,.asl bp p.length),(21,.i p.length),(22,.i x.2)]) (fun (_:Unit) x=>[.arr 3 false (p.map A6),.arr 3 false [],.cells (fnC (.asl (G.length+0) p0.length) x.1 0)]) 3 (fun r e s' H'=>PX 2 [(1,.ptr bS 0),(2,.ptr bY 0),(3,.asl bp p.length),(4,.ptr (G.length+2) 0)] (G++[.arr 3 false (p.map A6),.arr 3 false [],.cells (fnC (.asl (G.length+0) p0.length) r 0)]) e s' H') () hz Z Z (fun _ _=>rfl) (fun _=>rfl) Z (fun _=>bdc (A8l h1) (bdc (A8l hY) (bdc hGv.bd (bdc (J6 Z) (bdc hGv.bd (bdc A4 (bdc A4 bdn))))))) (fun _ x o hs=>?_) ?_
 ·obtain⟨⟨w,cc,hd⟩,i⟩:=x
  unfold B28 at hs
  refine s0<|A0 (I0 Z Z) Z<|es (ra8 Z Z Z Z Z Z Z Z)<|B8<|wi hs Z (fun hc1 hs=>?_) fun hc1 hs=>?_
  ·refine oB hs fun u hu hs=>oB hs fun pd hpd hs=>oB hs fun ow how hs=>oB hs fun bb hbb hs=>?_
   refine B9<|B8<|C5<|sg 3 Z<|qm Z<|A0 (B7y hGv hu Z Z) Z<|A0 (C0k hGv hu Z) Z<|A0 K1 Z<|qm Z<|P5 (G3 (ds:=A6 u) Z Z Z Z (F7 Z) Z) Z<|es (ra9 Z Z Z Z Z Z Z Z Z)<|s0<|A0 (I4 Z h1 Z) Z<|qm Z<|A0 (D0 Z Z Z) Z<|B2 (rs:=[.i pd.1,.i pd.2]) Z Z (A1 Z (A1 Z (A1 (C9 Z) B3))) ((Y4 (a0:=shw t days) (F2 h2 _) hpd).frz)<|qm Z<|A0 (A8 Z Z) Z<|A0 (A8 Z Z) Z<|qm Z<|qm Z<|es (ra10 Z Z Z Z Z Z Z Z Z Z)<|s0<|A0 (C1 Z) Z<|A0 (B4 (x:=.i cc) Z Z Z) Z<|qm Z<|A0 (D9 Z Z) Z<|A0 (C1 Z) Z<|P5 (G3 (ds:=fnC (.asl (G.length+0) p0.length) ⟨w,w64 (cc+pd.1),hd⟩ 0) Z Z Z Z (F7 Z) Z) Z<|es (ra9 Z Z Z Z Z Z Z Z Z)<|s0<|qm Z<|A0 (C1 Z) Z<|A0 (B4 (x:=.i u.Gown) Z Z Z) Z<|A0 (D9 Z Z) Z<|A0 (C1 Z) Z<|A0 (D76 (e:=Ar3.l hd) Z Z Z how) Z<|P5 (D8b (f:=cI) (e:=Ar3.l hd) (e2:=Ar3.l (hd.set i (w64 (u.Gown+1)))) (z:=w64 (u.Gown+1)) (ds:=fnC (.asl (G.length+0) p0.length) ⟨w,w64 (cc+pd.1),hd.set i (w64 (u.Gown+1))⟩ 0) Z Z Z Z Z Z (fun _=>rfl) how (Ar3.set_l how) Z (F7 Z)) Z<|es (ra8 Z Z Z Z Z Z Z Z)<|s0<|A0 (D0 Z Z Z) Z<|T1 (rs:=[(.agg (A6 bb))]) Z Z A0e B3 ((A64 hbb).frz)<|A0 (C67 (a:=A6 u) (b:=A6 bb) Z Z Z Z (U6 (U6 (U6 B24)))) Z<|es (ra8 Z Z Z Z Z Z Z Z)<|wi hs Z (fun hc2 hs=>?_) fun hc2 hs=>?_
   ·refine r0<|A0 (C1 Z) Z<|A0 (B4 (x:=.i w) Z Z Z) Z<|A0 (D9 Z Z) Z<|A0 (C1 Z) Z<|P5 (G3 (ds:=fnC (.asl (G.length+0) p0.length) ⟨w64 (w+1),w64 (cc+pd.1),hd.set i (w64 (u.Gown+1))⟩ 0) Z Z Z Z (F7 Z) Z) Z<|en (ra7 Z Z Z Z Z Z Z)<|r0<|A0 (D9 Z Z) Z<|qm Z<|en (ra7 Z Z Z Z Z Z Z) ?_
    cases hs
    exact lnT () Z (su7 Z Z Z Z Z Z Z)
   ·refine B9<|r0<|A0 (D9 Z Z) Z<|qm Z<|en (ra7 Z Z Z Z Z Z Z) ?_
    cases hs
    exact lnT () Z (su7 Z Z Z Z Z Z Z)
  ·refine G5 ?_
   obtain rfl:=os hs
   exact lx Z px (su4 Z Z Z Z)
 ·rintro e s' H'-⟨rfl,rfl,rfl⟩
  have hcl:=hcall c [.arr 3 true (p.map A6),.arr 3 false [],.cells (fnC (.asl (G.length+0) p0.length) z sh.1)] (by intro o ho;simp at ho;rcases ho with rfl|rfl|rfl <;> rfl) (C7k hsc (by simp)) Z
  refine s0<|A0 (I4 Z h1 Z) Z<|qm Z<|O4 (Z2 (rs:=[.i sh.1,.i sh.2]) Z Z ((B3x (a0:=shw t days) (F2 h2 _) hGv.app hsh).frz)) Z<|qm Z<|A0 (A8 Z Z) Z<|A0 (A8 Z Z) Z<|A0 (C1 Z) Z<|P5 (G3 (ds:=fnC (.asl (G.length+0) p0.length) z sh.1) Z Z Z Z (F7 Z) Z) Z<|es (ra2 Z Z)<|s0<|A0 (I4 Z hY Z) Z<|A0 (A57 (ds:=fnC (.asl (G.length+0) p0.length) z sh.1) Z Z Z Z) Z<|O4 (T9 (rs:=[.b ok]) Z Z (A1 (D9x (B0m (E2g Z (by rw[Zi];exact hlp.symm)) (B0m Z (B0m Z (B0m Z (B0m Z (B0m Z (B0m Z E2d)))))))) B3) hcl Z) Z<|A0 (C9a Z Z) Z<|es (ra1 Z) ?_
  cases ok with
  | true=>exact S9 Z Z<|B9 ⟨Z,_,Z⟩
  | false=>exact Q4 Z Z<|C7 ⟨Z,_,Z⟩
end
theorem D90 {N:Nat} {l:A2} (h:∀o∈l,o.anc=[]):grL N l=true:= by
 unfold grL
 rw[Zt]
 intro o ho
 rw[h o ho];rfl
def B8d (t:PaShow) (days:List Int) (bS b:Nat) (H:A2):Prop:=hcells H bS=some [.ptr b 0]∧hcells H b=some (A5b t days)
theorem B8d.app {t:PaShow} {days:List Int} {bS b:Nat} {H L:A2} (h:B8d t days bS b H):B8d t days bS b (H++L):=⟨F2 h.1 _,F2 h.2 _⟩
theorem D6a {t:PaShow} {days:List Int} {bS b:Nat}:C0r tab 108 [.ptr bS 0] shF (B8d t days bS b) (C0v t days):= by
 intro σ ρ Hm N hN hpre y hyb hyc body hy a0 o ho c hc
 unfold C0v at ho
 have h1:∀x,hcells (Hm x) bS=some [.ptr b 0]:=fun x=>(hpre x).1
 have ht:∀x,hcells (Hm x) b=some (A5b t days):=fun x=>(hpre x).2
 have e:=hN (.inl a0)
 have q0:∀z L,hcells (Hm z++(AO.cells [y]::L)) (N+0)=some [y]:=fun z L=>by rw[← hN z];exact F5 Z
 have q1:∀z L,hcells (Hm z++(AO.cells [y]::.cells [.ptr b 0]::L)) (N+1)=some [.ptr b 0]:=fun z L=>by rw[← hN z];exact F5 Z
 have htk:∀z L,(Hm z++L).take N=Hm z:=fun z L=>by rw[← hN z];exact Z0c
 have hl2:∀z,(Hm z++[AO.cells [y],.cells [.ptr b 0]]).length=N+2:=fun z=>by rw[Zm,hN];rfl
 have key:WP tab c108 [(0,y),(1,.ptr bS 0)] (Hm (.inl a0)++[]) ⟨(Hm (.inl a0)).length,c.cur::c.outer⟩ (B1l (Hm (.inl a0)) (Hm o) [] []):= by
  refine sg 0 Z<|A0 (G0 Z hyc Z) Z<|es (ra2 Z Z)<|s0<|A0 (I4 Z (h1 _) Z) Z<|A7i (as2:=[.ptr b 0]) (H1:=Hm (.inl a0)++[.cells [y]]) Z Z (A1 Z B3) Z Z Z (B3g Z)<|sg 1 Z<|A0 (G0 (cs:=[.ptr b 0]) Z Z Z) Z<|qm Z<|es (ra1 Z)<|s0<|A0 (A5n Z Z) Z<|qm Z<|es (ra1 Z)<|C7<|InlQ.mk trivial ⟨_,_,_,[(.fn (.func 119) [] [(.ptr ((Hm (.inl a0)).length+1) 0)])],_,(A7 Z B7),(A5 Z B6),(B3c (X8 (B68 (X8 (A8m Z)))) (B3b Z B7k)),?_⟩
  refine es (ra3 Z Z Z)<|C5 ?_
  refine B60 (it:=B3o t days) (sh:=shP) (pre:=B8d t days ((Hm (.inl a0)).length+1) b) (D8w (t:=t) (days:=days) (bS:=(Hm (.inl a0)).length+1) (b:=b)) (K:=N+2) [(1,.ptr bS 0),(2,.ptr ((Hm (.inl a0)).length+0) 0)] (fun z=>Hm (.inl z)++[.cells [y],.cells [.ptr b 0]]) (fun r=>Hm (.inr r)++[.cells [y],.cells [.ptr b 0]]) (fun _=>.ret) ho (fun _=>rfl) Z (fun S hS=>Q8 (live:=[1,2]) Z (by decide) (Sub.trans (su2 Z Z) hS)) Z (fun x=>hl2 _) (fun x=>hl2 _) ?_ ?_ ?_ ?_
  ·rw[e]
   exact⟨fun x z=>⟨F2 (q1 _ _) _,F2 (F2 (ht _) _) _⟩,fun x z=>⟨F2 (q1 _ _) _,F2 (F2 (ht _) _) _⟩⟩
  ·exact B2t hc (by simp) (by simp)
  ·intro c' p s o' L v hsc hgr hv hbo y0 y1 hy0 hy1
   obtain⟨j,rfl,hj⟩:=hv
   refine oB hbo fun x hx hbo=>?_
   have hGl:(Hm (.inl s)++[AO.cells [y],.cells [.ptr b 0]]++y1::L).length=N+2+1+L.length:= by rw[Zm,hl2];simp;omega
   have e4:∀z (l:List AO),Hm z++[AO.cells [y],.cells [.ptr b 0]]++y1::L++l=Hm z++(AO.cells [y]::.cells [.ptr b 0]::y1::(L++l)):=fun z l=>by simp
   refine r0<|qm Z<|en (ra3 Z Z Z) ⟨Z,L,Z,?_⟩
   have hharr:harr (Hm (.inl s)++[AO.cells [y],.cells [.ptr b 0]]++y1::L) (N+2+1+j)=some (3,false,p.map A6):= by
    have h3:(Hm (.inl s)++[AO.cells [y],.cells [.ptr b 0]]++[y1]).length=N+2+1:= by rw[Zm,hl2];rfl
    rw[show Hm (.inl s)++[AO.cells [y],.cells [.ptr b 0]]++y1::L=(Hm (.inl s)++[AO.cells [y],.cells [.ptr b 0]]++[y1])++L by simp,← h3]
    exact P8 hj
   refine A2x (D59 (t:=t) (days:=days) (x:=x) (ok:=o'.isLeft) (GE:=Hm o'++[AO.cells [y],.cells [.ptr b 0]]++y1::L) (y:=y) ⟨_,_,Z,hharr⟩ (F2 (F2 (h1 _) _) _) (F2 (F2 (ht _) _) _) (by rw[e];exact F2 (q0 _ _) _) (by rw[hGl];exact Zn _) hx (fun c2 l hl hs2 hc2=>?_) (C7k hsc (by rw[hGl];simp[hN];omega))) ?_
   ·have hsc3:T4 c2 (Hm (.inl s)++(AO.cells [y]::.cells [.ptr b 0]::y1::(L++l)))=true:= by rw[hc2,← e4];exact hs2
    rw[e4,e4]
    exact hy hsc3 (A9y Z (A9y Z (A9y hy1 (C0f (C8o (by omega) hgr) (D90 hl))))) Z hbo
   ·rintro e1 s1 H1 ⟨he,l,rfl⟩
    have htk2:∀z,(Hm z++[AO.cells [y],.cells [.ptr b 0]]++y1::L++l).take (N+2+1+L.length)=Hm z++[AO.cells [y],.cells [.ptr b 0]]++y1::L:=fun z=>by
     have:(Hm z++[AO.cells [y],.cells [.ptr b 0]]++y1::L).length=N+2+1+L.length:= by rw[Zm,hl2];simp;omega
     rw[← this];exact Z0c
    cases o' with
    | inl s'=>exact⟨he,htk2 _⟩
    | inr r=>exact⟨he,htk2 _⟩
  ·rw[e]
   cases o with
   | inl s' =>
    show B1l _ _ _ _ .normal _ _
    refine C20 trivial Z Z Z ?_
    rw[Zz,e];exact htk _ _
   | inr r =>
    show B1l _ _ _ _ .ret _ _
    refine C20 trivial Z Z Z ?_
    rw[Zz,e];exact htk _ _
 rw[ZV]at key
 exact A1t (aq:=[y,.ptr bS 0]) Z Z Z key
def B88 (t:PaShow) (days:List Int) (σ ρ:Type) (body:pawn_found→σ→Option (σ⊕ρ)) (s:σ):Option (σ⊕ρ) :=
 C0v t days σ ρ (fun x s=>if (decide (x.short_>0))=true then some (.inl s) else body x s) s
theorem D1u {t:PaShow} {days:List Int} {bS b:Nat}:C0r tab 106 [.ptr bS 0] shF (B8d t days bS b) (B88 t days):= by
 intro σ ρ Hm N hN hpre y hyb hyc body hy a0 o ho c hc
 unfold B88 at ho
 have h1:∀x,hcells (Hm x) bS=some [.ptr b 0]:=fun x=>(hpre x).1
 have ht:∀x,hcells (Hm x) b=some (A5b t days):=fun x=>(hpre x).2
 have e:=hN (.inl a0)
 have q0:∀z L,hcells (Hm z++(AO.cells [y]::L)) (N+0)=some [y]:=fun z L=>by rw[← hN z];exact F5 Z
 have q1:∀z L,hcells (Hm z++(AO.cells [y]::.cells [.ptr b 0]::L)) (N+1)=some [.ptr b 0]:=fun z L=>by rw[← hN z];exact F5 Z
 have htk:∀z L,(Hm z++L).take N=Hm z:=fun z L=>by rw[← hN z];exact Z0c
 have hl2:∀z,(Hm z++[AO.cells [y],.cells [.ptr b 0]]).length=N+2:=fun z=>by rw[Zm,hN];rfl
 have key:WP tab c106 [(0,y),(1,.ptr bS 0)] (Hm (.inl a0)++[]) ⟨(Hm (.inl a0)).length,c.cur::c.outer⟩ (B1l (Hm (.inl a0)) (Hm o) [] []):= by
  refine sg 0 Z<|A0 (G0 Z hyc Z) Z<|es (ra2 Z Z)<|D4a<|B8<|B9<|s0<|A0 (I4 Z (h1 _) Z) Z<|A7i (as2:=[.ptr b 0]) (H1:=Hm (.inl a0)++[.cells [y]]) Z Z (A1 Z B3) Z Z Z (B3g Z)<|sg 1 Z<|A0 (G0 (cs:=[.ptr b 0]) Z Z Z) Z<|qm Z<|es (ra1 Z)<|s0<|A0 (A5n Z Z) Z<|qm Z<|es (ra1 Z)<|C7<|InlQ.mk trivial ⟨_,_,_,[(.fn (.func 108) [] [(.ptr ((Hm (.inl a0)).length+1) 0)])],_,(A7 Z B7),(A5 Z B6),(B3c (X8 (B68 (X8 (A8m Z)))) (B3b Z B7k)),?_⟩
  refine es (ra2 Z Z)<|C5 ?_
  refine B60 (it:=C0v t days) (sh:=shF) (pre:=B8d t days ((Hm (.inl a0)).length+1) b) (D6a (t:=t) (days:=days) (bS:=(Hm (.inl a0)).length+1) (b:=b)) (K:=N+2) [(2,.ptr ((Hm (.inl a0)).length+0) 0)] (fun z=>Hm (.inl z)++[.cells [y],.cells [.ptr b 0]]) (fun r=>Hm (.inr r)++[.cells [y],.cells [.ptr b 0]]) (fun _=>.ret) ho (fun _=>rfl) Z (fun S hS=>Q8 (live:=[2]) Z (by decide) (Sub.trans (su1 Z) hS)) Z (fun x=>hl2 _) (fun x=>hl2 _) ?_ ?_ ?_ ?_
  ·rw[e]
   exact⟨fun x z=>⟨F2 (q1 _ _) _,F2 (F2 (ht _) _) _⟩,fun x z=>⟨F2 (q1 _ _) _,F2 (F2 (ht _) _) _⟩⟩
  ·exact B2t hc (by simp) (by simp)
  ·intro c' x s o' L v hsc hgr hv hbo y0 y1 hy0 hy1
   obtain rfl:v=.agg (C8 x):=hv
   have hGl:∀z z1,(Hm z++[AO.cells [y],.cells [.ptr b 0]]++z1::L).length=N+2+1+L.length:=fun z z1=>by rw[Zm,hl2];simp;omega
   have e4:∀z (l:List AO),Hm z++[AO.cells [y],.cells [.ptr b 0]]++y1::L++l=Hm z++(AO.cells [y]::.cells [.ptr b 0]::y1::(L++l)):=fun z l=>by simp
   have htk2:∀z l,(Hm z++[AO.cells [y],.cells [.ptr b 0]]++y1::L++l).take (N+2+1+L.length)=Hm z++[AO.cells [y],.cells [.ptr b 0]]++y1::L:=fun z l=>by
    rw[← hGl z y1];exact Z0c
   refine Y8<|rg 0 Z<|A0 K1 Z<|P5 (G3 (ds:=C8 x) Z Z Z Z (A2k (by rw[hGl];exact ZM _ _)) Z) Z<|en (ra2 Z Z) ⟨Z,L++[.cells (C8 x)],by simp,?_⟩
   refine B9n (show _=(Hm (.inl s)++[AO.cells [y],.cells [.ptr b 0]]++y1::L)++[.cells (C8 x)] by simp) ?_
   have q8:ev [(2,AV.ptr ((Hm (.inl a0)).length+0) 0),(3,.ptr ((Hm (.inl s)++[AO.cells [y],.cells [.ptr b 0]]++y0::L).length+(0+0)) 0)] (.t 3)=some (.ptr ((Hm (.inl s)++[AO.cells [y],.cells [.ptr b 0]]++y1::L).length+0) 0):= by
    show some _=some _
    rw[hGl,hGl]
   rw[show (AV.ptr ((Hm (.inl s)++[AO.cells [y],.cells [.ptr b 0]]++y0::L).length+(0+0)) 0)=.ptr ((Hm (.inl s)++[AO.cells [y],.cells [.ptr b 0]]++y1::L).length+0) 0 by rw[hGl,hGl]]
   refine C5<|B8<|s0<|A0 (C1 Z) Z<|A0 (B4 (x:=.i x.short_) Z Z Z) Z<|A0 (X6 Z Z) Z<|es (ra3 Z Z Z)<|wi hbo Z (fun hc2 hbo=>?_) fun hc2 hbo=>?_
   ·cases hbo
    exact G5 ⟨Z,htk2 _ _⟩
   ·have hcl:L3 tab ⟨N+2+1+L.length,c'⟩ (Hm (.inl s)++[AO.cells [y],.cells [.ptr b 0]]++y1::L++[.cells (C8 x)]) y [.agg (C8 x)] [.b o'.isLeft] (Hm o'++[AO.cells [y],.cells [.ptr b 0]]++y1::L++[.cells (C8 x)]):= by
     have hsc3:T4 ⟨N+2+1+L.length,c'⟩ (Hm (.inl s)++(AO.cells [y]::.cells [.ptr b 0]::y1::(L++[.cells (C8 x)])))=true:= by
      rw[← e4]
      exact C7k hsc (by simp only[Zm,ZU,Z3m];omega)
     rw[e4,e4]
     exact hy hsc3 (A9y Z (A9y Z (A9y hy1 (C0f (C8o (by omega) hgr) Z)))) Z hbo
    refine B9<|s0<|A0 (I4 (x:=y) Z (by rw[e];exact F2 (q0 _ _) _) Z) Z<|A0 (D0 Z Z Z) Z<|O4 (T9 (rs:=[.b o'.isLeft]) Z Z (A1 (C9 Z) B3) hcl Z) Z<|A0 (C9a Z Z) Z<|es (ra1 Z) ?_
    cases o' with
    | inl s'=>exact S9 Z Z<|B9 ⟨Z,htk2 _ _⟩
    | inr r=>exact Q4 Z Z<|C7 ⟨Z,htk2 _ _⟩
  ·rw[e]
   cases o with
   | inl s' =>
    show B1l _ _ _ _ .normal _ _
    refine C20 trivial Z Z Z ?_
    rw[Zz,e];exact htk _ _
   | inr r =>
    show B1l _ _ _ _ .ret _ _
    refine C20 trivial Z Z Z ?_
    rw[Zz,e];exact htk _ _
 rw[ZV]at key
 exact A1t (aq:=[y,.ptr bS 0]) Z Z Z key
end Pw
end
section
set_option maxRecDepth 100000
set_option maxHeartbeats 0
namespace Pw
open Go Am Go.Proofs.YtjpjdglddmhplaaGreat.Cd
def fnd0:pawn_found:=⟨[],0,0,0,⟨0,0,0⟩⟩
def C4g (g:pawn_found→pawn_found→Option Int) (x:pawn_found) (s:pawn_found×Bool):Option ((pawn_found×Bool)⊕Unit) :=
 (if (!s.2)=true then some true else (g x s.1).bind fun r=>some (decide (r<0))).bind fun z =>
 if z=true then some (.inl (x,true)) else some (.inl s)
abbrev It:=∀ (σ ρ:Type),(pawn_found→σ→Option (σ⊕ρ))→σ→Option (σ⊕ρ)
def C00 (it:It) (g:pawn_found→pawn_found→Option Int):Option (pawn_found×Bool) :=
 (it (pawn_found×Bool) Unit (C4g g) (fnd0,false)).bind fun o=>match o with
  | .inl s=>some s
  | .inr _=>none
def bM (ig:Nat) (s:pawn_found×Bool):List AO:=[.cells [.fn (.func ig) [] []],.cells (C8 s.1),.cells [.b s.2]]
theorem C6e {c:Sc} {H:A2} {i ig bS b:Nat} {t:PaShow} {days:List Int} {it:It} {g:pawn_found→pawn_found→Option Int} {r:pawn_found×Bool} (hit:C0r tab i [.ptr bS 0] shF (B8d t days bS b) it)
  (hg:∀{c:Sc} {H:A2} {x y:pawn_found} {r:Int},g x y=some r→A0a tab c H (.fn (.func ig) [] []) [.agg (C8 x),.agg (C8 y)] [.i r]) (hpre:B8d t days bS b H) (hscv:T4 c H=true) (h:C00 it g=some r) :
  A0a tab c H (.fn (.func 69) [] []) [.fn (.func i) [] [.ptr bS 0],.fn (.func ig) [] []] [.agg (C8 r.1),.b r.2]:= by
 unfold C00 at h
 refine oB h fun o ho h=>?_
 have hl3:∀s,(H++bM ig s).length=H.length+3:=fun s=>by rw[Zm];rfl
 refine cF Z Z<|sg 0 Z<|A0 (G0 (cs:=[.fn (.func ig) [] []]) Z Z Z) Z<|A0 K1 Z<|A0 K1 Z<|es (ra4 Z Z Z Z)<|B8<|s0<|qm Z<|es (ra4 Z Z Z Z)<|C5 ?_
 refine B60 (it:=it) (sh:=shF) (pre:=B8d t days bS b) hit (K:=H.length+3) [(3,.ptr (H.length+0) 0),(4,.ptr (H.length+1) 0),(5,.ptr (H.length+2) 0)] (fun s=>H++bM ig s) (fun (_:Unit)=>H++bM ig (fnd0,false)) (fun _=>.ret) ho (fun _=>rfl) Z (fun S hS=>Q8 (live:=[3,4,5]) Z (by decide) (Sub.trans (su3 Z Z Z) hS)) Z (fun _=>hl3 _) (fun _=>hl3 _) ⟨fun _ _=>by rw[Zz];exact hpre.app,fun _ _=>by rw[Zz];exact hpre.app⟩ (A5z hscv) (fun c' x s o' L v hsc hgr hv hbo y0 y1 hy0 hy1=>?_) ?_
 ·obtain rfl:v=.agg (C8 x):=hv
  have hGl:∀s z,(H++bM ig s++z::L).length=H.length+3+1+L.length:=fun s z=>by rw[Zm,hl3];simp;omega
  refine Y8<|rg 0 Z<|A0 K1 Z<|P5 (G3 (ds:=C8 x) Z Z Z Z (A2k (by rw[hGl];exact ZM _ _)) Z) Z<|en (ra4 Z Z Z Z) ⟨Z,L++[.cells (C8 x)],by simp,?_⟩
  refine B9n (show _=H++(.cells [.fn (.func ig) [] []]::.cells (C8 s.1)::.cells [.b s.2]::y1::(L++[AO.cells (C8 x)])) by simp[bM]) ?_
  rw[show (AV.ptr ((H++bM ig s++y0::L).length+(0+0)) 0)=.ptr (H.length+3+1+L.length) 0 by rw[hGl];rfl]
  have q6:∀s':pawn_found×Bool,hcells (H++(.cells [.fn (.func ig) [] []]::.cells (C8 s'.1)::.cells [.b s'.2]::y1::(L++[AO.cells (C8 x)]))) (H.length+3+1+L.length)=some (C8 x):=fun s'=>by
   rw[show H++(.cells [.fn (.func ig) [] []]::.cells (C8 s'.1)::.cells [.b s'.2]::y1::(L++[AO.cells (C8 x)]))=(H++bM ig s'++y1::L)++[AO.cells (C8 x)] by simp[bM],← hGl s' y1]
   exact F5 (j:=0) Z
  have htk:∀(s':pawn_found×Bool),(H++(.cells [.fn (.func ig) [] []]::.cells (C8 s'.1)::.cells [.b s'.2]::y1::(L++[AO.cells (C8 x)]))).take (H.length+3+1+L.length)=H++bM ig s'++y1::L:=fun s'=>by
   rw[show H++(.cells [.fn (.func ig) [] []]::.cells (C8 s'.1)::.cells [.b s'.2]::y1::(L++[AO.cells (C8 x)]))=(H++bM ig s'++y1::L)++[AO.cells (C8 x)] by simp[bM],← hGl s' y1]
   exact Z0c
  unfold C4g at hbo
  refine oB hbo fun z hz hbo=>?_
  refine C5<|s0<|A0 (B4 (x:=.b s.2) Z Z Z) Z<|A0 (C9a Z Z) Z<|qm Z<|gp 6 17 (.b z) 11 Z Z (fun hc1=>?_) (fun hc1=>?_) ?_
  ·obtain rfl:=os (bt hz hc1)
   exact nF Z hc1 Z<|nF Z hc1 Z<|nF Z hc1 Z<|G4 (D2 Z (by rw[hc1];rfl)) Z<|nF Z hc1 Z<|A0 (C3 Z hc1 Z) Z<|ge 6 Z Z Z
  ·refine oB (bf hz hc1) fun q hq hz=>?_
   obtain rfl:=os hz
   exact gF Z hc1<|A0 (B4 (x:=.fn (.func ig) [] []) Z Z Z) Z<|gF Z hc1<|A0 (A92 (ds:=C8 x) Z (q6 s) Z Z) Z<|gF Z hc1<|A0 (A57 (ds:=C8 s.1) Z Z Z Z) Z<|gF Z hc1<|B2 (rs:=[.i q]) Z Z (A1 (C9 Z) (A1 (C9 Z) B3)) (hg hq)<|gF Z hc1<|A0 (I0 Z Z) Z<|A0 (C2 Z hc1 Z) Z<|ge 6 Z Z Z
  ·refine es (ra4 Z Z Z Z)<|wi hbo Z (fun hc2 hbo=>?_) fun hc2 hbo=>?_
   ·cases hbo
    refine r0<|A0 (A92 (ds:=C8 x) Z (q6 s) Z Z) Z<|P5 (G3 (j:=1) (ds:=C8 x) Z Z Z Z (F7 Z) Z) Z<|P5 (G3 (j:=2) (ds:=[.b true]) Z Z Z Z (F7 Z) Z) Z<|en .n ⟨Z,htk (x,true)⟩
   ·cases hbo
    exact B9 ⟨Z,htk s⟩
 ·rcases o with s|s
  ·obtain rfl:=os h
   refine B9n (show _=H++[.cells [.fn (.func ig) [] []],.cells (C8 s.1),.cells [.b s.2],.dead] by simp[bM]) ?_
   refine s0<|A0 (A57 (ds:=C8 s.1) Z Z Z Z) Z<|C0l [2] [.cells [.fn (.func ig) [] []],.cells (C8 s.1),.cells [.b s.2],.dead] (O1 [] rfl (B3v Z B0q H7) Z Z) (seen0 Z) (G3 (j:=1) (ds:=C8 s.1) Z Z Z Z (F7 Z) Z) Z Z Z<|J3 [] (O1 [] rfl H7 Z Z) (C0o (b:=H.length+2) Z (B3t (A6z _ Z) B6v)) (B4 (x:=.b s.2) Z Z Z) Z<|P5 (G3 (j:=2) (ds:=[.b s.2]) Z Z Z Z (F7 Z) Z) Z<|es (ra2 Z Z)<|C7 ?_
   exact⟨_,retq trivial (B3r (A57 (ds:=C8 s.1) Z Z Z Z) (B3r (B4 (x:=.b s.2) Z Z Z) B7)) (A5 (B77 Z) (A5 Z B6)) (A3 (B67 Z) (A3 A4 B1)),Z⟩
  ·cases h
end Pw
namespace Am
open Go
theorem C0r.it {α:Type} {T:Tab} {i:Nat} {fc:List AV} {ea:α→AV} {pre:A2→Prop} {it:∀(σ ρ:Type),(α→σ→Option (σ⊕ρ))→σ→Option (σ⊕ρ)} (h:C0r T i fc (fun _ _ x v=>v=ea x) pre it):E4e T i fc ea pre it :=
 fun Hm N h1 h2 y hb hc body hy _ _ ho _ hs=>h Hm N h1 h2 y hb hc body (fun a b d e=>by subst d;exact hy a b e) ho hs
end Am
end
section
set_option maxRecDepth 100000
set_option maxHeartbeats 0
namespace Pw
open Go Am Go.Proofs.YtjpjdglddmhplaaGreat.Cd
def A0f (a0:PaShow):Option ((List PaUse)×Int×Int×Int) :=
 (A3w a0).bind fun x1 =>
 if (x1.1==0)=true then
  (C00 (B88 a0 x1.2) A6i).bind fun x4 =>
  some (x4.1.plan_,x4.1.without_,x4.1.cost_,0)
 else
  some (([]:List PaUse),0,0,x1.1)
theorem A2l {c:Sc} {H:A2} (hscv:T4 c H=true) {a0:PaShow} {r:((List PaUse)×Int×Int×Int)} (h:A0f a0=some r) :
  F0 tab c H (.fn (.func 26) [] []) [(.agg (A9 a0))] [(.seq 3 (Ze A6 r.1)),.i r.2.1,.i r.2.2.1,.i r.2.2.2]:= by
 unfold A0f at h
 refine cE Z Z<|sg 0 Z<|A0 (G0 (cs:=A9 a0) Z Z Z) Z<|qm Z<|qm Z<|qm Z<|qm Z<|es (ra1 Z)<|s0<|oB h fun x1 hx1 h=>A0 (D0 Z Z Z) Z ?_
 by_cases hc2:(x1.1==0)=true
 ·rw[if_pos hc2]at h
  obtain⟨X3,hX3⟩:=A4b hx1 hc2
  refine O4 (A59 hX3 Z Z (A1 (C9 Z) B3) Z) Z<|qm Z<|A0 (A8 Z Z) Z<|A0 (A8 Z Z) Z<|qm Z<|qm Z<|es (ra2 Z Z)<|B8<|s0<|qm Z<|A0 (R8 (v:=(.b false)) Z Z Z) Z<|es (ra3 Z Z Z)<|S9 Z Z<|B9<|sg 4 Z<|qm Z<|A7i (as2:=[(.ptr (H.length+3) 0)]) (H1:=(H++[(.cells (A9 a0)),(.cells (A9 a0)),X3,(.cells [(.seq 8 (Ze C6 a0.Gowns)),(.seq 4 (Ze B5 a0.Figures)),.i a0.Purse,(.seq 2 (Ze D3 a0.Incomes)),(.fn (.func 90) [] []),(.fn (.func 91) [] []),(.fn (.func 92) [] []),(.fn (.func 52) [] []),(.fn (.func 93) [] []),(.fn (.func 94) [] []),(.fn (.func 55) [] []),(.fn (.func 95) [] []),(.fn (.func 96) [] []),(.seq 1 (Ze cI x1.2))]),.dead])) Z Z (A1 Z B3) Z Z Z (B3g Z)<|sg 5 Z<|A0 (G0 (cs:=[(.ptr (H.length+3) 0)]) Z Z Z) Z<|qm Z<|es (ra1 Z)<|s0<|A0 (A5n Z Z) Z<|qm Z<|es (ra1 Z)<|C7<|InlQ.mk trivial ⟨_,_,_,[(.fn (.func 106) [] [(.ptr (H.length+5) 0)])],_,(A7 Z B7),(A5 Z B6),(B3c (X8 (B68 (X8 (A8m Z)))) (B3b Z B7k)),?_⟩
  refine oB h fun x4 hx4 h=>B2 (rs:=[(.agg (C8 x4.1)),.b x4.2]) Z Z (A1 Z (A1 Z B3)) (C6e (D1u (t:=a0) (days:=x1.2) (bS:=H.length+5) (b:=H.length+3)) (fun h=>(C2c h).frz) (ZE (F5 Z) (F5 Z)) (A5z hscv) hx4)<|qm Z<|A0 (A8 Z Z) Z<|A0 (A8 Z Z) Z<|A0 K1 Z<|P5 (G3 (ds:=(C8 x4.1)) Z Z Z Z (F7 Z) Z) Z<|qm Z<|es (ra1 Z)<|s0<|A0 (C1 Z) Z<|A0 (B4 Z Z Z) Z<|A0 (C1 Z) Z<|A0 (B4 Z Z Z) Z<|A0 (C1 Z) Z<|A0 (B4 Z Z Z) Z<|qm Z<|qm Z<|qm Z<|qm Z<|es (ra4 Z Z Z Z)<|C7 ?_
  obtain rfl:=os h
  exact retq trivial (A7 Z (A7 Z (A7 Z (A7 Z B7)))) (A5 Z (A5 Z (A5 Z (A5 Z B6)))) (A3 G6 (A3 A4 (A3 A4 (A3 A4 B1))))
 ·rw[if_neg hc2]at h
  refine O4 (T9 (rs:=[.lit (.pointer none),.i x1.1]) Z Z (A1 (C9 Z) B3) (A5e hx1 (by simpa using hc2)) Z) Z<|qm Z<|A0 (A8 Z Z) Z<|A0 (A8 Z Z) Z<|qm Z<|qm Z<|es (ra2 Z Z)<|B8<|s0<|qm Z<|A0 (I8 Z Z) Z<|es (ra3 Z Z Z)<|Q4 Z (nef hc2)<|s0<|qm Z<|qm Z<|qm Z<|qm Z<|qm Z<|es (ra4 Z Z Z Z)<|C7 ?_
  obtain rfl:=os h
  exact retq trivial (A7 Z (A7 Z (A7 Z (A7 Z B7)))) (A5 Z (A5 Z (A5 Z (A5 Z B6)))) (A3 G6 (A3 A4 (A3 A4 (A3 A4 B1))))
def A1n (a0:PaUse) (a1:Int):Option Bool :=
 some ((a0.Gown==a1)&&(a0.How==1))
theorem B2e {c:Sc} {H:A2} {a0:PaUse} {a1:Int} {b1:Nat} (hb1:hcells H b1=some (cI a1)) {r:Bool} (h:A1n a0 a1=some r) :
  F0 tab c H (.fn (.func 105) [] []) [(.agg (A6 a0)),.ptr b1 0] [.b r]:= by
 unfold A1n at h
 refine cE Z Z<|sg 0 Z<|A0 (G0 (cs:=A6 a0) Z Z Z) Z<|qm Z<|es (ra2 Z Z)<|s0<|A0 (C1 Z) Z<|A0 (B4 Z Z Z) Z<|A0 (I4 Z hb1 Z) Z<|A0 (G2 Z Z) Z<|qm Z<|gp 4 12 (.b ((a0.Gown==a1)&&(a0.How==1))) 8 Z Z (fun hg1=>?_) (fun hg1=>?_) ?_
 ·exact gT Z hg1<|A0 (C1 Z) Z<|gT Z hg1<|A0 (B4 Z Z Z) Z<|gT Z hg1<|A0 (G2 Z Z) Z<|A0 (C3 Z hg1 Z) Z<|ge 4 (by rw[hg1];rfl) Z Z
 ·exact nT Z hg1 Z<|nT Z hg1 Z<|nT Z hg1 Z<|A0 (C2 Z hg1 Z) Z<|ge 4 (by rw[hg1];rfl) Z Z
 refine qm Z<|es (ra1 Z)<|C7 ?_
 obtain rfl:=os h
 exact retq trivial (A7 Z B7) (A5 Z B6) (A3 A4 B1)
def A6u (a0:pawn_show) (a1:(List PaUse)) (a2:Int):Option Bool :=
 (G8 a1 (fun (y:PaUse)=>A1n y a2)).bind fun x1 =>
 some x1
theorem B4y {c:Sc} {H:A2} {a0:pawn_show} {b0:Nat} (hb0:hcells H b0=some [(.seq 8 (Ze C6 a0.PaShow.Gowns)),(.seq 4 (Ze B5 a0.PaShow.Figures)),.i a0.PaShow.Purse,(.seq 2 (Ze D3 a0.PaShow.Incomes)),(.fn (.func 90) [] []),(.fn (.func 91) [] []),(.fn (.func 92) [] []),(.fn (.func 52) [] []),(.fn (.func 93) [] []),(.fn (.func 94) [] []),(.fn (.func 55) [] []),(.fn (.func 95) [] []),(.fn (.func 96) [] []),(.seq 1 (Ze cI a0.days_))]) {a1:(List PaUse)} {a2:Int} {r:Bool} (h:A6u a0 a1 a2=some r) :
  F0 tab c H (.fn (.func 68) [] []) [.ptr b0 0,(.seq 3 (Ze A6 a1)),.i a2] [.b r]:= by
 unfold A6u at h
 refine cE Z Z<|sg 0 Z<|A0 (G0 (cs:=cI a2) Z Z Z) Z<|qm Z<|es (ra2 Z Z)<|s0<|oB h fun x1 hx1 h=>qm Z<|A0 (A5n Z Z) Z<|B2 (rs:=[.b x1]) Z Z (A1 Z (A1 Z B3)) ((A0s (show Impl _ _ 105 [] [(.ptr (H.length+0) 0)] (fun (y:PaUse)=>A1n y a2) (fun (y:PaUse)=>[(.agg (A6 y))]) (fun (y:Bool)=>[.b y]) from ⟨⟨B1,(by rw[Zm];exact(A3 (J6 Z) B1))⟩,fun H' hle hag c y r hr=>(A5c (B2e (hag _ _ (F5 Z)) hr)).frz⟩) hx1).frz)<|qm Z<|es (ra1 Z)<|C7 ?_
 obtain rfl:=os h
 exact retq trivial (A7 Z B7) (A5 Z B6) (A3 A4 B1)
end Pw
end
