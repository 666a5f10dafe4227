/- Texts that the claim stands on, one behind another. -/
import Derived.Test.YtjpjdglddmhplaaGreatA5
import Derived.Laws.RangeAny
set_option linter.unusedVariables false
set_option linter.unusedSimpArgs false
set_option linter.unnecessarySimpa false
open And renaming intro→ZE
open Array renaming length_toList→Z0i
open Bool renaming and_eq_true→Zc,and_true→Z32,eq_iff_iff→Z0c,false_eq_true→Zj,not_eq_true'→Z05,not_not→Z3k,not_true→Z0y,or_eq_false_iff→Z2j,or_eq_true→Z14,or_false→Z4w,or_true→Z1w
open Int renaming le_refl→Z02,mul_le_mul→Z5r,mul_nonneg→Z5q,natCast_nonneg→Z0v,tdiv→Z48,tmod→Z5g,toNat_natCast→ZG,toNat_zero→Z4q
open List renaming all_eq_true→Zq,any_eq_true→Z2m,any_map→Z54,append_assoc→ZB,append_nil→ZY,cons_append→Z0g,drop_zero→Z12,drop→Z3t,foldl_cons→Z09,getElem?_eq_getElem→Zm,getElem?_eq_some_iff→Ze,getElem?_map→ZN,getElem?_take_of_lt→ZO,getElem?_toArray→Z0r,getElem_mem→Z22,head?_cons→Z2c,length_append→Zo,length_cons→ZT,length_map→Zi,length_nil→Z3i,length_take→ZD,length→Zh,map_cons→Zt,map→Zg,mem_append→ZA,mem_cons_of_mem→Zx,mem_cons_self→Zy,mem_cons→Zu,mem_filter→Z0a,mem_iff_getElem→ZX,mem_map→ZK,mem_of_mem_take→ZZ,mem_singleton→Z16,mem_take_iff_getElem→Z0f,pairwise_append→Z0x,pairwise_cons→Z1j,pairwise_iff_getElem→Z0e,perm_append_comm→Z3c,set_append_right→Z0s,take_left→Z07,take_length→Z0n,take_of_length_le→ZR,take_set→Z31,take_succ_eq_append_getElem→ZM
open Nat renaming beq_refl→Z17,ble_eq_true_of_le→Zl,ble→ZH,blt→ZU,le_add_right→ZL,le_of_ble_eq_true→Zp,le_of_lt→Z46,le_refl→Zn,min_self→Z5v,sub_self→Z3h,zero_add→Z1d
open Option renaming bind_some→Zd,map_some→Zb,some_inj→Z4h
open Option.some renaming injEq→Za,inj→Z0b
open Sum renaming inl→Z42
section
namespace Pw
open Go Am
instance:Inhabited PaGown:=⟨⟨ByteArray.empty,0,false,0,0,0,0,0⟩⟩
instance:Inhabited PaFigure:=⟨⟨ByteArray.empty,0,0,0⟩⟩
instance:Inhabited PaIncome:=⟨⟨0,0⟩⟩
instance:Inhabited PaUse:=⟨⟨0,0,0⟩⟩
def D6o (s:ByteArray) (i:Nat):Bool :=
 !(decide (97≤s[i]!.toNat)&&decide (s[i]!.toNat≤122))&&(i==0||!((decide (48≤s[i]!.toNat)&&decide (s[i]!.toNat≤57))||s[i]!.toNat==46))
def bad (s:ByteArray) (i:Nat):Option Unit:=if D6o s i then some () else none
def A5q (s:ByteArray):Bool:=(!(s.size==0)&&decide (s.size≤16))&&(first (bad s) s.size).isNone
theorem nd97 {x:Nat}:decide ((97:Int)≤(x:Int))=decide (97≤x):=decide_eq_decide.mpr (by omega)
theorem nd122 {x:Nat}:decide ((x:Int)≤122)=decide (x≤122):=decide_eq_decide.mpr (by omega)
theorem nd48 {x:Nat}:decide ((48:Int)≤(x:Int))=decide (48≤x):=decide_eq_decide.mpr (by omega)
theorem nd57 {x:Nat}:decide ((x:Int)≤57)=decide (x≤57):=decide_eq_decide.mpr (by omega)
theorem nl48 {x:Nat}:decide ((x:Int)<48) = !decide (48≤x):= by rw[Z0c];simp;omega
theorem nl57 {x:Nat}:decide ((57:Int)<(x:Int)) = !decide (x≤57):= by rw[Z0c];simp;omega
theorem nz0 {x:Nat}:((x:Int)==0)=(x==0):= by rw[Z0c];simp
theorem n46 {x:Nat}:((x:Int)==46)=(x==46):= by rw[Z0c];simp;omega
theorem n46' {x:Nat}:((x:Int)==46)=(x==46):=n46
theorem D59 {s:ByteArray} {i:Nat} (h:i<s.size):B61 s (i:Int)=some (s[i]!.toNat:Int):= by
 unfold B61
 rw[if_pos (Z0v i),ZG,getElem?_pos s i h,getElem!_pos s i h];rfl
theorem C4a (s:ByteArray):A77 s=some (A5q s):= by
 unfold A77 A5q
 by_cases h0:s.size=0
 ·rw[if_pos (by simp[h0])];simp[h0]
 by_cases h1:s.size>16
 ·rw[if_pos (by simp;omega)]
  have:decide (s.size≤16)=false:= by simp;omega
  rw[this];simp
 rw[if_neg (by simp only[Z14,beq_iff_eq,decide_eq_true_eq];omega)]
 have hl:loop (A3k s) 0=some ((first (fun i=>(bad s i).map fun _=>(Z42 false:Bool⊕Unit)) s.size).getD (.inr ())):= by
  refine A8z s.size _ _ (by omega) ?_ ?_
  ·intro i hi _
   unfold A3k
   rw[if_pos (by simpa using hi),D59 hi]
   have hb:s[i]!.toNat<256:=s[i]!.toNat_lt
   generalize hx:s[i]!.toNat=x at hb
   simp only[Zd,A45,D6 (n:=(x:Int)) (by omega),ge_iff_le,nd97,nd122,nd48,nd57,nz0,n46]
   unfold bad D6o
   rw[hx]
   generalize decide (97≤x)=b1
   generalize decide (x≤122)=b2
   generalize decide (48≤x)=b3
   generalize decide (x≤57)=b4
   generalize (x==46)=b5
   generalize (i==0)=b6
   cases b1 <;> cases b2 <;> cases b3 <;> cases b4 <;> cases b5 <;> cases b6 <;> rfl
  ·unfold A3k
   rw[if_neg (by simp)]
 rw[hl]
 cases hf:first (bad s) s.size with
 | none =>
  have:=L7.mp hf
  rw[L7.mpr fun i hi=>by rw[this i hi];rfl]
  have e1:(s.size==0)=false:= by rw[beq_eq_false_iff_ne];exact h0
  have e2:decide (s.size≤16)=true:=decide_eq_true (by omega)
  rw[e1,e2];rfl
 | some u =>
  obtain⟨i,hi,h2,h3⟩:=W3 hf
  rw[A9y (r:=.inl false) hi (by rw[h2];rfl) fun j hj=>by rw[h3 j hj];rfl]
  simp
theorem B39 (s:ByteArray) (hs:s.size<9223372036854775808):A5p s=some (A5q s):= by
 unfold A5p A5q
 have hl:loop (A3b s) (0:Nat)=some ((first (fun i=>(bad s i).map fun _=>(Z42 false:Bool⊕Nat)) s.size).getD (.inr s.size)):= by
  refine B3m (fun i=>i) s.size _ _ hs ?_ ?_
  ·intro i hi _
   unfold A3b
   rw[if_pos (by simpa using hi)]
   unfold bad D6o
   rw[getElem!_pos s i hi]
   by_cases ha:(s[i]'hi).toNat<128
   ·rw[decode_ascii s i hi ha]
    generalize (s[i]'hi).toNat=x at ha ⊢
    simp only[nd97,nd122,gt_iff_lt,nl48,nl57,nz0,n46',bne]
    generalize decide (97≤x)=b1
    generalize decide (x≤122)=b2
    generalize decide (48≤x)=b3
    generalize decide (x≤57)=b4
    generalize (x==46)=b5
    generalize (i==0)=b6
    cases b1 <;> cases b2 <;> cases b3 <;> cases b4 <;> cases b5 <;> cases b6 <;> rfl
   ·have hd:=(decode_high s i hi (by omega)).1
    generalize (Utf8.decode s i).1=y at hd ⊢
    generalize (s[i]'hi).toNat=x at ha ⊢
    rw[if_pos (by simp;omega)]
    have e1:decide (x≤122)=false:= by simp;omega
    have e2:decide (x≤57)=false:= by simp;omega
    have e3:(x==46)=false:= by simp;omega
    simp[e1,e2,e3]
  ·intro _
   unfold A3b
   rw[if_neg (by simp)]
 rw[hl]
 have he:eqS s (ByteArray.mk #[])=(s.size==0):= by
  unfold eqS
  cases hz:s.data.toList with
  | nil =>
   have:s.size=0:= by show s.data.size=0;rw[← Z0i,hz];rfl
   rw[this];rfl
  | cons a t =>
   have:s.size=t.length+1:= by show s.data.size=_;rw[← Z0i,hz];rfl
   rw[this];rfl
 cases hf:first (bad s) s.size with
 | none =>
  have:=L7.mp hf
  rw[L7.mpr fun i hi=>by rw[this i hi];rfl]
  have e2:decide ((s.size:Int)≤16)=decide (s.size≤16):=decide_eq_decide.mpr (by omega)
  simp[he,e2]
 | some u =>
  obtain⟨i,hi,h2,h3⟩:=W3 hf
  rw[A9y (r:=.inl false) hi (by rw[h2];rfl) fun j hj=>by rw[h3 j hj];rfl]
  simp
theorem C4k {α:Type} [Inhabited α] (l:List α) (p:α→Bool):(first (fun i=>if p l[i]! then some (i:Int) else none) l.length).isSome=l.any p:= by
 cases hf:first (fun i=>if p l[i]! then some (i:Int) else none) l.length with
 | none =>
  have h0:=L7.mp hf
  cases ha:l.any p with
  | false=>rfl
  | true =>
   rw[Z2m]at ha
   obtain⟨x,hx,hp⟩:=ha
   obtain⟨i,hi,e⟩:=ZX.mp hx
   have:=h0 i hi
   rw[getElem!_pos l i hi,e,hp]at this
   exact absurd this (by simp)
 | some r =>
  obtain⟨i,hi,h1,_⟩:=W3 hf
  rw[getElem!_pos l i hi]at h1
  cases hp:p l[i] with
  | false=>rw[hp]at h1;exact absurd h1 (by simp)
  | true=>exact(Z2m.mpr ⟨l[i],Z22 hi,hp⟩).symm
theorem C4w {α:Type} [Inhabited α] (l:List α) (p:α→Bool) {b:Int→Option (Int⊕(Int⊕Unit))} (hl:l.length<9223372036854775808)
  (hb:∀i:Nat,i<l.length→b i=some (if p l[i]! then .inr (.inl (i:Int)) else .inl (w64 ((i:Int)+1)))) (he:b l.length=some (.inr (.inr ()))) :
  ∃ o,loop b 0=some o∧(match o with|.inl i=>0≤i∧l.any p=true|.inr _=>l.any p=false):= by
 have h:=A8z (b:=b) l.length (fun i=>if p l[i]! then some (.inl (i:Int)) else none) (.inr ()) hl (fun i hi _=>by
  rw[hb i hi];cases p l[i]! <;> rfl) he
 refine⟨_,h,?_⟩
 have ha:=C4k l p
 cases hf:first (fun i=>if p l[i]! then some (Z42 (i:Int):Int⊕Unit) else none) l.length with
 | none =>
  have h0:=L7.mp hf
  rw[L7.mpr fun i hi=>by
   have:=h0 i hi
   cases hp:p l[i]! with
   | false=>rfl
   | true=>rw[hp]at this;exact absurd this (by simp)]at ha
  simpa using ha.symm
 | some r =>
  obtain⟨i,hi,h1,h2⟩:=W3 hf
  cases hp:p l[i]! with
  | false=>rw[hp]at h1;exact absurd h1 (by simp)
  | true =>
   rw[hp]at h1
   have h1:some (Z42 (i:Int))=some r:=h1
   obtain rfl:=Z0b h1
   refine⟨Z0v i,?_⟩
   rw[A9y (r:=(i:Int)) hi (by rw[hp];rfl) fun j hj=>by
    have:=h2 j hj
    cases hq:p l[j]! with
    | false=>rfl
    | true=>rw[hq]at this;exact absurd this (by simp)]at ha
   exact ha.symm
theorem A62 {α:Type} [Inhabited α] (l:List α) (g:α→Option Bool) (p:α→Bool) {b:Int→Option (Int⊕(Int⊕Unit))} {F:Option Bool} (hl:l.length<9223372036854775808) (hg:∀x∈l,g x=some (p x))
  (hb:∀i:Int,b i=if decide (i<l.length)=true then (idx l i).bind fun x=>(g x).bind fun y=>if y=true then some (.inr (.inl i)) else some (.inl (w64 (i+1))) else some (.inr (.inr ())))
  (hF:F=((loop b 0).bind fun o=>match o with|.inl v=>some v|.inr _=>some (-1)).bind fun x=>some (decide (x≥0))):F=some (l.any p):= by
 obtain⟨o,ho,hc⟩:=C4w l p (b:=b) hl (fun i hi=>by
  rw[hb,if_pos (by simpa using hi),G9 hi]
  simp only[Zd]
  rw[hg _ (by rw[getElem!_pos l i hi];exact Z22 hi)]
  simp only[Zd]
  cases p l[i]! <;> rfl) (by
  rw[hb,if_neg (by simp)])
 rw[hF,ho]
 rcases o with i|u
 ·simp only[Zd]
  rw[hc.2,decide_eq_true hc.1]
 ·simp only[Zd]
  rw[hc];rfl
theorem C6m (l:List Int) (g:Int→Option Bool) (p:Int→Bool) (hl:l.length<9223372036854775808) (hg:∀x∈l,g x=some (p x)):Q4 l g=some (l.any p) :=
 A62 l g p (b:=V4 l g) hl hg (fun _=>rfl) Z
theorem C3s (l:List PaGown) (g:PaGown→Option Bool) (p:PaGown→Bool) (hl:l.length<9223372036854775808) (hg:∀x∈l,g x=some (p x)):K4 l g=some (l.any p) :=
 A62 l g p (b:=M7 l g) hl hg (fun _=>rfl) Z
theorem B9s (l:List PaFigure) (g:PaFigure→Option Bool) (p:PaFigure→Bool) (hl:l.length<9223372036854775808) (hg:∀x∈l,g x=some (p x)):J4 l g=some (l.any p) :=
 A62 l g p (b:=L9 l g) hl hg (fun _=>rfl) Z
def out (lo hi x:Int):Bool:=decide (x<lo)||decide (x>hi)
theorem B45 (lo hi:Int) (l:List Int) (hl:l.length<9223372036854775808):G3 lo hi l=some (l.any (out lo hi)):= by
 unfold G3
 exact(congrArg (Option.bind · some) (C6m l (fun y=>A15 y lo hi) (out lo hi) hl fun x _=>rfl)).trans Z
theorem out1 (lo hi x:Int):G3 lo hi [x]=some (out lo hi x):= by
 rw[B45 lo hi [x] (by simp)];simp
theorem out2 (lo hi x y:Int):G3 lo hi [x,y]=some (out lo hi x||out lo hi y):= by
 rw[B45 lo hi [x,y] (by simp)];simp
theorem A5l (lo hi x:Int):N7 x lo hi=some (!out lo hi x):= by
 unfold N7 out
 rw[Z4h,Z0c];simp
def P5 (s:ByteArray) (l:List ByteArray):Int:=if A5q s then (if l.any (fun y=>eqS y s) then 5 else 0) else 6
instance:Inhabited ByteArray:=⟨ByteArray.empty⟩
theorem B6p (s:ByteArray) (l:List ByteArray) (hl:l.length<9223372036854775808):A7n s l=some (P5 s l):= by
 unfold A7n P5
 rw[C4a]
 cases A5q s
 ·rfl
 ·simp only[Zd]
  unfold A84
  obtain⟨o,ho,hc⟩:=C4w l (fun y=>eqS y s) (b:=A16 l s) hl (fun i hi=>by
   unfold A16
   rw[if_pos (by simpa using hi),G9 hi]
   simp only[Zd]
   cases eqS l[i]! s <;> rfl) (by
   unfold A16
   rw[if_neg (by simp)])
  rw[ho]
  rcases o with i|u
  ·simp only[Zd]
   rw[hc.2,decide_eq_true hc.1];rfl
  ·simp only[Zd]
   rw[hc];rfl
def wrong (f:Nat→Int) (n:Nat):Option (Int×Int):=first (fun i=>if f i==0 then none else some ((i:Int),f i)) n
theorem A8n {f:Nat→Int} {n:Nat} {x:Int×Int} (h:wrong f n=some x):(x.2 != 0)=true:= by
 obtain⟨i,_,h1,_⟩:=W3 h
 cases hb:f i==0 with
 | true=>rw[hb]at h1;exact absurd h1 (by simp)
 | false =>
  rw[hb]at h1
  have h1:some ((i:Int),f i)=some x:=h1
  rw[← Z0b h1]
  show (f i != 0)=true
  rw[bne,hb];rfl
theorem P6 {lo hi x:Int}:out lo hi x=false↔lo≤x∧x≤hi:= by
 unfold out
 rw[Z2j,decide_eq_false_iff_not,decide_eq_false_iff_not]
 omega
theorem A5o {ρ:Type} {b:Int→Option (Int⊕ρ)} (n:Nat) (f:Nat→Int) (k:Int×Int→ρ) (z:ρ) (hn:n<9223372036854775808)
  (hs:∀i:Nat,i<n→b (i:Int)=some (if f i==0 then .inl (w64 ((i:Int)+1)) else .inr (k ((i:Int),f i))))
  (he:b (n:Int)=some (.inr z)) :
  loop b 0=some (match wrong f n with|some x=>k x|none=>z):= by
 rw[A8z n (fun i=>if f i==0 then none else some (k ((i:Int),f i))) z hn (fun i hi _=>by rw[hs i hi];cases f i==0 <;> rfl) he]
 unfold wrong
 cases hf:first (fun i=>if f i==0 then none else some ((i:Int),f i)) n with
 | none =>
  have h0:=L7.mp hf
  rw[L7.mpr fun i hi=>by
   have:=h0 i hi
   cases hb:f i==0 with
   | true=>rfl
   | false=>rw[hb]at this;exact absurd this (by simp)]
  rfl
 | some x =>
  obtain⟨i,hi,h1,h2⟩:=W3 hf
  rw[A9y (r:=k x) hi (by
   cases hb:f i==0 with
   | true=>rw[hb]at h1;exact absurd h1 (by simp)
   | false =>
    rw[hb]at h1
    have h1:some ((i:Int),f i)=some x:=h1
    rw[← Z0b h1];rfl) fun j hj=>by
   have:=h2 j hj
   cases hb:f j==0 with
   | true=>rfl
   | false=>rw[hb]at this;exact absurd this (by simp)]
  rfl
theorem J1 {α:Type} [Inhabited α] {l:List α} {i:Nat} (h:i<l.length):l[i]! ∈ l:= by
 rw[getElem!_pos l i h];exact Z22 h
theorem B8k {α β:Type} [Inhabited α] (k:α→β) {l:List α} {i:Nat} (h:i<l.length):(l.take i).map k++[k l[i]!]=(l.take (i+1)).map k:= by
 rw[ZM h,getElem!_pos l i h,List.map_append];rfl
theorem D2q {f:Nat→Int} {n:Nat} (h:wrong f n=none):∀i,i<n→f i=0:= by
 intro i hi
 have:=L7.mp h i hi
 by_cases c:f i=0
 ·exact c
 ·have e:(f i==0)=false:=beq_eq_false_iff_ne.mpr c
  rw[e]at this;exact absurd this (by simp)
def gOk (g:PaGown):Bool :=
 !out 0 15 g.Looks&&(if g.Pawn then !out 0 5000 g.Loan&&(!out 0 500 g.Rate&&(!out 0 100 g.Fee&&(!out 0 364 g.Ago&&!out 0 364 g.Last)))
  else g.Loan==0&&(g.Rate==0&&(g.Fee==0&&(g.Ago==0&&g.Last==0))))
theorem out00 (x:Int):out 0 0 x = !(x==0):= by
 unfold out
 rw[Z0c];simp;omega
theorem D9t (g:PaGown):A75 g=some (!gOk g):= by
 unfold A75 gOk
 cases hp:g.Pawn
 ·simp only[out1,Zd,Bool.not_false,if_true,Zj,if_false]
  rw[B45 _ _ _ (by simp)]
  simp only[List.any_cons,List.any_nil,out00,Zd,Z4w]
  generalize out 0 15 g.Looks=b0
  generalize (g.Loan==0)=b1
  generalize (g.Rate==0)=b2
  generalize (g.Fee==0)=b3
  generalize (g.Ago==0)=b4
  generalize (g.Last==0)=b5
  cases b0 <;> cases b1 <;> cases b2 <;> cases b3 <;> cases b4 <;> cases b5 <;> rfl
 ·simp only[out1,out2,Zd,Z0y,Zj,if_false,if_true]
  generalize out 0 15 g.Looks=b0
  generalize out 0 5000 g.Loan=b1
  generalize out 0 500 g.Rate=b2
  generalize out 0 100 g.Fee=b3
  generalize out 0 364 g.Ago=b4
  generalize out 0 364 g.Last=b5
  cases b0 <;> cases b1 <;> cases b2 <;> cases b3 <;> cases b4 <;> cases b5 <;> rfl
theorem C96 (g:PaGown):A8c g=some (gOk g):= by
 unfold A8c gOk
 simp only[A5l,Zd,Z3k]
 cases hp:g.Pawn
 ·generalize out 0 15 g.Looks=b0
  generalize (g.Loan==0)=b1
  generalize (g.Rate==0)=b2
  generalize (g.Fee==0)=b3
  generalize (g.Ago==0)=b4
  generalize (g.Last==0)=b5
  cases b0 <;> cases b1 <;> cases b2 <;> cases b3 <;> cases b4 <;> cases b5 <;> rfl
 ·generalize out 0 15 g.Looks=b0
  generalize out 0 5000 g.Loan=b1
  generalize out 0 500 g.Rate=b2
  generalize out 0 100 g.Fee=b3
  generalize out 0 364 g.Ago=b4
  generalize out 0 364 g.Last=b5
  cases b0 <;> cases b1 <;> cases b2 <;> cases b3 <;> cases b4 <;> cases b5 <;> rfl
def fC (f:PaFigure):Int:=if out 0 364 f.Day||(out 0 364 f.Until||out 0 15 f.Needs) then 7 else if f.Day>f.Until then 2 else 0
theorem C4d (f:PaFigure):A5a f=some (fC f):= by
 unfold A5a fC
 simp only[A5l,Zd,Z3k]
 generalize out 0 364 f.Day=b1
 generalize out 0 364 f.Until=b2
 generalize out 0 15 f.Needs=b3
 by_cases hd:f.Day>f.Until <;> cases b1 <;> cases b2 <;> cases b3 <;> simp[hd]
def B16 (l:List PaGown) (i:Nat):Int:=if P5 l[i]!.Name ((l.take i).map (·.Name))=0 then (if gOk l[i]! then 0 else 7) else P5 l[i]!.Name ((l.take i).map (·.Name))
def B12 (l:List PaFigure) (i:Nat):Int:=if P5 l[i]!.Name ((l.take i).map (·.Name))=0 then fC l[i]! else P5 l[i]!.Name ((l.take i).map (·.Name))
def B2b (l:List PaIncome) (i:Nat):Int:=if out 0 364 l[i]!.Day||out 0 10000 l[i]!.Pence then 7 else 0
def chk (s:PaShow):Int×Int×Int :=
 if s.Gowns.length>5 then (1,0,3) else
 match wrong (B16 s.Gowns) s.Gowns.length with
 | some x=>(1,x)
 | none =>
  if s.Figures.length>3 then (2,0,3) else
  match wrong (B12 s.Figures) s.Figures.length with
  | some x=>(2,x)
  | none =>
   if out 0 10000 s.Purse then (3,0,7) else
   if s.Incomes.length>3 then (4,0,3) else
   match wrong (B2b s.Incomes) s.Incomes.length with
   | some x=>(4,x)
   | none=>(0,0,0)
def NB (s:PaShow):Prop:=(∀ v∈s.Gowns,v.Name.size<9223372036854775808)∧(∀ v∈s.Figures,v.Name.size<9223372036854775808)
theorem C2a (s:ByteArray) (l:List ByteArray):P5 s l=if A5q s then (if l.any (fun y=>eqS y s) then 5 else 0) else 6:=rfl
theorem D1w {l:List PaGown} {i:Nat} (hi:i<l.length) (hl:l.length≤100) (hb:∀v∈l,v.Name.size<9223372036854775808) :
  R9 l (i:Int) (fun y=>A2q y)=some (P5 l[i]!.Name ((l.take i).map (·.Name))):= by
 unfold R9
 rw[G9 hi]
 simp only[Zd,A2q]
 rw[B39 _ (hb _ (J1 hi))]
 simp only[Zd]
 rw[C2a]
 cases A5q l[i]!.Name with
 | false=>rfl
 | true =>
  rw[B6z (Z46 hi)]
  simp only[Zd,Z0y,Zj,if_false]
  rw[C3s _ _ (fun y=>eqS y.Name l[i]!.Name) (by rw[ZD];omega) (fun x _=>by unfold Q3;rw[G9 hi];rfl),Z54]
  rw[show ((fun y=>eqS y l[i]!.Name)∘fun (x:PaGown)=>x.Name)=(fun (y:PaGown)=>eqS y.Name l[i]!.Name) from Z]
  cases (l.take i).any (fun (y:PaGown)=>eqS y.Name l[i]!.Name) <;> rfl
theorem C7a {l:List PaFigure} {i:Nat} (hi:i<l.length) (hl:l.length≤100) (hb:∀v∈l,v.Name.size<9223372036854775808) :
  Q2 l (i:Int) (fun y=>A2r y)=some (P5 l[i]!.Name ((l.take i).map (·.Name))):= by
 unfold Q2
 rw[G9 hi]
 simp only[Zd,A2r]
 rw[B39 _ (hb _ (J1 hi))]
 simp only[Zd]
 rw[C2a]
 cases A5q l[i]!.Name with
 | false=>rfl
 | true =>
  rw[B6z (Z46 hi)]
  simp only[Zd,Z0y,Zj,if_false]
  rw[B9s _ _ (fun y=>eqS y.Name l[i]!.Name) (by rw[ZD];omega) (fun x _=>by unfold O8;rw[G9 hi];rfl),Z54]
  rw[show ((fun y=>eqS y l[i]!.Name)∘fun (x:PaFigure)=>x.Name)=(fun (y:PaFigure)=>eqS y.Name l[i]!.Name) from Z]
  cases (l.take i).any (fun (y:PaFigure)=>eqS y.Name l[i]!.Name) <;> rfl
theorem C7u (s:PaShow) (hb:NB s):A36 s=some (chk s):= by
 unfold A36 chk
 by_cases h1:s.Gowns.length>5
 ·rw[if_pos (by simp;omega),if_pos h1]
 rw[if_neg (by simp;omega),if_neg h1]
 rw[A5o (b:=A3e s) s.Gowns.length (B16 s.Gowns) (fun x=>.inl (1,x)) (.inr ()) (by omega) (fun i hi=>by
  unfold A3e B16
  rw[if_pos (by simpa using hi),G9 hi]
  simp only[Zd]
  rw[D1w hi (by omega) hb.1,D9t]
  simp only[Zd]
  generalize P5 s.Gowns[i]!.Name ((s.Gowns.take i).map (·.Name))=z
  by_cases hz:z=0
  ·subst hz
   cases gOk s.Gowns[i]! <;> rfl
  ·have e1:(z==0)=false:=beq_eq_false_iff_ne.mpr hz
   have e2:(z != 0)=true:= by simpa using hz
   simp only[e1,e2,hz,Zj,if_false,if_true,Zd]) (by
  unfold A3e
  rw[if_neg (by simp)])]
 simp only[Zd]
 cases hw:wrong (B16 s.Gowns) s.Gowns.length with
 | some x=>rfl
 | none =>
  simp only
  by_cases h2:s.Figures.length>3
  ·rw[if_pos (by simp;omega),if_pos h2]
  rw[if_neg (by simp;omega),if_neg h2]
  rw[A5o (b:=A3f s) s.Figures.length (B12 s.Figures) (fun x=>.inl (2,x)) (.inr ()) (by omega) (fun i hi=>by
   unfold A3f B12
   rw[if_pos (by simpa using hi),G9 hi]
   simp only[Zd]
   rw[C7a hi (by omega) hb.2]
   simp only[Zd,out1,out2]
   generalize P5 s.Figures[i]!.Name ((s.Figures.take i).map (·.Name))=z
   by_cases hz:z=0
   ·subst hz
    unfold fC
    generalize s.Figures[i]! = f
    generalize out 0 364 f.Day=b1
    generalize out 0 364 f.Until=b2
    generalize out 0 15 f.Needs=b3
    by_cases hd:f.Until<f.Day
    ·cases b1 <;> cases b2 <;> cases b3 <;> simp[hd]
    ·cases b1 <;> cases b2 <;> cases b3 <;> simp[hd]
   ·have e1:(z==0)=false:=beq_eq_false_iff_ne.mpr hz
    have e2:(z != 0)=true:= by simpa using hz
    simp only[e1,e2,hz,Zj,if_false,if_true]) (by
   unfold A3f
   rw[if_neg (by simp)])]
  simp only[Zd]
  cases hw2:wrong (B12 s.Figures) s.Figures.length with
  | some x=>rfl
  | none =>
   simp only[out1,Zd]
   cases out 0 10000 s.Purse with
   | true=>rfl
   | false =>
    simp only[Zj,if_false]
    by_cases h3:s.Incomes.length>3
    ·rw[if_pos (by simp;omega),if_pos h3]
    rw[if_neg (by simp;omega),if_neg h3]
    rw[A5o (b:=A3g s) s.Incomes.length (B2b s.Incomes) (fun x=>.inl (4,x)) (.inr ()) (by omega) (fun i hi=>by
     unfold A3g B2b
     rw[if_pos (by simpa using hi),G9 hi]
     simp only[Zd,out1]
     generalize out 0 364 s.Incomes[i]!.Day=b1
     generalize out 0 10000 s.Incomes[i]!.Pence=b2
     cases b1 <;> cases b2 <;> rfl) (by
     unfold A3g
     rw[if_neg (by simp)])]
    simp only[Zd]
    cases wrong (B2b s.Incomes) s.Incomes.length <;> rfl
theorem C14 {α ρ:Type} [Inhabited α] (l:List α) (nm:α→ByteArray) (f:Nat→Int) (k:Int×Int→ρ) {b:Int×List ByteArray→Option ((Int×List ByteArray)⊕(ρ⊕List ByteArray))} (hl:l.length≤100)
  (hs:∀i:Nat,i<l.length→b ((i:Int),(l.take i).map nm)=some (if f i==0 then .inl (w64 ((i:Int)+1),(l.take (i+1)).map nm) else .inr (.inl (k ((i:Int),f i)))))
  (he:b ((l.length:Int),l.map nm)=some (.inr (.inr (l.map nm)))) :
  loop b (0,[])=some (match wrong f l.length with|some x=>.inl (k x)|none=>.inr (l.map nm)):= by
 have:=B3m (b:=b) (fun i=>((i:Int),(l.take i).map nm)) l.length (fun i=>if f i==0 then none else some (.inl (k ((i:Int),f i)))) (.inr (l.map nm)) (by omega) (fun i hi _=>by
  rw[hs i hi,D6 (by omega)]
  cases f i==0 <;> rfl) (fun _=>by
  rw[Z0n];exact he)
 rw[show ((0:Int),([]:List ByteArray))=(((0:Nat):Int),(l.take 0).map nm) from Z,this]
 unfold wrong
 cases hf:first (fun i=>if f i==0 then none else some ((i:Int),f i)) l.length with
 | none =>
  rw[L7.mpr fun i hi=>by
   have:=L7.mp hf i hi
   cases hb:f i==0 with
   | true=>rfl
   | false=>rw[hb]at this;exact absurd this (by simp)]
  rfl
 | some x =>
  obtain⟨i,hi,h1,h2⟩:=W3 hf
  rw[A9y (r:=(.inl (k x):ρ⊕List ByteArray)) hi (by
   cases hb:f i==0 with
   | true=>rw[hb]at h1;exact absurd h1 (by simp)
   | false=>rw[hb]at h1;have h1:some ((i:Int),_)=some x:=h1;rw[← Z0b h1];rfl) fun j hj=>by
   have:=h2 j hj
   cases hb:f j==0 with
   | true=>rfl
   | false=>rw[hb]at this;exact absurd this (by simp)]
  rfl
theorem A01 (s:PaShow):V7 s=some (chk s):= by
 unfold V7 chk
 by_cases h1:s.Gowns.length>5
 ·rw[if_pos (by simp;omega),if_pos h1]
 rw[if_neg (by simp;omega),if_neg h1]
 rw[C14 (b:=A18 s) s.Gowns (·.Name) (B16 s.Gowns) (fun x=>(1,x)) (by omega) (fun i hi=>by
  unfold A18 B16
  simp only[]
  rw[if_pos (by simpa using hi),G9 hi]
  simp only[Zd]
  rw[B6p _ _ (by rw[Zi,ZD];omega),C96,A0p (by omega) (by rw[Zi,ZD];simp;omega),B8k (fun x:PaGown=>x.Name) hi]
  simp only[Zd]
  generalize P5 s.Gowns[i]!.Name ((s.Gowns.take i).map (·.Name))=z
  by_cases hz:z=0
  ·subst hz
   cases gOk s.Gowns[i]! <;> rfl
  ·have e1:(z==0)=false:=beq_eq_false_iff_ne.mpr hz
   have e2:(z != 0)=true:= by simpa using hz
   simp only[e1,e2,hz,Zj,if_false,if_true,Zd]) (by
  unfold A18
  rw[if_neg (by simp)])]
 simp only[Zd]
 cases hw:wrong (B16 s.Gowns) s.Gowns.length with
 | some x=>rfl
 | none =>
  simp only
  by_cases h2:s.Figures.length>3
  ·rw[if_pos (by simp;omega),if_pos h2]
  rw[if_neg (by simp;omega),if_neg h2]
  rw[C14 (b:=A19 s) s.Figures (·.Name) (B12 s.Figures) (fun x=>(2,x)) (by omega) (fun i hi=>by
   unfold A19 B12
   simp only[]
   rw[if_pos (by simpa using hi),G9 hi]
   simp only[Zd]
   rw[B6p _ _ (by rw[Zi,ZD];omega),C4d,A0p (by omega) (by rw[Zi,ZD];simp;omega),B8k (fun x:PaFigure=>x.Name) hi]
   simp only[Zd]
   generalize P5 s.Figures[i]!.Name ((s.Figures.take i).map (·.Name))=z
   by_cases hz:z=0
   ·subst hz
    generalize fC s.Figures[i]! = y
    by_cases hy:y=0
    ·subst hy;rfl
    ·have e1:(y==0)=false:=beq_eq_false_iff_ne.mpr hy
     have e2:(y != 0)=true:= by simpa using hy
     simp[e1,e2]
   ·have e1:(z==0)=false:=beq_eq_false_iff_ne.mpr hz
    have e2:(z != 0)=true:= by simpa using hz
    simp only[e1,e2,hz,Zj,if_false,if_true]) (by
   unfold A19
   rw[if_neg (by simp)])]
  simp only[Zd]
  cases hw2:wrong (B12 s.Figures) s.Figures.length with
  | some x=>rfl
  | none =>
   simp only[A5l,Zd,Z3k]
   cases out 0 10000 s.Purse with
   | true=>rfl
   | false =>
    simp only[Zj,if_false]
    by_cases h3:s.Incomes.length>3
    ·rw[if_pos (by simp;omega),if_pos h3]
    rw[if_neg (by simp;omega),if_neg h3]
    rw[A5o (b:=A2a s) s.Incomes.length (B2b s.Incomes) (fun x=>.inl (4,x)) (.inr ()) (by omega) (fun i hi=>by
     unfold A2a B2b
     rw[if_pos (by simpa using hi),G9 hi]
     simp only[Zd,A5l,Z3k]
     generalize out 0 364 s.Incomes[i]!.Day=b1
     generalize out 0 10000 s.Incomes[i]!.Pence=b2
     cases b1 <;> cases b2 <;> rfl) (by
     unfold A2a
     rw[if_neg (by simp)])]
    simp only[Zd]
    cases wrong (B2b s.Incomes) s.Incomes.length <;> rfl
end Pw
end
section
set_option maxRecDepth 100000
set_option maxHeartbeats 0
namespace Pw
open Go Am Go.Proofs.YtjpjdglddmhplaaGreat.Cd
def A26 (a0:Int):Option Bool :=
 some (a0 != a0)
theorem A99 {c:Sc} {H:A2} {a0:Int} {r:Bool} (h:A26 a0=some r) :
  F0 tab c H (.fn (.func 137) [] []) [.i a0] [.b r]:= by
 unfold A26 at h
 refine cE Z Z<|s0<|qm Z<|es (ra1 Z)<|s0<|qm Z<|qm Z<|A0 (H9 Z Z) Z<|qm Z<|es (ra1 Z)<|C6 ?_
 obtain rfl:=os h
 exact retq trivial (A8 Z B6) (A5 Z B5) (A3 A4 B1)
def A4r (a0:Int) (a1:Int):Option Bool :=
 (A26 a0).bind fun x1 =>
 (if x1=true then
  (A26 a1).bind fun x3 =>
  some (!x3)
 else
  some false).bind fun x4 =>
 some (x4||(decide (a0<a1)))
theorem B9u {c:Sc} {H:A2} {a0:Int} {a1:Int} {r:Bool} (h:A4r a0 a1=some r) :
  F0 tab c H (.fn (.func 127) [] []) [.i a0,.i a1] [.b r]:= by
 unfold A4r at h
 refine cE Z Z<|s0<|qm Z<|es (ra2 Z Z)<|s0<|oB h fun x1 hx1 h=>oB h fun x4 hx4 h=>qm Z<|B2 (rs:=[.b x1]) Z Z (A1 Z B3) ((A99 hx1).frz)<|qm Z<|gp 4 11 (.b x4) 7 Z Z (fun hg2=>?_) (fun hg2=>?_) ?_
 ·refine oB (bt hx4 hg2) fun x3 hx3 hx4=>?_
  obtain rfl:=os hx4
  exact gT Z hg2<|qm Z<|gT Z hg2<|B2 (rs:=[.b x3]) Z Z (A1 Z B3) ((A99 hx3).frz)<|gT Z hg2<|A0 (M9 Z) Z<|A0 (C1 Z hg2 Z) Z<|ge 4 Z Z Z
 ·obtain rfl:=os (bf hx4 hg2)
  exact nT Z hg2 Z<|G4 (D2 Z (by rw[hg2];rfl)) Z<|nT Z hg2 Z<|A0 (C0 Z hg2 Z) Z<|ge 4 Z Z Z
 refine qm Z<|gp 4 16 (.b (x4||(decide (a0<a1)))) 12 Z Z (fun hg5=>?_) (fun hg5=>?_) ?_
 ·exact nF Z hg5 Z<|nF Z hg5 Z<|nF Z hg5 Z<|A0 (C1 Z hg5 Z) Z<|ge 4 (by rw[hg5];rfl) Z Z
 ·exact gF Z hg5<|qm Z<|gF Z hg5<|qm Z<|gF Z hg5<|A0 (I3 Z Z) Z<|A0 (C0 Z hg5 Z) Z<|ge 4 (by rw[hg5];rfl) Z Z
 refine qm Z<|es (ra1 Z)<|C6 ?_
 obtain rfl:=os h
 exact retq trivial (A8 Z B6) (A5 Z B5) (A3 A4 B1)
def A6v (a0:Int):Option Int :=
 (if (decide (a0≥4294967296))=true then
  (D9f .u64 a0 32).bind fun x3 =>
  some (x3,32)
  else
  some (a0,0)).bind fun (p1:(Int×Int)) =>
 (if (decide (p1.1≥65536))=true then
  (D9f .u64 p1.1 16).bind fun x6 =>
  some (x6,(w64 (p1.2+16)))
  else
  some (p1.1,p1.2)).bind fun (p4:(Int×Int)) =>
 if (decide (p4.1≥256))=true then
  (D9f .u64 p4.1 8).bind fun x8 =>
  (B61 (ByteArray.mk #[0,1,2,2,3,3,3,3,4,4,4,4,4,4,4,4,5,5,5,5,5,5,5,5,5,5,5,5,5,5,5,5,6,6,6,6,6,6,6,6,6,6,6,6,6,6,6,6,6,6,6,6,6,6,6,6,6,6,6,6,6,6,6,6,7,7,7,7,7,7,7,7,7,7,7,7,7,7,7,7,7,7,7,7,7,7,7,7,7,7,7,7,7,7,7,7,7,7,7,7,7,7,7,7,7,7,7,7,7,7,7,7,7,7,7,7,7,7,7,7,7,7,7,7,7,7,7,7,8,8,8,8,8,8,8,8,8,8,8,8,8,8,8,8,8,8,8,8,8,8,8,8,8,8,8,8,8,8,8,8,8,8,8,8,8,8,8,8,8,8,8,8,8,8,8,8,8,8,8,8,8,8,8,8,8,8,8,8,8,8,8,8,8,8,8,8,8,8,8,8,8,8,8,8,8,8,8,8,8,8,8,8,8,8,8,8,8,8,8,8,8,8,8,8,8,8,8,8,8,8,8,8,8,8,8,8,8,8,8,8,8,8,8,8,8,8,8,8,8,8,8,8,8,8,8,8]) (IntKind.u8.wrap x8)).bind fun x9 =>
  some (w64 ((w64 (p4.2+8))+(w64 x9)))
 else
  (B61 (ByteArray.mk #[0,1,2,2,3,3,3,3,4,4,4,4,4,4,4,4,5,5,5,5,5,5,5,5,5,5,5,5,5,5,5,5,6,6,6,6,6,6,6,6,6,6,6,6,6,6,6,6,6,6,6,6,6,6,6,6,6,6,6,6,6,6,6,6,7,7,7,7,7,7,7,7,7,7,7,7,7,7,7,7,7,7,7,7,7,7,7,7,7,7,7,7,7,7,7,7,7,7,7,7,7,7,7,7,7,7,7,7,7,7,7,7,7,7,7,7,7,7,7,7,7,7,7,7,7,7,7,7,8,8,8,8,8,8,8,8,8,8,8,8,8,8,8,8,8,8,8,8,8,8,8,8,8,8,8,8,8,8,8,8,8,8,8,8,8,8,8,8,8,8,8,8,8,8,8,8,8,8,8,8,8,8,8,8,8,8,8,8,8,8,8,8,8,8,8,8,8,8,8,8,8,8,8,8,8,8,8,8,8,8,8,8,8,8,8,8,8,8,8,8,8,8,8,8,8,8,8,8,8,8,8,8,8,8,8,8,8,8,8,8,8,8,8,8,8,8,8,8,8,8,8,8,8,8,8,8]) (IntKind.u8.wrap p4.1)).bind fun x10 =>
  some (w64 (p4.2+(w64 x10)))
theorem B40 {c:Sc} {H:A2} {a0:Int} {r:Int} (h:A6v a0=some r) :
  F0 tab c H (.fn (.func 131) [] []) [(.lit (.int .u64 a0))] [.i r]:= by
 unfold A6v at h
 refine cE Z Z<|s0<|qm Z<|es (ra2 Z Z)<|B9<|s0<|qm Z<|A0 (A8p Z Z) Z<|es (ra3 Z Z Z)<|oB h fun p1 hp1 h=>A59 (Q1:=fun e s' H'=>e=.normal∧s'=[(0,(.lit (.int .u64 p1.1))),(2,.i p1.2)]∧H'=(H++[])) ?_ ?_
 ·refine wi hp1 Z (fun hc2 hp1=>?_) fun hc2 hp1=>?_
  ·refine s0<|oB hp1 fun x3 hx3 hp1=>qm Z<|A0 (D8l Z Z hx3) Z<|qm Z<|es (ra1 Z)<|r0<|qm Z<|en (ra2 Z Z) ?_
   obtain rfl:=os hp1
   exact me (ZE Z (ZE Z Z)) (su2 Z Z)
  ·refine B8 ?_
   obtain rfl:=os hp1
   exact me (ZE Z (ZE Z Z)) (su2 Z Z)
 ·rintro e s' H' ⟨rfl,rfl,rfl⟩
  refine B9<|s0<|qm Z<|A0 (A8p Z Z) Z<|es (ra3 Z Z Z)<|oB h fun p4 hp4 h=>A59 (Q1:=fun e s' H'=>e=.normal∧s'=[(0,(.lit (.int .u64 p4.1))),(2,.i p4.2)]∧H'=(H++[])) ?_ ?_
  ·refine wi hp4 Z (fun hc5 hp4=>?_) fun hc5 hp4=>?_
   ·refine s0<|oB hp4 fun x6 hx6 hp4=>qm Z<|A0 (D8l Z Z hx6) Z<|qm Z<|es (ra2 Z Z)<|r0<|qm Z<|A0 (D8 Z Z) Z<|qm Z<|en (ra2 Z Z) ?_
    obtain rfl:=os hp4
    exact me (ZE Z (ZE Z Z)) (su2 Z Z)
   ·refine B8 ?_
    obtain rfl:=os hp4
    exact me (ZE Z (ZE Z Z)) (su2 Z Z)
  ·rintro e s' H' ⟨rfl,rfl,rfl⟩
   refine B9<|s0<|qm Z<|A0 (A8p Z Z) Z<|es (ra3 Z Z Z)<|wi h Z (fun hc7 h=>?_) fun hc7 h=>?_
   ·refine s0<|oB h fun x8 hx8 h=>qm Z<|A0 (D8l Z Z hx8) Z<|qm Z<|es (ra2 Z Z)<|r0<|qm Z<|A0 (D8 Z Z) Z<|qm Z<|en (ra2 Z Z)<|s0<|oB h fun x9 hx9 h=>qm Z<|qm Z<|A0 (A9j Z) Z<|A0 (B2i Z Z hx9) Z<|A0 (A9j Z) Z<|A0 (D8 Z Z) Z<|qm Z<|es (ra1 Z)<|C6 ?_
    obtain rfl:=os h
    exact retq trivial (A8 Z B6) (A5 Z B5) (A3 A4 B1)
   ·refine B8<|s0<|oB h fun x10 hx10 h=>qm Z<|qm Z<|A0 (A9j Z) Z<|A0 (B2i Z Z hx10) Z<|A0 (A9j Z) Z<|A0 (D8 Z Z) Z<|qm Z<|es (ra1 Z)<|C6 ?_
    obtain rfl:=os h
    exact retq trivial (A8 Z B6) (A5 Z B5) (A3 A4 B1)
def A6a (a0:Int):Option Int :=
 (A6v a0).bind fun x1 =>
 some x1
theorem B74 {c:Sc} {H:A2} {a0:Int} {r:Int} (h:A6a a0=some r) :
  F0 tab c H (.fn (.func 115) [] []) [(.lit (.int .u64 a0))] [.i r]:= by
 unfold A6a at h
 refine cE Z Z<|s0<|qm Z<|es (ra1 Z)<|B9<|T0 Z Z<|B8<|s0<|oB h fun x1 hx1 h=>qm Z<|B2 (rs:=[.i x1]) Z Z (A1 Z B3) ((B40 hx1).frz)<|qm Z<|es (ra1 Z)<|C6 ?_
 obtain rfl:=os h
 exact retq trivial (A8 Z B6) (A5 Z B5) (A3 A4 B1)
end Pw
end
section
set_option maxRecDepth 100000
namespace Am
open Go
theorem C5k {σ ρ:Type} {b:σ→Option (σ⊕ρ)} (I:σ→Prop) (J:ρ→Prop) (hs:∀x y,I x→b x=some (.inl y)→I y) (he:∀x r,I x→b x=some (.inr r)→J r) {x0:σ} {r:ρ} (h0:I x0) (h:loop b x0=some r):J r:= by
 have key:∀n x0,I x0→A7w b n x0=some r→J r:= by
  intro n
  induction n with
  | zero=>intro x0 _ h;cases h
  | succ n ih =>
   intro x0 hI h
   rw[L8]at h
   split at h
   ·next x' hb=>exact ih x' (hs _ _ hI hb) h
   ·next r' hb=>simp only[Za]at h;subst h;exact he _ _ hI hb
   ·cases h
 exact key _ _ h0 h
end Am
namespace Pw
open Go Am Go.Proofs.YtjpjdglddmhplaaGreat.Cd
def A30 (a:Int) (s:Int×List Int):Option ((Int×List Int)⊕List Int) :=
 (if (decide (s.1>a))=true then (idx s.2 s.1).bind fun x=>(idx s.2 (w64 (s.1-1))).bind fun y=>(A4r x y).bind fun z=>some z else some false).bind fun g =>
 if g=true then
  (idx s.2 (w64 (s.1-1))).bind fun y=>(idx s.2 s.1).bind fun x =>
  (idx (T6 s.2 s.1 y) (w64 (s.1-1))).bind fun _ =>
  some (.inl (w64 (s.1-1),T6 (T6 s.2 s.1 y) (w64 (s.1-1)) x))
 else some (.inr s.2)
def A9b (a b:Int) (s:Int×List Int):Option ((Int×List Int)⊕List Int) :=
 if (decide (s.1<b))=true then
  (loop (A30 a) (s.1,s.2)).bind fun l=>some (.inl (w64 (s.1+1),l))
 else some (.inr s.2)
def C53 (a b:Int) (l:List Int):Option (List Int):=loop (A9b a b) (w64 (a+1),l)
def ar1 (l:List Int):AO:=.arr 1 false (l.map cI)
theorem D9g {c:Sc} {A B:A2} {a b:Int} {l r:List Int} (h:C53 a b l=some r) :
  L5 tab c (A++(ar1 l::B)) (.fn (.func 121) [] []) [.asl (A.length+0) l.length,.i a,.i b] [] (A++(ar1 r::B)):= by
 unfold C53 at h
 have htk:∀x:AO,(x::B).take (B.length+1)=x::B:=fun x=>ZR (Zn _)
 refine A1x (aq:=[.asl (A.length+0) l.length,.i a,.i b]) Z Z Z ?_
 refine s0<|qm Z<|A0 (D8 Z Z) Z<|qm Z<|es (ra4 Z Z Z Z)<|C5<|wl (fun s=>[(0,.asl (A.length+0) s.2.length),(1,.i a),(2,.i b),(6,.i s.1)]) (fun (_:Unit) s=>ar1 s.2::B) (B.length+1) (fun r e s' H'=>PX 0 [] (A++(ar1 r::B)) e s' H') () h Z Z (fun _ _=>rfl) (fun _=>rfl) Z (fun s=>bdc (R3 (Zl (by omega))) (bdc A4 (bdc A4 (bdc A4 bdn)))) (fun _ s o hs=>?_) ?_
 ·unfold A9b at hs
  refine B9<|s0<|qm Z<|qm Z<|A0 (I3 Z Z) Z<|es (ra5 Z Z Z Z Z)<|wi hs Z (fun hc hs=>?_) fun hc hs=>?_
  ·refine oB hs fun l1 hl1 hs=>?_
   refine B8<|B9<|C5<|s0<|qm Z<|qm Z<|es (ra5 Z Z Z Z Z)<|C5<|wl (fun t=>[(0,.asl (A.length+0) t.2.length),(1,.i a),(2,.i b),(6,.i s.1),(7,.i t.1)]) (fun (_:Unit) t=>ar1 t.2::B) (B.length+1) (fun r e s' H'=>PX 2 [(0,.asl (A.length+0) r.length),(1,.i a),(2,.i b),(6,.i s.1)] (A++(ar1 r::B)) e s' H') () hl1 Z Z (fun _ _=>rfl) (fun _=>rfl) Z (fun t=>bdc (R3 (Zl (by omega))) (bdc A4 (bdc A4 (bdc A4 (bdc A4 bdn))))) (fun _ t o' ht=>?_) ?_
   ·unfold A30 at ht
    refine oB ht fun g hg ht=>?_
    refine B9<|s0<|qm Z<|qm Z<|A0 (W0 Z Z) Z<|qm Z<|gp 11 30 (.b g) 19 Z Z (fun hb=>?_) (fun hb=>?_) ?_
    ·refine oB (bt hg hb) fun x hx hg=>oB hg fun y hy hg=>oB hg fun z hz hg=>?_
     obtain rfl:=os hg
     exact gT Z hb<|qm Z<|gT Z hb<|qm Z<|gT Z hb<|A0 (A24 (f:=cI) Z Z Z Z hx) Z<|gT Z hb<|A0 (A1p (x:=.i x) Z Z (Zi _) (A2j hx) Z) Z<|gT Z hb<|qm Z<|gT Z hb<|qm Z<|gT Z hb<|A0 (W1 Z Z) Z<|gT Z hb<|A0 (A24 (f:=cI) Z Z Z Z hy) Z<|gT Z hb<|A0 (A1p (x:=.i y) Z Z (Zi _) (A2j hy) Z) Z<|gT Z hb<|B2 (rs:=[.b z]) Z Z (A1 Z (A1 Z B3)) ((B9u hz).frz)<|A0 (C1 Z hb Z) Z<|ge 11 Z Z Z
    ·obtain rfl:=os (bf hg hb)
     exact nT Z hb Z<|nT Z hb Z<|nT Z hb Z<|nT Z hb Z<|nT Z hb Z<|nT Z hb Z<|nT Z hb Z<|nT Z hb Z<|nT Z hb Z<|G4 (D2 Z (by rw[hb];rfl)) Z<|A0 (C0 Z hb Z) Z<|ge 11 Z Z Z
    ·refine es (ra6 Z Z Z Z Z Z)<|wi ht Z (fun hc2 ht=>?_) fun hc2 ht=>?_
     ·refine oB ht fun y hy ht=>oB ht fun x hx ht=>oB ht fun w hw ht=>?_
      refine B8<|B9<|C5<|r0<|qm Z<|qm Z<|qm Z<|qm Z<|A0 (W1 Z Z) Z<|A0 (A24 (f:=cI) Z Z Z Z hy) Z<|A0 (A1p (x:=.i y) Z Z (Zi _) (A2j hy) Z) Z<|qm Z<|qm Z<|A0 (A24 (f:=cI) Z Z Z Z hx) Z<|A0 (A1p (x:=.i x) Z Z (Zi _) (A2j hx) Z) Z<|A0 (A24 (f:=cI) Z Z Z Z hx) Z<|O6 (B2j (ds:=cI y) Z Z Z Z Z (Zi _) (A2j hx) Z Z) Z ?_
      rw[B2f]
      refine qm Z<|qm Z<|A0 (W1 Z Z) Z<|A0 (A24 (f:=cI) (e:=T6 t.2 t.1 y) Z Z Z (Z2 _ _ _) hw) Z<|O6 (B2j (ds:=cI x) Z Z Z Z Z (by rw[Zi,Z2]) (A2j hw) Z Z) Z ?_
      rw[B2f]
      refine en (ra5 Z Z Z Z Z)<|r0<|qm Z<|A0 (W1 Z Z) Z<|qm Z<|en (ra5 Z Z Z Z Z) ?_
      cases ht
      exact lnT () (htk _) (su5 (by simp only[Z2];rfl) Z Z Z Z)
     ·refine G5 ?_
      obtain rfl:=os ht
      exact lx Z px (su4 Z Z Z Z)
   ·rintro e s' H'-⟨rfl,rfl,rfl⟩
    refine r0<|qm Z<|A0 (D8 Z Z) Z<|qm Z<|en (ra4 Z Z Z Z) ?_
    cases hs
    exact lnT () (htk _) (su4 Z Z Z Z)
  ·refine G5 ?_
   obtain rfl:=os hs
   exact lx Z px (Sub.nil _)
 ·rintro e s' H'-⟨rfl,rfl,rfl⟩
  show B1s _ _ _ _ .normal _ _
  exact C25 trivial B6 B5 B1 (ZR (by simp))
def D86 (a b:Int) (l:List Int):Option (List Int):=if (decide (w64 (b-a)≤12))=true then C53 a b l else none
theorem E1k {c:Sc} {A B:A2} {a b k:Int} {l r:List Int} (h:D86 a b l=some r) :
  L5 tab c (A++(ar1 l::B)) (.fn (.func 114) [] []) [.asl (A.length+0) l.length,.i a,.i b,.i k] [] (A++(ar1 r::B)):= by
 unfold D86 at h
 split at h
 ·next hc =>
  refine A1x (aq:=[.asl (A.length+0) l.length,.i a,.i b,.i k]) Z Z Z ?_
  refine s0<|qm Z<|es (ra5 Z Z Z Z Z)<|s0<|qm Z<|es (ra6 Z Z Z Z Z Z)<|C5<|D9p (B.length+1) Z _ (fun S hS=>Q8 (live:=[0,1,2,3,8,9]) Z (by decide) (Sub.trans (su6 Z Z Z Z Z Z) hS))<|C5<|s0<|qm Z<|qm Z<|A0 (W1 Z Z) Z<|qm Z<|es (ra7 Z Z Z Z Z Z Z)<|B9<|s0<|qm Z<|A0 (A4p Z Z) Z<|es (ra8 Z Z Z Z Z Z Z Z)<|Q5 Z hc<|s0<|qm Z<|qm Z<|qm Z<|O7 (A4j Z Z (D9g h) Z) Z<|es .n<|C6 ?_
  refine .out Z ?_
  show B1s _ _ _ _ .ret _ _
  exact C25 trivial B6 B5 B1 (ZR (by simp))
 ·cases h
def B9i (l:List Int):Option (List Int) :=
 (A6a (IntKind.u64.wrap (Zh l:Int))).bind fun _=>D86 0 (Zh l:Int) l
theorem E1s {c:Sc} {A B:A2} {l r:List Int} (h:B9i l=some r) :
  L5 tab c (A++(ar1 l::B)) (.fn (.func 97) [] []) [.asl (A.length+0) l.length] [] (A++(ar1 r::B)):= by
 unfold B9i at h
 refine oB h fun k hk h=>?_
 refine A1x (aq:=[.asl (A.length+0) l.length]) Z Z Z ?_
 refine s0<|qm Z<|A0 (B71 (f:=cI) Z Z Z) Z<|qm Z<|es (ra2 Z Z)<|r0<|qm Z<|qm Z<|qm Z<|A0 (A9j Z) Z<|B2 (rs:=[.i k]) Z Z (A1 Z B3) ((B74 hk).frz)<|O7 (A4j Z Z (E1k h) Z) Z<|en .n ?_
 show B1s _ _ _ _ .normal _ _
 exact C25 trivial B6 B5 B1 (ZR (by simp))
theorem D54 {a b:Int} {l r:List Int} (h:C53 a b l=some r):r.length=l.length:= by
 unfold C53 at h
 refine C5k (fun s=>s.2.length=l.length) (fun r=>r.length=l.length) (fun x y hx hy=>?_) (fun x r hx hr=>?_) Z h
 ·unfold A9b at hy
  split at hy
  ·refine oB hy fun l1 hl1 hy=>?_
   cases hy
   refine C5k (fun s=>s.2.length=l.length) (fun r=>r.length=l.length) (fun x y hx hy=>?_) (fun x r hx hr=>?_) hx hl1
   ·unfold A30 at hy
    refine oB hy fun g _ hy=>?_
    split at hy
    ·refine oB hy fun _ _ hy=>oB hy fun _ _ hy=>oB hy fun _ _ hy=>?_
     cases hy
     simpa only[Z2] using hx
    ·cases hy
   ·unfold A30 at hr
    refine oB hr fun g _ hr=>?_
    split at hr
    ·refine oB hr fun _ _ hr=>oB hr fun _ _ hr=>oB hr fun _ _ hr=>?_
     cases hr
    ·cases hr;exact hx
  ·cases hy
 ·unfold A9b at hr
  split at hr
  ·refine oB hr fun _ _ hr=>?_
   cases hr
  ·cases hr;exact hx
theorem D55 {l r:List Int} (h:B9i l=some r):r.length=l.length:= by
 unfold B9i D86 at h
 refine oB h fun _ _ h=>?_
 split at h
 ·exact D54 h
 ·cases h
end Pw
end
section
set_option maxRecDepth 100000
namespace Pw
open Go Am Go.Proofs.YtjpjdglddmhplaaGreat.Cd
def C8x (l:List Int) (k0:Int) (i:Int):Option Int:=if 0≤i∧i<((l.length-k0.toNat:Nat):Int) then idx l (k0+i) else none
theorem C8y {l:List Int} {k0 i a:Int} (h0:0≤k0) (h:C8x l k0 i=some a):0≤i∧i<((l.length-k0.toNat:Nat):Int)∧(l.map cI)[k0.toNat+i.toNat]? = some (cI a):= by
 unfold C8x at h
 split at h
 ·next h1 =>
  obtain⟨h2,h3⟩:=A8x h
  refine⟨h1.1,h1.2,?_⟩
  rw[show k0.toNat+i.toNat=(k0+i).toNat by omega,ZN,h3];rfl
 ·cases h
section
variable {T:Tab} {s:C2} {H0:A2} {l:List AO} {c:Sc} {n0:Nat}
theorem D8n {α:Type} {f:α→List AV} {k j m q:Nat} {p:Bool} {x:Opd} {lo hi:Option Opd} {e:List α} {a b:Int} (h:ev s x=some (.asl (H0.length+j) m)) (hl:l[j]? = some (.arr k p (e.map f))) (hm:e.length=m) (h1:bnd s 0 lo=some a) (h2:bnd s m hi=some b) (h3:0≤a∧a<b∧b≤m) (hq:b.toNat-a.toNat=q) :
  One T c n0 s (H0++l) (.sub k x lo hi) (.csl (H0.length+j) a.toNat m q) (H0++l):= by
 have:=E3c (T:=T) (c:=c) (n0:=n0) h hl hm h1 h2 ⟨h3.1,by omega,h3.2.2⟩
 rwa [if_neg (by omega),hq]at this
theorem E2h {N j k o m q:Nat} (h:ZH (j+1) k=true):(AV.csl (N+j) o m q).bd (N+k)=true:= by simp only[AV.bd];exact Zl (by have:=Zp h;omega)
end
def A1y (k0:Int) (s:Int×Int×List Int):Option ((Int×Int×List Int)⊕(Int×List Int)) :=
 if (decide (s.1<((s.2.2.length-k0.toNat:Nat):Int)))=true then
  (C8x s.2.2 k0 s.1).bind fun a=>(C8x s.2.2 k0 (w64 (s.1-1))).bind fun b =>
  if (a != b)=true then
   (idx s.2.2 s.2.1).bind fun _=>some (.inl (w64 (s.1+1),w64 (s.2.1+1),T6 s.2.2 s.2.1 a))
  else some (.inl (w64 (s.1+1),s.2.1,s.2.2))
 else some (.inr (s.2.1,s.2.2))
def clr (l:List Int) (k:Int):List Int:=l.take k.toNat++(List.replicate (l.length-k.toNat) 0++l.drop (k.toNat+(l.length-k.toNat)))
def A7p (l:List Int) (k:Int):Option (Int⊕(Bool×List Int)) :=
 if (decide (k<(l.length:Int)))=true then
  (idx l k).bind fun a=>(idx l (w64 (k-1))).bind fun b =>
  if (a==b)=true then
   (loop (A1y k) (1,k,l)).bind fun x =>
   if 0≤x.1∧x.1<(x.2.length:Int) then (slc (clr x.2 x.1) 0 x.1).bind fun r=>some (.inr (true,r)) else none
  else some (.inl (w64 (k+1)))
 else some (.inr (false,l))
def A9w (l:List Int):Option (Bool×List Int):=if (decide ((l.length:Int)<2))=true then some (false,l) else loop (A7p l) 1
theorem D2z {l:List Int} {k:Int} (h:0≤k∧k<(l.length:Int)):(clr l k).length=l.length:= by
 unfold clr;simp;omega
def CpP (A:A2) (X:AO) (l:List Int) (x:Bool×List Int) (e:Ex) (s:C2) (H:A2):Prop :=
 (x=(false,l)∧e=.exit 0∧s=[(0,.asl (A.length+0) l.length)]∧H=A++[ar1 l,X,.arr 1 false []]) ∨
 (x.1=true∧e=.ret∧s=[(2,.asl (A.length+3) x.2.length)]∧H=A++[.dead,X,.arr 1 false [],.arr 1 false (x.2.map cI)])
theorem D07 {c:Sc} {A:A2} {X:AO} {l:List Int} {x:Bool×List Int} (h:A9w l=some x) :
  L5 tab c (A++[ar1 l,X]) (.fn (.func 98) [] []) [.asl (A.length+0) l.length] (bif x.1 then [.fresh 1 (x.2.map cI)] else [.seq 1 (x.2.map cI)]) (A++[bif x.1 then .dead else .arr 1 true (l.map cI),X]):= by
 unfold A9w at h
 have hlen:(A++[ar1 l,X]).length=A.length+2:= by simp
 have fin0:∀s:C2,sget s 2=some (.asl (A.length+0) l.length)→B1s (A++[ar1 l,X]) (A++[.arr 1 true (l.map cI),X]) [.tmp 2] [.seq 1 (l.map cI)] .ret s (A++[ar1 l,X,.arr 1 false []]):=fun s hs=>by
  refine⟨trivial,_,_,A8 hs B6,by rw[hlen];exact A5 (E0i Z (Zi _) Z) B5,A3 G6 B1,?_⟩
  rw[hlen,B0j];rfl
 refine A1x (aq:=[.asl (A.length+0) l.length]) Z Z Z ?_
 refine sg (H0:=A) 2 Z<|A0 A5d Z<|es (ra1 Z)<|B9<|s0<|qm Z<|A0 (B71 (f:=cI) Z Z Z) Z<|A0 (I3 Z Z) Z<|es (ra2 Z Z)<|wi h Z (fun hc h=>?_) fun hc h=>?_
 ·refine s0<|qm Z<|qm Z<|es (ra1 Z)<|C6 ?_
  obtain rfl:=os h
  exact fin0 _ Z
 ·refine B8<|B9<|s0<|qm Z<|es (ra2 Z Z)<|C5<|wl (fun k=>[(0,.asl (A.length+0) l.length),(3,.i k)]) (fun (_:Unit) _=>[ar1 l,X,.arr 1 false []]) 3 (CpP A X l) () h Z Z (fun _ _=>rfl) (fun _=>rfl) Z (fun _=>bdc (R3 Z) (bdc A4 bdn)) (fun _ k o hs=>?_) ?_
  ·unfold A7p at hs
   refine B9<|s0<|qm Z<|qm Z<|A0 (B71 (f:=cI) Z Z Z) Z<|A0 (I3 Z Z) Z<|es (ra3 Z Z Z)<|wi hs Z (fun hc hs=>?_) fun hc hs=>?_
   ·refine oB hs fun a ha hs=>oB hs fun b hb hs=>?_
    have hk0:0≤k:=(A8x ha).1
    refine B8<|B9<|C5<|s0<|qm Z<|qm Z<|A0 (A24 (f:=cI) Z Z Z Z ha) Z<|A0 (A1p (x:=.i a) Z Z (Zi _) (A2j ha) Z) Z<|qm Z<|qm Z<|A0 (W1 Z Z) Z<|A0 (A24 (f:=cI) Z Z Z Z hb) Z<|A0 (A1p (x:=.i b) Z Z (Zi _) (A2j hb) Z) Z<|A0 (F9 Z Z) Z<|es (ra3 Z Z Z)<|wi hs Z (fun hc2 hs=>?_) fun hc2 hs=>?_
    ·refine oB hs fun y hy hs=>?_
     have hkl:k<(l.length:Int):= by have:=(Ze.1 (A8x ha).2).1;omega
     refine s0<|qm Z<|qm Z<|A0 (D8n (f:=cI) (e:=l) (q:=l.length-k.toNat) Z Z Z Z Z ⟨hk0,hkl,Z02 _⟩ Z) Z<|qm Z<|es (ra3 Z Z Z)<|B9<|s0<|qm Z<|es (ra4 Z Z Z Z)<|C5<|wl (fun t=>[(0,.asl (A.length+0) t.2.2.length),(3,.i t.2.1),(4,.csl (A.length+0) k.toNat t.2.2.length (t.2.2.length-k.toNat)),(5,.i t.1)]) (fun (_:Unit) t=>[ar1 t.2.2,X,.arr 1 false []]) 3 (fun r e s' H'=>PX 2 [(0,.asl (A.length+0) r.2.length),(3,.i r.1)] (A++[ar1 r.2,X,.arr 1 false []]) e s' H') () hy Z Z (fun _ _=>rfl) (fun _=>rfl) Z (fun _=>bdc (R3 Z) (bdc A4 (bdc (E2h Z) (bdc A4 bdn)))) (fun _ t o ht=>?_) ?_
     ·unfold A1y at ht
      refine B9<|s0<|qm Z<|qm Z<|A0 (E06 Z) Z<|A0 (I3 Z Z) Z<|es (ra5 Z Z Z Z Z)<|wi ht Z (fun hc3 ht=>?_) fun hc3 ht=>?_
      ·refine oB ht fun u hu ht=>oB ht fun v hv ht=>?_
       obtain⟨u1,u2,u3⟩:=C8y hk0 hu
       obtain⟨v1,v2,v3⟩:=C8y hk0 hv
       refine B8<|B9<|C5<|s0<|qm Z<|qm Z<|A0 (D1x (f:=cI) Z Z Z Z u1 u2) Z<|A0 (A1p (x:=.i u) Z Z (Zi _) u3 Z) Z<|qm Z<|qm Z<|A0 (W1 Z Z) Z<|A0 (D1x (f:=cI) Z Z Z Z v1 v2) Z<|A0 (A1p (x:=.i v) Z Z (Zi _) v3 Z) Z<|A0 (H9 Z Z) Z<|es (ra5 Z Z Z Z Z)<|wi ht Z (fun hc4 ht=>?_) fun hc4 ht=>?_
       ·refine oB ht fun w hw ht=>?_
        refine s0<|qm Z<|qm Z<|qm Z<|qm Z<|A0 (D1x (f:=cI) Z Z Z Z u1 u2) Z<|A0 (A1p (x:=.i u) Z Z (Zi _) u3 Z) Z<|A0 (A24 (f:=cI) Z Z Z Z hw) Z<|O6 (B2j (ds:=cI u) Z Z Z Z Z (Zi _) (A2j hw) Z Z) Z ?_
        rw[B2f]
        refine es (ra4 Z Z Z Z)<|r0<|qm Z<|A0 (D8 Z Z) Z<|qm Z<|en (ra4 Z Z Z Z)<|r0<|qm Z<|A0 (D8 Z Z) Z<|qm Z<|en (ra4 Z Z Z Z) ?_
        cases ht
        exact lnT () Z (su4 (by simp only[Z2];rfl) Z (by simp only[Z2];rfl) Z)
       ·refine B8<|r0<|qm Z<|A0 (D8 Z Z) Z<|qm Z<|en (ra4 Z Z Z Z) ?_
        cases ht
        exact lnT () Z (su4 Z Z Z Z)
      ·refine G5 ?_
       obtain rfl:=os ht
       exact lx Z px (su2 Z Z)
     ·rintro e s' H'-⟨rfl,rfl,rfl⟩
      obtain⟨k1,l1⟩:=y
      split at hs
      ·next hk1 =>
       refine oB hs fun r hr hs=>?_
       replace hk1:0≤k1∧k1<(l1.length:Int):=hk1
       replace hr:slc (clr l1 k1) 0 k1=some r:=hr
       have hcl:=D2z hk1
       refine s0<|qm Z<|qm Z<|A0 (D8n (f:=cI) (e:=l1) (q:=l1.length-k1.toNat) Z Z Z Z Z ⟨hk1.1,hk1.2,Z02 _⟩ Z) Z<|O6 (E01 (f:=cI) (e:=l1) (a:=0) Z Z Z Z (show k1.toNat+(l1.length-k1.toNat)≤l1.length by omega) (show 0<l1.length-k1.toNat by omega)) Z<|es (ra2 Z Z)<|sg (H0:=A) 3 Z<|qm Z<|qm Z<|O7 (E5j (f:=cI) (e:=clr l1 k1) Z Z hcl Z hr) Z<|qm Z<|es (ra1 Z)<|C6 ?_
       cases hs
       exact lx Z (.inr ⟨Z,Z,Z,Z⟩) (su1 Z)
      ·cases hs
    ·refine B8<|r0<|qm Z<|A0 (D8 Z Z) Z<|qm Z<|en (ra2 Z Z) ?_
     cases hs
     exact lnT () Z (su2 Z Z)
   ·refine G5 ?_
    obtain rfl:=os hs
    exact lx Z (.inl ⟨Z,Z,Z,Z⟩) (su1 Z)
  ·rintro e s' H'-(⟨rfl,rfl,rfl,rfl⟩|⟨hx,rfl,rfl,rfl⟩)
   ·refine s0<|qm Z<|qm Z<|es (ra1 Z)<|C6 ?_
    exact fin0 _ Z
   ·obtain⟨d,r⟩:=x
    obtain rfl:d=true:=hx
    show B1s _ _ _ _ .ret _ _
    refine⟨trivial,_,_,A8 Z B6,by rw[hlen];exact A5 (E2w Z (Zi _) Z) B5,A3 Y2 B1,?_⟩
    rw[hlen,B0j];rfl
end Pw
end
section
namespace Pw
open Go Am
abbrev Srt (l:List Int):Prop:=l.Pairwise (·≤·)
abbrev Str (l:List Int):Prop:=l.Pairwise (· < ·)
theorem D3r (x y:Int):A4r x y=some (decide (x<y)):= by
 unfold A4r A26
 simp
theorem D4g:∀(m:Nat) (P:List Int) (x:Int) (R:List Int) (n:Nat),P.length=m→Srt P→m<4611686018427387904→m+1≤n→∃ Q,A7w (A30 0) n ((m:Int),P++x::R)=some (Q++R)∧Srt Q∧Q.Perm (x::P)
 | 0,P,x,R,n+1,hP,hs,_,_=>by
  obtain rfl:=List.length_eq_zero_iff.mp hP
  refine⟨[x],?_,by simp[Srt],List.Perm.refl _⟩
  rw[L8]
  have:A30 0 (((0:Nat):Int),[]++x::R)=some (.inr (x::R)):= by unfold A30;simp
  rw[this];rfl
 | m+1,P,x,R,n+1,hP,hs,hm,hn=>by
  obtain⟨P',y,rfl⟩:∃P' y,P=P'++[y]:=⟨P.dropLast,P.getLast (by intro e;rw[e]at hP;cases hP),(List.dropLast_concat_getLast _).symm⟩
  have hP':P'.length=m:= by simpa using hP
  subst hP'
  have hs':=Z0x.mp hs
  have e1:idx (P'++[y]++x::R) ((P'.length+1:Nat):Int)=some x:=A6l (by simp)
  have ew:w64 (((P'.length+1:Nat):Int)-1)=(P'.length:Int):= by rw[D6 (by omega)];omega
  have e0:idx (P'++[y]++x::R) (P'.length:Int)=some y:=A6l (by simp)
  rw[L8]
  by_cases hxy:x<y
  ·obtain⟨Q,h1,h2,h3⟩:=D4g P'.length P' x (y::R) n Z hs'.1 (by omega) (by omega)
   have hset1:T6 (P'++[y]++x::R) ((P'.length+1:Nat):Int) y=P'++[y]++y::R:= by
    unfold T6;rw[ZG,Z0s _ _ (by simp)];simp
   have hset2:T6 (P'++[y]++y::R) (P'.length:Int) x=P'++x::(y::R):= by
    unfold T6;rw[ZG];simp
   have hb:A30 0 (((P'.length+1:Nat):Int),P'++[y]++x::R)=some (.inl ((P'.length:Int),P'++x::(y::R))):= by
    unfold A30
    simp only[ew]
    have e3:idx (P'++[y]++y::R) (P'.length:Int)=some y:=A6l (by simp)
    rw[if_pos (by simp <;> omega),e1,e0]
    simp only[Zd,D3r,decide_eq_true hxy,if_true]
    rw[hset1,e3,hset2]
    rfl
   rw[hb]
   refine⟨Q++[y],by show A7w (A30 0) n ((P'.length:Int),P'++x::(y::R))=_;rw[h1];simp,?_,?_⟩
   ·refine Z0x.mpr ⟨h2,by simp,fun a ha b hb=>?_⟩
    have:b=y:= by simpa using hb
    subst this
    rcases Zu.mp (h3.mem_iff.mp ha) with rfl|ha
    ·omega
    ·exact hs'.2.2 a ha b (by simp)
   ·have:=(Z3c (l₁:=Q) (l₂:=[y]))
    refine this.trans ?_
    refine(List.Perm.cons y h3).trans ((List.Perm.swap x y P').trans ?_)
    exact List.Perm.cons x (Z3c (l₁:=[y]) (l₂:=P'))
  ·refine⟨P'++[y]++[x],?_,?_,Z3c (l₁:=P'++[y]) (l₂:=[x])⟩
   ·have hb:A30 0 (((P'.length+1:Nat):Int),P'++[y]++x::R)=some (.inr (P'++[y]++x::R)):= by
     unfold A30
     simp only[ew]
     rw[if_pos (by simp <;> omega),e1,e0]
     simp only[Zd,D3r,decide_eq_false hxy,Zj,if_false]
    rw[hb];simp
   ·refine Z0x.mpr ⟨hs,by simp,fun a ha b hb=>?_⟩
    have:b=x:= by simpa using hb
    subst this
    rcases ZA.mp ha with ha|ha
    ·have:=hs'.2.2 a ha y (by simp);omega
    ·have:a=y:= by simpa using ha
     omega
theorem D0l:∀(R S:List Int) (n:Nat),Srt S→S.length+R.length<4611686018427387904→R.length+1≤n→∃ l',A7w (A9b 0 ((S.length+R.length:Nat):Int)) n ((S.length:Int),S++R)=some l'∧Srt l'∧l'.Perm (S++R)
 | [],S,n+1,hs,_,_=>by
  refine⟨S,?_,hs,by simp⟩
  rw[L8]
  unfold A9b
  simp
 | x::R,S,n+1,hs,hl,hn=>by
  obtain⟨Q,h1,h2,h3⟩:=D4g S.length S x R 9223372036854775808 Z hs (by simp at hl;omega) (by simp at hl;omega)
  have hQ:Q.length=S.length+1:= by rw[h3.length_eq];rfl
  obtain⟨l',g1,g2,g3⟩:=D0l R Q n h2 (by simp at hl;omega) (by simp at hn;omega)
  refine⟨l',?_,g2,g3.trans ?_⟩
  ·rw[L8]
   have hb:A9b 0 ((S.length+(x::R).length:Nat):Int) ((S.length:Int),S++x::R)=some (.inl ((Q.length:Int),Q++R)):= by
    unfold A9b
    simp only[]
    rw[if_pos (by simp <;> omega)]
    unfold loop
    rw[h1]
    simp only[Zd]
    rw[D6 (by simp at hl;omega),hQ];rfl
   rw[hb]
   simp only
   have e:((S.length+(x::R).length:Nat):Int)=((Q.length+R.length:Nat):Int):= by rw[hQ];simp;omega
   rw[e];exact g1
  ·refine(List.Perm.append_right R h3).trans ?_
   rw[Z0g]
   exact(List.perm_middle (l₁:=S) (l₂:=R) (a:=x)).symm
theorem D4q:∀n,n<13→(A6a (IntKind.u64.wrap ((n:Nat):Int))).isSome=true:= by decide +kernel
theorem E1r (l:List Int) (h0:0<l.length) (hl:l.length<13):∃l',B9i l=some l'∧Srt l'∧l'.Perm l:= by
 obtain⟨k,hk⟩:=Option.isSome_iff_exists.mp (D4q l.length hl)
 cases l with
 | nil=>cases h0
 | cons a l =>
  obtain⟨l',h1,h2,h3⟩:=D0l l [a] 9223372036854775808 (by simp[Srt]) (by simp at hl ⊢; omega) (by simp at hl;omega)
  refine⟨l',?_,h2,h3⟩
  unfold B9i D86 C53
  rw[hk]
  simp only[Zd]
  rw[if_pos (by rw[decide_eq_true_eq,D6 (by simp only[ZT]at hl ⊢; omega)];simp only[ZT]at hl ⊢; omega)]
  have e:(((a::l).length:Nat):Int)=(([a].length+l.length:Nat):Int):= by simp;omega
  rw[e]
  exact h1
theorem C5f {l:List Int} {k0 i:Nat} {x:Int} (h:l[k0+i]? = some x):C8x l (k0:Int) (i:Int)=some x:= by
 unfold C8x
 have:=(Ze.mp h).1
 rw[if_pos ⟨by omega,by omega⟩,show (k0:Int)+(i:Int)=((k0+i:Nat):Int) by omega]
 exact A6l h
theorem compact2 {O:List Int} {k0:Nat} (hO:Srt O) (hk0:1≤k0) (hlen:O.length<4611686018427387904):∀(d k2 k:Nat) (cur:List Int) (n:Nat),k0+k2+d=O.length→1≤k2→1≤k→k+1≤k0+k2→cur.length=O.length→(∀ i,k0+k2≤i+1→cur[i]? = O[i]?)→Str (cur.take k)→(∀ x,x∈cur.take k↔x∈O.take (k0+k2))→d+1≤n →
  ∃ (k':Nat) (cur':List Int),A7w (A1y (k0:Int)) n ((k2:Int),(k:Int),cur)=some ((k':Int),cur')∧cur'.length=O.length∧k'<O.length∧Str (cur'.take k')∧∀ x,x∈cur'.take k'↔x∈O
 | 0,k2,k,cur,n+1,hd,h2,hk,hlt,hcl,hdr,hst,hmem,_=>by
  refine⟨k,cur,?_,hcl,by omega,hst,fun x=>by rw[hmem,ZR (by omega)]⟩
  rw[L8]
  unfold A1y
  simp only[]
  rw[if_neg (by rw[hcl,ZG];simp;omega)]
 | d+1,k2,k,cur,n+1,hd,h2,hk,hlt,hcl,hdr,hst,hmem,hn=>by
  have hi1:k0+k2<O.length:= by omega
  have ha:O[k0+k2]? = some O[k0+k2]:=Zm hi1
  have hb:O[k0+(k2-1)]? = some O[k0+(k2-1)]:=Zm (by omega)
  have hle:O[k0+(k2-1)]≤O[k0+k2]:=Z0e.mp hO _ _ (by omega) hi1 (by omega)
  have ea:C8x cur (k0:Int) (k2:Int)=some O[k0+k2]:=C5f (by rw[hdr _ (by omega),ha])
  have eb:C8x cur (k0:Int) (w64 ((k2:Int)-1))=some O[k0+(k2-1)]:= by
   rw[D6 (by omega),show (k2:Int)-1=((k2-1:Nat):Int) by omega]
   exact C5f (by rw[hdr _ (by omega),hb])
  have hw1:w64 ((k2:Int)+1)=((k2+1:Nat):Int):= by rw[D6 (by omega)];omega
  have htk:∀x,x∈O.take (k0+(k2+1))↔x∈O.take (k0+k2)∨x=O[k0+k2]:=fun x=>by
   rw[show k0+(k2+1)=k0+k2+1 by omega,ZM hi1,ZA,Z16]
  have hlast:O[k0+(k2-1)]∈O.take (k0+k2):= by
   rw[Z0f];exact⟨k0+(k2-1),by omega,Z⟩
  rw[L8]
  by_cases hab:O[k0+k2]=O[k0+(k2-1)]
  ·have hB:A1y (k0:Int) ((k2:Int),(k:Int),cur)=some (.inl (((k2+1:Nat):Int),(k:Int),cur)):= by
    unfold A1y
    simp only[]
    rw[if_pos (by rw[hcl,ZG];simp;omega),ea,eb]
    simp only[Zd,hw1]
    rw[if_neg (by simp[hab])]
   rw[hB]
   exact compact2 hO hk0 hlen d (k2+1) k cur n (by omega) (by omega) hk (by omega) hcl (fun i hi=>hdr i (by omega)) hst (fun x=>by rw[hmem,htk];exact⟨fun h=>.inl h,fun h=>h.elim id fun h=>by rw[h,hab];exact hlast⟩) (by omega)
  ·have hkl:k<cur.length:= by omega
   have hB:A1y (k0:Int) ((k2:Int),(k:Int),cur)=some (.inl (((k2+1:Nat):Int),((k+1:Nat):Int),cur.set k O[k0+k2])):= by
    unfold A1y
    simp only[]
    rw[if_pos (by rw[hcl,ZG];simp;omega),ea,eb]
    simp only[Zd,hw1]
    rw[if_pos (by simpa using hab),A6l (Zm hkl)]
    simp only[Zd]
    rw[D6 (by omega)]
    unfold T6
    rw[ZG];rfl
   rw[hB]
   have htake:(cur.set k O[k0+k2]).take (k+1)=cur.take k++[O[k0+k2]]:= by
    rw[ZM (by simpa using hkl)]
    simp[Z31]
    rw[List.set_eq_of_length_le (by rw[ZD];omega)]
   refine compact2 hO hk0 hlen d (k2+1) (k+1) (cur.set k O[k0+k2]) n (by omega) (by omega) (by omega) (by omega) (by simpa using hcl) (fun i hi=>?_) ?_ ?_ (by omega)
   ·rw[List.getElem?_set_ne (by omega)];exact hdr i (by omega)
   ·rw[htake]
    refine Z0x.mpr ⟨hst,by simp,fun x hx z hz=>?_⟩
    have:z=O[k0+k2]:= by simpa using hz
    subst this
    have hx2:=(hmem x).mp hx
    rw[Z0f]at hx2
    obtain⟨j,hj,rfl⟩:=hx2
    have h1:O[j]≤O[k0+(k2-1)]:= by
     by_cases hjk:j=k0+(k2-1)
     ·subst hjk;exact Z02 _
     ·exact Z0e.mp hO _ _ (by omega) (by omega) (by omega)
    omega
   ·intro x
    rw[htake,htk]
    simp[hmem x]
theorem compact1 {O:List Int} (hO:Srt O) (hlen:O.length<4611686018427387904):∀(d k:Nat) (n:Nat),k+d=O.length→1≤k→Str (O.take k)→d+1≤n →
  ∃ b r,A7w (A7p O) n (k:Int)=some (b,r)∧Str r∧∀ x,x∈r↔x∈O
 | 0,k,n+1,hd,hk,hst,_=>by
  refine⟨false,O,?_,by rwa [ZR (by omega)]at hst,fun x=>Iff.rfl⟩
  rw[L8]
  unfold A7p
  rw[if_neg (by simp <;> omega)]
 | d+1,k,n+1,hd,hk,hst,hn=>by
  have hi1:k<O.length:= by omega
  have ea:idx O (k:Int)=some O[k]:=A6l (Zm hi1)
  have eb:idx O (w64 ((k:Int)-1))=some O[k-1]:= by
   rw[D6 (by omega),show (k:Int)-1=((k-1:Nat):Int) by omega]
   exact A6l (Zm (by omega))
  have hle:O[k-1]≤O[k]:=Z0e.mp hO _ _ (by omega) hi1 (by omega)
  rw[L8]
  unfold A7p
  rw[if_pos (by simp <;> omega),ea,eb]
  simp only[Zd]
  by_cases hab:O[k]=O[k-1]
  ·rw[if_pos (by simpa using hab)]
   obtain⟨k',cur',h1,h2,h3,h4,h5⟩:=compact2 hO hk hlen (O.length-k-1) 1 k O 9223372036854775808 (by omega) (by omega) hk (by omega) Z (fun _ _=>rfl) hst (fun x=>by
    rw[ZM hi1]
    simp only[ZA,Z16]
    refine⟨fun h=>.inl h,fun h=>h.elim id fun h=>?_⟩
    rw[h,hab,Z0f]
    exact⟨k-1,by omega,Z⟩) (by omega)
   unfold loop
   rw[show ((1:Int),(k:Int),O)=(((1:Nat):Int),(k:Int),O) from Z,h1]
   simp only[Zd]
   rw[if_pos ⟨by omega,by omega⟩]
   have hr:(clr cur' (k':Int)).take k'=cur'.take k':= by
    unfold clr
    rw[ZG,List.take_append_of_le_length (by simp <;> omega),List.take_take,Z5v]
   rw[B6z (by rw[D2z ⟨by omega,by omega⟩];omega),hr]
   exact⟨true,_,Z,h4,h5⟩
  ·rw[if_neg (by simpa using hab),D6 (by omega),show (k:Int)+1=((k+1:Nat):Int) by omega]
   refine compact1 hO hlen d (k+1) n (by omega) (by omega) ?_ (by omega)
   rw[ZM hi1]
   refine Z0x.mpr ⟨hst,by simp,fun x hx z hz=>?_⟩
   have:z=O[k]:= by simpa using hz
   subst this
   rw[Z0f]at hx
   obtain⟨j,hj,rfl⟩:=hx
   have h1:O[j]≤O[k-1]:= by
    by_cases hjk:j=k-1
    ·subst hjk;exact Z02 _
    ·exact Z0e.mp hO _ _ (by omega) (by omega) (by omega)
   omega
theorem D06 {O:List Int} (hO:Srt O) (h0:0<O.length) (hlen:O.length<100):∃b r,A9w O=some (b,r)∧Str r∧∀ x,x∈r↔x∈O:= by
 unfold A9w
 by_cases h:O.length=1
 ·rw[if_pos (by simp <;> omega)]
  refine⟨false,O,Z,?_,fun x=>Iff.rfl⟩
  match O,h with
  | [a],_=>simp[Str]
 ·rw[if_neg (by simp <;> omega)]
  refine compact1 hO (by omega) (O.length-1) 1 9223372036854775808 (by omega) (by omega) ?_ (by omega)
  match O,h0 with
  | a::l,_=>simp[Str]
end Pw
end
section
set_option maxRecDepth 100000
namespace Am
open Go
theorem D8p {c:Sc} {b a n:Nat} (h:a<b):c.okL b [.asl a n]=true:= by
 have key:∀B,(ZH B b||ZU a B)=true:=fun B=>by
  by_cases hB:B≤b
  ·rw[Zl hB];rfl
  ·rw[show ZU a B=true from Zl (by omega),Z1w]
 have h2:(c.outer.all fun B=>ZH B b||ZU a B)=true:=Zq.2 fun B _=>key B
 have h3:=key c.cur
 simp only[Sc.okL,Sc.ok,AV.plain,AV.bd,h2,h3,Z4w,Z32,Z1w]
theorem C8d {T:Tab} {c:Sc} {i:Nat} {af:AFunc} {first cap args aq rs:List AV} {H H':A2} (haf:T i=some af) (has:first++args++cap=aq) (hn:(Nat.beq aq.length af.nargs&&ZU af.nargs 1000)=true)
  (h:WP T af.body (M0 0 aq) H ⟨H.length,c.cur::c.outer⟩ (fun e s H1=>(match e with|.exit _=>False|_=>True)∧∃ rs0,results s H1 af.results=some rs0∧S7 H.length H1 rs0=some (rs,H')∧bdL H.length rs=false)):L5 T c H (.fn (.func i) first cap) args rs H':= by
 obtain⟨e,S',s',H2,h1,h2,h3,rs0,h4,h5,h6⟩:=h _ (Sub.refl _)
 refine L5.fn (af:=af) (bd:=af.body) (aq:=aq) (rs0:=rs0) (rs1:=rs) (H1:=H') (e:=e) (st':=⟨S',H2,⟨H.length,c.cur::c.outer⟩⟩) Z haf Z has.symm hn Z h1 (by cases e <;> first|rfl|exact h3.elim) (V3 h2 h4) h5 Z ?_
 unfold trunc
 rw[h6];rfl
end Am
namespace Am
open Go
def New (T:Tab) (f:AV) (aq:List AV) (i:Nat) (L:List AO):Prop:=∀ (c:Sc) (H:A2) (N:Nat),H.length=N→L5 T c H f aq [.ptr (N+i) 0,.i 0] (H++L)
theorem A6e {T:Tab} {s:C2} {H0:A2} {l l1:List AO} {c:Sc} {n0 k i:Nat} {f:Opd} {args:List Opd} {fv:AV} {as0 aq:List AV} {L:List AO} (hn:New T fv aq i L) (hf:ev s f=some fv) (ha:evs s args=some as0) (hz:S6 (H0++l) as0=some (aq,H0++l1)) (hk:l1.length=k) :
  One T c n0 s (H0++l) (.call f args [] false) (.tup [.ptr (H0.length+(k+i)) 0,.i 0]) (H0++(l1++L)):= by
 have:=hn c (H0++l1) (H0.length+k) (by rw[Zo,hk])
 rw[ZB,Nat.add_assoc]at this
 exact U1 hf ha hz this Z
def inR (n:Nat) (i:Int):Option Unit:=if 0≤i∧i<n then some () else none
theorem C60 {n:Nat} {i:Int} {u:Unit} (h:inR n i=some u):0≤i∧i<n:= by
 unfold inR at h;split at h
 ·assumption
 ·cases h
def isel (i:Int) (a b c:Nat):Nat:=if i=0 then a else if i=1 then b else c
def sel3 {α:Type} (i:Int) (a b c:Option α):Option α:=if i=0 then a else if i=1 then b else c
theorem C27 {α:Type} {T:Tab} {c:Sc} {H:A2} {i:Int} {n0 n1 n2:Nat} {aq:List AV} {rs:α→List AV} {a b d:Option α} {x:α} (h0:∀{x},a=some x→A0f T c H (.fn (.func n0) [] []) aq (rs x)) (h1:∀{x},b=some x→A0f T c H (.fn (.func n1) [] []) aq (rs x)) (h2:∀{x},d=some x→A0f T c H (.fn (.func n2) [] []) aq (rs x)) (h:sel3 i a b d=some x) :
  A0f T c H (.fn (.func (isel i n0 n1 n2)) [] []) aq (rs x):= by
 unfold sel3 at h
 unfold isel
 split at h
 ·next e=>rw[if_pos e];exact h0 h
 ·next e =>
  rw[if_neg e]
  split at h
  ·next e=>rw[if_pos e];exact h1 h
  ·next e=>rw[if_neg e];exact h2 h
end Am
namespace Am
open Go
theorem D1n {H:A2} {b:Nat} {cs:List AV} (h:hcells H b=some cs):hstk H b=none:= by
 unfold hcells at h
 unfold hstk
 split at h <;> first|(rename_i e;rw[e])|cases h
end Am
namespace Pw
open Go Am Go.Proofs.YtjpjdglddmhplaaGreat.Cd
def A8i (t:PaShow) (d:AV):List AV:=[.seq 8 (Zg C7 t.Gowns),.seq 4 (Zg B7 t.Figures),.i t.Purse,.seq 2 (Zg D3 t.Incomes),.fn (.func 90) [] [],.fn (.func 91) [] [],.fn (.func 92) [] [],.fn (.func 52) [] [],.fn (.func 93) [] [],.fn (.func 94) [] [],.fn (.func 55) [] [],.fn (.func 95) [] [],.fn (.func 96) [] [],d]
def shI (t:PaShow) (w:List AV) (d:AV):List AV:=.seq 8 (Zg C7 t.Gowns)::.seq 4 (Zg B7 t.Figures)::.i t.Purse::.seq 2 (Zg D3 t.Incomes)::(w++[d])
def A5f (t:PaShow) (days:List Int):List AV:=A8i t (.seq 1 (Zg cI days))
def shw (t:PaShow) (days:List Int):pawn_show:=⟨t,⟨pawn_way.mk,pawn_way.mk,pawn_way.mk⟩,days⟩
theorem way3 {i:Int} {u:Unit} (h:inR 3 i=some u):i=0∨i=1∨i=2:= by have:=C60 h;omega
theorem E6d {t:PaShow} {d:AV} {i:Int} {u:Unit} (h:inR 3 i=some u):((A8i t d).drop (4+i.toNat*3+2)).head? = some (.fn (.func (isel i 92 94 96)) [] []):= by rcases way3 h with rfl|rfl|rfl <;> rfl
theorem E6e {t:PaShow} {d:AV} {i:Int} {u:Unit} (h:inR 3 i=some u):((A8i t d).drop (4+i.toNat*3)).take 3=[.fn (.func (isel i 90 52 55)) [] [],.fn (.func (isel i 91 93 95)) [] [],.fn (.func (isel i 92 94 96)) [] []]:= by rcases way3 h with rfl|rfl|rfl <;> rfl
theorem E6f {t:PaShow} {d:AV} {i:Int} {u:Unit} (h:inR 3 i=some u):ZH 3 ((A8i t d).drop (4+i.toNat*3)).length=true:= by rcases way3 h with rfl|rfl|rfl <;> rfl
end Pw
end
section
set_option maxRecDepth 100000
namespace Pw
open Go Am Go.Proofs.YtjpjdglddmhplaaGreat.Cd
def A7q (t:PaShow) (s:List Int×Int):Option ((List Int×Int)⊕List Int) :=
 if (decide (s.2<(Zh t.Incomes:Int)))=true then
  (idx t.Incomes s.2).bind fun x=>(app 8 s.1 [x.Day]).bind fun l=>some (.inl (l,w64 (s.2+1)))
 else some (.inr s.1)
def A32 (t:PaShow):Option (Int×List Int) :=
 (A36 t).bind fun x =>
 if (x.2.2 != 0)=true then some (x.2.2,[])
 else (loop (A7q t) ([0],0)).bind fun l=>(B9i l).bind fun l=>(A9w l).bind fun y=>some (0,y.2)
theorem A5i {c:Sc} {H:A2} {t:PaShow} {x:Int×List Int} (h:A32 t=some x) (hx:(x.1==0)=false) :
  L5 tab c H (.fn (.func 51) [] []) [.agg (A9 t)] [.lit (.pointer none),.i x.1] H:= by
 unfold A32 at h
 refine oB h fun y hy h=>?_
 refine A1x (aq:=[.agg (A9 t)]) Z Z Z (Z3 ?_)
 refine sg 0 Z<|A0 (G1 (cs:=A9 t) Z Z Z) Z<|qm Z<|qm Z<|es (ra1 Z)<|B9<|s0<|A0 (C9 Z Z Z) Z<|B2 (rs:=[.i y.1,.i y.2.1,.i y.2.2]) Z Z (A1 (D0 Z) B3) ((A9l hy).frz)<|qm Z<|A0 (A7 Z Z) Z<|A0 (A7 Z Z) Z<|A0 (A7 Z Z) Z<|qm Z<|qm Z<|qm Z<|es (ra2 Z Z)<|s0<|qm Z<|A0 (H9 Z Z) Z<|es (ra3 Z Z Z)<|wi h Z (fun hc h=>?_) fun hc h=>?_
 ·obtain rfl:=os h
  refine s0<|qm Z<|qm Z<|qm Z<|es (ra2 Z Z)<|C6 ?_
  refine⟨trivial,_,_,A8 Z (A8 Z B6),A5 Z (A5 Z B5),A3 A4 (A3 A4 B1),?_⟩
  exact Z07
 ·refine oB h fun l hl h=>oB h fun l2 hl2 h=>oB h fun z hz h=>?_
  cases h
  cases hx
theorem D4y {c:Sc} {H:A2} {t:PaShow} {x:Int×List Int} (h:A32 t=some x) (hx:(x.1==0)=true) {y:Int×Int×Int} {l l2:List Int} {z:Bool×List Int} (hy:A36 t=some y) (hl:loop (A7q t) ([0],0)=some l) (hl2:B9i l=some l2) (hz:A9w l2=some z) :
  L5 tab c H (.fn (.func 51) [] []) [.agg (A9 t)] [.ptr (H.length+2) 0,.i 0] (H++[.cells (A9 t),bif z.1 then .dead else .arr 1 true (l2.map cI),.cells (A5f t x.2)]):= by
 unfold A32 at h
 rw[hy,Zd]at h
 split at h
 ·next hc=>cases h;rw[show y.2.2=0 by simpa using hx]at hc;cases hc
 next hc =>
 rw[hl,Zd,hl2,Zd,hz,Zd]at h
 obtain rfl:=os h
 have hsort:∀c' d,L5 tab c' (H++[.cells (A9 t),ar1 l,.cells (A8i t d)]) (.fn (.func 97) [] []) [.asl (H.length+1) l.length] [] (H++[.cells (A9 t),ar1 l2,.cells (A8i t d)]):=fun c' d=>by
  have:=E1s (c:=c') (A:=H++[.cells (A9 t)]) (B:=[.cells (A8i t d)]) hl2
  simpa using this
 have hcomp:∀c' d,L5 tab c' (H++[.cells (A9 t),ar1 l2,.cells (A8i t d)]) (.fn (.func 98) [] []) [.asl (H.length+1) l2.length] (bif z.1 then [.fresh 1 (z.2.map cI)] else [.seq 1 (z.2.map cI)]) (H++[.cells (A9 t),bif z.1 then .dead else .arr 1 true (l2.map cI),.cells (A8i t d)]):=fun c' d=>by
  have:=D07 (c:=c') (A:=H++[.cells (A9 t)]) (X:=.cells (A8i t d)) hz
  simpa using this
 have hlen2:=D55 hl2
 refine C8d (aq:=[.agg (A9 t)]) Z Z Z (Z3 ?_)
 refine sg 0 Z<|A0 (G1 (cs:=A9 t) Z Z Z) Z<|qm Z<|qm Z<|es (ra1 Z)<|B9<|s0<|A0 (C9 Z Z Z) Z<|B2 (rs:=[.i y.1,.i y.2.1,.i y.2.2]) Z Z (A1 (D0 Z) B3) ((A9l hy).frz)<|qm Z<|A0 (A7 Z Z) Z<|A0 (A7 Z Z) Z<|A0 (A7 Z Z) Z<|qm Z<|qm Z<|qm Z<|es (ra2 Z Z)<|s0<|qm Z<|A0 (H9 Z Z) Z<|es (ra3 Z Z Z)<|T0 Z (by simpa using hc)<|B8<|sg 1 Z<|A0 (C9 Z Z Z) Z<|A0 (C0m (rows:=Zg cI [0]) Z Z (D9 (fun _=>rfl) _)) Z<|A0 (R4 (cs:=(shI t [.lit .nilFunc,.lit .nilFunc,.lit .nilFunc,.lit .nilFunc,.lit .nilFunc,.lit .nilFunc,.lit .nilFunc,.lit .nilFunc,.lit .nilFunc] (.asl (H.length+1) 1))) Z Z) Z<|A0 (G1 (cs:=(shI t [.lit .nilFunc,.lit .nilFunc,.lit .nilFunc,.lit .nilFunc,.lit .nilFunc,.lit .nilFunc,.lit .nilFunc,.lit .nilFunc,.lit .nilFunc] (.asl (H.length+1) 1))) Z Z Z) Z<|qm Z<|es (ra2 Z Z) ?_
 refine s0<|qm Z<|A0 (R4 (cs:=[.fn (.func 90) [] [],.fn (.func 91) [] [],.fn (.func 92) [] []]) Z Z) Z<|A0 (N3 Z Z) Z<|A0 (C3 Z) Z<|A0 (B3q Z Z (by decide)) Z<|O6 (G0 (ds:=(shI t [.fn (.func 90) [] [],.fn (.func 91) [] [],.fn (.func 92) [] [],.lit .nilFunc,.lit .nilFunc,.lit .nilFunc,.lit .nilFunc,.lit .nilFunc,.lit .nilFunc] (.asl (H.length+1) 1))) Z Z Z Z (A2p (ZL _ _)) Z) Z<|es (ra2 Z Z) ?_
 refine s0<|qm Z<|A0 (R4 (cs:=[.fn (.func 52) [] [],.fn (.func 93) [] [],.fn (.func 94) [] []]) Z Z) Z<|A0 (N3 Z Z) Z<|A0 (C3 Z) Z<|A0 (B3q Z Z (by decide)) Z<|O6 (G0 (ds:=(shI t [.fn (.func 90) [] [],.fn (.func 91) [] [],.fn (.func 92) [] [],.fn (.func 52) [] [],.fn (.func 93) [] [],.fn (.func 94) [] [],.lit .nilFunc,.lit .nilFunc,.lit .nilFunc] (.asl (H.length+1) 1))) Z Z Z Z (A2p (ZL _ _)) Z) Z<|es (ra2 Z Z) ?_
 refine s0<|qm Z<|A0 (R4 (cs:=[.fn (.func 55) [] [],.fn (.func 95) [] [],.fn (.func 96) [] []]) Z Z) Z<|A0 (N3 Z Z) Z<|A0 (C3 Z) Z<|A0 (B3q Z Z (by decide)) Z<|O6 (G0 (ds:=(shI t [.fn (.func 90) [] [],.fn (.func 91) [] [],.fn (.func 92) [] [],.fn (.func 52) [] [],.fn (.func 93) [] [],.fn (.func 94) [] [],.fn (.func 55) [] [],.fn (.func 95) [] [],.fn (.func 96) [] []] (.asl (H.length+1) 1))) Z Z Z Z (A2p (ZL _ _)) Z) Z<|es (ra2 Z Z) ?_
 refine B9<|s0<|A0 (C3 Z) Z<|A0 (B4 Z Z Z) Z<|A0 (F2 (f:=D3) Z) Z<|qm Z<|es (ra4 Z Z Z Z)<|C5<|wl (fun s=>[(7,.ptr (H.length+2) 0),(39,.seq 2 (Zg D3 t.Incomes)),(40,.i t.Incomes.length),(41,.i s.2)]) (fun (_:Unit) s=>[.cells (A9 t),ar1 s.1,.cells (A8i t (.asl (H.length+1) s.1.length))]) 3 (fun r e s' H'=>PX 0 [(7,.ptr (H.length+2) 0)] (H++[.cells (A9 t),ar1 r,.cells (A8i t (.asl (H.length+1) r.length))]) e s' H') () hl Z Z (fun _ _=>rfl) (fun _=>rfl) Z (fun _=>bdc (J7 Z) (bdc G6 (bdc A4 (bdc A4 bdn)))) (fun _ s o hs=>?_) ?_
 ·unfold A7q at hs
  refine s0<|A0 (I3 Z Z) Z<|es (ra5 Z Z Z Z Z)<|B9<|wi hs Z (fun hc hs=>?_) fun hc hs=>?_
  ·refine oB hs fun x hx hs=>oB hs fun l' hl' hs=>?_
   refine B8<|B9<|C5<|sg 3 Z<|A0 (D4 (f:=D3) Z Z hx) Z<|A0 (C9e (ds:=D3 x) Z Z Z) Z<|A0 J6 Z<|O6 (G0 (ds:=D3 x) Z Z Z Z (A2p (Zn _)) Z) Z<|es (ra5 Z Z Z Z Z)<|r0<|qm Z<|A0 (N3 Z Z) Z<|A0 (C3 Z) Z<|A0 (B4 (x:=.asl (H.length+1) s.1.length) Z Z Z) Z<|A0 (C3 Z) Z<|A0 (B4 Z Z Z) Z<|A0 (J2 (rows:=Zg cI [x.Day]) Z Z (D9 (fun _=>rfl) _)) Z<|O7 (A0u (f:=cI) Z Z Z Z X8 (fun _=>rfl) hl') Z<|qm Z<|A0 (N3 Z Z) Z<|A0 (C3 Z) Z<|O6 (G0 (ds:=A8i t (.asl (H.length+1) l'.length)) Z Z Z Z (D8p (Nat.lt_succ_self _)) Z) Z<|en (ra4 Z Z Z Z)<|r0<|A0 (D8 Z Z) Z<|qm Z<|en (ra4 Z Z Z Z) ?_
   cases hs
   exact lnT () Z (su4 Z Z Z Z)
  ·refine G5 ?_
   obtain rfl:=os hs
   exact lx Z px (su1 Z)
 ·rintro e s' H'-⟨rfl,rfl,rfl⟩
  refine s0<|qm Z<|A0 (N3 Z Z) Z<|A0 (C3 Z) Z<|A0 (B4 (x:=.asl (H.length+1) l.length) Z Z Z) Z<|O7 (A4j Z Z (hsort _ _) Z) Z<|es (ra1 Z) ?_
  have hrs:((bif z.1 then [AV.fresh 1 (z.2.map cI)] else [.seq 1 (z.2.map cI)]):List AV).map fzA=[.seq 1 (z.2.map cI)]:= by cases z.1 <;> rfl
  rw[← hlen2]
  refine s0<|qm Z<|qm Z<|A0 (N3 Z Z) Z<|A0 (C3 Z) Z<|A0 (B4 (x:=.asl (H.length+1) l2.length) Z Z Z) Z<|O7 (A4j Z Z (hcomp _ _) hrs) Z<|A0 (N3 Z Z) Z<|A0 (C3 Z) Z<|O6 (G0 (ds:=A5f t z.2) Z Z Z Z (E0 Z) Z) Z<|es (ra1 Z)<|s0<|qm Z<|qm Z<|qm Z<|es (ra2 Z Z)<|C6 ?_
  refine⟨trivial,_,A8 Z (A8 Z B6),A5 Z (A5 Z B5),Y3 ?_⟩
  have:=A8r (N:=H.length) (B:=0) (j:=2) (o:=0) Z
  exact this
end Pw
namespace Pw
open Go Am Go.Proofs.YtjpjdglddmhplaaGreat.Cd
theorem nef {a:Int} (h:¬ (a==0)=true):(a != 0)=true:= by simpa [bne] using h
theorem A4g {t:PaShow} {x:Int×List Int} (h:A32 t=some x) (hx:(x.1==0)=true):∃X,New tab (.fn (.func 51) [] []) [.agg (A9 t)] 2 [.cells (A9 t),X,.cells (A5f t x.2)]:= by
 have h0:=h
 unfold A32 at h0
 refine oB h0 fun y hy h0=>?_
 split at h0
 ·next hc=>cases h0;rw[show y.2.2=0 by simpa using hx]at hc;cases hc
 refine oB h0 fun l hl h0=>oB h0 fun l2 hl2 h0=>oB h0 fun z hz h0=>?_
 refine⟨bif z.1 then .dead else .arr 1 true (l2.map cI),fun c H N hN=>?_⟩
 subst hN
 exact D4y h hx hy hl hl2 hz
end Pw
end
section
set_option maxRecDepth 100000
set_option maxHeartbeats 0
namespace Pw
open Go Am Go.Proofs.YtjpjdglddmhplaaGreat.Cd
def T2 (a0:PaShow):Option Bool :=
 (V7 a0).bind fun x1 =>
 some (x1.2.2==0)
theorem W7 {c:Sc} {H:A2} {a0:PaShow} {r:Bool} (h:T2 a0=some r) :
  F0 tab c H (.fn (.func 33) [] []) [(.agg (A9 a0))] [.b r]:= by
 unfold T2 at h
 refine cE Z Z<|sg 0 Z<|A0 (G1 (cs:=A9 a0) Z Z Z) Z<|qm Z<|es (ra1 Z)<|s0<|oB h fun x1 hx1 h=>A0 (C9 Z Z Z) Z<|B2 (rs:=[.i x1.1,.i x1.2.1,.i x1.2.2]) Z Z (A1 (D0 Z) B3) ((A0h hx1).frz)<|qm Z<|A0 (A7 Z Z) Z<|A0 (A7 Z Z) Z<|A0 (A7 Z Z) Z<|qm Z<|qm Z<|qm Z<|es (ra1 Z)<|s0<|qm Z<|A0 (F9 Z Z) Z<|qm Z<|es (ra1 Z)<|C6 ?_
 obtain rfl:=os h
 exact retq trivial (A8 Z B6) (A5 Z B5) (A3 A4 B1)
end Pw
end
section
namespace Pw
open Go Am
structure GwOk (g:PaGown):Prop where
 looks:0≤g.Looks∧g.Looks≤15
 loan:0≤g.Loan∧g.Loan≤5000
 rate:0≤g.Rate∧g.Rate≤500
 fee:0≤g.Fee∧g.Fee≤100
 ago:0≤g.Ago∧g.Ago≤364
 last:0≤g.Last∧g.Last≤364
 free:g.Pawn=false→g.Loan=0∧g.Rate=0∧g.Fee=0∧g.Ago=0∧g.Last=0
structure FgOk (f:PaFigure):Prop where
 day:0≤f.Day∧f.Day≤f.Until
 til:f.Until≤364
 needs:0≤f.Needs∧f.Needs≤15
structure InOk (x:PaIncome):Prop where
 day:0≤x.Day∧x.Day≤364
 pence:0≤x.Pence∧x.Pence≤10000
theorem A40 {α:Type} [Inhabited α] {l:List α} {x:α} (h:x∈l):∃i,i<l.length∧l[i]! = x:= by
 obtain⟨i,hi,e⟩:=ZX.mp h
 exact⟨i,hi,by rw[getElem!_pos l i hi,e]⟩
structure NmOk (l:List ByteArray):Prop where
 each:∀s∈l,A5q s=true
 two:l.Pairwise fun a b=>eqS a b=false
theorem D63 (a b:ByteArray):eqS a b=eqS b a:= by
 unfold eqS
 rw[Z0c,beq_iff_eq,beq_iff_eq]
 exact eq_comm
theorem B03 {s:ByteArray} {l:List ByteArray}:P5 s l=0↔A5q s=true∧∀ y∈l,eqS y s=false:= by
 unfold P5
 cases A5q s with
 | false=>simp
 | true =>
  rw[if_pos Z]
  cases hl:l.any (fun y=>eqS y s) with
  | true =>
   rw[Z2m]at hl
   obtain⟨y,h1,h2⟩:=hl
   refine⟨fun q=>absurd q (by decide),fun q=>?_⟩
   rw[q.2 y h1]at h2;cases h2
  | false =>
   rw[List.any_eq_false]at hl
   refine⟨fun _=>⟨Z,fun y hy=>by have:=hl y hy;simpa using this⟩,fun _=>rfl⟩
theorem D77 (l:List ByteArray):(∀ i,i<l.length→P5 l[i]! (l.take i)=0)↔NmOk l:= by
 constructor
 ·intro h
  refine⟨fun s hs=>?_,?_⟩
  ·obtain⟨i,hi,rfl⟩:=A40 hs
   exact(B03.mp (h i hi)).1
  ·rw[Z0e]
   intro i j hi hj hij
   have:=(B03.mp (h j hj)).2 l[i] (by
    rw[Z0f]
    exact⟨i,by omega,Z⟩)
   rwa [getElem!_pos l j hj]at this
 ·intro h i hi
  refine B03.mpr ⟨h.each _ (J1 hi),fun y hy=>?_⟩
  rw[Z0f]at hy
  obtain⟨j,hj,rfl⟩:=hy
  have:=Z0e.mp h.two j i (by omega) hi (by omega)
  rwa [getElem!_pos l i hi]
theorem D78 {α:Type} [Inhabited α] (k:α→ByteArray) (l:List α):(∀ i,i<l.length→P5 (k l[i]!) ((l.take i).map k)=0)↔NmOk (l.map k):= by
 rw[← D77,Zi]
 refine forall_congr' fun i=>forall_congr' fun hi=>?_
 rw[List.map_take,getElem!_pos (l.map k) i (by rw[Zi];exact hi),List.getElem_map,getElem!_pos l i hi]
theorem NmOk.reverse {l:List ByteArray} (h:NmOk l):NmOk l.reverse :=
 ⟨fun s hs=>h.each s (List.mem_reverse.mp hs),by
  rw[List.pairwise_reverse]
  exact h.two.imp fun {a b} e=>by rw[D63];exact e⟩
structure ShOk (s:PaShow):Prop where
 gowns:s.Gowns.length≤5
 gown:∀g∈s.Gowns,GwOk g
 gname:NmOk (s.Gowns.map (·.Name))
 figures:s.Figures.length≤3
 figure:∀f∈s.Figures,FgOk f
 fname:NmOk (s.Figures.map (·.Name))
 purse:0≤s.Purse∧s.Purse≤10000
 incomes:s.Incomes.length≤3
 income:∀x∈s.Incomes,InOk x
theorem D3b (g:PaGown):gOk g=true↔GwOk g:= by
 unfold gOk
 cases hp:g.Pawn
 ·simp only[Zc,Z05,P6,Zj,if_false,beq_iff_eq]
  constructor
  ·rintro⟨h1,h2,h3,h4,h5,h6⟩
   exact⟨h1,by omega,by omega,by omega,by omega,by omega,fun _=>⟨h2,h3,h4,h5,h6⟩⟩
  ·intro h
   have:=h.free hp
   exact⟨h.looks,this⟩
 ·simp only[Zc,Z05,P6,if_true]
  constructor
  ·rintro⟨h1,h2,h3,h4,h5,h6⟩
   exact⟨h1,h2,h3,h4,h5,h6,fun h=>by rw[hp]at h;cases h⟩
  ·intro h
   exact⟨h.looks,h.loan,h.rate,h.fee,h.ago,h.last⟩
theorem D23 (f:PaFigure):fC f=0↔FgOk f:= by
 unfold fC
 constructor
 ·intro h
  split at h
  ·cases h
  ·next h1 =>
   split at h
   ·cases h
   ·next h2 =>
    have h1:(out 0 364 f.Day||(out 0 364 f.Until||out 0 15 f.Needs))=false:= by simpa using h1
    rw[Z2j,Z2j,P6,P6,P6]at h1
    exact⟨by omega,by omega,h1.2.2⟩
 ·intro h
  have h1:=h.day
  have h2:=h.til
  rw[P6.mpr (by omega:0≤f.Day∧f.Day≤364),P6.mpr (by omega:0≤f.Until∧f.Until≤364),P6.mpr h.needs,if_neg (by decide),if_neg (by omega)]
theorem B0k {f:Nat→Int} {n:Nat} (h:∀i,i<n→f i=0):wrong f n=none:= by
 unfold wrong
 rw[L7]
 intro i hi
 rw[h i hi];rfl
theorem A6h {f:Nat→Int} {n:Nat}:wrong f n=none↔∀ i,i<n→f i=0:=⟨D2q,B0k⟩
theorem C1q {l:List PaGown}:(∀ i,i<l.length→B16 l i=0)↔(∀ g∈l,GwOk g)∧NmOk (l.map (·.Name)):= by
 rw[← D78]
 have key:∀i,B16 l i=0↔P5 l[i]!.Name ((l.take i).map (·.Name))=0∧gOk l[i]! = true:=fun i=>by
  unfold B16
  by_cases c:P5 l[i]!.Name ((l.take i).map (·.Name))=0
  ·rw[if_pos c]
   cases gOk l[i]! with
   | true=>exact⟨fun _=>⟨c,Z⟩,fun _=>rfl⟩
   | false=>exact⟨fun q=>absurd q (by decide),fun q=>absurd q.2 (by decide)⟩
  ·rw[if_neg c];exact⟨fun q=>absurd q c,fun q=>absurd q.1 c⟩
 constructor
 ·intro q
  refine⟨fun x hx=>?_,fun i hi=>((key i).mp (q i hi)).1⟩
  obtain⟨i,hi,rfl⟩:=A40 hx
  exact(D3b _).mp ((key i).mp (q i hi)).2
 ·intro q i hi
  exact(key i).mpr ⟨q.2 i hi,(D3b _).mpr (q.1 _ (J1 hi))⟩
theorem C1g {l:List PaFigure}:(∀ i,i<l.length→B12 l i=0)↔(∀ g∈l,FgOk g)∧NmOk (l.map (·.Name)):= by
 rw[← D78]
 have key:∀i,B12 l i=0↔P5 l[i]!.Name ((l.take i).map (·.Name))=0∧fC l[i]! = 0:=fun i=>by
  unfold B12
  by_cases c:P5 l[i]!.Name ((l.take i).map (·.Name))=0
  ·rw[if_pos c];exact⟨fun q=>⟨c,q⟩,fun q=>q.2⟩
  ·rw[if_neg c];exact⟨fun q=>absurd q c,fun q=>absurd q.1 c⟩
 constructor
 ·intro q
  refine⟨fun x hx=>?_,fun i hi=>((key i).mp (q i hi)).1⟩
  obtain⟨i,hi,rfl⟩:=A40 hx
  exact(D23 _).mp ((key i).mp (q i hi)).2
 ·intro q i hi
  exact(key i).mpr ⟨q.2 i hi,(D23 _).mpr (q.1 _ (J1 hi))⟩
theorem C1u {l:List PaIncome}:(∀ i,i<l.length→B2b l i=0)↔∀ g∈l,InOk g:= by
 have key:∀i,B2b l i=0↔InOk l[i]!:=fun i=>by
  unfold B2b
  cases h1:out 0 364 l[i]!.Day with
  | true=>exact⟨fun q=>by simp at q,fun q=>by rw[P6.mpr q.day]at h1;cases h1⟩
  | false =>
   cases h2:out 0 10000 l[i]!.Pence with
   | true=>exact⟨fun q=>by simp at q,fun q=>by rw[P6.mpr q.pence]at h2;cases h2⟩
   | false=>exact⟨fun _=>⟨P6.mp h1,P6.mp h2⟩,fun _=>rfl⟩
 constructor
 ·intro q x hx
  obtain⟨i,hi,rfl⟩:=A40 hx
  exact(key i).mp (q i hi)
 ·intro q i hi
  exact(key i).mpr (q _ (J1 hi))
theorem O9 (s:PaShow):(chk s).2.2=0↔ShOk s:= by
 unfold chk
 by_cases h1:s.Gowns.length>5
 ·rw[if_pos h1];exact⟨fun q=>absurd q (by decide:(3:Int)≠0),fun q=>absurd q.gowns (by omega)⟩
 rw[if_neg h1]
 cases hw:wrong (B16 s.Gowns) s.Gowns.length with
 | some x =>
  refine⟨fun q=>?_,fun q=>?_⟩
  ·have:=A8n hw
   have q:x.2=0:=q
   rw[q]at this;cases this
  ·rw[B0k (C1q.mpr ⟨q.gown,q.gname⟩)]at hw;cases hw
 | none =>
  simp only
  have hg:=C1q.mp (A6h.mp hw)
  by_cases h2:s.Figures.length>3
  ·rw[if_pos h2];exact⟨fun q=>absurd q (by decide:(3:Int)≠0),fun q=>absurd q.figures (by omega)⟩
  rw[if_neg h2]
  cases hw2:wrong (B12 s.Figures) s.Figures.length with
  | some x =>
   refine⟨fun q=>?_,fun q=>?_⟩
   ·have:=A8n hw2
    have q:x.2=0:=q
    rw[q]at this;cases this
   ·rw[B0k (C1g.mpr ⟨q.figure,q.fname⟩)]at hw2;cases hw2
  | none =>
   simp only
   have hf:=C1g.mp (A6h.mp hw2)
   cases hp:out 0 10000 s.Purse with
   | true=>exact⟨fun q=>absurd q (by decide:(7:Int)≠0),fun q=>by rw[P6.mpr q.purse]at hp;cases hp⟩
   | false =>
    simp only[Zj,if_false]
    by_cases h3:s.Incomes.length>3
    ·rw[if_pos h3];exact⟨fun q=>absurd q (by decide:(3:Int)≠0),fun q=>absurd q.incomes (by omega)⟩
    rw[if_neg h3]
    cases hw3:wrong (B2b s.Incomes) s.Incomes.length with
    | some x =>
     refine⟨fun q=>?_,fun q=>?_⟩
     ·have:=A8n hw3
      have q:x.2=0:=q
      rw[q]at this;cases this
     ·rw[B0k (C1u.mpr q.income)]at hw3;cases hw3
    | none =>
     exact⟨fun _=>⟨by omega,hg.1,hg.2,by omega,hf.1,hf.2,P6.mp hp,by omega,C1u.mp (A6h.mp hw3)⟩,fun _=>rfl⟩
theorem D4h:∀{l m:List Int},Str l→Str m→(∀ x,x∈l↔x∈m)→l=m
 | [],[],_,_,_=>rfl
 | [],y::m,_,_,h=>absurd ((h y).mpr (Zy ..)) (by simp)
 | x::l,[],_,_,h=>absurd ((h x).mp (Zy ..)) (by simp)
 | x::l,y::m,hl,hm,h=>by
  have hl':=Z1j.mp hl
  have hm':=Z1j.mp hm
  have hxy:x=y:= by
   rcases Zu.mp ((h x).mp (Zy ..)) with e|h1
   ·exact e
   ·rcases Zu.mp ((h y).mpr (Zy ..)) with e|h2
    ·exact e.symm
    ·have:=hm'.1 x h1;have:=hl'.1 y h2;omega
  subst hxy
  rw[D4h hl'.2 hm'.2 fun z=>?_]
  constructor
  ·intro hz
   rcases Zu.mp ((h z).mp (Zx _ hz)) with e|h1
   ·subst e;have:=hl'.1 z hz;omega
   ·exact h1
  ·intro hz
   rcases Zu.mp ((h z).mpr (Zx _ hz)) with e|h1
   ·subst e;have:=hm'.1 z hz;omega
   ·exact h1
def F4 (s:PaShow):List Int:=0::((List.range 364).map fun (i:Nat)=>(i:Int)+1).filter fun d=>s.Incomes.any fun x=>x.Day==d
theorem B7c (s:PaShow):Str (F4 s):= by
 unfold F4
 refine Z1j.mpr ⟨fun x hx=>?_,?_⟩
 ·have:=(Z0a.mp hx).1
  obtain⟨i,_,rfl⟩:=ZK.mp this
  omega
 ·refine List.Pairwise.filter _ ?_
  rw[List.pairwise_map]
  exact List.pairwise_lt_range.imp (fun h=>by omega)
theorem B28 {s:PaShow} (hs:ShOk s) (d:Int):d∈F4 s↔d=0∨∃ x∈s.Incomes,x.Day=d:= by
 unfold F4
 rw[Zu,Z0a,ZK,Z2m]
 constructor
 ·rintro (h|⟨_,x,hx,e⟩)
  ·exact .inl h
  ·exact .inr ⟨x,hx,by simpa using e⟩
 ·rintro (h|⟨x,hx,rfl⟩)
  ·exact .inl h
  ·have:=(hs.income x hx).day
   by_cases h0:x.Day=0
   ·exact .inl h0
   ·exact .inr ⟨⟨(x.Day-1).toNat,by simp;omega,by omega⟩,x,hx,by simp⟩
theorem D1e (s:PaShow) (hl:s.Incomes.length≤3):loop (A7q s) ([0],0)=some ([0]++s.Incomes.map (·.Day)):= by
 have:=B3m (b:=A7q s) (fun i=>([0]++(s.Incomes.take i).map (·.Day),(i:Int))) s.Incomes.length (fun _=>none) ([0]++s.Incomes.map (·.Day)) (by omega) (fun i hi _=>by
  unfold A7q
  rw[if_pos (by simpa using hi),G9 hi]
  simp only[Zd]
  rw[A0p (by omega) (by simp;omega),D6 (by omega)]
  simp only[Zd]
  rw[ZB,B8k (fun x:PaIncome=>x.Day) hi]
  rfl) (fun _=>by
  unfold A7q
  rw[if_neg (by simp),Z0n])
 rw[show (([0]:List Int),(0:Int))=([0]++(s.Incomes.take 0).map (·.Day),((0:Nat):Int)) from Z,this]
 rw[L7.mpr fun _ _=>rfl];rfl
theorem A7r (s:PaShow) (hb:NB s):A32 s=some (if (chk s).2.2=0 then (0,F4 s) else ((chk s).2.2,[])):= by
 unfold A32
 rw[C7u s hb]
 simp only[Zd]
 by_cases h:(chk s).2.2=0
 ·have hs:=(O9 s).mp h
  rw[if_neg (by simp[h]),if_pos h,D1e s hs.incomes]
  simp only[Zd]
  have hle:=hs.incomes
  obtain⟨l',h1,h2,h3⟩:=E1r ([0]++s.Incomes.map (·.Day)) (by simp) (by simp;omega)
  rw[h1]
  simp only[Zd]
  have hlen:=h3.length_eq
  obtain⟨b,r,h4,h5,h6⟩:=D06 h2 (by rw[hlen];simp) (by rw[hlen];simp;omega)
  rw[h4]
  simp only[Zd]
  rw[D4h h5 (B7c s) fun x=>?_]
  rw[h6,h3.mem_iff,B28 hs]
  simp
 ·rw[if_pos (by simpa using h),if_neg h]
theorem A8m (s:PaShow):T2 s=some (decide ((chk s).2.2=0)):= by
 unfold T2
 rw[A01]
 simp only[Zd]
 by_cases h:(chk s).2.2=0 <;> simp[h]
theorem A6r {α:Type} {l:List Sh} {c:α→List AV} {Q:α→Prop} (h:∀r,SatL l r→∃ x,r=c x∧Q x):∀rows:List (List AV),(∀ r∈rows,SatL l r)→∃ xs:List α,rows=xs.map c∧xs.length=rows.length∧∀ x∈xs,Q x
 | [],_=>⟨[],Z,Z,by simp⟩
 | r::rows,hr=>by
  obtain⟨x,hx,hq⟩:=h r (hr r (Zy ..))
  obtain⟨xs,hxs,hlen,hqs⟩:=A6r h rows fun r' h'=>hr r' (Zx _ h')
  refine⟨x::xs,by rw[hx,hxs];rfl,by rw[ZT,ZT,hlen],?_⟩
  intro y hy
  rcases Zu.mp hy with rfl|hy
  ·exact hq
  ·exact hqs y hy
theorem D5m (r:List AV) (h:SatL [.str,.int .i64,.bool,.int .i64,.int .i64,.int .i64,.int .i64,.int .i64] r):∃x:PaGown,r=C7 x∧x.Name.size≤maxLen:= by
 simp only[SatL,Sat]at h
 obtain⟨x1,q1,rfl,⟨s,rfl,hs⟩,x2,q2,rfl,⟨n2,rfl,_⟩,x3,q3,rfl,⟨n3,rfl⟩,x4,q4,rfl,⟨n4,rfl,_⟩,x5,q5,rfl,⟨n5,rfl,_⟩,x6,q6,rfl,⟨n6,rfl,_⟩,x7,q7,rfl,⟨n7,rfl,_⟩,x8,q8,rfl,⟨n8,rfl,_⟩,rfl⟩:=h
 exact⟨⟨s,n2,n3,n4,n5,n6,n7,n8⟩,Z,hs⟩
theorem C9j (r:List AV) (h:SatL [.str,.int .i64,.int .i64,.int .i64] r):∃x:PaFigure,r=B7 x∧x.Name.size≤maxLen:= by
 simp only[SatL,Sat]at h
 obtain⟨x1,q1,rfl,⟨s,rfl,hs⟩,x2,q2,rfl,⟨n2,rfl,_⟩,x4,q4,rfl,⟨n4,rfl,_⟩,x5,q5,rfl,⟨n5,rfl,_⟩,rfl⟩:=h
 exact⟨⟨s,n2,n4,n5⟩,Z,hs⟩
theorem C9k (r:List AV) (h:SatL [.int .i64,.int .i64] r):∃x:PaIncome,r=D3 x∧True:= by
 simp only[SatL,Sat]at h
 obtain⟨x1,q1,rfl,⟨n1,rfl,_⟩,x2,q2,rfl,⟨n2,rfl,_⟩,rfl⟩:=h
 exact⟨⟨n1,n2⟩,Z,trivial⟩
def D2f:List Sh:=[.seq 8 [.str,.int .i64,.bool,.int .i64,.int .i64,.int .i64,.int .i64,.int .i64],.seq 4 [.str,.int .i64,.int .i64,.int .i64],.int .i64,.seq 2 [.int .i64,.int .i64]]
theorem D5n (r:List AV) (h:SatL D2f r):∃x:PaShow,r=A9 x∧NB x:= by
 unfold D2f at h
 rw[SatL]at h;obtain⟨x0,q0,rfl,h0,h⟩:=h
 rw[SatL]at h;obtain⟨x1,q1,rfl,h1,h⟩:=h
 rw[SatL]at h;obtain⟨x2,q2,rfl,h2,h⟩:=h
 rw[SatL]at h;obtain⟨x3,q3,rfl,h3,h⟩:=h
 rw[SatL]at h;subst h
 simp only[Sat]at h0 h1 h2 h3
 obtain⟨rows0,rfl,_,hr0⟩:=h0
 obtain⟨rows1,rfl,_,hr1⟩:=h1
 obtain⟨n2,rfl,_⟩:=h2
 obtain⟨rows3,rfl,_,hr3⟩:=h3
 obtain⟨xs,rfl,_,hq0⟩:=A6r D5m rows0 hr0
 obtain⟨ys,rfl,_,hq1⟩:=A6r C9j rows1 hr1
 obtain⟨ws,rfl,_,_⟩:=A6r C9k rows3 hr3
 refine⟨⟨xs,ys,n2,ws⟩,Z,fun v hv=>?_,fun v hv=>?_⟩
 ·have:=hq0 v hv;simp only[maxLen]at this;omega
 ·have:=hq1 v hv;simp only[maxLen]at this;omega
theorem D9z {g:Ghost} {cs:List Value} {r:List AV} (hr:r.length=cs.length) (h:∀(j:Nat) (x:AV),r[j]? = some x→∃ v,cs[j]? = some v∧Den g.Φ x v∧v.oneCell'=true):V g (.agg r) (.agg cs.toArray):= by
 refine .agg r cs.toArray (by simpa using hr.symm) ?_ ?_
 ·intro j x hx
  obtain⟨v,hv,hd,_⟩:=h j x hx
  rw[Z0r,hv];exact .den _ _ hd
 ·intro j x hx
  obtain⟨v,hv,_,h1⟩:=h j x hx
  rw[Z0r,hv];exact h1
end Pw
end
section
set_option maxRecDepth 100000
set_option maxHeartbeats 0
namespace Pw
open Go Am Go.Proofs.YtjpjdglddmhplaaGreat.Cd
def A1c :Option PaUse :=
 some (PaUse.mk (-1) 0 0)
theorem A68 {c:Sc} {H:A2}  {r:PaUse} (h:A1c  = some r) :
  F0 tab c H (.fn (.func 99) [] []) [] [(.agg (A6 r))]:= by
 unfold A1c at h
 refine cE Z Z<|sg 0 Z<|A0 J6 Z<|es (ra1 Z)<|s0<|A0 (R4 (cs:=A6 (PaUse.mk (-1) 0 0)) Z Z) Z<|O6 (G0 (ds:=(A6 (PaUse.mk (-1) 0 0))) Z Z Z Z (E0 Z) Z) Z<|es (ra1 Z)<|C6 ?_
 obtain rfl:=os h
 exact retq trivial (B3v (A6b (ds:=A6 (PaUse.mk (-1) 0 0)) Z Z Z Z) B6) (A5 (B79 Z) B5) (A3 (B69 Z) B1)
def A7d (a0:PaGown) (a1:PaFigure) (a2:Int):Option Bool :=
 some (a2==0)
theorem B9y {c:Sc} {H:A2} {a0:PaGown} {a1:PaFigure} {a2:Int} {r:Bool} (h:A7d a0 a1 a2=some r) :
  F0 tab c H (.fn (.func 92) [] []) [(.agg (C7 a0)),(.agg (B7 a1)),.i a2] [.b r]:= by
 unfold A7d at h
 refine cE Z Z<|sg 0 Z<|A0 (G1 (cs:=C7 a0) Z Z Z) Z<|A0 (G1 (cs:=B7 a1) Z Z Z) Z<|qm Z<|es (ra1 Z)<|s0<|qm Z<|A0 (F9 Z Z) Z<|qm Z<|es (ra1 Z)<|C6 ?_
 obtain rfl:=os h
 exact retq trivial (A8 Z B6) (A5 Z B5) (A3 A4 B1)
def A7e (a0:PaGown) (a1:PaFigure) (a2:Int):Option Bool :=
 some (decide (a2≤(A5b a0.Last a1.Day)))
theorem B90 {c:Sc} {H:A2} {a0:PaGown} {a1:PaFigure} {a2:Int} {r:Bool} (h:A7e a0 a1 a2=some r) :
  F0 tab c H (.fn (.func 94) [] []) [(.agg (C7 a0)),(.agg (B7 a1)),.i a2] [.b r]:= by
 unfold A7e at h
 refine cE Z Z<|sg 0 Z<|A0 (G1 (cs:=C7 a0) Z Z Z) Z<|A0 (G1 (cs:=B7 a1) Z Z Z) Z<|qm Z<|es (ra3 Z Z Z)<|s0<|qm Z<|A0 (C3 Z) Z<|A0 (B4 Z Z Z) Z<|A0 (C3 Z) Z<|A0 (B4 Z Z Z) Z<|A0 (C9g Z Z) Z<|A0 (A4p Z Z) Z<|qm Z<|es (ra1 Z)<|C6 ?_
 obtain rfl:=os h
 exact retq trivial (A8 Z B6) (A5 Z B5) (A3 A4 B1)
def A2s (a0:PaGown) (a1:PaFigure) (a2:Int):Option Bool :=
 some (decide (a1.Until≤a0.Last))
theorem B1o {c:Sc} {H:A2} {a0:PaGown} {a1:PaFigure} {a2:Int} {r:Bool} (h:A2s a0 a1 a2=some r) :
  F0 tab c H (.fn (.func 96) [] []) [(.agg (C7 a0)),(.agg (B7 a1)),.i a2] [.b r]:= by
 unfold A2s at h
 refine cE Z Z<|sg 0 Z<|A0 (G1 (cs:=C7 a0) Z Z Z) Z<|A0 (G1 (cs:=B7 a1) Z Z Z) Z<|qm Z<|es (ra2 Z Z)<|s0<|A0 (C3 Z) Z<|A0 (B4 Z Z Z) Z<|A0 (C3 Z) Z<|A0 (B4 Z Z Z) Z<|A0 (A4p Z Z) Z<|qm Z<|es (ra1 Z)<|C6 ?_
 obtain rfl:=os h
 exact retq trivial (A8 Z B6) (A5 Z B5) (A3 A4 B1)
def Z9 (a0:pawn_show) (a1:Int) (a2:PaUse):Option Int :=
 (A1c).bind fun x1 =>
 if ((a2.Gown==x1.Gown)&&((a2.How==x1.How)&&((a2.Day==x1.Day)&&true)))=true then
  some 0
 else
  if (a2.Gown==(-1))=true then
  some 2
  else
  (G3 0 (w64 ((Zh a0.PaShow.Gowns:Int)-1)) [a2.Gown]).bind fun x4 =>
  if x4=true then
   some 4
  else
   (idx a0.PaShow.Gowns a2.Gown).bind fun x6 =>
   (idx a0.PaShow.Figures a1).bind fun x7 =>
   (if (a2.How==1)=true then
    some 364
   else
    some 0).bind fun (p8:Int) =>
   (G3 0 2 [a2.How]).bind fun x10 =>
   (if (x10||(!(x6.Pawn==(a2.How != 0))))=true then
   some true
   else
   (G3 0 p8 [a2.Day]).bind fun x13 =>
   some x13).bind fun x14 =>
   if x14=true then
   some 2
   else
   (if ((A2k x7.Needs x6.Looks) != 0)=true then
    some true
   else
    (inR 3 a2.How).bind fun x17 =>
    (sel3 a2.How (A7d x6 x7 a2.Day) (A7e x6 x7 a2.Day) (A2s x6 x7 a2.Day)).bind fun x18 =>
    some (!x18)).bind fun x19 =>
   if x19=true then
    some 9
   else
    some 0
theorem A5s {c:Sc} {H:A2} {a0:pawn_show} {b0:Nat} (hb0:hcells H b0=some [(.seq 8 (Zg C7 a0.PaShow.Gowns)),(.seq 4 (Zg B7 a0.PaShow.Figures)),.i a0.PaShow.Purse,(.seq 2 (Zg D3 a0.PaShow.Incomes)),(.fn (.func 90) [] []),(.fn (.func 91) [] []),(.fn (.func 92) [] []),(.fn (.func 52) [] []),(.fn (.func 93) [] []),(.fn (.func 94) [] []),(.fn (.func 55) [] []),(.fn (.func 95) [] []),(.fn (.func 96) [] []),(.seq 1 (Zg cI a0.days_))]) {a1:Int} {a2:PaUse} {r:Int} (h:Z9 a0 a1 a2=some r) :
  F0 tab c H (.fn (.func 57) [] []) [.ptr b0 0,.i a1,(.agg (A6 a2))] [.i r]:= by
 unfold Z9 at h
 refine cE Z Z<|sg 0 Z<|A0 (G1 (cs:=A6 a2) Z Z Z) Z<|qm Z<|es (ra3 Z Z Z)<|B9<|C5<|s0<|oB h fun x1 hx1 h=>A0 (C9 Z Z Z) Z<|T3 (rs:=[(.agg (A6 x1))]) Z Z A0j B3 ((A68 hx1).frz)<|A0 (C7d (a:=A6 a2) (b:=A6 x1) Z Z Z Z (U9 (U9 (U9 B29)))) Z<|qm Z<|es (ra4 Z Z Z Z)<|wi h Z (fun hc2 h=>?_) fun hc2 h=>?_
 ·refine s0<|qm Z<|es (ra1 Z)<|C6 ?_
  obtain rfl:=os h
  exact retq trivial (A8 Z B6) (A5 Z B5) (A3 A4 B1)
 ·refine s0<|A0 (C3 Z) Z<|A0 (B4 Z Z Z) Z<|A0 (F9 Z Z) Z<|qm Z<|es (ra4 Z Z Z Z)<|wi h Z (fun hc3 h=>?_) fun hc3 h=>?_
  ·refine s0<|qm Z<|es (ra1 Z)<|C6 ?_
   obtain rfl:=os h
   exact retq trivial (A8 Z B6) (A5 Z B5) (A3 A4 B1)
  ·refine s0<|oB h fun x4 hx4 h=>qm Z<|A0 (N3 Z Z) Z<|A0 (C3 Z) Z<|A0 (C3 Z) Z<|A0 (I6 (x:=(.seq 8 (Zg C7 a0.PaShow.Gowns))) Z hb0 Z) Z<|A0 (F2 (f:=C7) Z) Z<|A0 (W1 Z Z) Z<|A0 (C3 Z) Z<|A0 (B4 Z Z Z) Z<|A0 (J2 (rows:=Zg cI [a2.Gown]) Z Z (D9 (fun _=>rfl) _)) Z<|B2 (rs:=[.b x4]) Z Z (A1 Z (A1 Z (A1 Z B3))) ((H8 hx4).frz)<|qm Z<|es (ra4 Z Z Z Z)<|wi h Z (fun hc5 h=>?_) fun hc5 h=>?_
   ·refine s0<|qm Z<|es (ra1 Z)<|C6 ?_
    obtain rfl:=os h
    exact retq trivial (A8 Z B6) (A5 Z B5) (A3 A4 B1)
   ·refine B8<|sg 1 Z<|oB h fun x6 hx6 h=>oB h fun x7 hx7 h=>qm Z<|A0 (N3 Z Z) Z<|A0 (C3 Z) Z<|A0 (C3 Z) Z<|J3 [1,2] (O2 [1,2] rfl H7 Z Z) (seen0 Z) (I6 (x:=(.seq 8 (Zg C7 a0.PaShow.Gowns))) Z hb0 Z) Z<|A0 (C3 Z) Z<|J3 [1,2] (O2 [1,2] rfl H7 Z Z) (seen0 Z) (B4 Z Z Z) Z<|J3 [1,2] (O2 [1,2] rfl H7 Z Z) (seen0 Z) (D4 (f:=C7) Z Z hx6) Z<|J3 [1,2] (O2 [1,2] rfl H7 Z Z) (seen0 Z) (I0 Z Z) Z<|A0 J6 Z<|A0 J6 Z<|D8x [] [(.cells (A6 a2)),(.cells (C7 x6)),(.cells (B7 (PaFigure.mk (ByteArray.mk #[]) 0 0 0)))] (A65 hb0) (E2v [] rfl (B3z Z B0w H7) Z Z (A65 hb0) (D1n hb0)) (seen0 Z) (D8c (I5 _ _ _) (ds:=(C7 x6)) Z Z Z Z Z Z) Z Z Z<|qm Z<|A0 (N3 Z Z) Z<|A0 (C3 Z) Z<|A0 (C3 Z) Z<|J3 [1,2] (O2 [1,2] rfl H7 Z Z) (C0r (b:=b0) Z (B3x (C3t _ _) B6x)) (I6 (x:=(.seq 4 (Zg B7 a0.PaShow.Figures))) Z hb0 Z) Z<|qm Z<|J3 [1,2] (O2 [1,2] rfl H7 Z Z) (A54 Z) (D4 (f:=B7) Z Z hx7) Z<|J3 [1,2] (O2 [1,2] rfl H7 Z Z) (A54 Z) (I0 Z Z) Z<|O6 (G0 (ds:=(B7 x7)) Z Z Z Z (E0 Z) Z) Z<|es (ra4 Z Z Z Z)<|s0<|qm Z<|es (ra5 Z Z Z Z Z)<|B9<|s0<|A0 (C3 Z) Z<|A0 (B4 Z Z Z) Z<|A0 (F9 Z Z) Z<|es (ra6 Z Z Z Z Z Z)<|oB h fun p8 hp8 h=>A59 (Q1:=fun e s' H'=>e=.normal∧s'=[(0,.ptr b0 0),(5,(.ptr (H.length+0) 0)),(7,(.ptr (H.length+1) 0)),(8,(.ptr (H.length+2) 0)),(9,.i p8)]∧H'=(H++[(.cells (A6 a2)),(.cells (C7 x6)),(.cells (B7 x7))])) ?_ ?_
    ·refine wi hp8 Z (fun hc9 hp8=>?_) fun hc9 hp8=>?_
     ·refine r0<|qm Z<|en (ra5 Z Z Z Z Z) ?_
      obtain rfl:=os hp8
      exact me (ZE Z (ZE Z Z)) (su5 Z Z Z Z Z)
     ·refine B8 ?_
      obtain rfl:=os hp8
      exact me (ZE Z (ZE Z Z)) (su5 Z Z Z Z Z)
    ·rintro e s' H' ⟨rfl,rfl,rfl⟩
     refine B9<|C5<|s0<|oB h fun x10 hx10 h=>oB h fun x14 hx14 h=>A0 (C3 Z) Z<|A0 (B4 Z Z Z) Z<|A0 (J2 (rows:=Zg cI [a2.How]) Z Z (D9 (fun _=>rfl) _)) Z<|B2 (rs:=[.b x10]) Z Z (A1 Z (A1 Z (A1 Z B3))) ((H8 hx10).frz)<|qm Z<|gp 7 62 (.b (x10||(!(x6.Pawn==(a2.How != 0))))) 55 Z Z (fun hg11=>?_) (fun hg11=>?_) ?_
     ·exact nF Z hg11 Z<|nF Z hg11 Z<|nF Z hg11 Z<|nF Z hg11 Z<|nF Z hg11 Z<|nF Z hg11 Z<|A0 (C1 Z hg11 Z) Z<|ge 7 (by rw[hg11];rfl) Z Z
     ·exact gF Z hg11<|A0 (C3 Z) Z<|gF Z hg11<|A0 (B4 Z Z Z) Z<|gF Z hg11<|A0 (C3 Z) Z<|gF Z hg11<|A0 (B4 Z Z Z) Z<|gF Z hg11<|A0 (H9 Z Z) Z<|gF Z hg11<|A0 (D8d Z Z) Z<|A0 (C0 Z hg11 Z) Z<|ge 7 (by rw[hg11];rfl) Z Z
     refine qm Z<|gp 6 69 (.b x14) 63 Z Z (fun hg12=>?_) (fun hg12=>?_) ?_
     ·obtain rfl:=os (bt hx14 hg12)
      exact nF Z hg12 Z<|nF Z hg12 Z<|nF Z hg12 Z<|nF Z hg12 Z<|G4 (D2 Z (by rw[hg12];rfl)) Z<|A0 (C1 Z hg12 Z) Z<|ge 6 Z Z Z
     ·refine oB (bf hx14 hg12) fun x13 hx13 hx14=>?_
      obtain rfl:=os hx14
      exact gF Z hg12<|qm Z<|gF Z hg12<|A0 (C3 Z) Z<|gF Z hg12<|A0 (B4 Z Z Z) Z<|gF Z hg12<|A0 (J2 (rows:=Zg cI [a2.Day]) Z Z (D9 (fun _=>rfl) _)) Z<|gF Z hg12<|B2 (rs:=[.b x13]) Z Z (A1 Z (A1 Z (A1 Z B3))) ((H8 hx13).frz)<|A0 (C0 Z hg12 Z) Z<|ge 6 Z Z Z
     refine qm Z<|es (ra5 Z Z Z Z Z)<|wi h Z (fun hc15 h=>?_) fun hc15 h=>?_
     ·refine s0<|qm Z<|es (ra1 Z)<|C6 ?_
      obtain rfl:=os h
      exact retq trivial (A8 Z B6) (A5 Z B5) (A3 A4 B1)
     ·refine s0<|oB h fun x19 hx19 h=>A0 (C3 Z) Z<|A0 (B4 Z Z Z) Z<|A0 (C3 Z) Z<|A0 (B4 Z Z Z) Z<|A0 (R8 (v:=(.i (A2k x7.Needs x6.Looks))) Z Z Z) Z<|A0 (H9 Z Z) Z<|qm Z<|gp 15 92 (.b x19) 77 Z Z (fun hg16=>?_) (fun hg16=>?_) ?_
      ·obtain rfl:=os (bt hx19 hg16)
       exact nF Z hg16 Z<|nF Z hg16 Z<|nF Z hg16 Z<|nF Z hg16 Z<|nF Z hg16 Z<|nF Z hg16 Z<|nF Z hg16 Z<|nF Z hg16 Z<|nF Z hg16 Z<|nF Z hg16 Z<|nF Z hg16 Z<|nF Z hg16 Z<|G4 (D2 Z (by rw[hg16];rfl)) Z<|nF Z hg16 Z<|A0 (C1 Z hg16 Z) Z<|ge 15 Z Z Z
      ·refine oB (bf hx19 hg16) fun x17 hx17 hx19=>oB hx19 fun x18 hx18 hx19=>?_
       obtain rfl:=os hx19
       exact gF Z hg16<|qm Z<|gF Z hg16<|A0 (C3 Z) Z<|gF Z hg16<|A0 (B4 Z Z Z) Z<|gF Z hg16<|A0 (N3 Z Z) Z<|gF Z hg16<|A0 (C3 Z) Z<|gF Z hg16<|A0 (B3q Z Z (C60 hx17)) Z<|gF Z hg16<|A0 (C3 Z) Z<|gF Z hg16<|A0 (I6 (x:=(.fn (.func (isel a2.How 92 94 96)) [] [])) Z hb0 (E6d hx17)) Z<|gF Z hg16<|A0 (C9 Z Z Z) Z<|gF Z hg16<|A0 (C9 Z Z Z) Z<|gF Z hg16<|A0 (C3 Z) Z<|gF Z hg16<|A0 (B4 Z Z Z) Z<|gF Z hg16<|B2 (rs:=[.b x18]) Z Z (A1 (D0 Z) (A1 (D0 Z) (A1 Z B3))) (C27 (rs:=fun (y:Bool)=>[.b y]) (fun h=>(B9y h).frz) (fun h=>(B90 h).frz) (fun h=>(B1o h).frz) hx18)<|gF Z hg16<|A0 (M9 Z) Z<|A0 (C0 Z hg16 Z) Z<|ge 15 Z Z Z
      refine qm Z<|es (ra1 Z)<|wi h Z (fun hc20 h=>?_) fun hc20 h=>?_
      ·refine s0<|qm Z<|es (ra1 Z)<|C6 ?_
       obtain rfl:=os h
       exact retq trivial (A8 Z B6) (A5 Z B5) (A3 A4 B1)
      ·refine B8<|s0<|qm Z<|es (ra1 Z)<|C6 ?_
       obtain rfl:=os h
       exact retq trivial (A8 Z B6) (A5 Z B5) (A3 A4 B1)
def A5y (a0:PaGown) (a1:PaFigure) (a2:Int):Option Int :=
 some (w64 (a0.Fee*(w64 ((w64 (a1.Until-a1.Day))+1))))
theorem B4f {c:Sc} {H:A2} {a0:PaGown} {a1:PaFigure} {a2:Int} {r:Int} (h:A5y a0 a1 a2=some r) :
  F0 tab c H (.fn (.func 55) [] []) [(.agg (C7 a0)),(.agg (B7 a1)),.i a2] [.i r]:= by
 unfold A5y at h
 refine cE Z Z<|sg 0 Z<|A0 (G1 (cs:=C7 a0) Z Z Z) Z<|A0 (G1 (cs:=B7 a1) Z Z Z) Z<|qm Z<|es (ra2 Z Z)<|s0<|A0 (C3 Z) Z<|A0 (B4 Z Z Z) Z<|A0 (C3 Z) Z<|A0 (B4 Z Z Z) Z<|A0 (C3 Z) Z<|A0 (B4 Z Z Z) Z<|A0 (W1 Z Z) Z<|A0 (D8 Z Z) Z<|A0 (B33 Z Z) Z<|qm Z<|es (ra1 Z)<|C6 ?_
 obtain rfl:=os h
 exact retq trivial (A8 Z B6) (A5 Z B5) (A3 A4 B1)
def B07 (a0:PaFigure) (a1:Int):Option Int :=
 some 0
theorem B9x {c:Sc} {H:A2} {a0:PaFigure} {a1:Int} {r:Int} (h:B07 a0 a1=some r) :
  F0 tab c H (.fn (.func 91) [] []) [(.agg (B7 a0)),.i a1] [.i r]:= by
 unfold B07 at h
 refine cE Z Z<|sg 0 Z<|A0 (G1 (cs:=B7 a0) Z Z Z) Z<|qm Z<|es .n<|s0<|qm Z<|es (ra1 Z)<|C6 ?_
 obtain rfl:=os h
 exact retq trivial (A8 Z B6) (A5 Z B5) (A3 A4 B1)
def B08 (a0:PaFigure) (a1:Int):Option Int :=
 some a1
theorem B9z {c:Sc} {H:A2} {a0:PaFigure} {a1:Int} {r:Int} (h:B08 a0 a1=some r) :
  F0 tab c H (.fn (.func 93) [] []) [(.agg (B7 a0)),.i a1] [.i r]:= by
 unfold B08 at h
 refine cE Z Z<|sg 0 Z<|A0 (G1 (cs:=B7 a0) Z Z Z) Z<|qm Z<|es (ra1 Z)<|s0<|qm Z<|qm Z<|es (ra1 Z)<|C6 ?_
 obtain rfl:=os h
 exact retq trivial (A8 Z B6) (A5 Z B5) (A3 A4 B1)
def B09 (a0:PaFigure) (a1:Int):Option Int :=
 some a0.Day
theorem B91 {c:Sc} {H:A2} {a0:PaFigure} {a1:Int} {r:Int} (h:B09 a0 a1=some r) :
  F0 tab c H (.fn (.func 95) [] []) [(.agg (B7 a0)),.i a1] [.i r]:= by
 unfold B09 at h
 refine cE Z Z<|sg 0 Z<|A0 (G1 (cs:=B7 a0) Z Z Z) Z<|qm Z<|es (ra1 Z)<|s0<|A0 (C3 Z) Z<|A0 (B4 Z Z Z) Z<|qm Z<|es (ra1 Z)<|C6 ?_
 obtain rfl:=os h
 exact retq trivial (A8 Z B6) (A5 Z B5) (A3 A4 B1)
def B8e (a0:PaGown) (a1:PaFigure) (a2:Int):Option Int :=
 some 0
theorem C7i {c:Sc} {H:A2} {a0:PaGown} {a1:PaFigure} {a2:Int} {r:Int} (h:B8e a0 a1 a2=some r) :
  F0 tab c H (.fn (.func 90) [] []) [(.agg (C7 a0)),(.agg (B7 a1)),.i a2] [.i r]:= by
 unfold B8e at h
 refine cE Z Z<|sg 0 Z<|A0 (G1 (cs:=C7 a0) Z Z Z) Z<|A0 (G1 (cs:=B7 a1) Z Z Z) Z<|qm Z<|es .n<|s0<|qm Z<|es (ra1 Z)<|C6 ?_
 obtain rfl:=os h
 exact retq trivial (A8 Z B6) (A5 Z B5) (A3 A4 B1)
def A0y (a0:PaGown) (a1:PaFigure) (a2:Int):Option Int :=
 some (w64 (a0.Loan+(w64 (a0.Rate*(w64 (1+(w64 (Z48 (w64 (a0.Ago+a2)) 30))))))))
theorem B1p {c:Sc} {H:A2} {a0:PaGown} {a1:PaFigure} {a2:Int} {r:Int} (h:A0y a0 a1 a2=some r) :
  F0 tab c H (.fn (.func 52) [] []) [(.agg (C7 a0)),(.agg (B7 a1)),.i a2] [.i r]:= by
 unfold A0y at h
 refine cE Z Z<|sg 0 Z<|A0 (G1 (cs:=C7 a0) Z Z Z) Z<|A0 (G1 (cs:=B7 a1) Z Z Z) Z<|qm Z<|es (ra2 Z Z)<|s0<|A0 (C3 Z) Z<|A0 (B4 Z Z Z) Z<|A0 (C3 Z) Z<|A0 (B4 Z Z Z) Z<|A0 (C3 Z) Z<|A0 (B4 Z Z Z) Z<|qm Z<|A0 (D8 Z Z) Z<|A0 (R8 (v:=(.i (w64 (Z48 (w64 (a0.Ago+a2)) 30)))) Z Z Z) Z<|A0 (D8 Z Z) Z<|A0 (B33 Z Z) Z<|A0 (D8 Z Z) Z<|qm Z<|es (ra1 Z)<|C6 ?_
 obtain rfl:=os h
 exact retq trivial (A8 Z B6) (A5 Z B5) (A3 A4 B1)
def W9 (a0:pawn_show) (a1:Int) (a2:PaUse):Option (Int×Int) :=
 (A1c).bind fun x1 =>
 if ((a2.Gown==x1.Gown)&&((a2.How==x1.How)&&((a2.Day==x1.Day)&&true)))=true then
  some (0,0)
 else
  (inR 3 a2.How).bind fun x3 =>
  (idx a0.PaShow.Gowns a2.Gown).bind fun x4 =>
  (idx a0.PaShow.Figures a1).bind fun x5 =>
  (sel3 a2.How (B8e x4 x5 a2.Day) (A0y x4 x5 a2.Day) (A5y x4 x5 a2.Day)).bind fun x6 =>
  (idx a0.PaShow.Figures a1).bind fun x7 =>
  (sel3 a2.How (B07 x7 a2.Day) (B08 x7 a2.Day) (B09 x7 a2.Day)).bind fun x8 =>
  some (x6,x8)
theorem Y9 {c:Sc} {H:A2} {a0:pawn_show} {b0:Nat} (hb0:hcells H b0=some [(.seq 8 (Zg C7 a0.PaShow.Gowns)),(.seq 4 (Zg B7 a0.PaShow.Figures)),.i a0.PaShow.Purse,(.seq 2 (Zg D3 a0.PaShow.Incomes)),(.fn (.func 90) [] []),(.fn (.func 91) [] []),(.fn (.func 92) [] []),(.fn (.func 52) [] []),(.fn (.func 93) [] []),(.fn (.func 94) [] []),(.fn (.func 55) [] []),(.fn (.func 95) [] []),(.fn (.func 96) [] []),(.seq 1 (Zg cI a0.days_))]) {a1:Int} {a2:PaUse} {r:(Int×Int)} (h:W9 a0 a1 a2=some r) :
  F0 tab c H (.fn (.func 103) [] []) [.ptr b0 0,.i a1,(.agg (A6 a2))] [.i r.1,.i r.2]:= by
 unfold W9 at h
 refine cE Z Z<|sg 0 Z<|A0 (G1 (cs:=A6 a2) Z Z Z) Z<|qm Z<|qm Z<|es (ra3 Z Z Z)<|B9<|s0<|oB h fun x1 hx1 h=>A0 (C9 Z Z Z) Z<|T3 (rs:=[(.agg (A6 x1))]) Z Z A0j B3 ((A68 hx1).frz)<|A0 (C7d (a:=A6 a2) (b:=A6 x1) Z Z Z Z (U9 (U9 (U9 B29)))) Z<|es (ra4 Z Z Z Z)<|wi h Z (fun hc2 h=>?_) fun hc2 h=>?_
 ·refine s0<|qm Z<|qm Z<|es (ra2 Z Z)<|C6 ?_
  obtain rfl:=os h
  exact retq trivial (A8 Z (A8 Z B6)) (A5 Z (A5 Z B5)) (A3 A4 (A3 A4 B1))
 ·refine B8<|sg 1 Z<|oB h fun x3 hx3 h=>qm Z<|A0 (C3 Z) Z<|J3 [1] (O2 [1] rfl H7 Z Z) (seen0 Z) (B4 Z Z Z) Z<|A0 (N3 Z Z) Z<|A0 (C3 Z) Z<|A0 (B3q Z Z (C60 hx3)) Z<|J3 [1] (O2 [1] rfl H7 Z Z) (seen0 Z) (C2c (ds:=[(.fn (.func (isel a2.How 90 52 55)) [] []),(.fn (.func (isel a2.How 91 93 95)) [] []),(.fn (.func (isel a2.How 92 94 96)) [] [])]) Z hb0 (E6f hx3) (E6e hx3)) Z<|A0 J6 Z<|O6 (G0 (ds:=[(.fn (.func (isel a2.How 90 52 55)) [] []),(.fn (.func (isel a2.How 91 93 95)) [] []),(.fn (.func (isel a2.How 92 94 96)) [] [])]) Z Z Z Z (A2p (ZL _ _)) Z) Z<|es (ra4 Z Z Z Z)<|s0<|oB h fun x4 hx4 h=>oB h fun x5 hx5 h=>oB h fun x6 hx6 h=>oB h fun x7 hx7 h=>oB h fun x8 hx8 h=>A0 (C3 Z) Z<|A0 (B4 (x:=(.fn (.func (isel a2.How 90 52 55)) [] [])) Z Z Z) Z<|qm Z<|A0 (N3 Z Z) Z<|A0 (C3 Z) Z<|A0 (C3 Z) Z<|A0 (I6 (x:=(.seq 8 (Zg C7 a0.PaShow.Gowns))) Z hb0 Z) Z<|A0 (C3 Z) Z<|A0 (B4 Z Z Z) Z<|A0 (D4 (f:=C7) Z Z hx4) Z<|A0 (I0 Z Z) Z<|qm Z<|A0 (N3 Z Z) Z<|A0 (C3 Z) Z<|A0 (C3 Z) Z<|A0 (I6 (x:=(.seq 4 (Zg B7 a0.PaShow.Figures))) Z hb0 Z) Z<|qm Z<|A0 (D4 (f:=B7) Z Z hx5) Z<|A0 (I0 Z Z) Z<|A0 (C3 Z) Z<|A0 (B4 Z Z Z) Z<|T3 (rs:=[.i x6]) Z Z (R5 Z (R5 Z (R5 Z A0j))) (A1 (D0 Z) (A1 (D0 Z) (A1 Z B3))) (C27 (rs:=fun (y:Int)=>[.i y]) (fun h=>(C7i h).frz) (fun h=>(B1p h).frz) (fun h=>(B4f h).frz) hx6)<|A0 (C3 Z) Z<|A0 (B4 (x:=(.fn (.func (isel a2.How 91 93 95)) [] [])) Z Z Z) Z<|qm Z<|A0 (N3 Z Z) Z<|A0 (C3 Z) Z<|A0 (C3 Z) Z<|A0 (I6 (x:=(.seq 4 (Zg B7 a0.PaShow.Figures))) Z hb0 Z) Z<|qm Z<|A0 (D4 (f:=B7) Z Z hx7) Z<|A0 (I0 Z Z) Z<|A0 (C3 Z) Z<|A0 (B4 Z Z Z) Z<|B2 (rs:=[.i x8]) Z Z (A1 (D0 Z) (A1 Z B3)) (C27 (rs:=fun (y:Int)=>[.i y]) (fun h=>(B9x h).frz) (fun h=>(B9z h).frz) (fun h=>(B91 h).frz) hx8)<|qm Z<|qm Z<|es (ra2 Z Z)<|C6 ?_
  obtain rfl:=os h
  exact retq trivial (A8 Z (A8 Z B6)) (A5 Z (A5 Z B5)) (A3 A4 (A3 A4 B1))
def U2 (a0:pawn_show) (a2:Int) (s1:(Int×Int)):Option ((Int×Int)⊕Int) :=
 if (decide (s1.2<(Zh a0.PaShow.Incomes:Int)))=true then
  (idx a0.PaShow.Incomes s1.2).bind fun x4 =>
  if (decide (x4.Day≤a2))=true then
  some (.inl ((w64 (s1.1+x4.Pence)),(w64 (s1.2+1))))
  else
  some (.inl (s1.1,(w64 (s1.2+1))))
 else
  some (.inr s1.1)
def U3 (a0:pawn_show) (a1:(List PaUse)) (a2:Int) (s7:(Int×Int)):Option ((Int×Int)⊕Int) :=
 if (decide (s7.2<(Zh a1:Int)))=true then
  (idx a1 s7.2).bind fun x10 =>
  (W9 a0 s7.2 x10).bind fun x11 =>
  if (decide (x11.2≤a2))=true then
  some (.inl ((w64 (s7.1-x11.1)),(w64 (s7.2+1))))
  else
  some (.inl (s7.1,(w64 (s7.2+1))))
 else
  some (.inr s7.1)
def T4 (a0:pawn_show) (a1:(List PaUse)) (a2:Int):Option Int :=
 (loop (U2 a0 a2) (a0.PaShow.Purse,0)).bind fun (o6:Int) =>
 (loop (U3 a0 a1 a2) (o6,0)).bind fun (o13:Int) =>
 some o13
theorem A81 {c:Sc} {H:A2} {a0:pawn_show} {b0:Nat} (hb0:hcells H b0=some [(.seq 8 (Zg C7 a0.PaShow.Gowns)),(.seq 4 (Zg B7 a0.PaShow.Figures)),.i a0.PaShow.Purse,(.seq 2 (Zg D3 a0.PaShow.Incomes)),(.fn (.func 90) [] []),(.fn (.func 91) [] []),(.fn (.func 92) [] []),(.fn (.func 52) [] []),(.fn (.func 93) [] []),(.fn (.func 94) [] []),(.fn (.func 55) [] []),(.fn (.func 95) [] []),(.fn (.func 96) [] []),(.seq 1 (Zg cI a0.days_))]) {a1:(List PaUse)} {a2:Int} {r:Int} (h:T4 a0 a1 a2=some r) :
  F0 tab c H (.fn (.func 63) [] []) [.ptr b0 0,(.seq 3 (Zg A6 a1)),.i a2] [.i r]:= by
 unfold T4 at h
 refine cE Z Z<|s0<|qm Z<|es (ra3 Z Z Z)<|s0<|qm Z<|A0 (N3 Z Z) Z<|A0 (C3 Z) Z<|A0 (C3 Z) Z<|A0 (I6 (x:=(.i a0.PaShow.Purse)) Z hb0 Z) Z<|qm Z<|es (ra4 Z Z Z Z)<|B9<|s0<|qm Z<|A0 (N3 Z Z) Z<|A0 (C3 Z) Z<|A0 (C3 Z) Z<|A0 (I6 (x:=(.seq 2 (Zg D3 a0.PaShow.Incomes))) Z hb0 Z) Z<|A0 (F2 (f:=D3) Z) Z<|qm Z<|es (ra7 Z Z Z Z Z Z Z)<|C5<|oB h fun o6 ho6 h=>wl (fun s1=>[(0,.ptr b0 0),(1,(.seq 3 (Zg A6 a1))),(2,.i a2),(7,.i s1.1),(23,(.seq 2 (Zg D3 a0.PaShow.Incomes))),(24,(.i (Zh a0.PaShow.Incomes:Int))),(25,.i s1.2)]) (fun (q2:Unit) s1=>[]) 0 (fun r e s' H'=>PX 0 [(0,.ptr b0 0),(1,(.seq 3 (Zg A6 a1))),(2,.i a2),(7,.i r)] (H++[]) e s' H') () ho6 Z Z (fun _ _=>rfl) (fun _=>rfl) Z (fun s1=>(bdc (A8q hb0) (bdc G6 (bdc A4 (bdc A4 (bdc G6 (bdc A4 (bdc A4 bdn)))))))) (fun q2 s1 ys1 hs1=>?_) ?_
 ·unfold U2 at hs1
  refine s0<|A0 (I3 Z Z) Z<|es (ra8 Z Z Z Z Z Z Z Z)<|B9<|wi hs1 Z (fun hc3 hs1=>?_) fun hc3 hs1=>?_
  ·refine B8<|B9<|C5<|sg 0 Z<|oB hs1 fun x4 hx4 hs1=>A0 (D4 (f:=D3) Z Z hx4) Z<|A0 (I0 Z Z) Z<|A0 J6 Z<|O6 (G0 (ds:=(D3 x4)) Z Z Z Z (E0 Z) Z) Z<|es (ra8 Z Z Z Z Z Z Z Z)<|s0<|A0 (C3 Z) Z<|A0 (B4 Z Z Z) Z<|qm Z<|A0 (A4p Z Z) Z<|es (ra9 Z Z Z Z Z Z Z Z Z)<|wi hs1 Z (fun hc5 hs1=>?_) fun hc5 hs1=>?_
   ·refine r0<|qm Z<|A0 (C3 Z) Z<|A0 (B4 Z Z Z) Z<|A0 (D8 Z Z) Z<|qm Z<|en (ra7 Z Z Z Z Z Z Z)<|r0<|A0 (D8 Z Z) Z<|qm Z<|en (ra7 Z Z Z Z Z Z Z) ?_
    cases hs1
    exact lnT () Z (su7 Z Z Z Z Z Z Z)
   ·refine B8<|r0<|A0 (D8 Z Z) Z<|qm Z<|en (ra7 Z Z Z Z Z Z Z) ?_
    cases hs1
    exact lnT () Z (su7 Z Z Z Z Z Z Z)
  ·refine G5 ?_
   obtain rfl:=os hs1
   exact lx Z px (su4 Z Z Z Z)
 ·rintro e s' H'-⟨rfl,rfl,rfl⟩
  refine B9<|s0<|qm Z<|A0 (F2 (f:=A6) Z) Z<|qm Z<|es (ra6 Z Z Z Z Z Z)<|C5<|oB h fun o13 ho13 h=>wl (fun s7=>[(0,.ptr b0 0),(2,.i a2),(7,.i s7.1),(38,(.seq 3 (Zg A6 a1))),(39,(.i (Zh a1:Int))),(40,.i s7.2)]) (fun (q8:Unit) s7=>[]) 0 (fun r e s' H'=>PX 2 [(7,.i r)] (H++[]) e s' H') () ho13 Z Z (fun _ _=>rfl) (fun _=>rfl) Z (fun s7=>(bdc (A8q hb0) (bdc A4 (bdc A4 (bdc G6 (bdc A4 (bdc A4 bdn))))))) (fun q8 s7 ys7 hs7=>?_) ?_
  ·unfold U3 at hs7
   refine s0<|A0 (I3 Z Z) Z<|es (ra7 Z Z Z Z Z Z Z)<|B9<|wi hs7 Z (fun hc9 hs7=>?_) fun hc9 hs7=>?_
   ·refine B8<|B9<|C5<|sg 0 Z<|oB hs7 fun x10 hx10 hs7=>qm Z<|A0 (D4 (f:=A6) Z Z hx10) Z<|A0 (I0 Z Z) Z<|A0 J6 Z<|qm Z<|O6 (G0 (ds:=(A6 x10)) Z Z Z Z (E0 Z) Z) Z<|es (ra8 Z Z Z Z Z Z Z Z)<|s0<|oB hs7 fun x11 hx11 hs7=>qm Z<|qm Z<|A0 (C9 Z Z Z) Z<|B2 (rs:=[.i x11.1,.i x11.2]) Z Z (A1 Z (A1 Z (A1 (D0 Z) B3))) ((Y9 (F3 hb0 _) hx11).frz)<|qm Z<|A0 (A7 Z Z) Z<|A0 (A7 Z Z) Z<|qm Z<|qm Z<|es (ra8 Z Z Z Z Z Z Z Z)<|s0<|qm Z<|qm Z<|A0 (A4p Z Z) Z<|es (ra8 Z Z Z Z Z Z Z Z)<|wi hs7 Z (fun hc12 hs7=>?_) fun hc12 hs7=>?_
    ·refine r0<|qm Z<|qm Z<|A0 (W1 Z Z) Z<|qm Z<|en (ra6 Z Z Z Z Z Z)<|r0<|A0 (D8 Z Z) Z<|qm Z<|en (ra6 Z Z Z Z Z Z) ?_
     cases hs7
     exact lnT () Z (su6 Z Z Z Z Z Z)
    ·refine B8<|r0<|A0 (D8 Z Z) Z<|qm Z<|en (ra6 Z Z Z Z Z Z) ?_
     cases hs7
     exact lnT () Z (su6 Z Z Z Z Z Z)
   ·refine G5 ?_
    obtain rfl:=os hs7
    exact lx Z px (su1 Z)
  ·rintro e s' H'-⟨rfl,rfl,rfl⟩
   refine s0<|qm Z<|qm Z<|es (ra1 Z)<|C6 ?_
   obtain rfl:=os h
   exact retq trivial (A8 Z B6) (A5 Z B5) (A3 A4 B1)
def S4 (a0:pawn_show) (a1:(List PaUse)) (s1:(Int×Int×Int)):Option ((Int×Int×Int)⊕(Int×Int)) :=
 if (decide (s1.2.2<(Zh a1:Int)))=true then
  (idx a1 s1.2.2).bind fun x4 =>
  (W9 a0 s1.2.2 x4).bind fun x5 =>
  (T4 a0 a1 x5.2).bind fun x6 =>
  if (decide (x6<0))=true then
  some (.inl ((C68 s1.1 (w64 (0-x6))),(A5b s1.2.1 x5.2),(w64 (s1.2.2+1))))
  else
  some (.inl (s1.1,s1.2.1,(w64 (s1.2.2+1))))
 else
  some (.inr (s1.1,s1.2.1))
def R2 (a0:pawn_show) (a1:(List PaUse)):Option (Int×Int) :=
 (loop (S4 a0 a1) (0,365,0)).bind fun (o8:(Int×Int)) =>
 some (o8.1,o8.2)
theorem B42 {c:Sc} {H:A2} {a0:pawn_show} {b0:Nat} (hb0:hcells H b0=some [(.seq 8 (Zg C7 a0.PaShow.Gowns)),(.seq 4 (Zg B7 a0.PaShow.Figures)),.i a0.PaShow.Purse,(.seq 2 (Zg D3 a0.PaShow.Incomes)),(.fn (.func 90) [] []),(.fn (.func 91) [] []),(.fn (.func 92) [] []),(.fn (.func 52) [] []),(.fn (.func 93) [] []),(.fn (.func 94) [] []),(.fn (.func 55) [] []),(.fn (.func 95) [] []),(.fn (.func 96) [] []),(.seq 1 (Zg cI a0.days_))]) {a1:(List PaUse)} {r:(Int×Int)} (h:R2 a0 a1=some r) :
  F0 tab c H (.fn (.func 66) [] []) [.ptr b0 0,(.seq 3 (Zg A6 a1))] [.i r.1,.i r.2]:= by
 unfold R2 at h
 refine cE Z Z<|s0<|qm Z<|qm Z<|es (ra3 Z Z Z)<|s0<|qm Z<|es (ra4 Z Z Z Z)<|B9<|s0<|qm Z<|A0 (F2 (f:=A6) Z) Z<|qm Z<|es (ra7 Z Z Z Z Z Z Z)<|C5<|oB h fun o8 ho8 h=>wl (fun s1=>[(0,.ptr b0 0),(1,(.seq 3 (Zg A6 a1))),(4,.i s1.1),(5,.i s1.2.1),(11,(.seq 3 (Zg A6 a1))),(12,(.i (Zh a1:Int))),(13,.i s1.2.2)]) (fun (q2:Unit) s1=>[]) 0 (fun r e s' H'=>PX 0 [(4,.i r.1),(5,.i r.2)] (H++[]) e s' H') () ho8 Z Z (fun _ _=>rfl) (fun _=>rfl) Z (fun s1=>(bdc (A8q hb0) (bdc G6 (bdc A4 (bdc A4 (bdc G6 (bdc A4 (bdc A4 bdn)))))))) (fun q2 s1 ys1 hs1=>?_) ?_
 ·unfold S4 at hs1
  refine s0<|A0 (I3 Z Z) Z<|es (ra8 Z Z Z Z Z Z Z Z)<|B9<|wi hs1 Z (fun hc3 hs1=>?_) fun hc3 hs1=>?_
  ·refine B8<|B9<|C5<|sg 0 Z<|oB hs1 fun x4 hx4 hs1=>qm Z<|A0 (D4 (f:=A6) Z Z hx4) Z<|A0 (I0 Z Z) Z<|A0 J6 Z<|qm Z<|O6 (G0 (ds:=(A6 x4)) Z Z Z Z (E0 Z) Z) Z<|es (ra9 Z Z Z Z Z Z Z Z Z)<|s0<|oB hs1 fun x5 hx5 hs1=>qm Z<|qm Z<|A0 (C9 Z Z Z) Z<|B2 (rs:=[.i x5.1,.i x5.2]) Z Z (A1 Z (A1 Z (A1 (D0 Z) B3))) ((Y9 (F3 hb0 _) hx5).frz)<|qm Z<|A0 (A7 Z Z) Z<|A0 (A7 Z Z) Z<|qm Z<|qm Z<|es (ra8 Z Z Z Z Z Z Z Z)<|s0<|oB hs1 fun x6 hx6 hs1=>qm Z<|qm Z<|qm Z<|O7 (Z7 (rs:=[.i x6]) Z Z ((A81 (F3 hb0 _) hx6).frz)) Z<|qm Z<|es (ra9 Z Z Z Z Z Z Z Z Z)<|s0<|qm Z<|A0 (I3 Z Z) Z<|es (ra10 Z Z Z Z Z Z Z Z Z Z)<|wi hs1 Z (fun hc7 hs1=>?_) fun hc7 hs1=>?_
   ·refine r0<|qm Z<|qm Z<|A0 (C9i Z Z) Z<|A0 (C9g Z Z) Z<|qm Z<|qm Z<|A0 (C9g Z Z) Z<|qm Z<|qm Z<|en (ra7 Z Z Z Z Z Z Z)<|r0<|A0 (D8 Z Z) Z<|qm Z<|en (ra7 Z Z Z Z Z Z Z) ?_
    cases hs1
    exact lnT () Z (su7 Z Z Z Z Z Z Z)
   ·refine B8<|r0<|A0 (D8 Z Z) Z<|qm Z<|en (ra7 Z Z Z Z Z Z Z) ?_
    cases hs1
    exact lnT () Z (su7 Z Z Z Z Z Z Z)
  ·refine G5 ?_
   obtain rfl:=os hs1
   exact lx Z px (su2 Z Z)
 ·rintro e s' H'-⟨rfl,rfl,rfl⟩
  refine s0<|qm Z<|qm Z<|qm Z<|qm Z<|es (ra2 Z Z)<|C6 ?_
  obtain rfl:=os h
  exact retq trivial (A8 Z (A8 Z B6)) (A5 Z (A5 Z B5)) (A3 A4 (A3 A4 B1))
end Pw
end
section
set_option maxRecDepth 100000
namespace Pw
open Go Am Go.Proofs.YtjpjdglddmhplaaGreat.Cd
inductive SlV (H:A2):AV→List PaUse→Prop
 | seq (l:List PaUse):SlV H (.seq 3 (l.map A6)) l
 | asl (b:Nat) (p:Bool) (l:List PaUse) (h:harr H b=some (3,p,l.map A6)):SlV H (.asl b l.length) l
 | csl (b:Nat) (p:Bool) (o:Nat) (full l:List PaUse) (h:harr H b=some (3,p,full.map A6)) (hl:∀n a,l[n]? = some a→full[o+n]? = some a) (hq:o+l.length≤full.length):SlV H (.csl b o full.length l.length) l
theorem B4v {H:A2} {b:Nat} {x:Nat×Bool×List (List AV)} (h:harr H b=some x):b<H.length:= by
 unfold harr hget at h
 cases e:H[b]? with
 | none=>rw[e]at h;cases h
 | some o=>exact(Ze.1 e).1
theorem A10 {H L:A2} {b:Nat} {x:Nat×Bool×List (List AV)} (h:harr H b=some x):harr (H++L) b=some x:= by
 have:=B4v h
 unfold harr hget at h ⊢
 rw[List.getElem?_append_left this];exact h
theorem SlV.app {H L:A2} {v:AV} {l:List PaUse} (h:SlV H v l):SlV (H++L) v l:= by
 cases h with
 | seq=>exact .seq l
 | asl b p _ h=>exact .asl b p l (A10 h)
 | csl b p o full _ h hl hq=>exact .csl b p o full l (A10 h) hl hq
theorem SlV.bd {H:A2} {v:AV} {l:List PaUse} {k:Nat} (h:SlV H v l):v.bd (H.length+k)=true:= by
 cases h with
 | seq=>exact G6
 | asl b p _ h=>have:=B4v h;simp only[AV.bd];exact Zl (by omega)
 | csl b p o full _ h hl hq=>have:=B4v h;simp only[AV.bd];exact Zl (by omega)
def elP (v:AV) (n:Nat):AV:=match v with
 | .seq _ rows=>.cptr ((rows[n]?).getD [])
 | .asl b m=>.eptr b m n 0
 | .csl b o m _=>.eptr b m (o+n) 0
 | _=>.undef
def elF (off:Nat) (v:AV):AV:=match v with
 | .eptr b m i o=>.eptr b m i (o+off)
 | .cptr cs=>.cptr (cs.drop off)
 | _=>.undef
theorem C4q {H:A2} {v:AV} {l:List PaUse} {n:Int} {a:PaUse} (hv:SlV H v l) (ha:idx l n=some a):H6 H (elP v n.toNat)=some (A6 a):= by
 obtain⟨h1,h2⟩:=A8x ha
 cases hv with
 | seq=>simp only[elP,H6,ZN,h2,Zb,Option.getD_some]
 | asl b p _ h=>simp only[elP,H6,h,Zi,Z17,if_true,ZN,h2,Zb,Z12]
 | csl b p o full _ h hl hq=>simp only[elP,H6,h,Zi,Z17,if_true,ZN,hl _ _ h2,Zb,Z12]
section
variable {T:Tab} {s:C2} {H0:A2} {l:List AO} {c:Sc} {n0:Nat} {v:AV} {e:List PaUse}
theorem B72 {x:Opd} (hv:SlV H0 v e) (h:ev s x=some v):One T c n0 s (H0++l) (.lenL x) (.lit (.int .i64 e.length)) (H0++l):=⟨0,by
 cases hv with
 | seq=>simp[core,prim,h]
 | asl b p _ hb=>simp[core,prim,h,A10 hb]
 | csl b p o full _ hb hl hq=>simp[core,prim,h]⟩
theorem B70 {x i:Opd} {kk:IntKind} {n:Int} {a:PaUse} (hv:SlV H0 v e) (ha:idx e n=some a) (h:ev s x=some v) (hi:ev s i=some (.lit (.int kk n))):One T c n0 s (H0++l) (.idxS 3 x i) (elP v n.toNat) (H0++l):=⟨0,by
 obtain⟨h1,h2⟩:=A8x ha
 have hlt:n<(e.length:Int):= by have:=(Ze.1 h2).1;omega
 cases hv with
 | seq=>simp[core,prim,h,hi,h1,h2,elP]
 | asl b p _ hb=>simp[core,prim,h,hi,h1,hlt,A10 hb,elP]
 | csl b p o full _ hb hl hq=>simp[core,prim,h,hi,h1,hlt,A10 hb,elP]⟩
theorem C0n {x:Opd} {n:Int} {a:PaUse} (hv:SlV H0 v e) (ha:idx e n=some a) (h:ev s x=some (elP v n.toNat)):One T c n0 s (H0++l) (.load (some 3) x) (.agg (A6 a)) (H0++l):=⟨0,by
 have:=C4q (hv.app (L:=l)) ha
 simp[core,prim,h,this,A6,ZH]⟩
theorem E18 {x:Opd} {off:Nat} {n:Int} {a:PaUse} (hv:SlV H0 v e) (ha:idx e n=some a) (h:ev s x=some (elP v n.toNat)):One T c n0 s (H0++l) (.fieldAddr off x) (elF off (elP v n.toNat)) (H0++l):=⟨0,by
 cases hv <;> simp[core,prim,h,elP,elF]⟩
theorem C9f {x:Opd} {off:Nat} {n:Int} {a:PaUse} {y:AV} (hv:SlV H0 v e) (ha:idx e n=some a) (h:ev s x=some (elF off (elP v n.toNat))) (hy:((A6 a).drop off).head? = some y):One T c n0 s (H0++l) (.load none x) y (H0++l):=⟨0,by
 have h1:=C4q (hv.app (L:=l)) ha
 have h2:H6 (H0++l) (elF off (elP v n.toNat))=some ((A6 a).drop off):= by
  cases hv with
  | seq =>
   simp only[elP,H6,Za]at h1
   simp only[elP,elF,H6,h1]
  | asl b p _ hb =>
   simp only[elP,H6,A10 hb,Zi,Z17,if_true]at h1
   simp only[elP,elF,H6,A10 hb,Zi,Z17,if_true]
   split at h1
   ·next r hr=>simp only[Z12,Za]at h1;simp only[h1,Z1d]
   ·cases h1
  | csl b p o full _ hb hl hq =>
   simp only[elP,H6,A10 hb,Zi,Z17,if_true]at h1
   simp only[elP,elF,H6,A10 hb,Zi,Z17,if_true]
   split at h1
   ·next r hr=>simp only[Z12,Za]at h1;simp only[h1,Z1d]
   ·cases h1
 simp only[core,prim,h,h2]
 cases hd:(A6 a).drop off with
 | nil=>rw[hd]at hy;cases hy
 | cons u t=>rw[hd]at hy;simp only[Z2c,Za]at hy;subst hy;rfl⟩
def E1t (v:AV) (i:Nat) (m:List PaUse):AV:=match v with
 | .asl b n=>if i=0 then .seq 3 [] else .csl b 0 n i
 | _=>.seq 3 (m.map A6)
theorem E1u {i:Int} {m:List PaUse} (hv:SlV H0 v e) (hne:∀b o a q,v≠.csl b o a q) (hm:slc e 0 i=some m):SlV H0 (E1t v i.toNat m) m:= by
 obtain⟨h3,rfl⟩:=A6g hm
 simp only[Z4q,Z12]
 cases hv with
 | seq=>exact .seq _
 | asl b p _ hb =>
  have hl:(e.take i.toNat).length=i.toNat:= by simp;omega
  unfold E1t
  simp only
  split
  ·next hz=>rw[hz];exact .seq []
  ·next hz =>
   have:=SlV.csl (H:=H0) b p 0 e (e.take i.toNat) hb (fun n a hn=>by
    rw[Z1d]
    have:=(Ze.1 hn).1
    rw[ZO (by omega)]at hn;exact hn) (by omega)
   rwa [hl]at this
 | csl b p o full _ hb hl hq=>exact absurd Z (hne _ _ _ _)
theorem E3d {x hi:Opd} {i:Int} {m:List PaUse} (hv:SlV H0 v e) (hne:∀b o a q,v≠.csl b o a q) (hm:slc e 0 i=some m) (h:ev s x=some v) (hi':ev s hi=some (.lit (.int .i64 i))):One T c n0 s (H0++l) (.sub 3 x none (some hi)) (E1t v i.toNat m) (H0++l):= by
 have hm0:=hm
 obtain⟨h3,rfl⟩:=A6g hm
 simp only[Z4q,Z12]
 cases hv with
 | seq=>exact E5z (f:=A6) (a:=0) (b:=i) h Z (by simp[bnd,B10,hi']) (by simpa using hm0)
 | asl b p _ hb =>
  refine⟨0,?_⟩
  have hq:(0=i)↔(i.toNat=0):= by omega
  simp[core,prim,h,A10 hb,bnd,B10,hi',h3.2.1,h3.2.2,E1t,hq]
 | csl b p o full _ hb hl hq=>exact absurd Z (hne _ _ _ _)
end
end Pw
namespace Am
open Go
def B32 {α β:Type} (T:Tab) (H:A2) (i:Nat) (ff fc:List AV) (g:α→Option β) (ea:α→List AV) (er:β→List AV):Prop :=
 (bdL H.length ff=true∧bdL H.length fc=true)∧∀ (L:A2) c x r,g x=some r→A0f T c (H++L) (.fn (.func i) ff fc) (ea x) (er r)
theorem B32.app {α β:Type} {T:Tab} {H:A2} {i:Nat} {ff fc:List AV} {g:α→Option β} {ea:α→List AV} {er:β→List AV} (h:B32 T H i ff fc g ea er) (l:List AO):B32 T (H++l) i ff fc g ea er :=
 ⟨⟨bdL_more (by simp) h.1.1,bdL_more (by simp) h.1.2⟩,fun L c x r e=>by rw[ZB];exact h.2 (l++L) c x r e⟩
theorem B32.call {α β:Type} {T:Tab} {c:Sc} {H:A2} {i:Nat} {ff fc:List AV} {g:α→Option β} {ea:α→List AV} {er:β→List AV} (h:B32 T H i ff fc g ea er) {x:α} {r:β} (e:g x=some r) (l:List AO):A0f T c (H++l) (.fn (.func i) ff fc) (ea x) (er r):=h.2 l c x r e
end Am
end
section
set_option maxRecDepth 100000
set_option maxHeartbeats 0
namespace Pw
open Go Am Go.Proofs.YtjpjdglddmhplaaGreat.Cd
def K6 (a0:(List PaUse)) (g1:(PaUse→Option Bool)) (s1:Int):Option (Int⊕(Int⊕Unit)) :=
 if (decide (s1<(Zh a0:Int)))=true then
  (idx a0 s1).bind fun x4 =>
  (g1 x4).bind fun x5 =>
  if x5=true then
  some (.inr (.inl s1))
  else
  some (.inl (w64 (s1+1)))
 else
  some (.inr (.inr ()))
def K2 (a0:(List PaUse)) (g1:(PaUse→Option Bool)):Option Int :=
 (loop (K6 a0 g1) 0).bind fun (o7:(Int⊕Unit)) =>
 match o7 with
 | (.inl vo7_0) =>
  some vo7_0
 | (.inr vo7_1) =>
  some (-1)
theorem A1t {c:Sc} {H:A2} {a0:(List PaUse)} {g1:PaUse→Option Bool} {g1_i:Nat} {g1_f g1_c:List AV} (g1_h:Impl tab H g1_i g1_f g1_c g1 (fun y=>[(.agg (A6 y))]) (fun y=>[.b y])) {r:Int} (h:K2 a0 g1=some r) :
  F0 tab c H (.fn (.func 117) [] []) [(.seq 3 (Zg A6 a0)),.fn (.func g1_i) g1_f g1_c] [.i r]:= by
 unfold K2 at h
 refine cE Z Z<|s0<|qm Z<|es (ra2 Z Z)<|B9<|s0<|qm Z<|A0 (F2 (f:=A6) Z) Z<|qm Z<|es (ra4 Z Z Z Z)<|C5<|oB h fun o7 ho7 h=>wl (fun s1=>[(0,(.seq 3 (Zg A6 a0))),(1,(.fn (.func g1_i) g1_f g1_c)),(7,(.i (Zh a0:Int))),(8,.i s1)]) (fun (q2:Unit) s1=>[]) 0 (fun r e s' H'=>(match r with|(.inl v)=>e=.ret∧RetQ H [.tmp 4] [.i v] e s' H' | (.inr v)=>PX 0 [] (H++[]) e s' H':Prop)) () ho7 Z Z (fun _ _=>rfl) (fun _=>rfl) Z (fun s1=>(bdc G6 (bdc (C79 g1_h.1) (bdc A4 (bdc A4 bdn))))) (fun q2 s1 ys1 hs1=>?_) ?_
 ·unfold K6 at hs1
  refine s0<|A0 (I3 Z Z) Z<|es (ra5 Z Z Z Z Z)<|B9<|wi hs1 Z (fun hc3 hs1=>?_) fun hc3 hs1=>?_
  ·refine B8<|B9<|C5<|s0<|qm Z<|qm Z<|es (ra5 Z Z Z Z Z)<|s0<|oB hs1 fun x4 hx4 hs1=>oB hs1 fun x5 hx5 hs1=>qm Z<|qm Z<|qm Z<|A0 (D4 (f:=A6) Z Z hx4) Z<|A0 (I0 Z Z) Z<|B2 (rs:=[.b x5]) Z Z (A1 (D0 Z) B3) (Impl.call g1_h hx5 _)<|es (ra6 Z Z Z Z Z Z)<|wi hs1 Z (fun hc6 hs1=>?_) fun hc6 hs1=>?_
   ·refine s0<|qm Z<|qm Z<|es (ra1 Z)<|C6 ?_
    obtain rfl:=os hs1
    exact lx Z (ZE Z (retq trivial (A8 Z B6) (A5 Z B5) (A3 A4 B1))) (Sub.refl _)
   ·refine B8<|r0<|A0 (D8 Z Z) Z<|qm Z<|en (ra4 Z Z Z Z) ?_
    cases hs1
    exact lnT () Z (su4 Z Z Z Z)
  ·refine G5 ?_
   obtain rfl:=os hs1
   exact lx Z px (.nil _)
 ·rcases o7 with vo7_0|vo7_1
  ·rintro e s' H'-⟨rfl,hret⟩
   cases h
   exact hret
  ·rintro e s' H'-⟨rfl,rfl,rfl⟩
   refine s0<|qm Z<|es (ra1 Z)<|C6 ?_
   obtain rfl:=os h
   exact retq trivial (A8 Z B6) (A5 Z B5) (A3 A4 B1)
def G8 (a0:(List PaUse)) (g1:(PaUse→Option Bool)):Option Bool :=
 (K2 a0 g1).bind fun x1 =>
 some (decide (x1≥0))
theorem A0v {c:Sc} {H:A2} {a0:(List PaUse)} {g1:PaUse→Option Bool} {g1_i:Nat} {g1_f g1_c:List AV} (g1_h:Impl tab H g1_i g1_f g1_c g1 (fun y=>[(.agg (A6 y))]) (fun y=>[.b y])) {r:Bool} (h:G8 a0 g1=some r) :
  F0 tab c H (.fn (.func 104) [] []) [(.seq 3 (Zg A6 a0)),.fn (.func g1_i) g1_f g1_c] [.b r]:= by
 unfold G8 at h
 refine cE Z Z<|s0<|qm Z<|es (ra2 Z Z)<|s0<|oB h fun x1 hx1 h=>qm Z<|qm Z<|O7 (Z7 (rs:=[.i x1]) Z Z ((A1t (Impl.app g1_h _) hx1).frz)) Z<|A0 (A8p Z Z) Z<|qm Z<|es (ra1 Z)<|C6 ?_
 obtain rfl:=os h
 exact retq trivial (A8 Z B6) (A5 Z B5) (A3 A4 B1)
theorem A1l {c:Sc} {H:A2} {a0:(List PaUse)} {v:AV} (hv:SlV H v a0) {g1:PaUse→Option Bool} {g1_i:Nat} {g1_f g1_c:List AV} (g1_h:B32 tab H g1_i g1_f g1_c g1 (fun y=>[(.agg (A6 y))]) (fun y=>[.b y])) {r:Int} (h:K2 a0 g1=some r) :
  F0 tab c H (.fn (.func 117) [] []) [v,.fn (.func g1_i) g1_f g1_c] [.i r]:= by
 unfold K2 at h
 refine cE Z Z<|s0<|qm Z<|es (ra2 Z Z)<|B9<|s0<|qm Z<|A0 (B72 hv Z) Z<|qm Z<|es (ra4 Z Z Z Z)<|C5<|oB h fun o7 ho7 h=>wl (fun s1=>[(0,v),(1,(.fn (.func g1_i) g1_f g1_c)),(7,(.i (Zh a0:Int))),(8,.i s1)]) (fun (q2:Unit) s1=>[]) 0 (fun r e s' H'=>(match r with|(.inl v)=>e=.ret∧RetQ H [.tmp 4] [.i v] e s' H' | (.inr v)=>PX 0 [] (H++[]) e s' H':Prop)) () ho7 Z Z (fun _ _=>rfl) (fun _=>rfl) Z (fun s1=>(bdc hv.bd (bdc (C79 g1_h.1) (bdc A4 (bdc A4 bdn))))) (fun q2 s1 ys1 hs1=>?_) ?_
 ·unfold K6 at hs1
  refine s0<|A0 (I3 Z Z) Z<|es (ra5 Z Z Z Z Z)<|B9<|wi hs1 Z (fun hc3 hs1=>?_) fun hc3 hs1=>?_
  ·refine B8<|B9<|C5<|s0<|qm Z<|qm Z<|es (ra5 Z Z Z Z Z)<|s0<|oB hs1 fun x4 hx4 hs1=>oB hs1 fun x5 hx5 hs1=>qm Z<|qm Z<|qm Z<|A0 (B70 hv hx4 Z Z) Z<|A0 (C0n hv hx4 Z) Z<|B2 (rs:=[.b x5]) Z Z (A1 (D0 Z) B3) (B32.call g1_h hx5 _)<|es (ra6 Z Z Z Z Z Z)<|wi hs1 Z (fun hc6 hs1=>?_) fun hc6 hs1=>?_
   ·refine s0<|qm Z<|qm Z<|es (ra1 Z)<|C6 ?_
    obtain rfl:=os hs1
    exact lx Z (ZE Z (retq trivial (A8 Z B6) (A5 Z B5) (A3 A4 B1))) (Sub.refl _)
   ·refine B8<|r0<|A0 (D8 Z Z) Z<|qm Z<|en (ra4 Z Z Z Z) ?_
    cases hs1
    exact lnT () Z (su4 Z Z Z Z)
  ·refine G5 ?_
   obtain rfl:=os hs1
   exact lx Z px (.nil _)
 ·rcases o7 with vo7_0|vo7_1
  ·rintro e s' H'-⟨rfl,hret⟩
   cases h
   exact hret
  ·rintro e s' H'-⟨rfl,rfl,rfl⟩
   refine s0<|qm Z<|es (ra1 Z)<|C6 ?_
   obtain rfl:=os h
   exact retq trivial (A8 Z B6) (A5 Z B5) (A3 A4 B1)
theorem A0o {c:Sc} {H:A2} {a0:(List PaUse)} {v:AV} (hv:SlV H v a0) {g1:PaUse→Option Bool} {g1_i:Nat} {g1_f g1_c:List AV} (g1_h:B32 tab H g1_i g1_f g1_c g1 (fun y=>[(.agg (A6 y))]) (fun y=>[.b y])) {r:Bool} (h:G8 a0 g1=some r) :
  F0 tab c H (.fn (.func 104) [] []) [v,.fn (.func g1_i) g1_f g1_c] [.b r]:= by
 unfold G8 at h
 refine cE Z Z<|s0<|qm Z<|es (ra2 Z Z)<|s0<|oB h fun x1 hx1 h=>qm Z<|qm Z<|O7 (Z7 (rs:=[.i x1]) Z Z ((A1l hv.app (B32.app g1_h _) hx1).frz)) Z<|A0 (A8p Z Z) Z<|qm Z<|es (ra1 Z)<|C6 ?_
 obtain rfl:=os h
 exact retq trivial (A8 Z B6) (A5 Z B5) (A3 A4 B1)
def A0z (a0:PaUse) (a1:(List PaUse)) (a2:Int):Option Bool :=
 (idx a1 a2).bind fun x1 =>
 some (a0.Gown==x1.Gown)
theorem B75 {c:Sc} {H:A2} {a0:PaUse} {a1:List PaUse} {v:AV} (hv:SlV H v a1) {b1:Nat} (hb1:hcells H b1=some [v]) {a2:Int} {b2:Nat} (hb2:hcells H b2=some (cI a2)) {r:Bool} (h:A0z a0 a1 a2=some r) :
  F0 tab c H (.fn (.func 116) [] []) [(.agg (A6 a0)),.ptr b1 0,.ptr b2 0] [.b r]:= by
 unfold A0z at h
 refine cE Z Z<|sg 0 Z<|A0 (G1 (cs:=A6 a0) Z Z Z) Z<|qm Z<|es (ra3 Z Z Z)<|s0<|oB h fun x1 hx1 h=>A0 (C3 Z) Z<|A0 (B4 Z Z Z) Z<|A0 (I6 Z hb1 Z) Z<|A0 (I6 Z hb2 Z) Z<|A0 (B70 hv hx1 Z Z) Z<|A0 (E18 hv hx1 Z) Z<|A0 (C9f (y:=.i x1.Gown) hv hx1 Z Z) Z<|A0 (F9 Z Z) Z<|qm Z<|es (ra1 Z)<|C6 ?_
 obtain rfl:=os h
 exact retq trivial (A8 Z B6) (A5 Z B5) (A3 A4 B1)
def A5z (a0:List PaUse) (a1:Int):Option Bool :=
 (idx a0 a1).bind fun x =>
 (if (x.Gown != (-1))=true then (slc a0 0 a1).bind fun m=>(G8 m (fun y=>A0z y a0 a1)).bind fun z=>some z else some false).bind fun g=>some g
theorem B2o {c:Sc} {H:A2} {a0:List PaUse} {v:AV} (hv:SlV H v a0) (hne:∀b o a q,v≠.csl b o a q) (hc:v.cellsOf=[v]) {a1:Int} {r:Bool} (h:A5z a0 a1=some r) :
  F0 tab c H (.fn (.func 102) [] []) [v,.i a1] [.b r]:= by
 unfold A5z at h
 refine oB h fun x hx h=>oB h fun g hg h=>?_
 have hbd:v.bd (H.length+2)=true:=hv.bd
 refine cE Z Z<|sg 0 Z<|A0 (G1 (cs:=[v]) Z hc Z) Z<|A0 (G1 (cs:=cI a1) Z Z Z) Z<|qm Z<|es (ra2 Z Z)<|s0<|A0 (B4 (x:=v) Z Z Z) Z<|A0 (B4 (x:=.i a1) Z Z Z) Z<|A0 (B70 hv hx Z Z) Z<|A0 (E18 hv hx Z) Z<|A0 (C9f (y:=.i x.Gown) hv hx Z Z) Z<|A0 (H9 Z Z) Z<|qm Z ?_
 refine gp 6 17 (.b g) 11 Z Z (fun hb=>?_) (fun hb=>?_) ?_
 ·refine oB (bt hg hb) fun m hm hg=>oB hg fun z hz hg=>?_
  obtain rfl:=os hg
  refine gT Z hb<|A0 (B4 (x:=v) Z Z Z) Z<|gT Z hb<|A0 (B4 (x:=.i a1) Z Z Z) Z<|gT Z hb<|A0 (E3d hv hne hm Z Z) Z<|gT Z hb<|A0 (A5r Z Z) Z<|gT Z hb<|O7 (Z7 (rs:=[.b z]) Z Z ((A0o (E1u hv hne hm).app (show B32 tab _ 116 [] [.ptr (H.length+0) 0,.ptr (H.length+1) 0] (fun y=>A0z y a0 a1) (fun y=>[.agg (A6 y)]) (fun y=>[.b y]) from ⟨⟨B1,by rw[Zo];exact A3 (J7 Z) (A3 (J7 Z) B1)⟩,fun L c y r hr=>(A5g (B75 hv.app.app (F3 (F7 Z) _) (F3 (F7 Z) _) hr)).frz⟩) hz).frz)) Z<|A0 (C1 Z hb Z) Z<|ge 6 Z Z Z
 ·obtain rfl:=os (bf hg hb)
  exact nT Z hb Z<|nT Z hb Z<|nT Z hb Z<|nT Z hb Z<|G4 (D2 Z (by rw[hb];rfl)) Z<|A0 (C0 Z hb Z) Z<|ge 6 Z Z Z
 ·refine qm Z<|es (ra1 Z)<|C6 ?_
  obtain rfl:=os h
  exact retq trivial (A8 Z B6) (A5 Z B5) (A3 A4 B1)
end Pw
end
section
namespace Pw
open Go Am
def A90 (g:PaGown) (x:PaUse):Bool:=if g.Pawn then (x.How==2&&x.Day==0)||(x.How==1&&!out 0 364 x.Day) else x.How==0&&x.Day==0
def B36 (g:PaGown) (y:PaFigure) (x:PaUse):Bool:=(x.How==1&&(decide (x.Day>g.Last)||decide (x.Day>y.Day)))||(x.How==2&&decide (y.Until>g.Last))
def B57 (g:PaGown) (y:PaFigure):Bool:=A2k y.Needs g.Looks==0
def E32 (s:PaShow) (f:Int) (x:PaUse):Int :=
 if x.Gown = -1 then (if x.How=0∧x.Day=0 then 0 else 2) else
 if out 0 ((s.Gowns.length:Int)-1) x.Gown then 4 else
 if A90 s.Gowns[x.Gown.toNat]! x=false then 2 else
 if B36 s.Gowns[x.Gown.toNat]! s.Figures[f.toNat]! x||!B57 s.Gowns[x.Gown.toNat]! s.Figures[f.toNat]! then 9 else 0
theorem D2l {s:PaShow} (hs:ShOk s) (days:List Int) {f:Int} (hf:0≤f∧f<s.Figures.length) (x:PaUse):Z9 (shw s days) f x=some (E32 s f x):= by
 have hG:=hs.gowns
 unfold Z9 A1c E32
 simp only[Zd]
 by_cases hx:x.Gown = -1
 ·rw[if_pos hx]
  by_cases hb:x.How=0∧x.Day=0
  ·rw[if_pos hb,if_pos (by simp[hx,hb.1,hb.2])]
  ·rw[if_neg hb,if_neg (by simp[hx];omega),if_pos (by simp[hx])]
 ·rw[if_neg hx,if_neg (by simp[hx]),if_neg (by simp[hx])]
  rw[show (shw s days).PaShow=s from Z,D6 (by omega),out1]
  simp only[Zd]
  cases ho:out 0 ((s.Gowns.length:Int)-1) x.Gown with
  | true=>rfl
  | false =>
   have hg:=P6.mp ho
   simp only[Zj,if_false]
   rw[A0r (l:=s.Gowns) hg.1 (by omega),A0r (l:=s.Figures) hf.1 hf.2]
   simp only[Zd]
   generalize s.Gowns[x.Gown.toNat]! = g
   generalize s.Figures[f.toNat]! = y
   obtain⟨gn,how,day⟩:=x
   simp only at hx hg ⊢
   by_cases h0:how=0
   ·subst h0
    have e1:G3 0 2 [0]=some false:= by rw[out1];rfl
    have e2:∀z,out 0 0 z = !(z==0):=out00
    rw[e1]
    simp only[Zd]
    unfold A90 B36 B57
    cases hp:g.Pawn
    ·simp only[out1,e2,Zd]
     by_cases hd:day=0
     ·subst hd
      cases hk:A2k y.Needs g.Looks==0
      ·have:(A2k y.Needs g.Looks != 0)=true:= by simpa [bne] using hk
       simp[this,e2]
      ·have:(A2k y.Needs g.Looks != 0)=false:= by simpa [bne] using hk
       simp[this,inR,sel3,A7d,e2]
     ·simp[hd,e2]
    ·simp
   ·by_cases h1:how=1
    ·subst h1
     have e1:G3 0 2 [1]=some false:= by rw[out1];rfl
     rw[e1]
     simp only[Zd]
     unfold A90 B36 B57
     cases hp:g.Pawn
     ·simp
     ·simp only[out1,Zd]
      cases hd:out 0 364 day
      ·have hmin:(decide (day≤A5b g.Last y.Day)) = !(decide (day>g.Last)||decide (day>y.Day)):= by
        unfold A5b
        rw[Z0c]
        split <;> simp <;> omega
       cases hk:A2k y.Needs g.Looks==0
       ·have:(A2k y.Needs g.Looks != 0)=true:= by simpa [bne] using hk
        simp[hd,this]
       ·have:(A2k y.Needs g.Looks != 0)=false:= by simpa [bne] using hk
        simp[hd,this,inR,sel3,A7e,hmin]
        split <;> rfl
      ·simp[hd]
    ·by_cases h2:how=2
     ·subst h2
      have e1:G3 0 2 [2]=some false:= by rw[out1];rfl
      have e2:∀z,out 0 0 z = !(z==0):=out00
      rw[e1]
      simp only[Zd]
      unfold A90 B36 B57
      cases hp:g.Pawn
      ·simp
      ·simp only[out1,e2,Zd]
       by_cases hd:day=0
       ·subst hd
        have hle:(decide (y.Until≤g.Last)) = !(decide (y.Until>g.Last)):= by
         rw[Z0c];simp
        cases hk:A2k y.Needs g.Looks==0
        ·have:(A2k y.Needs g.Looks != 0)=true:= by simpa [bne] using hk
         simp[this,e2]
        ·have:(A2k y.Needs g.Looks != 0)=false:= by simpa [bne] using hk
         simp[this,inR,sel3,A2s,hle,e2]
         split <;> rfl
       ·simp[hd,e2]
     ·have e1:G3 0 2 [how]=some true:= by
       rw[out1];unfold out
       rw[Z4h,Z0c];simp;omega
      rw[e1]
      simp only[Zd]
      unfold A90
      cases hp:g.Pawn <;> simp[h0,h1,h2]
end Pw
end
section
set_option maxRecDepth 100000
set_option maxHeartbeats 0
namespace Pw
open Go Am Go.Proofs.YtjpjdglddmhplaaGreat.Cd
def A4k (a0:PaShow) (a1:Int) (a2:Int):Option (Int×Int) :=
 (A32 a0).bind fun x1 =>
 if (x1.1==0)=true then
  (G3 0 (w64 ((Zh a0.Gowns:Int)-1)) [a1]).bind fun x4 =>
  if x4=true then
  some (0,4)
  else
  (idx a0.Gowns a1).bind fun x6 =>
  if (!x6.Pawn)=true then
   some (0,2)
  else
   (G3 0 364 [a2]).bind fun x8 =>
   if x8=true then
   some (0,7)
   else
   (idx a0.Gowns a1).bind fun x10 =>
   if (decide (a2>x10.Last))=true then
    some (0,9)
   else
    (idx a0.Gowns a1).bind fun x12 =>
    (A0y x12 (PaFigure.mk (ByteArray.mk #[]) 0 0 0) a2).bind fun x13 =>
    some (x13,0)
 else
  some (0,x1.1)
theorem B2k {c:Sc} {H:A2} {a0:PaShow} {a1:Int} {a2:Int} {r:(Int×Int)} (h:A4k a0 a1 a2=some r) :
  F0 tab c H (.fn (.func 12) [] []) [(.agg (A9 a0)),.i a1,.i a2] [.i r.1,.i r.2]:= by
 unfold A4k at h
 refine cE Z Z<|sg 0 Z<|A0 (G1 (cs:=A9 a0) Z Z Z) Z<|qm Z<|qm Z<|es (ra3 Z Z Z)<|s0<|oB h fun x1 hx1 h=>A0 (C9 Z Z Z) Z ?_
 by_cases hc2:(x1.1==0)=true
 ·rw[if_pos hc2]at h
  obtain⟨X3,hX3⟩:=A4g hx1 hc2
  refine O7 (A6e hX3 Z Z (A1 (D0 Z) B3) Z) Z<|qm Z<|A0 (A7 Z Z) Z<|A0 (A7 Z Z) Z<|qm Z<|qm Z<|es (ra4 Z Z Z Z)<|B9<|C5<|s0<|qm Z<|A0 (R8 (v:=(.b false)) Z Z Z) Z<|qm Z<|es (ra5 Z Z Z Z Z)<|T0 Z Z<|s0<|oB h fun x4 hx4 h=>A0 (C3 Z) Z<|A0 (B4 Z Z Z) Z<|A0 (F2 (f:=C7) Z) Z<|A0 (W1 Z Z) Z<|qm Z<|A0 (J2 (rows:=Zg cI [a1]) Z Z (D9 (fun _=>rfl) _)) Z<|B2 (rs:=[.b x4]) Z Z (A1 Z (A1 Z (A1 Z B3))) ((H8 hx4).frz)<|qm Z<|es (ra4 Z Z Z Z)<|wi h Z (fun hc5 h=>?_) fun hc5 h=>?_
  ·refine s0<|qm Z<|qm Z<|es (ra2 Z Z)<|C6 ?_
   obtain rfl:=os h
   exact retq trivial (A8 Z (A8 Z B6)) (A5 Z (A5 Z B5)) (A3 A4 (A3 A4 B1))
  ·refine s0<|oB h fun x6 hx6 h=>A0 (C3 Z) Z<|A0 (B4 Z Z Z) Z<|qm Z<|A0 (D4 (f:=C7) Z Z hx6) Z<|A0 (R1 (ds:=(Z3t 2 (C7 x6))) Z Z) Z<|A0 (G2 Z Z) Z<|A0 (M9 Z) Z<|qm Z<|es (ra4 Z Z Z Z)<|wi h Z (fun hc7 h=>?_) fun hc7 h=>?_
   ·refine s0<|qm Z<|qm Z<|es (ra2 Z Z)<|C6 ?_
    obtain rfl:=os h
    exact retq trivial (A8 Z (A8 Z B6)) (A5 Z (A5 Z B5)) (A3 A4 (A3 A4 B1))
   ·refine s0<|oB h fun x8 hx8 h=>qm Z<|A0 (J2 (rows:=Zg cI [a2]) Z Z (D9 (fun _=>rfl) _)) Z<|B2 (rs:=[.b x8]) Z Z (A1 Z (A1 Z (A1 Z B3))) ((H8 hx8).frz)<|qm Z<|es (ra4 Z Z Z Z)<|wi h Z (fun hc9 h=>?_) fun hc9 h=>?_
    ·refine s0<|qm Z<|qm Z<|es (ra2 Z Z)<|C6 ?_
     obtain rfl:=os h
     exact retq trivial (A8 Z (A8 Z B6)) (A5 Z (A5 Z B5)) (A3 A4 (A3 A4 B1))
    ·refine s0<|oB h fun x10 hx10 h=>qm Z<|A0 (C3 Z) Z<|A0 (B4 Z Z Z) Z<|qm Z<|A0 (D4 (f:=C7) Z Z hx10) Z<|A0 (R1 (ds:=(Z3t 7 (C7 x10))) Z Z) Z<|A0 (G2 Z Z) Z<|A0 (W0 Z Z) Z<|qm Z<|es (ra4 Z Z Z Z)<|wi h Z (fun hc11 h=>?_) fun hc11 h=>?_
     ·refine s0<|qm Z<|qm Z<|es (ra2 Z Z)<|C6 ?_
      obtain rfl:=os h
      exact retq trivial (A8 Z (A8 Z B6)) (A5 Z (A5 Z B5)) (A3 A4 (A3 A4 B1))
     ·refine B8<|s0<|oB h fun x12 hx12 h=>oB h fun x13 hx13 h=>A0 (C3 Z) Z<|A0 (B4 Z Z Z) Z<|qm Z<|A0 (D4 (f:=C7) Z Z hx12) Z<|A0 (I0 Z Z) Z<|A0 (R4 (cs:=B7 (PaFigure.mk (ByteArray.mk #[]) 0 0 0)) Z Z) Z<|qm Z<|B2 (rs:=[.i x13]) Z Z (A1 (D0 Z) (A1 (D0 Z) (A1 Z B3))) ((B1p hx13).frz)<|qm Z<|qm Z<|es (ra2 Z Z)<|C6 ?_
      obtain rfl:=os h
      exact retq trivial (A8 Z (A8 Z B6)) (A5 Z (A5 Z B5)) (A3 A4 (A3 A4 B1))
 ·rw[if_neg hc2]at h
  refine O7 (U1 (rs:=[.lit (.pointer none),.i x1.1]) Z Z (A1 (D0 Z) B3) (A5i hx1 (by simpa using hc2)) Z) Z<|qm Z<|A0 (A7 Z Z) Z<|A0 (A7 Z Z) Z<|qm Z<|qm Z<|es (ra4 Z Z Z Z)<|B9<|C5<|s0<|qm Z<|A0 (H9 Z Z) Z<|qm Z<|es (ra5 Z Z Z Z Z)<|Q5 Z (nef hc2)<|s0<|qm Z<|qm Z<|qm Z<|es (ra2 Z Z)<|C6 ?_
  obtain rfl:=os h
  exact retq trivial (A8 Z (A8 Z B6)) (A5 Z (A5 Z B5)) (A3 A4 (A3 A4 B1))
def A14 (a0:PaShow) (a1:Int) (a2:Int):Option (Int×Int) :=
 (A32 a0).bind fun x1 =>
 if (x1.1==0)=true then
  (G3 0 (w64 ((Zh a0.Gowns:Int)-1)) [a1]).bind fun x4 =>
  (if x4=true then
  some true
  else
  (G3 0 (w64 ((Zh a0.Figures:Int)-1)) [a2]).bind fun x6 =>
  some x6).bind fun x7 =>
  if x7=true then
  some (0,4)
  else
  (idx a0.Gowns a1).bind fun x9 =>
  if (!x9.Pawn)=true then
   some (0,2)
  else
   (idx a0.Gowns a1).bind fun x11 =>
   (idx a0.Figures a2).bind fun x12 =>
   (A2s x11 x12 0).bind fun x13 =>
   if (!x13)=true then
   some (0,9)
   else
   (idx a0.Gowns a1).bind fun x15 =>
   (idx a0.Figures a2).bind fun x16 =>
   (A5y x15 x16 0).bind fun x17 =>
   some (x17,0)
 else
  some (0,x1.1)
theorem A70 {c:Sc} {H:A2} {a0:PaShow} {a1:Int} {a2:Int} {r:(Int×Int)} (h:A14 a0 a1 a2=some r) :
  F0 tab c H (.fn (.func 14) [] []) [(.agg (A9 a0)),.i a1,.i a2] [.i r.1,.i r.2]:= by
 unfold A14 at h
 refine cE Z Z<|sg 0 Z<|A0 (G1 (cs:=A9 a0) Z Z Z) Z<|qm Z<|qm Z<|es (ra3 Z Z Z)<|s0<|oB h fun x1 hx1 h=>A0 (C9 Z Z Z) Z ?_
 by_cases hc2:(x1.1==0)=true
 ·rw[if_pos hc2]at h
  obtain⟨X3,hX3⟩:=A4g hx1 hc2
  refine O7 (A6e hX3 Z Z (A1 (D0 Z) B3) Z) Z<|qm Z<|A0 (A7 Z Z) Z<|A0 (A7 Z Z) Z<|qm Z<|qm Z<|es (ra5 Z Z Z Z Z)<|B9<|C5<|s0<|qm Z<|A0 (R8 (v:=(.b false)) Z Z Z) Z<|qm Z<|es (ra6 Z Z Z Z Z Z)<|T0 Z Z<|s0<|oB h fun x4 hx4 h=>oB h fun x7 hx7 h=>A0 (C3 Z) Z<|A0 (B4 Z Z Z) Z<|A0 (F2 (f:=C7) Z) Z<|A0 (W1 Z Z) Z<|qm Z<|A0 (J2 (rows:=Zg cI [a1]) Z Z (D9 (fun _=>rfl) _)) Z<|B2 (rs:=[.b x4]) Z Z (A1 Z (A1 Z (A1 Z B3))) ((H8 hx4).frz)<|qm Z<|gp 8 35 (.b x7) 27 Z Z (fun hg5=>?_) (fun hg5=>?_) ?_
  ·obtain rfl:=os (bt hx7 hg5)
   exact nF Z hg5 Z<|nF Z hg5 Z<|nF Z hg5 Z<|nF Z hg5 Z<|nF Z hg5 Z<|nF Z hg5 Z<|G4 (D2 Z (by rw[hg5];rfl)) Z<|A0 (C1 Z hg5 Z) Z<|ge 8 Z Z Z
  ·refine oB (bf hx7 hg5) fun x6 hx6 hx7=>?_
   obtain rfl:=os hx7
   exact gF Z hg5<|A0 (C3 Z) Z<|gF Z hg5<|A0 (B4 Z Z Z) Z<|gF Z hg5<|A0 (F2 (f:=B7) Z) Z<|gF Z hg5<|A0 (W1 Z Z) Z<|gF Z hg5<|qm Z<|gF Z hg5<|A0 (J2 (rows:=Zg cI [a2]) Z Z (D9 (fun _=>rfl) _)) Z<|gF Z hg5<|B2 (rs:=[.b x6]) Z Z (A1 Z (A1 Z (A1 Z B3))) ((H8 hx6).frz)<|A0 (C0 Z hg5 Z) Z<|ge 8 Z Z Z
  refine qm Z<|es (ra5 Z Z Z Z Z)<|wi h Z (fun hc8 h=>?_) fun hc8 h=>?_
  ·refine s0<|qm Z<|qm Z<|es (ra2 Z Z)<|C6 ?_
   obtain rfl:=os h
   exact retq trivial (A8 Z (A8 Z B6)) (A5 Z (A5 Z B5)) (A3 A4 (A3 A4 B1))
  ·refine s0<|oB h fun x9 hx9 h=>A0 (C3 Z) Z<|A0 (B4 Z Z Z) Z<|qm Z<|A0 (D4 (f:=C7) Z Z hx9) Z<|A0 (R1 (ds:=(Z3t 2 (C7 x9))) Z Z) Z<|A0 (G2 Z Z) Z<|A0 (M9 Z) Z<|qm Z<|es (ra5 Z Z Z Z Z)<|wi h Z (fun hc10 h=>?_) fun hc10 h=>?_
   ·refine s0<|qm Z<|qm Z<|es (ra2 Z Z)<|C6 ?_
    obtain rfl:=os h
    exact retq trivial (A8 Z (A8 Z B6)) (A5 Z (A5 Z B5)) (A3 A4 (A3 A4 B1))
   ·refine s0<|oB h fun x11 hx11 h=>oB h fun x12 hx12 h=>oB h fun x13 hx13 h=>qm Z<|A0 (N3 Z Z) Z<|A0 (C3 Z) Z<|A0 (B3q Z Z (by decide)) Z<|A0 (C3 Z) Z<|A0 (B4 (x:=(.fn (.func 96) [] [])) Z Z Z) Z<|A0 (C3 Z) Z<|A0 (B4 Z Z Z) Z<|qm Z<|A0 (D4 (f:=C7) Z Z hx11) Z<|A0 (I0 Z Z) Z<|A0 (C3 Z) Z<|A0 (B4 Z Z Z) Z<|qm Z<|A0 (D4 (f:=B7) Z Z hx12) Z<|A0 (I0 Z Z) Z<|B2 (rs:=[.b x13]) Z Z (A1 (D0 Z) (A1 (D0 Z) (A1 Z B3))) ((B1o hx13).frz)<|A0 (M9 Z) Z<|qm Z<|es (ra4 Z Z Z Z)<|wi h Z (fun hc14 h=>?_) fun hc14 h=>?_
    ·refine s0<|qm Z<|qm Z<|es (ra2 Z Z)<|C6 ?_
     obtain rfl:=os h
     exact retq trivial (A8 Z (A8 Z B6)) (A5 Z (A5 Z B5)) (A3 A4 (A3 A4 B1))
    ·refine B8<|s0<|oB h fun x15 hx15 h=>oB h fun x16 hx16 h=>oB h fun x17 hx17 h=>A0 (C3 Z) Z<|A0 (B4 Z Z Z) Z<|qm Z<|A0 (D4 (f:=C7) Z Z hx15) Z<|A0 (I0 Z Z) Z<|A0 (C3 Z) Z<|A0 (B4 Z Z Z) Z<|qm Z<|A0 (D4 (f:=B7) Z Z hx16) Z<|A0 (I0 Z Z) Z<|B2 (rs:=[.i x17]) Z Z (A1 (D0 Z) (A1 (D0 Z) (A1 Z B3))) ((B4f hx17).frz)<|qm Z<|qm Z<|es (ra2 Z Z)<|C6 ?_
     obtain rfl:=os h
     exact retq trivial (A8 Z (A8 Z B6)) (A5 Z (A5 Z B5)) (A3 A4 (A3 A4 B1))
 ·rw[if_neg hc2]at h
  refine O7 (U1 (rs:=[.lit (.pointer none),.i x1.1]) Z Z (A1 (D0 Z) B3) (A5i hx1 (by simpa using hc2)) Z) Z<|qm Z<|A0 (A7 Z Z) Z<|A0 (A7 Z Z) Z<|qm Z<|qm Z<|es (ra5 Z Z Z Z Z)<|B9<|C5<|s0<|qm Z<|A0 (H9 Z Z) Z<|qm Z<|es (ra6 Z Z Z Z Z Z)<|Q5 Z (nef hc2)<|s0<|qm Z<|qm Z<|qm Z<|es (ra2 Z Z)<|C6 ?_
  obtain rfl:=os h
  exact retq trivial (A8 Z (A8 Z B6)) (A5 Z (A5 Z B5)) (A3 A4 (A3 A4 B1))
end Pw
end
section
namespace Pw
open Go Am
theorem X9 {α σ τ ρ:Type} [Inhabited α] {b:σ→Option (σ⊕ρ)} (l:List α) (f:τ→α→τ) (t0:τ) (mk:Nat→τ→σ) {r:ρ} (hn:l.length<9223372036854775808)
  (hs:∀i,i<l.length→b (mk i ((l.take i).foldl f t0))=some (.inl (mk (i+1) (f ((l.take i).foldl f t0) l[i]!)))) (he:b (mk l.length (l.foldl f t0))=some (.inr r)):loop b (mk 0 t0)=some r:= by
 have:=N6 (b:=b) (fun i=>mk i ((l.take i).foldl f t0)) l.length (r:=r) hn (fun i hi=>by
  rw[hs i hi,ZM hi,List.foldl_append,getElem!_pos l i hi];rfl) (by
  rw[Z0n];exact he)
 exact this
def sm:List Int→Int
 | []=>0
 | x::l=>x+sm l
theorem A56:∀l m:List Int,sm (l++m)=sm l+sm m
 | [],m=>by simp[sm]
 | x::l,m=>by simp only[Z0g,sm,A56 l m];omega
theorem D0j {a b:Int}:∀{l:List Int},(∀ x∈l,a≤x∧x≤b)→a*l.length≤sm l∧sm l≤b*l.length
 | [],_=>by simp[sm]
 | x::l,h=>by
  have h1:=h x (Zy ..)
  have ih:=D0j (l:=l) fun y hy=>h y (Zx _ hy)
  simp only[sm,ZT,Int.natCast_add,Int.mul_add]
  omega
theorem D0k {α:Type} {f g:α→Int}:∀{l:List α},(∀ x∈l,f x≤g x)→sm (l.map f)≤sm (l.map g)
 | [],_=>Z02 _
 | x::l,h=>by
  have h1:=h x (Zy ..)
  have ih:=D0k (l:=l) fun y hy=>h y (Zx _ hy)
  simp only[Zt,sm];omega
theorem C0s {α:Type} {f:α→Int} {l:List α} (h:∀x∈l,f x=0):sm (l.map f)=0:= by
 induction l with
 | nil=>rfl
 | cons x l ih =>
  simp only[Zt,sm,h x (Zy ..),ih fun y hy=>h y (Zx _ hy)];rfl
theorem A27 {α:Type} (f:α→Int):∀(l:List α) (t:Int),l.foldl (fun a x=>a+f x) t=t+sm (l.map f)
 | [],t=>by simp[sm]
 | x::l,t=>by simp only[Z09,Zt,sm,A27 f l];omega
def price (g:PaGown) (day:Int):Int:=g.Loan+g.Rate*(1+(g.Ago+day) / 30)
theorem C9w {g:PaGown} (h:GwOk g) {day:Int} (hd:0≤day∧day≤364):0≤price g day∧price g day≤20000∧0≤g.Rate*(1+(g.Ago+day) / 30)∧g.Rate*(1+(g.Ago+day) / 30)≤500*26:= by
 have h1:=h.loan
 have h2:=h.rate
 have h3:=h.ago
 have h4:0≤(g.Ago+day) / 30∧(g.Ago+day) / 30≤24:= by omega
 have h5:0≤g.Rate*(1+(g.Ago+day) / 30):=Z5q h2.1 (by omega)
 have h6:g.Rate*(1+(g.Ago+day) / 30)≤500*26:=Z5r h2.2 (by omega) (by omega) (by omega)
 unfold price
 omega
theorem B4y {g:PaGown} (h:GwOk g) (f:PaFigure) {day:Int} (hd:0≤day∧day≤364):A0y g f day=some (price g day):= by
 have h1:=h.loan
 have h3:=h.ago
 have h7:=C9w h hd
 have hq:Z48 (g.Ago+day) 30=(g.Ago+day) / 30:=Int.tdiv_eq_ediv_of_nonneg (by omega)
 unfold A0y
 unfold price at h7 ⊢
 rw[D6 (n:=g.Ago+day) (by omega),hq,D6 (n:=(g.Ago+day) / 30) (by omega),D6 (n:=1+(g.Ago+day) / 30) (by omega),D6 (n:=g.Rate*(1+(g.Ago+day) / 30)) (by omega),D6 (by omega)]
def C1h (g:PaGown) (f:PaFigure):Int:=g.Fee*(f.Until-f.Day+1)
theorem D65 {g:PaGown} (h:GwOk g) {f:PaFigure} (hf:FgOk f):0≤C1h g f∧C1h g f≤40000:= by
 have h1:=h.fee
 have h2:=hf.day
 have h3:=hf.til
 have h5:0≤g.Fee*(f.Until-f.Day+1):=Z5q h1.1 (by omega)
 have h6:g.Fee*(f.Until-f.Day+1)≤100*365:=Z5r h1.2 (by omega) (by omega) (by omega)
 unfold C1h
 omega
theorem C1a {g:PaGown} (h:GwOk g) {f:PaFigure} (hf:FgOk f) (d:Int):A5y g f d=some (C1h g f):= by
 have h2:=hf.day
 have h3:=hf.til
 have h4:=D65 h hf
 unfold A5y C1h
 unfold C1h at h4
 rw[D6 (n:=f.Until-f.Day) (by omega),D6 (n:=f.Until-f.Day+1) (by omega),D6 (by omega)]
end Pw
end
section
set_option maxRecDepth 100000
set_option maxHeartbeats 0
namespace Am
open Go
theorem C0i {N:Nat} {L M:A2} (h:grL N L=true) (k:grL N M=true):grL N (L++M)=true:= by
 unfold grL at h k ⊢
 rw[List.all_append,h,k];rfl
theorem s0' {T:Tab} {s:C2} {H:A2} {c:Sc} {d:Bool} {live:List Nat} {ops:List AOper} {b:ACode} {Q:Ex→C2→A2→Prop} (h:N2 T c (H.length+0) ops s (H++[]) [] (RG live (D01 T b c Q))):WP T (.seq (.region d 0 [] ops live) b) s H c Q:=Z3 (s0 h)
theorem B9q {T:Tab} {ac:ACode} {s:C2} {H H':A2} {c:Sc} {Q:Ex→C2→A2→Prop} (e:H=H') (h:WP T ac s H' c Q):WP T ac s H c Q:=e▸h
def C0v {α:Type} (T:Tab) (i:Nat) (fc:List AV) (sh:Nat→A2→α→AV→Prop) (pre:A2→Prop) (it:∀(σ ρ:Type),(α→σ→Option (σ⊕ρ))→σ→Option (σ⊕ρ)):Prop :=
 ∀ {σ ρ:Type} (Hm:σ⊕ρ→A2) (N:Nat),(∀ x,(Hm x).length=N)→(∀ x,pre (Hm x))→∀ (y:AV),y.bd N=true→y.cellsOf=[y]→∀ (body:α→σ→Option (σ⊕ρ)),
  (∀ {L:A2} {c:Sc} {x:α} {s:σ} {o:σ⊕ρ} {v:AV},T5 c (Hm (.inl s)++L)=true→grL N L=true→sh N L x v→body x s=some o→L5 T c (Hm (.inl s)++L) y [v] [.b o.isLeft] (Hm o++L)) →
  ∀ {s0:σ} {o:σ⊕ρ},it σ ρ body s0=some o→∀ {c:Sc},T5 c (Hm (.inl s0))=true→L5 T c (Hm (.inl s0)) (.fn (.func i) [] fc) [y] [] (Hm o)
section
variable {T:Tab} {s:C2} {H0:A2} {l:List AO} {c:Sc} {n0 N:Nat}
theorem A67 {H:A2} {a:Opd} {b o:Nat} {cs:List AV} {x:AV} (h:ev s a=some (.ptr b o)) (hl:hcells H b=some cs) (hd:(cs.drop o).head? = some x):One T c n0 s H (.load none a) x H :=
 ⟨0,by
  simp only[core,prim,h,H6,hl]
  cases hc:cs.drop o with
  | nil=>simp[hc]at hd
  | cons y t=>simp only[hc,Z2c,Za]at hd;subst hd;rfl⟩
theorem A98 {H:A2} {a:Opd} {b o k:Nat} {cs ds:List AV} (h:ev s a=some (.ptr b o)) (hl:hcells H b=some cs) (hk:ZH k (cs.drop o).length=true) (hd:(cs.drop o).take k=ds):One T c n0 s H (.load (some k) a) (.agg ds) H :=
 ⟨0,by simp only[core,prim,h,H6,hl,hk,if_true,hd]⟩
theorem D30 {α:Type} {f:α→List AV} {k j m:Nat} {p:Bool} {kk:IntKind} {x i:Opd} {e:List α} {n:Int} {a:α} (hN:H0.length=N) (h:ev s x=some (.asl (N+j) m)) (hi:ev s i=some (.lit (.int kk n))) (hl:l[j]? = some (.arr k p (e.map f))) (hm:e.length=m) (ha:idx e n=some a) :
  One T c n0 s (H0++l) (.idxS k x i) (.eptr (N+j) m n.toNat 0) (H0++l):= by subst hN;exact A24 h hi hl hm ha
theorem C5n {a x:Opd} {j n i o k kk:Nat} {rows:List (List AV)} {r ds:List AV} {v:AV} (hN:H0.length=N) (h:ev s a=some (.eptr (N+j) n i o)) (hv:ev s x=some v) (hp:v.cellsOf.all AV.plain=true) (hz:v.cellsOf.all AV.frz=true) (hl:l[j]? = some (.arr kk false rows)) (hn:rows.length=n) (hr:rows[i]? = some r)
  (hk:(Nat.beq v.cellsOf.length k&&ZH (o+k) r.length)=true) (hd:splice r o v.cellsOf=ds) :
  One T c n0 s (H0++l) (.store k a x) (.tup []) (H0++l.set j (.arr kk false (rows.set i ds))):= by subst hN;exact B2j h hv hp hz hl hn hr hk hd
end
end Am
namespace Pw
open Go Am Go.Proofs.YtjpjdglddmhplaaGreat.Cd
def plx (t:PaShow) (days:List Int) (n:Int):Option PaUse :=
 (C39 n (Zh days:Int)).bind fun q=>(C39 q 3).bind fun g=>(B1u q 3).bind fun h=>(B1u n (Zh days:Int)).bind fun r=>(idx days r).bind fun d=>some ⟨g,h,d⟩
def bare0:PaUse:=⟨-1,0,0⟩
section
variable {σ ρ:Type}
def B5e (t:PaShow) (days:List Int) (figure:Int) (rec:Int→List PaUse→σ→Option (List PaUse×(σ⊕ρ))) (x:Int×List PaUse×σ):Option ((Int×List PaUse×σ)⊕((List PaUse×ρ)⊕(List PaUse×σ))) :=
 if (decide (x.1<w64 (w64 ((Zh t.Gowns:Int)*3)*(Zh days:Int))))=true then
  (plx t days x.1).bind fun u =>
  (idx x.2.1 figure).bind fun _ =>
  (Z9 (shw t days) figure u).bind fun e =>
  (if (e != 0)=true then some true else (A5z (T6 x.2.1 figure u) figure).bind fun z=>some z).bind fun g =>
  if g=true then some (.inl (w64 (x.1+1),T6 x.2.1 figure u,x.2.2))
  else (rec (w64 (figure+1)) (T6 x.2.1 figure u) x.2.2).bind fun y =>
   match y with
   | (p,.inl s')=>some (.inl (w64 (x.1+1),p,s'))
   | (p,.inr r)=>some (.inr (.inl (p,r)))
 else some (.inr (.inr (x.2.1,x.2.2)))
def B4a (t:PaShow) (days:List Int) (body:List PaUse→σ→Option (σ⊕ρ)):Nat→Int→List PaUse→σ→Option (List PaUse×(σ⊕ρ))
 | 0,_,_,_=>none
 | k+1,figure,p,s =>
  if (figure==(Zh p:Int))=true then (body p s).bind fun o=>some (p,o)
  else (loop (B5e t days figure (B4a t days body k)) (0,p,s)).bind fun o =>
   match o with
   | .inl (p,r)=>some (p,.inr r)
   | .inr (p,s)=>(A1c).bind fun b=>(idx p figure).bind fun _=>B4a t days body k (w64 (figure+1)) (T6 p figure b) s
end
def B3s (t:PaShow) (days:List Int) (σ ρ:Type) (body:List PaUse→σ→Option (σ⊕ρ)) (s:σ):Option (σ⊕ρ) :=
 (B38 24 (Zh t.Figures:Int) (PaUse.mk 0 0 0)).bind fun p=>(B4a t days body 64 0 p s).bind fun y=>some y.2
def caps (N bS:Nat):List AV:=[.ptr (N+3) 0,.ptr (N+0) 0,.ptr bS 0,.ptr (N+4) 0]
def L0 (N bS:Nat) (y:AV) (p:List PaUse):List AO:=[.cells [y],.arr 3 false (p.map A6),.arr 3 false [],.cells [.asl (N+1) p.length],.cells [.fn (.func 120) [] (caps N bS)]]
def shP (N:Nat) (L:A2) (x:List PaUse) (v:AV):Prop:=∃ j,v=.asl (N+j) x.length∧L[j]? = some (.arr 3 false (x.map A6))
theorem D4d {l:List PaUse} {i:Int} {u:PaUse}:(l.map A6).set i.toNat (A6 u)=(T6 l i u).map A6:=B2f l i u
section
variable {σ ρ:Type} {t:PaShow} {days:List Int} {Hm:σ⊕ρ→A2} {N bS b:Nat} {y:AV} {body:List PaUse→σ→Option (σ⊕ρ)}
theorem D3y (hN:∀x,(Hm x).length=N) (h1:∀x,hcells (Hm x) bS=some [.ptr b 0]) (ht:∀x,hcells (Hm x) b=some (A5f t days))
  (hy:∀{L:A2} {c:Sc} {p:List PaUse} {s:σ} {o:σ⊕ρ} {v:AV},T5 c (Hm (.inl s)++L)=true→grL N L=true→shP N L p v→body p s=some o→L5 tab c (Hm (.inl s)++L) y [v] [.b o.isLeft] (Hm o++L)) :
  ∀ (k:Nat) (figure:Int) (p:List PaUse) (s:σ) (x:List PaUse×(σ⊕ρ)),B4a t days body k figure p s=some x→∀ (M:A2) (c:Sc),grL N M=true→T5 c (Hm (.inl s)++(L0 N bS y p++M))=true →
   L5 tab c (Hm (.inl s)++(L0 N bS y p++M)) (.fn (.func 120) [] (caps N bS)) [.i figure] [.b x.2.isLeft] (Hm x.2++(L0 N bS y x.1++M))
 | 0,_,_,_,_,h,_,_,_,_=>by cases h
 | k+1,figure,p,s,x,h,M,c,hgr,hsc=>by
  have ih:=D3y hN h1 ht hy k
  unfold B4a at h
  have hl5:∀z p,(Hm z++(L0 N bS y p++M)).length=N+(M.length+5):=fun z p=>by rw[Zo,hN,Zo];simp only[L0,ZT,Z3i];omega
  have hb1:∀z p,hcells (Hm z++(L0 N bS y p++M)) bS=some [.ptr b 0]:=fun z p=>F3 (h1 z) _
  have hbt:∀z p,hcells (Hm z++(L0 N bS y p++M)) b=some (A5f t days):=fun z p=>F3 (ht z) _
  have q0:∀z p,hcells (Hm z++(L0 N bS y p++M)) (N+0)=some [y]:=fun z p=>by rw[← hN z];exact F7 Z
  have q3:∀z p,hcells (Hm z++(L0 N bS y p++M)) (N+3)=some [.asl (N+1) p.length]:=fun z p=>by rw[← hN z];exact F7 Z
  have q4:∀z p,hcells (Hm z++(L0 N bS y p++M)) (N+4)=some [.fn (.func 120) [] (caps N bS)]:=fun z p=>by rw[← hN z];exact F7 Z
  have qa:∀z p,harr (Hm z++(L0 N bS y p++M)) (N+1)=some (3,false,p.map A6):=fun z p=>by rw[← hN z];exact P9 Z
  have hbdS:bS<N:= by have:=A65 (h1 (.inl s));rwa [hN]at this
  have htk:∀z p' Y,(Hm z++(L0 N bS y p'++M)++Y).take (Hm (.inl s)++(L0 N bS y p++M)).length=Hm z++(L0 N bS y p'++M):=fun z p' Y=>by rw[hl5,← hl5 z p'];exact Z07
  have hK:∀z p',(Hm z++(L0 N bS y p'++M)).length=(Hm (.inl s)++(L0 N bS y p++M)).length:=fun z p'=>by rw[hl5,hl5]
  refine A1x (aq:=[.i figure,.ptr (N+3) 0,.ptr (N+0) 0,.ptr bS 0,.ptr (N+4) 0]) Z Z Z (Z3 ?_)
  refine s0<|qm Z<|es (ra5 Z Z Z Z Z)<|B9<|s0<|qm Z<|A0 (I6 Z (q3 _ _) Z) Z<|A0 (B72 (SlV.asl _ _ _ (qa (.inl s) p)) Z) Z<|A0 (F9 Z Z) Z<|es (ra6 Z Z Z Z Z Z)<|wi h Z (fun hc h=>?_) fun hc h=>?_
  ·refine oB h fun o ho h=>?_
   cases h
   have hcall:L5 tab ⟨(Hm (.inl s)++(L0 N bS y p++M)).length,c.cur::c.outer⟩ (Hm (.inl s)++(L0 N bS y p++M)++[]) y [.asl (N+1) p.length] [.b o.isLeft] (Hm o++(L0 N bS y p++M)++[]):= by
    rw[ZY,ZY]
    exact hy (B2z hsc (Zn _) (Zn _)) (C0i Z hgr) ⟨1,Z,Z⟩ ho
   refine s0<|A0 (I6 Z (q0 _ _) Z) Z<|A0 (I6 Z (q3 _ _) Z) Z<|O7 (A4j Z Z hcall Z) Z<|qm Z<|es (ra1 Z)<|C6 ?_
   show B1s _ _ _ _ .ret _ _
   exact C25 trivial (A8 Z B6) (A5 (v:=.lit (.bool o.isLeft)) Z B5) (A3 A4 B1) (htk _ _ _)
  ·refine oB h fun o ho h=>?_
   have hKN:∀z p',(Hm z++(L0 N bS y p'++M)).length=N+(M.length+5):=hl5
   refine B8<|B9<|s0<|A0 (I6 Z (hb1 _ _) Z) Z<|A0 (N3 Z Z) Z<|A0 (C3 Z) Z<|A0 (C3 Z) Z<|A0 (I6 (x:=.seq 8 (Zg C7 t.Gowns)) Z (hbt _ _) Z) Z<|A0 (F2 (f:=C7) Z) Z<|A0 (B33 Z Z) Z<|A0 (I6 Z (hb1 _ _) Z) Z<|A0 (N3 Z Z) Z<|A0 (C3 Z) Z<|A0 (I6 (x:=.seq 1 (Zg cI days)) Z (hbt _ _) Z) Z<|A0 (F2 (f:=cI) Z) Z<|A0 (B33 Z Z) Z<|qm Z<|es (ra6 Z Z Z Z Z Z)<|C5 ?_
   refine A22 (B9q (ZY _) (C3l (γ:=Unit) (live:=[0,1,3,4,28,29]) (body:=B5e t days figure (B4a t days body k)) (fun x=>[(0,.i figure),(1,.ptr (N+3) 0),(3,.ptr bS 0),(4,.ptr (N+4) 0),(28,.i (w64 (w64 ((Zh t.Gowns:Int)*3)*(Zh days:Int)))),(29,.i x.1)]) (fun _ x=>Hm (.inl x.2.2)++(L0 N bS y x.2.1++M)) (N+(M.length+5))
    (fun r e s' H'=>match r with
     | .inl r=>e=.ret∧s'=[(6,.b false)]∧H'.take (N+(M.length+5))=Hm (.inr r.2)++(L0 N bS y r.1++M)
     | .inr r=>e=.exit 0∧s'=[(0,.i figure),(1,.ptr (N+3) 0),(4,.ptr (N+4) 0)]∧H'=Hm (.inl r.2)++(L0 N bS y r.1++M)) (fun _ x=>hl5 _ _) (fun _=>rfl) (by decide) (fun x _=>?_) ?_ ho ())) ?_
   ·refine bdc A4 (bdc ?_ (bdc ?_ (bdc ?_ (bdc A4 (bdc A4 bdn)))))
    all_goals (simp only[AV.bd];exact Zl (by omega))
   ·intro _ x o' hb
    obtain⟨n,p1,s1⟩:=x
    unfold B5e at hb
    simp only at hb
    refine s0'<|A0 (I3 Z Z) Z<|es (ra7 Z Z Z Z Z Z Z)<|B9<|wi hb Z (fun hc hb=>?_) fun hc hb=>?_
    ·refine oB hb fun u hu hb=>oB hb fun w hw hb=>oB hb fun e he hb=>oB hb fun g hg hb=>?_
     refine oB hu fun q hq hu=>oB hu fun ug hug hu=>oB hu fun uh huh hu=>oB hu fun ur hur hu=>oB hu fun ud hud hu=>?_
     obtain rfl:=os hu
     have hKe:=hl5 (.inl s1) p1
     have hu8:∀z p',hcells (Hm z++(L0 N bS y p'++(M++[AO.cells (A6 ⟨ug,uh,ud⟩)]))) ((Hm (.inl s1)++(L0 N bS y p1++M)).length+(0+0))=some (A6 ⟨ug,uh,ud⟩):=fun z p'=>by
      rw[show Hm z++(L0 N bS y p'++(M++[AO.cells (A6 ⟨ug,uh,ud⟩)]))=(Hm z++(L0 N bS y p'++M))++[AO.cells (A6 ⟨ug,uh,ud⟩)] by simp only[ZB],hKe,← hl5 z p']
      exact F7 Z
     have hset1:∀z Y,Hm z++(L0 N bS y p1++Y).set 1 (.arr 3 false ((p1.map A6).set figure.toNat (A6 ⟨ug,uh,ud⟩)))=Hm z++(L0 N bS y (T6 p1 figure ⟨ug,uh,ud⟩)++Y):=fun z Y=>by
      rw[D4d]
      have:(T6 p1 figure (⟨ug,uh,ud⟩:PaUse)).length=p1.length:=Z2 _ _ _
      simp only[L0,this];rfl
     have hb1':∀z p' Y,hcells (Hm z++(L0 N bS y p'++Y)) bS=some [.ptr b 0]:=fun z p' Y=>F3 (h1 z) _
     have hbt':∀z p' Y,hcells (Hm z++(L0 N bS y p'++Y)) b=some (A5f t days):=fun z p' Y=>F3 (ht z) _
     have q3':∀z p' Y,hcells (Hm z++(L0 N bS y p'++Y)) (N+3)=some [.asl (N+1) p'.length]:=fun z p' Y=>by rw[← hN z];exact F7 Z
     have q4':∀z p' Y,hcells (Hm z++(L0 N bS y p'++Y)) (N+4)=some [.fn (.func 120) [] (caps N bS)]:=fun z p' Y=>by rw[← hN z];exact F7 Z
     have qa':∀z p' Y,harr (Hm z++(L0 N bS y p'++Y)) (N+1)=some (3,false,p'.map A6):=fun z p' Y=>by rw[← hN z];exact P9 Z
     have htk2:∀z p' Y,(Hm z++(L0 N bS y p'++(M++Y))).take (N+(M.length+5))=Hm z++(L0 N bS y p'++M):=fun z p' Y=>by
      rw[show Hm z++(L0 N bS y p'++(M++Y))=(Hm z++(L0 N bS y p'++M))++Y by simp only[ZB],← hl5 z p']
      exact Z07
     refine B8<|B9<|C5<|s0<|qm Z<|qm Z<|es (ra7 Z Z Z Z Z Z Z)<|sg 0 Z<|qm Z<|J3 [0] (O2 [0] rfl H7 Z Z) (seen0 Z) (I6 Z (hb1 _ _) Z) Z<|A0 (N3 Z Z) Z<|A0 (C3 Z) Z<|J3 [0] (O2 [0] rfl H7 Z Z) (seen0 Z) (I6 (x:=.seq 1 (Zg cI days)) Z (hbt _ _) Z) Z<|J3 [0] (O2 [0] rfl H7 Z Z) (seen0 Z) (F2 (f:=cI) Z) Z<|A0 (C9h Z Z hq) Z<|A0 (C9h Z Z hug) Z<|qm Z<|J3 [0] (O2 [0] rfl H7 Z Z) (seen0 Z) (I6 Z (hb1 _ _) Z) Z<|A0 (N3 Z Z) Z<|A0 (C3 Z) Z<|J3 [0] (O2 [0] rfl H7 Z Z) (seen0 Z) (I6 (x:=.seq 1 (Zg cI days)) Z (hbt _ _) Z) Z<|J3 [0] (O2 [0] rfl H7 Z Z) (seen0 Z) (F2 (f:=cI) Z) Z<|A0 (C9h Z Z hq) Z<|A0 (C5o Z Z huh) Z<|J3 [0] (O2 [0] rfl H7 Z Z) (seen0 Z) (I6 Z (hb1 _ _) Z) Z<|A0 (N3 Z Z) Z<|A0 (C3 Z) Z<|J3 [0] (O2 [0] rfl H7 Z Z) (seen0 Z) (I6 (x:=.seq 1 (Zg cI days)) Z (hbt _ _) Z) Z<|qm Z<|J3 [0] (O2 [0] rfl H7 Z Z) (seen0 Z) (I6 Z (hb1 _ _) Z) Z<|A0 (N3 Z Z) Z<|A0 (C3 Z) Z<|J3 [0] (O2 [0] rfl H7 Z Z) (seen0 Z) (I6 (x:=.seq 1 (Zg cI days)) Z (hbt _ _) Z) Z<|J3 [0] (O2 [0] rfl H7 Z Z) (seen0 Z) (F2 (f:=cI) Z) Z<|A0 (C5o Z Z hur) Z<|J3 [0] (O2 [0] rfl H7 Z Z) (seen0 Z) (D4 (f:=cI) Z Z hud) Z<|J3 [0] (O2 [0] rfl H7 Z Z) (seen0 Z) (G2 (x:=.i ud) Z Z) Z<|A0 (R4 (cs:=A6 ⟨ug,uh,ud⟩) Z Z) Z<|A0 J6 Z<|O6 (G0 (ds:=A6 ⟨ug,uh,ud⟩) Z Z Z Z (E0 Z) Z) Z<|es (ra7 Z Z Z Z Z Z Z)<|B9q (show _=Hm (.inl s1)++(L0 N bS y p1++(M++[AO.cells (A6 ⟨ug,uh,ud⟩)])) by simp) ?_
     refine B9<|s0<|A0 (A67 (x:=.asl (N+1) p1.length) Z (q3' _ _ _) Z) Z<|qm Z<|A0 (A98 (ds:=A6 ⟨ug,uh,ud⟩) Z (hu8 _ _) Z Z) Z<|A0 (D30 (f:=A6) (j:=1) (hN _) Z Z Z Z hw) Z<|O6 (C5n (ds:=A6 ⟨ug,uh,ud⟩) (j:=1) (hN _) Z Z Z Z Z (Zi _) (A2j hw) Z Z) Z ?_
     rw[hset1]
     refine es (ra7 Z Z Z Z Z Z Z)<|s0<|A0 (A67 Z (hb1' _ _ _) Z) Z<|qm Z<|A0 (A98 (ds:=A6 ⟨ug,uh,ud⟩) Z (hu8 _ _) Z Z) Z<|B2 (rs:=[.i e]) Z Z (A1 Z (A1 Z (A1 (D0 Z) B3))) ((A5s (a0:=shw t days) (hbt' _ _ _) he).frz)<|A0 (H9 Z Z) Z<|qm Z<|gp 4 75 (.b g) 71 Z Z (fun hc1=>?_) (fun hc1=>?_) ?_
     ·obtain rfl:=os (bt hg hc1)
      exact nF Z hc1 Z<|nF Z hc1 Z<|G4 (D2 Z (by rw[hc1];rfl)) Z<|A0 (C1 Z hc1 Z) Z<|ge 4 Z Z Z
     ·refine oB (bf hg hc1) fun z hz hg=>?_
      obtain rfl:=os hg
      exact gF Z hc1<|A0 (A67 (x:=.asl (N+1) (T6 p1 figure ⟨ug,uh,ud⟩).length) Z (q3' _ _ _) Z) Z<|gF Z hc1<|qm Z<|gF Z hc1<|O7 (Z7 (rs:=[.b z]) Z Z ((B2o (SlV.asl _ _ _ (qa' _ _ _)) (fun _ _ _ _ hh=>by cases hh) rfl hz).frz)) rfl<|A0 (C0 rfl hc1 rfl) rfl<|ge 4 rfl rfl rfl
     ·refine es (ra7 Z Z Z Z Z Z Z)<|wi hb Z (fun hc2 hb=>?_) fun hc2 hb=>?_
      ·cases hb
       refine G5<|r0<|A0 (D8 Z Z) Z<|qm Z<|en (ra6 Z Z Z Z Z Z) ?_
       exact⟨Z,su6 Z Z Z Z Z Z,(),htk2 _ _ _⟩
      ·refine oB hb fun x1 hx1 hb=>?_
       have hnext:∀c',T5 c' (Hm (.inl s1)++(L0 N bS y (T6 p1 figure ⟨ug,uh,ud⟩)++(M++[AO.cells (A6 ⟨ug,uh,ud⟩)])))=true→L5 tab c' (Hm (.inl s1)++(L0 N bS y (T6 p1 figure ⟨ug,uh,ud⟩)++(M++[AO.cells (A6 ⟨ug,uh,ud⟩)]))) (.fn (.func 120) [] (caps N bS)) [.i (w64 (figure+1))] [.b x1.2.isLeft] (Hm x1.2++(L0 N bS y x1.1++(M++[AO.cells (A6 ⟨ug,uh,ud⟩)]))):=fun c' hc'=>ih _ _ _ _ hx1 (M++[AO.cells (A6 ⟨ug,uh,ud⟩)]) c' (C0i hgr Z) hc'
       have hlen6:(Hm (.inl s1)++(L0 N bS y (T6 p1 figure ⟨ug,uh,ud⟩)++(M++[AO.cells (A6 ⟨ug,uh,ud⟩)]))).length=N+(M.length+5)+1:= by
        rw[show Hm (.inl s1)++(L0 N bS y (T6 p1 figure ⟨ug,uh,ud⟩)++(M++[AO.cells (A6 ⟨ug,uh,ud⟩)]))=(Hm (.inl s1)++(L0 N bS y (T6 p1 figure ⟨ug,uh,ud⟩)++M))++[AO.cells (A6 ⟨ug,uh,ud⟩)] by simp only[ZB],Zo,hl5];rfl
       refine B8<|s0<|A0 (A67 Z (q4' _ _ _) Z) Z<|qm Z<|A0 (D8 Z Z) Z<|O7 (A4j Z Z (hnext _ ?_) Z) Z<|A0 (C9i Z Z) Z<|es (ra7 Z Z Z Z Z Z Z) ?_
       ·exact B2z (c:=⟨(Hm (.inl s)++(L0 N bS y p++M)).length,c.cur::c.outer⟩) (H:=Hm (.inl s)++(L0 N bS y p++M)) (B2z hsc (Zn _) (Zn _)) (by rw[hlen6,hl5];omega) (by rw[hlen6];omega)
       ·obtain⟨p2,x2⟩:=x1
        cases x2 with
        | inl s2 =>
         cases hb
         refine T0 Z Z<|B8<|r0<|A0 (D8 Z Z) Z<|qm Z<|en (ra6 Z Z Z Z Z Z) ?_
         exact⟨Z,su6 Z Z Z Z Z Z,(),htk2 _ _ _⟩
        | inr r2 =>
         cases hb
         refine Q5 Z Z<|s0<|qm Z<|es (ra1 Z)<|C6 ?_
         exact⟨Z,_,Sub.refl _,Z,Z,htk2 _ _ _⟩
    ·refine G5 ?_
     cases hb
     exact⟨Z,_,su3 Z Z Z,Z,Z,ZY _⟩
   ·intro e s' H' q
    obtain⟨_,q⟩:=q
    rcases o with r|r
    ·obtain⟨p1,r⟩:=r
     obtain⟨rfl,rfl,q⟩:=q
     cases h
     show B1s _ _ _ _ .ret _ _
     exact C25 trivial (A8 Z B6) (A5 (v:=.lit (.bool false)) Z B5) (A3 A4 B1) (by rw[hl5];exact q)
    ·obtain⟨p1,s1⟩:=r
     obtain⟨rfl,rfl,rfl⟩:=q
     refine oB h fun bb hbb h=>oB h fun w hw h=>?_
     have hset1:Hm (.inl s1)++(L0 N bS y p1++M).set 1 (.arr 3 false ((p1.map A6).set figure.toNat (A6 bb)))=Hm (.inl s1)++(L0 N bS y (T6 p1 figure bb)++M):= by
      rw[D4d]
      have:(T6 p1 figure bb).length=p1.length:=Z2 _ _ _
      simp only[L0,this];rfl
     have hnext:∀c',T5 c' (Hm (.inl s1)++(L0 N bS y (T6 p1 figure bb)++M))=true→L5 tab c' (Hm (.inl s1)++(L0 N bS y (T6 p1 figure bb)++M)) (.fn (.func 120) [] (caps N bS)) [.i (w64 (figure+1))] [.b x.2.isLeft] (Hm x.2++(L0 N bS y x.1++M)):=fun c' hc'=>ih _ _ _ _ h M c' hgr hc'
     refine s0<|A0 (A67 (x:=.asl (N+1) p1.length) Z (q3 _ _) Z) Z<|qm Z<|T3 (rs:=[(.agg (A6 bb))]) Z Z A0j B3 ((A68 hbb).frz)<|A0 (D30 (f:=A6) (j:=1) (hN _) Z Z Z Z hw) Z<|O6 (C5n (ds:=A6 bb) (j:=1) (hN _) Z Z Z Z Z (Zi _) (A2j hw) Z Z) Z ?_
     rw[hset1]
     refine es (ra2 Z Z)<|s0<|A0 (A67 Z (q4 _ _) Z) Z<|qm Z<|A0 (D8 Z Z) Z<|O7 (A4j Z Z (hnext _ ?_) Z) Z<|qm Z<|es (ra1 Z)<|C6 ?_
     ·exact B2z hsc (by rw[hl5,hl5];exact Zn _) (by rw[hl5,hl5];exact Zn _)
     ·show B1s _ _ _ _ .ret _ _
      exact C25 trivial (A8 Z B6) (A5 (v:=.lit (.bool x.2.isLeft)) Z B5) (A3 A4 B1) (by rw[hl5,← hl5 x.2 x.1];exact Z0n)
end
theorem D88 {t:PaShow} {days:List Int} {bS b:Nat}:C0v tab 119 [.ptr bS 0] shP (fun H=>hcells H bS=some [.ptr b 0]∧hcells H b=some (A5f t days)) (B3s t days):= by
 intro σ ρ Hm N hN hpre y hyb hyc body hy a0 o ho c hc
 unfold B3s at ho
 refine oB ho fun p0 hp0 ho=>oB ho fun x0 hx0 ho=>?_
 obtain rfl:=os ho
 have h1:∀x,hcells (Hm x) bS=some [.ptr b 0]:=fun x=>(hpre x).1
 have ht:∀x,hcells (Hm x) b=some (A5f t days):=fun x=>(hpre x).2
 have e:=hN (.inl a0)
 have hl5:∀x p,(Hm x++L0 N bS y p).length=N+5:=fun x p=>by rw[Zo,hN];rfl
 have htk:∀x p,(Hm x++L0 N bS y p).take (Hm (.inl a0)).length=Hm x:=fun x p=>by rw[e,← hN x];exact Z07
 have hcall:∀c',T5 c' (Hm (.inl a0)++L0 N bS y p0)=true→L5 tab c' (Hm (.inl a0)++L0 N bS y p0) (.fn (.func 120) [] (caps N bS)) [.i 0] [.b x0.2.isLeft] (Hm x0.2++L0 N bS y x0.1):=fun c' hc'=>by
  have:=D3y hN h1 ht hy 64 0 p0 a0 x0 hx0 [] c' Z (by rw[ZY];exact hc')
  rwa [ZY,ZY]at this
 have key:WP tab c119 [(0,y),(1,.ptr bS 0)] (Hm (.inl a0)++[]) ⟨(Hm (.inl a0)).length,c.cur::c.outer⟩ (B1s (Hm (.inl a0)) (Hm x0.2) [] []):= by
  subst e
  refine sg 0 Z<|A0 (G1 Z hyc Z) Z<|es (ra2 Z Z)<|sg 1 Z<|A0 (I6 Z (h1 _) Z) Z<|A0 (N3 Z Z) Z<|A0 (C3 Z) Z<|A0 (C3 Z) Z<|A0 (I6 (x:=.seq 4 (Zg B7 t.Figures)) Z (ht _) Z) Z<|A0 (F2 (f:=B7) Z) Z<|A0 (B73 (f:=A6) (zt:=PaUse.mk 0 0 0) Z Z Z hp0) Z<|A0 C9d Z<|O6 (G0 (ds:=[.asl ((Hm (.inl a0)).length+1) p0.length]) Z Z Z Z (A2p ?_) Z) Z<|es (ra3 Z Z Z)<|sg 4 Z<|A0 J6 Z<|es (ra4 Z Z Z Z)<|s0<|A0 (A5r Z Z) Z<|O6 (G0 (ds:=[.fn (.func 120) [] (caps (Hm (.inl a0)).length bS)]) Z Z Z Z (A2p ?_) Z) Z<|es (ra1 Z)<|r0<|A0 (B4 (x:=.fn (.func 120) [] (caps (Hm (.inl a0)).length bS)) Z Z Z) Z<|O7 (U1 (rs:=[.b x0.2.isLeft]) Z Z (A1 Z B3) (hcall _ ?_) Z) Z<|en .n ?_
  ·exact ZL _ _
  ·exact ZL _ _
  ·exact B2z hc (by rw[hl5];omega) (by rw[hl5];omega)
  ·show B1s _ _ _ _ .normal _ _
   exact C25 trivial Z Z Z (htk _ _)
 rw[ZY]at key
 exact A1x (aq:=[y,.ptr bS 0]) Z Z Z key
end Pw
end
section
namespace Pw
open Go Am
def T7 (G:List PaGown) (y:PaFigure) (x:PaUse):Int :=
 if x.Gown = -1 then (if x.How=0∧x.Day=0 then 0 else 2) else
 if out 0 ((G.length:Int)-1) x.Gown then 4 else
 if A90 G[x.Gown.toNat]! x=false then 2 else
 if B36 G[x.Gown.toNat]! y x||!B57 G[x.Gown.toNat]! y then 9 else 0
theorem D2k (s:PaShow) (f:Int) (x:PaUse):E32 s f x=T7 s.Gowns s.Figures[f.toNat]! x:=rfl
structure Hu (G:List PaGown) (y:PaFigure) (x:PaUse):Prop where
 lo:0≤x.Gown
 hi:x.Gown<G.length
 form:A90 G[x.Gown.toNat]! x=true
 late:B36 G[x.Gown.toNat]! y x=false
 look:B57 G[x.Gown.toNat]! y=true
theorem X1 {G:List PaGown} {y:PaFigure} {x:PaUse}:T7 G y x=0↔x=bare0∨Hu G y x:= by
 obtain⟨g,how,day⟩:=x
 unfold T7 bare0
 simp only
 constructor
 ·intro h
  split at h
  ·next hg =>
   split at h
   ·next hh=>left;subst hg;rw[hh.1,hh.2]
   ·cases h
  ·next hg =>
   split at h
   ·cases h
   ·next ho =>
    split at h
    ·cases h
    ·next hf =>
     split at h
     ·cases h
     ·next hl =>
      have ho:=P6.mp (by simpa using ho)
      have hl:B36 G[g.toNat]! y ⟨g,how,day⟩=false∧B57 G[g.toNat]! y=true:= by simpa using hl
      exact .inr ⟨ho.1,by simp only;omega,by simpa using hf,hl.1,hl.2⟩
 ·rintro (h|h)
  ·cases h
   rfl
  ·have h1:=h.lo
   have h2:=h.hi
   have h3:=h.form
   have h4:=h.late
   have h5:=h.look
   simp only at h1 h2 h3 h4 h5
   rw[if_neg (by omega),if_neg (by rw[P6.mpr (by omega)];decide),if_neg (by rw[h3];decide),h4,h5]
   rfl
def A1v (G:List PaGown) (y:PaFigure) (x:PaUse):Int×Int :=
 if x.Gown = -1 then (0,0) else if x.How=1 then (price G[x.Gown.toNat]! x.Day,x.Day) else if x.How=2 then (C1h G[x.Gown.toNat]! y,y.Day) else (0,0)
theorem form1 {g:PaGown} {x:PaUse} (h:A90 g x=true):(g.Pawn=false∧x.How=0∧x.Day=0)∨(g.Pawn=true∧((x.How=2∧x.Day=0)∨(x.How=1∧0≤x.Day∧x.Day≤364))):= by
 unfold A90 at h
 cases hp:g.Pawn
 ·rw[hp]at h
  simp at h
  exact .inl ⟨Z,h⟩
 ·rw[hp]at h
  simp only[if_true,Z14,Zc,beq_iff_eq,Z05,P6]at h
  exact .inr ⟨Z,h⟩
theorem D13 {G:List PaGown} (hG:∀g∈G,GwOk g) {y:PaFigure} (hy:FgOk y) {x:PaUse} (h:T7 G y x=0):(0≤(A1v G y x).1∧(A1v G y x).1≤100000)∧(0≤(A1v G y x).2∧(A1v G y x).2≤364):= by
 rcases X1.mp h with rfl|h
 ·exact⟨⟨Z02 _,by show (0:Int)≤100000;decide⟩,Z02 _,by show (0:Int)≤364;decide⟩
 ·have h1:=h.lo
  have h2:=h.hi
  have hg:=hG _ (J1 (l:=G) (i:=x.Gown.toNat) (by omega))
  have hf:=hy.day
  have ht:=hy.til
  unfold A1v
  rw[if_neg (by omega)]
  rcases form1 h.form with⟨_,hh,hd⟩|⟨_,⟨hh,hd⟩|⟨hh,hd⟩⟩
  ·rw[if_neg (by omega),if_neg (by omega)]
   exact⟨by decide,by decide⟩
  ·rw[if_neg (by omega),if_pos hh]
   have:=D65 hg hy
   exact⟨⟨this.1,by show C1h _ _≤100000;omega⟩,hf.1,by show y.Day≤364;omega⟩
  ·rw[if_pos hh]
   have:=C9w hg hd
   exact⟨⟨this.1,by show price _ _≤100000;omega⟩,hd⟩
theorem C7j {s:PaShow} (hs:ShOk s) (days:List Int) {f:Int} (hf:0≤f∧f<s.Figures.length) {x:PaUse} (h:T7 s.Gowns s.Figures[f.toNat]! x=0):W9 (shw s days) f x=some (A1v s.Gowns s.Figures[f.toNat]! x):= by
 have hy:=hs.figure _ (J1 (l:=s.Figures) (i:=f.toNat) (by omega))
 unfold W9 A1c
 simp only[Zd]
 rcases X1.mp h with rfl|h
 ·rfl
 ·have h1:=h.lo
  have h2:=h.hi
  have hg:=hs.gown _ (J1 (l:=s.Gowns) (i:=x.Gown.toNat) (by omega))
  have hfm:=h.form
  rw[if_neg (by simp only[Zc,beq_iff_eq];omega),show (shw s days).PaShow=s from Z,A0r (l:=s.Gowns) h1 h2,A0r (l:=s.Figures) hf.1 hf.2]
  unfold A1v
  rw[if_neg (by omega)]
  generalize s.Figures[f.toNat]! = y at hy
  generalize s.Gowns[x.Gown.toNat]! = g at hg hfm
  rcases form1 hfm with⟨_,hh,hd⟩|⟨_,⟨hh,hd⟩|⟨hh,hd⟩⟩
  ·rw[hh];rfl
  ·rw[hh]
   simp only[sel3,inR,Zd]
   rw[C1a hg hy]
   rfl
  ·rw[hh]
   simp only[sel3,inR,Zd]
   rw[B4y hg y hd]
   rfl
def O4 (l:List (Int×Int)) (d:Int):Int:=sm (l.map fun x=>if x.2≤d then x.1 else 0)
def incs (s:PaShow):List (Int×Int):=s.Incomes.map fun x=>(x.Pence,x.Day)
def pays (s:PaShow) (p:List PaUse):List (Int×Int):=List.zipWith (A1v s.Gowns) s.Figures p
def I1 (s:PaShow) (p:List PaUse) (d:Int):Int:=s.Purse+O4 (incs s) d-O4 (pays s p) d
theorem A21 {l:List (Int×Int)} (h:∀x∈l,0≤x.1∧x.1≤100000) (d:Int):0≤O4 l d∧O4 l d≤100000*l.length:= by
 have:=D0j (a:=0) (b:=100000) (l:=l.map fun x=>if x.2≤d then x.1 else 0) (fun z hz=>by
  obtain⟨x,hx,rfl⟩:=ZK.mp hz
  have:=h x hx
  split <;> omega)
 rw[Zi]at this
 unfold O4
 omega
structure PlU (s:PaShow) (p:List PaUse):Prop where
 len:p.length=s.Figures.length
 use:∀i,i<p.length→T7 s.Gowns s.Figures[i]! p[i]! = 0
theorem L3 {s:PaShow} {p:List PaUse} (h:PlU s p):(pays s p).length=p.length:= by
 have:=h.len
 unfold pays
 rw[List.length_zipWith];omega
theorem A42 {s:PaShow} {p:List PaUse} (h:PlU s p) {i:Nat} (hi:i<p.length):(pays s p)[i]! = A1v s.Gowns s.Figures[i]! p[i]!:= by
 have:=h.len
 rw[getElem!_pos (pays s p) i (by rw[L3 h];exact hi)]
 unfold pays
 rw[List.getElem_zipWith,getElem!_pos p i hi,getElem!_pos s.Figures i (by omega)]
theorem V2 {s:PaShow} (hs:ShOk s) {p:List PaUse} (h:PlU s p):∀x∈pays s p,(0≤x.1∧x.1≤100000)∧(0≤x.2∧x.2≤364):= by
 intro x hx
 obtain⟨i,hi,rfl⟩:=A40 hx
 rw[L3 h]at hi
 have:=h.len
 rw[A42 h hi]
 exact D13 hs.gown (hs.figure _ (J1 (by omega))) (h.use i hi)
theorem Y5 {s:PaShow} (hs:ShOk s):∀x∈incs s,(0≤x.1∧x.1≤100000)∧(0≤x.2∧x.2≤364):= by
 intro x hx
 obtain⟨y,hy,rfl⟩:=ZK.mp hx
 have:=hs.income y hy
 have h1:=this.pence
 have h2:=this.day
 exact⟨⟨h1.1,by show y.Pence≤_;omega⟩,h2⟩
theorem R7 (s:PaShow):(incs s).length=s.Incomes.length:= by simp[incs]
theorem C1x {s:PaShow} {i:Nat} (hi:i<s.Incomes.length):(incs s)[i]! = (s.Incomes[i]!.Pence,s.Incomes[i]!.Day):= by
 rw[getElem!_pos (incs s) i (by rw[R7];exact hi),getElem!_pos s.Incomes i hi]
 simp[incs]
theorem C55 (l:List (Int×Int)) (d:Int) (t:Int) (i:Nat):(l.take i).foldl (fun a (x:Int×Int)=>a+if x.2≤d then x.1 else 0) t=t+O4 (l.take i) d:=A27 _ _ _
theorem B3k {s:PaShow} (hs:ShOk s) {p:List PaUse} (h:PlU s p) (d:Int):-300000≤I1 s p d∧I1 s p d≤310000:= by
 have h1:=A21 (fun x hx=>(Y5 hs x hx).1) d
 have h2:=A21 (fun x hx=>(V2 hs h x hx).1) d
 rw[R7]at h1
 rw[L3 h]at h2
 have:=hs.incomes
 have:=hs.figures
 have:=h.len
 have:=hs.purse
 unfold I1
 omega
theorem D3q {s:PaShow} (hs:ShOk s) (days:List Int) {p:List PaUse} (h:PlU s p) (d:Int):T4 (shw s days) p d=some (I1 s p d):= by
 have hin:=hs.incomes
 have hfl:=hs.figures
 have hlen:=h.len
 have hpu:=hs.purse
 have hb1:∀i,0≤O4 ((incs s).take i) d∧O4 ((incs s).take i) d≤300000:=fun i=>by
  have:=A21 (l:=(incs s).take i) (fun x hx=>(Y5 hs x (ZZ hx)).1) d
  rw[ZD,R7]at this
  omega
 have hb2:∀i,0≤O4 ((pays s p).take i) d∧O4 ((pays s p).take i) d≤300000:=fun i=>by
  have:=A21 (l:=(pays s p).take i) (fun x hx=>(V2 hs h x (ZZ hx)).1) d
  rw[ZD,L3 h]at this
  omega
 unfold T4
 rw[show (shw s days).PaShow=s from Z]
 have e1:loop (U2 (shw s days) d) (s.Purse,0)=some (s.Purse+O4 (incs s) d):= by
  refine X9 (incs s) (fun a (x:Int×Int)=>a+if x.2≤d then x.1 else 0) s.Purse (fun i t=>(t,(i:Int))) (by rw[R7];omega) (fun i hi=>?_) ?_
  ·rw[R7]at hi
   have hx:=(Y5 hs _ (J1 (l:=incs s) (i:=i) (by rw[R7];exact hi))).1
   rw[C1x hi]at hx ⊢
   rw[C55]
   have:=hb1 i
   unfold U2
   rw[show (shw s days).PaShow=s from Z,if_pos (by simpa using hi),G9 hi]
   simp only[Zd]
   rw[D6 (n:=(i:Int)+1) (by omega)]
   by_cases hd:s.Incomes[i]!.Day≤d
   ·rw[if_pos (decide_eq_true hd),if_pos hd,D6 (by omega)];rfl
   ·rw[if_neg (by simpa using hd),if_neg hd,Int.add_zero];rfl
  ·rw[A27,R7]
   unfold U2
   rw[show (shw s days).PaShow=s from Z,if_neg (by simp)]
   rfl
 rw[e1]
 simp only[Zd]
 have hI:=hb1 (incs s).length
 rw[Z0n]at hI
 have e2:loop (U3 (shw s days) p d) (s.Purse+O4 (incs s) d,0)=some (I1 s p d):= by
  refine X9 (pays s p) (fun a (x:Int×Int)=>a-if x.2≤d then x.1 else 0) (s.Purse+O4 (incs s) d) (fun i t=>(t,(i:Int))) (by rw[L3 h];omega) (fun i hi=>?_) ?_
  ·rw[L3 h]at hi
   have hx:=(V2 hs h _ (J1 (l:=pays s p) (i:=i) (by rw[L3 h];exact hi))).1
   have hsub:∀(l:List (Int×Int)) (t:Int),l.foldl (fun a (x:Int×Int)=>a-if x.2≤d then x.1 else 0) t=t-O4 l d:= by
    intro l
    induction l with
    | nil=>intro t;simp[O4,sm]
    | cons x l ih=>intro t;rw[Z09,ih];simp only[O4,Zt,sm];omega
   rw[hsub,A42 h hi]at *
   have:=hb2 i
   unfold U3
   simp only[]
   rw[if_pos (by simpa using hi),G9 hi]
   simp only[Zd]
   rw[C7j hs days (f:=(i:Int)) (by omega) (by rw[ZG];exact h.use i hi),ZG]
   simp only[Zd]
   rw[D6 (n:=(i:Int)+1) (by omega)]
   generalize A1v s.Gowns s.Figures[i]! p[i]! = z at hx
   by_cases hd:z.2≤d
   ·rw[if_pos (decide_eq_true hd),if_pos hd,D6 (by omega)];rfl
   ·rw[if_neg (by simpa using hd),if_neg hd,Int.sub_zero];rfl
  ·unfold U3
   simp only[]
   rw[L3 h,if_neg (by simp)]
   have hsub:∀(l:List (Int×Int)) (t:Int),l.foldl (fun a (x:Int×Int)=>a-if x.2≤d then x.1 else 0) t=t-O4 l d:= by
    intro l
    induction l with
    | nil=>intro t;simp[O4,sm]
    | cons x l ih=>intro t;rw[Z09,ih];simp only[O4,Zt,sm];omega
   rw[hsub];rfl
 rw[e2];rfl
end Pw
end
section
set_option maxRecDepth 100000
set_option maxHeartbeats 0
namespace Pw
open Go Am Go.Proofs.YtjpjdglddmhplaaGreat.Cd
def A50 (t:PaShow) (days:List Int) (plan:List PaUse) (i:Int):Option (Int⊕(Int⊕Unit)) :=
 if (decide (i<(Zh plan:Int)))=true then
  (idx plan i).bind fun u=>(Z9 (shw t days) i u).bind fun e =>
  (if (e != 4)=true then (A5z plan i).bind fun z=>some z else some false).bind fun g =>
  (if g=true then some 5 else some e).bind fun e' =>
  if (e' != 0)=true then some (.inr (.inl e')) else some (.inl (w64 (i+1)))
 else some (.inr (.inr ()))
def A43 (t:PaShow) (plan:List PaUse):Option (Int×List Int) :=
 (A32 t).bind fun x =>
 if (x.1==0)=true then
  if ((Zh plan:Int) != (Zh t.Figures:Int))=true then some (3,[])
  else (loop (A50 t x.2 plan) 0).bind fun o=>match o with
   | .inl e=>some (e,[])
   | .inr _=>some (0,x.2)
 else some (x.1,[])
def plB (t:PaShow) (X:AO) (days:List Int):List AO:=[.cells (A9 t),.cells (A9 t),X,.cells (A5f t days)]
def PlQ (H:A2) (t:PaShow) (X:AO) (x:Int×List Int) (e:Ex) (s:C2) (H1:A2):Prop :=
 e=.ret∧sget s 5=some (.i x.1)∧(((x.1 != 0)=true∧sget s 4=some (.lit (.pointer none))∧∃ L,H1=H++L)∨(x.1=0∧sget s 4=some (.ptr (H.length+3) 0)∧H1=H++plB t X x.2))
theorem B6i {c:Sc} {H:A2} {t:PaShow} {plan:List PaUse} {x y:Int×List Int} {X:AO} (hX:New tab (.fn (.func 51) [] []) [.agg (A9 t)] 2 [.cells (A9 t),X,.cells (A5f t y.2)])
  (h:(if ((Zh plan:Int) != (Zh t.Figures:Int))=true then some (3,[])
  else (loop (A50 t y.2 plan) 0).bind fun o=>match o with
   | .inl e=>some (e,[])
   | .inr _=>some (0,y.2))=some x) :
  WP tab c62 [(0,.agg (A9 t)),(1,.seq 3 (plan.map A6))] (H++[]) ⟨H.length,c.cur::c.outer⟩ (PlQ H t X x):= by
 refine sg 0 Z<|A0 (G1 (cs:=A9 t) Z Z Z) Z<|qm Z<|qm Z<|es (ra2 Z Z)<|s0<|A0 (C9 Z Z Z) Z<|O7 (A6e hX Z Z (A1 (D0 Z) B3) Z) Z<|qm Z<|A0 (A7 Z Z) Z<|A0 (A7 Z Z) Z<|qm Z<|qm Z<|es (ra4 Z Z Z Z)<|B9<|C5<|s0<|qm Z<|A0 (H9 Z Z) Z<|qm Z<|es (ra5 Z Z Z Z Z)<|T0 Z Z<|s0<|qm Z<|A0 (F2 (f:=A6) Z) Z<|A0 (C3 Z) Z<|A0 (B4 Z Z Z) Z<|A0 (F2 (f:=B7) Z) Z<|A0 (H9 Z Z) Z<|qm Z<|es (ra3 Z Z Z)<|wi h Z (fun hc h=>?_) fun hc h=>?_
 ·refine s0<|qm Z<|qm Z<|es (ra2 Z Z)<|C6 ?_
  obtain rfl:=os h
  exact⟨Z,Z,.inl ⟨Z,Z,_,Z⟩⟩
 ·refine oB h fun o ho h=>?_
  have hsl:SlV H (.seq 3 (plan.map A6)) plan:=.seq plan
  refine B8<|B9<|s0<|qm Z<|A0 (F2 (f:=A6) Z) Z<|qm Z<|es (ra5 Z Z Z Z Z)<|C5<|wl (fun i=>[(1,.seq 3 (plan.map A6)),(6,.ptr (H.length+3) 0),(26,.seq 3 (plan.map A6)),(27,.i plan.length),(28,.i i)]) (fun (_:Unit) _=>plB t X y.2) 4 (fun r e s' H'=>match r with|.inl v=>e=.ret∧s'=[(4,.lit (.pointer none)),(5,.i v)]∧(v != 0)=true∧∃ L,H'=H++L|.inr _=>PX 1 [(6,.ptr (H.length+3) 0)] (H++plB t X y.2) e s' H') () ho Z Z (fun _ _=>rfl) (fun _=>rfl) Z (fun _=>bdc G6 (bdc (J7 Z) (bdc G6 (bdc A4 (bdc A4 bdn))))) (fun _ i o hs=>?_) ?_
  ·unfold A50 at hs
   refine s0<|A0 (I3 Z Z) Z<|es (ra6 Z Z Z Z Z Z)<|B9<|wi hs Z (fun hc hs=>?_) fun hc hs=>?_
   ·refine oB hs fun u hu hs=>oB hs fun e he hs=>oB hs fun g hg hs=>oB hs fun e' he' hs=>?_
    refine B8<|B9<|C5<|sg 4 Z<|qm Z<|A0 (D4 (f:=A6) Z Z hu) Z<|A0 (I0 Z Z) Z<|A0 J6 Z<|qm Z<|O6 (G0 (ds:=A6 u) Z Z Z Z (E0 Z) Z) Z<|es (ra7 Z Z Z Z Z Z Z)<|s0<|qm Z<|qm Z<|A0 (C9 Z Z Z) Z<|B2 (rs:=[.i e]) Z Z (A1 Z (A1 Z (A1 (D0 Z) B3))) ((A5s (a0:=shw t y.2) (F7 Z) he).frz)<|qm Z<|es (ra7 Z Z Z Z Z Z Z)<|B9<|s0<|qm Z<|A0 (H9 Z Z) Z<|qm Z<|gp 4 43 (.b g) 39 Z Z (fun hb=>?_) (fun hb=>?_) ?_
    ·refine oB (bt hg hb) fun z hz hg=>?_
     obtain rfl:=os hg
     exact gT Z hb<|qm Z<|gT Z hb<|qm Z<|gT Z hb<|O7 (Z7 (rs:=[.b z]) Z Z ((B2o hsl.app (fun _ _ _ _ hh=>by cases hh) rfl hz).frz)) rfl<|A0 (C1 rfl hb rfl) rfl<|ge 4 rfl rfl rfl
    ·obtain rfl:=os (bf hg hb)
     exact nT Z hb Z<|nT Z hb Z<|G4 (D2 Z (by rw[hb];rfl)) Z<|A0 (C0 Z hb Z) Z<|ge 4 Z Z Z
    ·refine es (ra7 Z Z Z Z Z Z Z) ?_
     have fin:∀{e'':Int},e''=e'→WP tab (.s 0 [M 0 44 7,B 1 45 .neq 44 (.i 0)] [1,6,7,26,27,28,45] (.cond 45 (.s 0 [M 0 46 7,M 1 4 (.c (.lit (.pointer none))),M 2 5 46] [4,5] .ret) .skip)) [(1,.seq 3 (plan.map A6)),(6,.ptr (H.length+3) 0),(7,.i e''),(26,.seq 3 (plan.map A6)),(27,.i plan.length),(28,.i i)] (H++(plB t X y.2++[.cells (A6 u)])) ⟨H.length+4,H.length::c.cur::c.outer⟩ (C0u 2 (D01 tab (.g 0 [B 0 47 .add 28 (.i 1),M 1 28 47] [1,6,26,27,28]) ⟨H.length+4,H.length::c.cur::c.outer⟩ (D2s true (fun i=>[(1,.seq 3 (plan.map A6)),(6,.ptr (H.length+3) 0),(26,.seq 3 (plan.map A6)),(27,.i plan.length),(28,.i i)]) (fun (_:Unit) _=>H++plB t X y.2) (H.length+4) (fun r e s' H'=>match r with|.inl v=>e=.ret∧s'=[(4,.lit (.pointer none)),(5,.i v)]∧(v != 0)=true∧∃ L,H'=H++L|.inr _=>PX 1 [(6,.ptr (H.length+3) 0)] (H++plB t X y.2) e s' H') o))):=fun {e''} hee=>by
      subst hee
      refine s0<|qm Z<|A0 (H9 Z Z) Z<|es (ra7 Z Z Z Z Z Z Z)<|wi hs Z (fun hc2 hs=>?_) fun hc2 hs=>?_
      ·refine s0<|qm Z<|qm Z<|qm Z<|es (ra2 Z Z)<|C6 ?_
       obtain rfl:=os hs
       exact lx Z ⟨Z,Z,hc2,_,Z⟩ (su2 Z Z)
      ·refine B8<|r0<|A0 (D8 Z Z) Z<|qm Z<|en (ra5 Z Z Z Z Z) ?_
       cases hs
       exact lnT () Z (su5 Z Z Z Z Z)
     cases g with
     | true =>
      obtain rfl:=os he'
      exact Q5 Z Z<|r0<|qm Z<|en (ra6 Z Z Z Z Z Z) (fin Z)
     | false =>
      obtain rfl:=os he'
      exact T0 Z Z<|B8<|D6d (su6 Z Z Z Z Z Z) (fin Z)
   ·refine G5 ?_
    obtain rfl:=os hs
    exact lx Z px (su1 Z)
  ·rcases o with v|v
   ·rintro e s' H'-⟨rfl,rfl,hv,L,rfl⟩
    obtain rfl:=os h
    exact⟨Z,Z,.inl ⟨hv,Z,L,Z⟩⟩
   ·rintro e s' H'-⟨rfl,rfl,rfl⟩
    obtain rfl:=os h
    refine s0<|qm Z<|qm Z<|qm Z<|es (ra2 Z Z)<|C6 ?_
    exact⟨Z,Z,.inr ⟨Z,Z,Z⟩⟩
theorem B2r {t:PaShow} {plan:List PaUse} {x:Int×List Int} (h:A43 t plan=some x) (hx:(x.1==0)=true):∃X,New tab (.fn (.func 62) [] []) [.agg (A9 t),.seq 3 (plan.map A6)] 3 [.cells (A9 t),.cells (A9 t),X,.cells (A5f t x.2)]:= by
 unfold A43 at h
 refine oB h fun y hy h=>?_
 split at h
 ·next hc =>
  obtain⟨X,hX⟩:=A4g hy hc
  refine⟨X,fun c H N hN=>?_⟩
  subst hN
  refine C8d (aq:=[.agg (A9 t),.seq 3 (plan.map A6)]) Z Z Z (Z3 (A22 (B6i hX h) ?_))
  rintro e s' H' ⟨rfl,h5,⟨h6,_⟩|⟨h6,h4,rfl⟩⟩
  ·rw[show x.1=0 by simpa using hx]at h6;cases h6
  ·rw[h6]at h5
   refine⟨trivial,_,A8 h4 (A8 h5 B6),A5 Z (A5 Z B5),Y3 ?_⟩
   exact A8r (N:=H.length) (B:=0) (j:=3) (o:=0) Z
 ·next hc=>cases h;exact absurd hx hc
theorem B2q {c:Sc} {H:A2} {t:PaShow} {plan:List PaUse} {x:Int×List Int} (h:A43 t plan=some x) (hx:(x.1==0)=false) :
  L5 tab c H (.fn (.func 62) [] []) [.agg (A9 t),.seq 3 (plan.map A6)] [.lit (.pointer none),.i x.1] H:= by
 unfold A43 at h
 refine oB h fun y hy h=>?_
 split at h
 ·next hc =>
  obtain⟨X,hX⟩:=A4g hy hc
  refine A1x (aq:=[.agg (A9 t),.seq 3 (plan.map A6)]) Z Z Z (Z3 (A22 (B6i hX h) ?_))
  rintro e s' H' ⟨rfl,h5,⟨h6,h4,L,rfl⟩|⟨h6,_⟩⟩
  ·exact⟨trivial,_,_,A8 h4 (A8 h5 B6),A5 Z (A5 Z B5),A3 A4 (A3 A4 B1),Z07⟩
  ·rw[h6]at hx;cases hx
 ·next hc =>
  obtain rfl:=os h
  refine A1x (aq:=[.agg (A9 t),.seq 3 (plan.map A6)]) Z Z Z (Z3 ?_)
  refine sg 0 Z<|A0 (G1 (cs:=A9 t) Z Z Z) Z<|qm Z<|qm Z<|es (ra2 Z Z)<|s0<|A0 (C9 Z Z Z) Z<|O7 (U1 (rs:=[.lit (.pointer none),.i y.1]) Z Z (A1 (D0 Z) B3) (A5i hy (by simpa using hc)) Z) Z<|qm Z<|A0 (A7 Z Z) Z<|A0 (A7 Z Z) Z<|qm Z<|qm Z<|es (ra4 Z Z Z Z)<|B9<|C5<|s0<|qm Z<|A0 (H9 Z Z) Z<|qm Z<|es (ra5 Z Z Z Z Z)<|Q5 Z (nef hc)<|s0<|qm Z<|qm Z<|qm Z<|es (ra2 Z Z)<|C6 ?_
  exact⟨trivial,_,_,A8 Z (A8 Z B6),A5 Z (A5 Z B5),A3 A4 (A3 A4 B1),Z07⟩
end Pw
end
section
namespace Pw
open Go Am
theorem C6n (l:List PaUse) (g:PaUse→Option Bool) (p:PaUse→Bool) (hl:l.length<9223372036854775808) (hg:∀x∈l,g x=some (p x)):G8 l g=some (l.any p) :=
 A62 l g p (b:=K6 l g) hl hg (fun _=>rfl) Z
def twP (p:List PaUse) (i:Nat):Bool:=(p[i]!.Gown != -1)&&(p.take i).any fun x=>x.Gown==p[i]!.Gown
theorem D0q {p:List PaUse} {i:Nat} (hi:i<p.length) (hl:p.length≤100):A5z p (i:Int)=some (twP p i):= by
 unfold A5z twP
 rw[G9 hi]
 simp only[Zd]
 cases hg:p[i]!.Gown != -1
 ·rfl
 ·rw[if_pos Z,B6z (Z46 hi)]
  simp only[Zd]
  rw[C6n _ _ (fun x=>x.Gown==p[i]!.Gown) (by rw[ZD];omega) (fun x _=>by unfold A0z;rw[G9 hi];rfl)]
  rfl
structure PlOk (s:PaShow) (p:List PaUse):Prop where
 u:PlU s p
 tw:∀i,i<p.length→twP p i=false
theorem D4f (F:Int→Int):∀(l:List (Int×Int)) (t:Int×Int),∀ r,r=l.foldl (fun (a:Int×Int) (x:Int×Int)=>if F x.2<0 then (C68 a.1 (0-F x.2),A5b a.2 x.2) else a) t →
  t.1≤r.1∧(∀ x∈l,F x.2<0→-F x.2≤r.1)∧(r.1=t.1∨∃ x∈l,F x.2<0∧-F x.2=r.1)∧r.2≤t.2∧(∀ x∈l,F x.2<0→r.2≤x.2)∧(r.2=t.2∨∃ x∈l,F x.2<0∧x.2=r.2)
 | [],t,r,h=>by subst h;exact⟨Z02 _,by simp,.inl Z,Z02 _,by simp,.inl Z⟩
 | x::l,t,r,h=>by
  rw[Z09]at h
  obtain⟨h1,h2,h3,h4,h5,h6⟩:=D4f F l _ r h
  by_cases hx:F x.2<0
  ·rw[if_pos hx]at h1 h3 h4 h6
   simp only at h1 h3 h4 h6
   have m1:t.1≤C68 t.1 (0-F x.2)∧-F x.2≤C68 t.1 (0-F x.2)∧(C68 t.1 (0-F x.2)=t.1∨C68 t.1 (0-F x.2) = -F x.2):= by unfold C68;split <;> omega
   have m2:A5b t.2 x.2≤t.2∧A5b t.2 x.2≤x.2∧(A5b t.2 x.2=t.2∨A5b t.2 x.2=x.2):= by unfold A5b;split <;> omega
   refine⟨by omega,?_,?_,by omega,?_,?_⟩
   ·intro y hy hf
    rcases Zu.mp hy with rfl|hy
    ·omega
    ·exact h2 y hy hf
   ·rcases h3 with h3|⟨y,hy,hf,e⟩
    ·rcases m1.2.2 with e|e
     ·left;omega
     ·exact .inr ⟨x,Zy ..,hx,by omega⟩
    ·exact .inr ⟨y,Zx _ hy,hf,e⟩
   ·intro y hy hf
    rcases Zu.mp hy with rfl|hy
    ·omega
    ·exact h5 y hy hf
   ·rcases h6 with h6|⟨y,hy,hf,e⟩
    ·rcases m2.2.2 with e|e
     ·left;omega
     ·exact .inr ⟨x,Zy ..,hx,by omega⟩
    ·exact .inr ⟨y,Zx _ hy,hf,e⟩
  ·rw[if_neg hx]at h1 h3 h4 h6
   refine⟨h1,?_,?_,h4,?_,?_⟩
   ·intro y hy hf
    rcases Zu.mp hy with rfl|hy
    ·exact absurd hf hx
    ·exact h2 y hy hf
   ·rcases h3 with h3|⟨y,hy,hf,e⟩
    ·exact .inl h3
    ·exact .inr ⟨y,Zx _ hy,hf,e⟩
   ·intro y hy hf
    rcases Zu.mp hy with rfl|hy
    ·exact absurd hf hx
    ·exact h5 y hy hf
   ·rcases h6 with h6|⟨y,hy,hf,e⟩
    ·exact .inl h6
    ·exact .inr ⟨y,Zx _ hy,hf,e⟩
def I2 (s:PaShow) (p:List PaUse):Int×Int:=(pays s p).foldl (fun (a:Int×Int) (x:Int×Int)=>if I1 s p x.2<0 then (C68 a.1 (0-I1 s p x.2),A5b a.2 x.2) else a) (0,365)
theorem D0i {s:PaShow} (hs:ShOk s) (days:List Int) {p:List PaUse} (h:PlU s p):R2 (shw s days) p=some (I2 s p):= by
 have hfl:=hs.figures
 have hlen:=h.len
 unfold R2
 have e1:loop (S4 (shw s days) p) (0,365,0)=some (I2 s p):= by
  refine X9 (pays s p) (fun (a:Int×Int) (x:Int×Int)=>if I1 s p x.2<0 then (C68 a.1 (0-I1 s p x.2),A5b a.2 x.2) else a) (0,365) (fun i t=>(t.1,t.2,(i:Int))) (by rw[L3 h];omega) (fun i hi=>?_) ?_
  ·rw[L3 h]at hi
   rw[A42 h hi]
   unfold S4
   simp only[]
   rw[if_pos (by simpa using hi),G9 hi]
   simp only[Zd]
   rw[C7j hs days (f:=(i:Int)) (by omega) (by rw[ZG];exact h.use i hi),ZG]
   simp only[Zd]
   rw[D3q hs days h]
   simp only[Zd]
   have:=B3k hs h (A1v s.Gowns s.Figures[i]! p[i]!).2
   rw[D6 (n:=(i:Int)+1) (by omega),D6 (by omega)]
   by_cases hd:I1 s p (A1v s.Gowns s.Figures[i]! p[i]!).2<0
   ·rw[if_pos (decide_eq_true hd),if_pos hd];rfl
   ·rw[if_neg (by simpa using hd),if_neg hd];rfl
  ·rw[L3 h]
   unfold S4
   simp only[]
   rw[if_neg (by simp)]
   rfl
 rw[e1];rfl
theorem A4c (s:PaShow) (p:List PaUse):0≤(I2 s p).1∧(∀ x∈pays s p,I1 s p x.2<0→-I1 s p x.2≤(I2 s p).1)∧((I2 s p).1=0∨∃ x∈pays s p,I1 s p x.2<0∧-I1 s p x.2=(I2 s p).1)∧(I2 s p).2≤365∧(∀ x∈pays s p,I1 s p x.2<0→(I2 s p).2≤x.2)∧((I2 s p).2=365∨∃ x∈pays s p,I1 s p x.2<0∧x.2=(I2 s p).2) :=
 D4f (I1 s p) (pays s p) (0,365) _ Z
end Pw
end
section
set_option maxRecDepth 100000
set_option maxHeartbeats 0
namespace Pw
open Go Am Go.Proofs.YtjpjdglddmhplaaGreat.Cd
def B2t (a0:PaGown) (a1:PaFigure) (s1:Int):Option (Int⊕(Bool⊕Unit)) :=
 if (decide (s1≤15))=true then
  (C39 a1.Needs s1).bind fun x4 =>
  (if ((Z5g x4 2)==1)=true then
  (C39 a0.Looks s1).bind fun x6 =>
  some ((Z5g x6 2)==0)
  else
  some false).bind fun x7 =>
  if x7=true then
  some (.inr (.inl false))
  else
  some (.inl (w64 (2*s1)))
 else
  some (.inr (.inr ()))
def A6p (a0:PaGown) (a1:PaFigure):Option Bool :=
 (loop (B2t a0 a1) 1).bind fun (o9:(Bool⊕Unit)) =>
 match o9 with
 | (.inl vo9_0) =>
  some vo9_0
 | (.inr vo9_1) =>
  some true
theorem C2j {c:Sc} {H:A2} {a0:PaGown} {a1:PaFigure} {r:Bool} (h:A6p a0 a1=some r) :
  F0 tab c H (.fn (.func 101) [] []) [(.agg (C7 a0)),(.agg (B7 a1))] [.b r]:= by
 unfold A6p at h
 refine cE Z Z<|sg 0 Z<|A0 (G1 (cs:=C7 a0) Z Z Z) Z<|A0 (G1 (cs:=B7 a1) Z Z Z) Z<|qm Z<|es (ra2 Z Z)<|B9<|s0<|qm Z<|es (ra3 Z Z Z)<|C5<|oB h fun o9 ho9 h=>wl (fun s1=>[(2,(.ptr (H.length+0) 0)),(3,(.ptr (H.length+1) 0)),(5,.i s1)]) (fun (q2:Unit) s1=>[(.cells (C7 a0)),(.cells (B7 a1))]) 2 (fun r e s' H'=>(match r with|(.inl v)=>e=.ret∧RetQ H [.tmp 4] [.b v] e s' H' | (.inr v)=>PX 0 [] (H++[(.cells (C7 a0)),(.cells (B7 a1))]) e s' H':Prop)) () ho9 Z Z (fun _ _=>rfl) (fun _=>rfl) Z (fun s1=>(bdc (J7 Z) (bdc (J7 Z) (bdc A4 bdn)))) (fun q2 s1 ys1 hs1=>?_) ?_
 ·unfold B2t at hs1
  refine B9<|s0<|qm Z<|A0 (A4p Z Z) Z<|es (ra4 Z Z Z Z)<|wi hs1 Z (fun hc3 hs1=>?_) fun hc3 hs1=>?_
  ·refine B8<|B9<|C5<|s0<|oB hs1 fun x4 hx4 hs1=>oB hs1 fun x7 hx7 hs1=>A0 (C3 Z) Z<|A0 (B4 Z Z Z) Z<|qm Z<|A0 (C9h Z Z hx4) Z<|A0 (R8 (v:=(.i (Z5g x4 2))) Z Z Z) Z<|A0 (F9 Z Z) Z<|qm Z<|gp 7 23 (.b x7) 16 Z Z (fun hg5=>?_) (fun hg5=>?_) ?_
   ·refine oB (bt hx7 hg5) fun x6 hx6 hx7=>?_
    obtain rfl:=os hx7
    exact gT Z hg5<|A0 (C3 Z) Z<|gT Z hg5<|A0 (B4 Z Z Z) Z<|gT Z hg5<|qm Z<|gT Z hg5<|A0 (C9h Z Z hx6) Z<|gT Z hg5<|A0 (R8 (v:=(.i (Z5g x6 2))) Z Z Z) Z<|gT Z hg5<|A0 (F9 Z Z) Z<|A0 (C1 Z hg5 Z) Z<|ge 7 Z Z Z
   ·obtain rfl:=os (bf hx7 hg5)
    exact nT Z hg5 Z<|nT Z hg5 Z<|nT Z hg5 Z<|nT Z hg5 Z<|nT Z hg5 Z<|nT Z hg5 Z<|A0 (C0 Z hg5 Z) Z<|ge 7 Z Z Z
   refine es (ra4 Z Z Z Z)<|wi hs1 Z (fun hc8 hs1=>?_) fun hc8 hs1=>?_
   ·refine s0<|qm Z<|es (ra1 Z)<|C6 ?_
    obtain rfl:=os hs1
    exact lx Z (ZE Z (retq trivial (A8 Z B6) (A5 Z B5) (A3 A4 B1))) (Sub.refl _)
   ·refine B8<|r0<|qm Z<|A0 (B33 Z Z) Z<|qm Z<|en (ra3 Z Z Z) ?_
    cases hs1
    exact lnT () Z (su3 Z Z Z)
  ·refine G5 ?_
   obtain rfl:=os hs1
   exact lx Z px (.nil _)
 ·rcases o9 with vo9_0|vo9_1
  ·rintro e s' H'-⟨rfl,hret⟩
   cases h
   exact hret
  ·rintro e s' H'-⟨rfl,rfl,rfl⟩
   refine s0<|qm Z<|es (ra1 Z)<|C6 ?_
   obtain rfl:=os h
   exact retq trivial (A8 Z B6) (A5 Z B5) (A3 A4 B1)
def A8b (a0:PaGown) (a1:PaUse):Option Bool :=
 if (!a0.Pawn)=true then
  some ((a1.How==0)&&(a1.Day==0))
 else
  (if ((a1.How==2)&&(a1.Day==0))=true then
  some true
  else
  (if (a1.How==1)=true then
   (N7 a1.Day 0 364).bind fun x6 =>
   some x6
  else
   some false).bind fun x7 =>
  some x7).bind fun x8 =>
  some x8
theorem C34 {c:Sc} {H:A2} {a0:PaGown} {a1:PaUse} {r:Bool} (h:A8b a0 a1=some r) :
  F0 tab c H (.fn (.func 100) [] []) [(.agg (C7 a0)),(.agg (A6 a1))] [.b r]:= by
 unfold A8b at h
 refine cE Z Z<|sg 0 Z<|A0 (G1 (cs:=C7 a0) Z Z Z) Z<|A0 (G1 (cs:=A6 a1) Z Z Z) Z<|qm Z<|es (ra2 Z Z)<|B9<|s0<|A0 (C3 Z) Z<|A0 (B4 Z Z Z) Z<|A0 (M9 Z) Z<|es (ra2 Z Z)<|wi h Z (fun hc1 h=>?_) fun hc1 h=>?_
 ·refine s0<|A0 (C3 Z) Z<|A0 (B4 Z Z Z) Z<|A0 (F9 Z Z) Z<|qm Z<|gp 4 15 (.b ((a1.How==0)&&(a1.Day==0))) 11 Z Z (fun hg2=>?_) (fun hg2=>?_) ?_
  ·exact gT Z hg2<|A0 (C3 Z) Z<|gT Z hg2<|A0 (B4 Z Z Z) Z<|gT Z hg2<|A0 (F9 Z Z) Z<|A0 (C1 Z hg2 Z) Z<|ge 4 (by rw[hg2];rfl) Z Z
  ·exact nT Z hg2 Z<|nT Z hg2 Z<|nT Z hg2 Z<|A0 (C0 Z hg2 Z) Z<|ge 4 (by rw[hg2];rfl) Z Z
  refine qm Z<|es (ra1 Z)<|C6 ?_
  obtain rfl:=os h
  exact retq trivial (A8 Z B6) (A5 Z B5) (A3 A4 B1)
 ·refine B8<|s0<|oB h fun x8 hx8 h=>A0 (C3 Z) Z<|A0 (B4 Z Z Z) Z<|A0 (F9 Z Z) Z<|qm Z<|gp 4 23 (.b ((a1.How==2)&&(a1.Day==0))) 19 Z Z (fun hg3=>?_) (fun hg3=>?_) ?_
  ·exact gT Z hg3<|A0 (C3 Z) Z<|gT Z hg3<|A0 (B4 Z Z Z) Z<|gT Z hg3<|A0 (F9 Z Z) Z<|A0 (C1 Z hg3 Z) Z<|ge 4 (by rw[hg3];rfl) Z Z
  ·exact nT Z hg3 Z<|nT Z hg3 Z<|nT Z hg3 Z<|A0 (C0 Z hg3 Z) Z<|ge 4 (by rw[hg3];rfl) Z Z
  refine qm Z<|gp 9 33 (.b x8) 24 Z Z (fun hg4=>?_) (fun hg4=>?_) ?_
  ·obtain rfl:=os (bt hx8 hg4)
   exact nF Z hg4 Z<|nF Z hg4 Z<|nF Z hg4 Z<|nF Z hg4 Z<|nX Z Z<|nX Z Z<|G4 (A4d Z) Z<|nF Z hg4 Z<|A0 (C1 Z hg4 Z) Z<|ge 9 Z Z Z
  ·refine oB (bf hx8 hg4) fun x7 hx7 hx8=>?_
   obtain rfl:=os hx8
   refine gF Z hg4<|A0 (C3 Z) Z<|gF Z hg4<|A0 (B4 Z Z Z) Z<|gF Z hg4<|A0 (F9 Z Z) Z<|gF Z hg4<|qm Z<|gq 4 32 (.b x7) 28 Z Z (fun hg5=>?_) (fun hg5=>?_) ?_
   ·refine oB (bt hx7 hg5) fun x6 hx6 hx7=>?_
    obtain rfl:=os hx7
    exact gT Z hg5<|A0 (C3 Z) Z<|gT Z hg5<|A0 (B4 Z Z Z) Z<|gT Z hg5<|B2 (rs:=[.b x6]) Z Z (A1 Z (A1 Z (A1 Z B3))) ((L2 hx6).frz)<|gF Z hg4<|A0 (C1 Z hg5 Z) Z<|ge 4 Z Z Z
   ·obtain rfl:=os (bf hx7 hg5)
    exact nT Z hg5 Z<|nT Z hg5 Z<|G4 (D2 Z (by rw[hg5];rfl)) Z<|gF Z hg4<|A0 (C0 Z hg5 Z) Z<|ge 4 Z Z Z
   exact A0 (C0 Z hg4 Z) Z<|ge 6 Z Z Z
  refine qm Z<|es (ra1 Z)<|C6 ?_
  obtain rfl:=os h
  exact retq trivial (A8 Z B6) (A5 Z B5) (A3 A4 B1)
def A2v (a0:PaShow) (a1:Int) (a2:PaUse):Option Int :=
 if (a2.Gown==(-1))=true then
  if ((a2.How != 0)||(a2.Day != 0))=true then
  some 2
  else
  some 0
 else
  (N7 a2.Gown 0 (w64 ((Zh a0.Gowns:Int)-1))).bind fun x4 =>
  if (!x4)=true then
  some 4
  else
  (idx a0.Gowns a2.Gown).bind fun x6 =>
  (idx a0.Figures a1).bind fun x7 =>
  (A8b x6 a2).bind fun x8 =>
  if (!x8)=true then
   some 2
  else
   (if (((a2.How==1)&&((decide (a2.Day>x6.Last))||(decide (a2.Day>x7.Day))))||((a2.How==2)&&(decide (x7.Until>x6.Last))))=true then
   some true
   else
   (A6p x6 x7).bind fun x15 =>
   some (!x15)).bind fun x16 =>
   if x16=true then
   some 9
   else
   some 0
theorem A7a {c:Sc} {H:A2} {a0:PaShow} {a1:Int} {a2:PaUse} {r:Int} (h:A2v a0 a1 a2=some r) :
  F0 tab c H (.fn (.func 58) [] []) [(.agg (A9 a0)),.i a1,(.agg (A6 a2))] [.i r]:= by
 unfold A2v at h
 refine cE Z Z<|sg 0 Z<|A0 (G1 (cs:=A9 a0) Z Z Z) Z<|A0 (G1 (cs:=A6 a2) Z Z Z) Z<|qm Z<|es (ra3 Z Z Z)<|B9<|s0<|A0 (C3 Z) Z<|A0 (B4 Z Z Z) Z<|A0 (F9 Z Z) Z<|es (ra4 Z Z Z Z)<|wi h Z (fun hc1 h=>?_) fun hc1 h=>?_
 ·refine B9<|s0<|A0 (C3 Z) Z<|A0 (B4 Z Z Z) Z<|A0 (H9 Z Z) Z<|qm Z<|gp 4 20 (.b ((a2.How != 0)||(a2.Day != 0))) 16 Z Z (fun hg2=>?_) (fun hg2=>?_) ?_
  ·exact nF Z hg2 Z<|nF Z hg2 Z<|nF Z hg2 Z<|A0 (C1 Z hg2 Z) Z<|ge 4 (by rw[hg2];rfl) Z Z
  ·exact gF Z hg2<|A0 (C3 Z) Z<|gF Z hg2<|A0 (B4 Z Z Z) Z<|gF Z hg2<|A0 (H9 Z Z) Z<|A0 (C0 Z hg2 Z) Z<|ge 4 (by rw[hg2];rfl) Z Z
  refine es (ra1 Z)<|wi h Z (fun hc3 h=>?_) fun hc3 h=>?_
  ·refine s0<|qm Z<|es (ra1 Z)<|C6 ?_
   obtain rfl:=os h
   exact retq trivial (A8 Z B6) (A5 Z B5) (A3 A4 B1)
  ·refine B8<|s0<|qm Z<|es (ra1 Z)<|C6 ?_
   obtain rfl:=os h
   exact retq trivial (A8 Z B6) (A5 Z B5) (A3 A4 B1)
 ·refine B8<|B9<|s0<|oB h fun x4 hx4 h=>A0 (C3 Z) Z<|A0 (B4 Z Z Z) Z<|A0 (C3 Z) Z<|A0 (B4 Z Z Z) Z<|A0 (F2 (f:=C7) Z) Z<|A0 (W1 Z Z) Z<|B2 (rs:=[.b x4]) Z Z (A1 Z (A1 Z (A1 Z B3))) ((L2 hx4).frz)<|A0 (M9 Z) Z<|es (ra4 Z Z Z Z)<|wi h Z (fun hc5 h=>?_) fun hc5 h=>?_
  ·refine s0<|qm Z<|es (ra1 Z)<|C6 ?_
   obtain rfl:=os h
   exact retq trivial (A8 Z B6) (A5 Z B5) (A3 A4 B1)
  ·refine B8<|sg 2 Z<|oB h fun x6 hx6 h=>oB h fun x7 hx7 h=>A0 (C3 Z) Z<|J3 [2,3] (O2 [2,3] rfl H7 Z Z) (seen0 Z) (B4 Z Z Z) Z<|A0 (C3 Z) Z<|J3 [2,3] (O2 [2,3] rfl H7 Z Z) (seen0 Z) (B4 Z Z Z) Z<|J3 [2,3] (O2 [2,3] rfl H7 Z Z) (seen0 Z) (D4 (f:=C7) Z Z hx6) Z<|J3 [2,3] (O2 [2,3] rfl H7 Z Z) (seen0 Z) (I0 Z Z) Z<|A0 J6 Z<|A0 J6 Z<|C0o [0] [(.cells (A9 a0)),(.cells (A6 a2)),(.cells (C7 x6)),(.cells (B7 (PaFigure.mk (ByteArray.mk #[]) 0 0 0)))] (O2 [] rfl (B3z Z B0w H7) Z Z) (seen0 Z) (G0 (ds:=(C7 x6)) Z Z Z Z (E0 Z) Z) Z Z Z<|A0 (C3 Z) Z<|J3 [2,3] (O2 [2,3] rfl H7 Z Z) (C0r (b:=H.length+0) Z (B3x (A63 _ Z) B6x)) (B4 Z Z Z) Z<|qm Z<|J3 [2,3] (O2 [2,3] rfl H7 Z Z) (A54 Z) (D4 (f:=B7) Z Z hx7) Z<|J3 [2,3] (O2 [2,3] rfl H7 Z Z) (A54 Z) (I0 Z Z) Z<|O6 (G0 (ds:=(B7 x7)) Z Z Z Z (E0 Z) Z) Z<|es (ra3 Z Z Z)<|B9<|s0<|oB h fun x8 hx8 h=>A0 (C9 Z Z Z) Z<|A0 (C9 Z Z Z) Z<|B2 (rs:=[.b x8]) Z Z (A1 (D0 Z) (A1 (D0 Z) B3)) ((C34 hx8).frz)<|A0 (M9 Z) Z<|es (ra4 Z Z Z Z)<|wi h Z (fun hc9 h=>?_) fun hc9 h=>?_
   ·refine s0<|qm Z<|es (ra1 Z)<|C6 ?_
    obtain rfl:=os h
    exact retq trivial (A8 Z B6) (A5 Z B5) (A3 A4 B1)
   ·refine B8<|s0<|A0 (C3 Z) Z<|A0 (B4 Z Z Z) Z<|A0 (F9 Z Z) Z<|qm Z<|gp 13 60 (.b ((a2.How==1)&&((decide (a2.Day>x6.Last))||(decide (a2.Day>x7.Day))))) 47 Z Z (fun hg10=>?_) (fun hg10=>?_) ?_
    ·refine gT Z hg10<|A0 (C3 Z) Z<|gT Z hg10<|A0 (B4 Z Z Z) Z<|gT Z hg10<|A0 (C3 Z) Z<|gT Z hg10<|A0 (B4 Z Z Z) Z<|gT Z hg10<|A0 (W0 Z Z) Z<|gT Z hg10<|qm Z<|gq 6 59 (.b ((decide (a2.Day>x6.Last))||(decide (a2.Day>x7.Day)))) 53 Z Z (fun hg11=>?_) (fun hg11=>?_) ?_
     ·exact nF Z hg11 Z<|nF Z hg11 Z<|nF Z hg11 Z<|nF Z hg11 Z<|nF Z hg11 Z<|gT Z hg10<|A0 (C1 Z hg11 Z) Z<|ge 6 (by rw[hg11];rfl) Z Z
     ·exact gF Z hg11<|A0 (C3 Z) Z<|gF Z hg11<|A0 (B4 Z Z Z) Z<|gF Z hg11<|A0 (C3 Z) Z<|gF Z hg11<|A0 (B4 Z Z Z) Z<|gF Z hg11<|A0 (W0 Z Z) Z<|gT Z hg10<|A0 (C0 Z hg11 Z) Z<|ge 6 (by rw[hg11];rfl) Z Z
     exact A0 (C1 Z hg10 Z) Z<|ge 8 (by rw[hg10];rfl) Z Z
    ·exact nT Z hg10 Z<|nT Z hg10 Z<|nT Z hg10 Z<|nT Z hg10 Z<|nT Z hg10 Z<|nT Z hg10 Z<|nX Z Z<|nX Z Z<|nX Z Z<|nX Z Z<|nX Z Z<|nT Z hg10 Z<|A0 (C0 Z hg10 Z) Z<|ge 13 (by rw[hg10];rfl) Z Z
    refine qm Z<|gp 11 72 (.b (((a2.How==1)&&((decide (a2.Day>x6.Last))||(decide (a2.Day>x7.Day))))||((a2.How==2)&&(decide (x7.Until>x6.Last))))) 61 Z Z (fun hg12=>?_) (fun hg12=>?_) ?_
    ·exact nF Z hg12 Z<|nF Z hg12 Z<|nF Z hg12 Z<|nF Z hg12 Z<|nX Z Z<|nX Z Z<|nX Z Z<|nX Z Z<|nX Z Z<|nF Z hg12 Z<|A0 (C1 Z hg12 Z) Z<|ge 11 (by rw[hg12];rfl) Z Z
    ·refine gF Z hg12<|A0 (C3 Z) Z<|gF Z hg12<|A0 (B4 Z Z Z) Z<|gF Z hg12<|A0 (F9 Z Z) Z<|gF Z hg12<|qm Z<|gq 6 71 (.b ((a2.How==2)&&(decide (x7.Until>x6.Last)))) 65 Z Z (fun hg13=>?_) (fun hg13=>?_) ?_
     ·exact gT Z hg13<|A0 (C3 Z) Z<|gT Z hg13<|A0 (B4 Z Z Z) Z<|gT Z hg13<|A0 (C3 Z) Z<|gT Z hg13<|A0 (B4 Z Z Z) Z<|gT Z hg13<|A0 (W0 Z Z) Z<|gF Z hg12<|A0 (C1 Z hg13 Z) Z<|ge 6 (by rw[hg13];rfl) Z Z
     ·exact nT Z hg13 Z<|nT Z hg13 Z<|nT Z hg13 Z<|nT Z hg13 Z<|nT Z hg13 Z<|gF Z hg12<|A0 (C0 Z hg13 Z) Z<|ge 6 (by rw[hg13];rfl) Z Z
     exact A0 (C0 Z hg12 Z) Z<|ge 6 (by rw[hg12];rfl) Z Z
    refine qm Z<|es (ra3 Z Z Z)<|B9<|s0<|oB h fun x16 hx16 h=>qm Z<|qm Z<|gp 5 79 (.b x16) 74 Z Z (fun hg14=>?_) (fun hg14=>?_) ?_
    ·obtain rfl:=os (bt hx16 hg14)
     exact nF Z hg14 Z<|nF Z hg14 Z<|G4 (D2 Z (by rw[hg14];rfl)) Z<|nF Z hg14 Z<|A0 (C1 Z hg14 Z) Z<|ge 5 Z Z Z
    ·refine oB (bf hx16 hg14) fun x15 hx15 hx16=>?_
     obtain rfl:=os hx16
     exact gF Z hg14<|A0 (C9 Z Z Z) Z<|gF Z hg14<|A0 (C9 Z Z Z) Z<|gF Z hg14<|B2 (rs:=[.b x15]) Z Z (A1 (D0 Z) (A1 (D0 Z) B3)) ((C2j hx15).frz)<|gF Z hg14<|A0 (M9 Z) Z<|A0 (C0 Z hg14 Z) Z<|ge 5 Z Z Z
    refine es (ra1 Z)<|wi h Z (fun hc17 h=>?_) fun hc17 h=>?_
    ·refine s0<|qm Z<|es (ra1 Z)<|C6 ?_
     obtain rfl:=os h
     exact retq trivial (A8 Z B6) (A5 Z B5) (A3 A4 B1)
    ·refine B8<|s0<|qm Z<|es (ra1 Z)<|C6 ?_
     obtain rfl:=os h
     exact retq trivial (A8 Z B6) (A5 Z B5) (A3 A4 B1)
def A4l (a0:PaGown) (a1:Int):Option Int :=
 some (w64 (a0.Loan+(w64 (a0.Rate*(w64 ((w64 (Z48 (w64 (a0.Ago+a1)) 30))+1))))))
theorem B2m {c:Sc} {H:A2} {a0:PaGown} {a1:Int} {r:Int} (h:A4l a0 a1=some r) :
  F0 tab c H (.fn (.func 54) [] []) [(.agg (C7 a0)),.i a1] [.i r]:= by
 unfold A4l at h
 refine cE Z Z<|sg 0 Z<|A0 (G1 (cs:=C7 a0) Z Z Z) Z<|qm Z<|es (ra2 Z Z)<|s0<|A0 (C3 Z) Z<|A0 (B4 Z Z Z) Z<|A0 (C3 Z) Z<|A0 (B4 Z Z Z) Z<|A0 (C3 Z) Z<|A0 (B4 Z Z Z) Z<|qm Z<|A0 (D8 Z Z) Z<|A0 (R8 (v:=(.i (w64 (Z48 (w64 (a0.Ago+a1)) 30)))) Z Z Z) Z<|A0 (D8 Z Z) Z<|A0 (B33 Z Z) Z<|A0 (D8 Z Z) Z<|qm Z<|es (ra1 Z)<|C6 ?_
 obtain rfl:=os h
 exact retq trivial (A8 Z B6) (A5 Z B5) (A3 A4 B1)
def B0e (a0:PaGown) (a1:PaFigure):Option Int :=
 some (w64 (a0.Fee*(w64 ((w64 (a1.Until-a1.Day))+1))))
theorem B6e {c:Sc} {H:A2} {a0:PaGown} {a1:PaFigure} {r:Int} (h:B0e a0 a1=some r) :
  F0 tab c H (.fn (.func 56) [] []) [(.agg (C7 a0)),(.agg (B7 a1))] [.i r]:= by
 unfold B0e at h
 refine cE Z Z<|sg 0 Z<|A0 (G1 (cs:=C7 a0) Z Z Z) Z<|A0 (G1 (cs:=B7 a1) Z Z Z) Z<|qm Z<|es (ra2 Z Z)<|s0<|A0 (C3 Z) Z<|A0 (B4 Z Z Z) Z<|A0 (C3 Z) Z<|A0 (B4 Z Z Z) Z<|A0 (C3 Z) Z<|A0 (B4 Z Z Z) Z<|A0 (W1 Z Z) Z<|A0 (D8 Z Z) Z<|A0 (B33 Z Z) Z<|qm Z<|es (ra1 Z)<|C6 ?_
 obtain rfl:=os h
 exact retq trivial (A8 Z B6) (A5 Z B5) (A3 A4 B1)
def A3h (a0:PaShow) (a1:Int) (x1:(Int×(List Int))) (s6:(Int×(List Int))) (s9:Int):Option (Int⊕((List Int)⊕Unit)) :=
 if (decide (s9<3))=true then
  (Z9 (pawn_show.mk a0 (Ar3.mk (pawn_way.mk ) (pawn_way.mk ) (pawn_way.mk )) x1.2) a1 (PaUse.mk s6.1 s9 0)).bind fun x12 =>
  if (x12==0)=true then
  (app 8 s6.2 [s6.1]).bind fun x14 =>
  some (.inr (.inl x14))
  else
  some (.inl (w64 (s9+1)))
 else
  some (.inr (.inr ()))
def A6f (a0:PaShow) (a1:Int) (x1:(Int×(List Int))) (s6:(Int×(List Int))):Option ((Int×(List Int))⊕(List Int)) :=
 if (decide (s6.1<(Zh a0.Gowns:Int)))=true then
  (loop (A3h a0 a1 x1 s6) 0).bind fun (o15:((List Int)⊕Unit)) =>
  match o15 with
  | (.inl vo15_0) =>
  some (.inl ((w64 (s6.1+1)),vo15_0))
  | (.inr vo15_1) =>
  some (.inl ((w64 (s6.1+1)),s6.2))
 else
  some (.inr s6.2)
def A5x (a0:PaShow) (a1:Int):Option ((List Int)×Int) :=
 (A32 a0).bind fun x1 =>
 if (x1.1==0)=true then
  (G3 0 (w64 ((Zh a0.Figures:Int)-1)) [a1]).bind fun x4 =>
  if x4=true then
  some (([]:List Int),4)
  else
  (loop (A6f a0 a1 x1) (0,([]:List Int))).bind fun (o16:(List Int)) =>
  some (o16,0)
 else
  some (([]:List Int),x1.1)
theorem B4e {c:Sc} {H:A2} {a0:PaShow} {a1:Int} {r:((List Int)×Int)} (h:A5x a0 a1=some r) :
  F0 tab c H (.fn (.func 16) [] []) [(.agg (A9 a0)),.i a1] [(.fresh 1 (Zg cI r.1)),.i r.2]:= by
 unfold A5x at h
 refine cE Z Z<|sg 0 Z<|A0 (G1 (cs:=A9 a0) Z Z Z) Z<|A0 A5d Z<|qm Z<|es (ra3 Z Z Z)<|D4k<|s0<|oB h fun x1 hx1 h=>A0 (C9 Z Z Z) Z ?_
 by_cases hc2:(x1.1==0)=true
 ·rw[if_pos hc2]at h
  obtain⟨X3,hX3⟩:=A4g hx1 hc2
  refine O7 (A6e hX3 Z Z (A1 (D0 Z) B3) Z) Z<|qm Z<|A0 (A7 Z Z) Z<|A0 (A7 Z Z) Z<|qm Z<|qm Z<|es (ra5 Z Z Z Z Z)<|B9<|C5<|s0<|qm Z<|A0 (R8 (v:=(.b false)) Z Z Z) Z<|qm Z<|es (ra6 Z Z Z Z Z Z)<|T0 Z Z<|s0<|oB h fun x4 hx4 h=>A0 (C3 Z) Z<|A0 (B4 Z Z Z) Z<|A0 (F2 (f:=B7) Z) Z<|A0 (W1 Z Z) Z<|qm Z<|A0 (J2 (rows:=Zg cI [a1]) Z Z (D9 (fun _=>rfl) _)) Z<|B2 (rs:=[.b x4]) Z Z (A1 Z (A1 Z (A1 Z B3))) ((H8 hx4).frz)<|qm Z<|es (ra5 Z Z Z Z Z)<|wi h Z (fun hc5 h=>?_) fun hc5 h=>?_
  ·refine sg 5 Z<|A0 A5d Z<|qm Z<|es (ra2 Z Z)<|C6 ?_
   obtain rfl:=os h
   exact retq trivial (A8 Z (A8 Z B6)) (A5 (A5u Z (Zi _)) (A5 Z B5)) (A3 Y2 (A3 A4 B1))
  ·refine B8<|B9<|B8<|B9<|s0<|A0 (C3 Z) Z<|A0 (B4 Z Z Z) Z<|A0 (F2 (f:=C7) Z) Z<|qm Z<|es (ra5 Z Z Z Z Z)<|C5<|oB h fun o16 ho16 h=>wl (fun s6=>[(1,.i a1),(4,(.asl (H.length+1) (Zh s6.2))),(6,(.ptr (H.length+4) 0)),(28,(.i (Zh a0.Gowns:Int))),(29,.i s6.1)]) (fun (q7:Unit) s6=>[(.cells (A9 a0)),(.arr 1 false (Zg cI s6.2)),(.cells (A9 a0)),X3,(.cells [(.seq 8 (Zg C7 a0.Gowns)),(.seq 4 (Zg B7 a0.Figures)),.i a0.Purse,(.seq 2 (Zg D3 a0.Incomes)),(.fn (.func 90) [] []),(.fn (.func 91) [] []),(.fn (.func 92) [] []),(.fn (.func 52) [] []),(.fn (.func 93) [] []),(.fn (.func 94) [] []),(.fn (.func 55) [] []),(.fn (.func 95) [] []),(.fn (.func 96) [] []),(.seq 1 (Zg cI x1.2))])]) 5 (fun r e s' H'=>PX 1 [(4,(.asl (H.length+1) (Zh r)))] (H++[(.cells (A9 a0)),(.arr 1 false (Zg cI r)),(.cells (A9 a0)),X3,(.cells [(.seq 8 (Zg C7 a0.Gowns)),(.seq 4 (Zg B7 a0.Figures)),.i a0.Purse,(.seq 2 (Zg D3 a0.Incomes)),(.fn (.func 90) [] []),(.fn (.func 91) [] []),(.fn (.func 92) [] []),(.fn (.func 52) [] []),(.fn (.func 93) [] []),(.fn (.func 94) [] []),(.fn (.func 55) [] []),(.fn (.func 95) [] []),(.fn (.func 96) [] []),(.seq 1 (Zg cI x1.2))])]) e s' H') () ho16 Z Z (fun _ _=>rfl) (fun _=>rfl) Z (fun s6=>(bdc A4 (bdc (R3 Z) (bdc (J7 Z) (bdc A4 (bdc A4 bdn)))))) (fun q7 s6 ys6 hs6=>?_) ?_
   ·unfold A6f at hs6
    refine s0<|A0 (I3 Z Z) Z<|es (ra6 Z Z Z Z Z Z)<|B9<|wi hs6 Z (fun hc8 hs6=>?_) fun hc8 hs6=>?_
    ·refine B8<|B9<|C5<|s0<|qm Z<|qm Z<|es (ra6 Z Z Z Z Z Z)<|s0<|qm Z<|es (ra7 Z Z Z Z Z Z Z)<|C5<|oB hs6 fun o15 ho15 hs6=>wl (fun s9=>[(1,.i a1),(4,(.asl (H.length+1) (Zh s6.2))),(6,(.ptr (H.length+4) 0)),(7,.i s6.1),(28,(.i (Zh a0.Gowns:Int))),(29,.i s6.1),(32,.i s9)]) (fun (q10:Unit) s9=>[(.cells (A9 a0)),(.arr 1 false (Zg cI s6.2)),(.cells (A9 a0)),X3,(.cells [(.seq 8 (Zg C7 a0.Gowns)),(.seq 4 (Zg B7 a0.Figures)),.i a0.Purse,(.seq 2 (Zg D3 a0.Incomes)),(.fn (.func 90) [] []),(.fn (.func 91) [] []),(.fn (.func 92) [] []),(.fn (.func 52) [] []),(.fn (.func 93) [] []),(.fn (.func 94) [] []),(.fn (.func 55) [] []),(.fn (.func 95) [] []),(.fn (.func 96) [] []),(.seq 1 (Zg cI x1.2))])]) 5 (fun r e s' H'=>(match r with|(.inl v)=>PX 2 [(1,.i a1),(4,(.asl (H.length+1) (Zh v))),(6,(.ptr (H.length+4) 0)),(28,(.i (Zh a0.Gowns:Int))),(29,.i s6.1)] (H++[(.cells (A9 a0)),(.arr 1 false (Zg cI v)),(.cells (A9 a0)),X3,(.cells [(.seq 8 (Zg C7 a0.Gowns)),(.seq 4 (Zg B7 a0.Figures)),.i a0.Purse,(.seq 2 (Zg D3 a0.Incomes)),(.fn (.func 90) [] []),(.fn (.func 91) [] []),(.fn (.func 92) [] []),(.fn (.func 52) [] []),(.fn (.func 93) [] []),(.fn (.func 94) [] []),(.fn (.func 55) [] []),(.fn (.func 95) [] []),(.fn (.func 96) [] []),(.seq 1 (Zg cI x1.2))])]) e s' H' | (.inr v)=>PX 3 [(1,.i a1),(4,(.asl (H.length+1) (Zh s6.2))),(6,(.ptr (H.length+4) 0)),(28,(.i (Zh a0.Gowns:Int))),(29,.i s6.1)] (H++[(.cells (A9 a0)),(.arr 1 false (Zg cI s6.2)),(.cells (A9 a0)),X3,(.cells [(.seq 8 (Zg C7 a0.Gowns)),(.seq 4 (Zg B7 a0.Figures)),.i a0.Purse,(.seq 2 (Zg D3 a0.Incomes)),(.fn (.func 90) [] []),(.fn (.func 91) [] []),(.fn (.func 92) [] []),(.fn (.func 52) [] []),(.fn (.func 93) [] []),(.fn (.func 94) [] []),(.fn (.func 55) [] []),(.fn (.func 95) [] []),(.fn (.func 96) [] []),(.seq 1 (Zg cI x1.2))])]) e s' H':Prop)) () ho15 Z Z (fun _ _=>rfl) (fun _=>rfl) Z (fun s9=>(bdc A4 (bdc (R3 Z) (bdc (J7 Z) (bdc A4 (bdc A4 (bdc A4 (bdc A4 bdn)))))))) (fun q10 s9 ys9 hs9=>?_) ?_
     ·unfold A3h at hs9
      refine s0<|A0 (I3 Z Z) Z<|es (ra8 Z Z Z Z Z Z Z Z)<|B9<|wi hs9 Z (fun hc11 hs9=>?_) fun hc11 hs9=>?_
      ·refine B8<|B9<|C5<|s0<|qm Z<|qm Z<|es (ra8 Z Z Z Z Z Z Z Z)<|s0<|oB hs9 fun x12 hx12 hs9=>qm Z<|qm Z<|qm Z<|qm Z<|A0 (R4 (cs:=A6 (PaUse.mk s6.1 s9 0)) Z Z) Z<|B2 (rs:=[.i x12]) Z Z (A1 Z (A1 Z (A1 (D0 Z) B3))) ((A5s (F7 Z) hx12).frz)<|A0 (F9 Z Z) Z<|es (ra8 Z Z Z Z Z Z Z Z)<|wi hs9 Z (fun hc13 hs9=>?_) fun hc13 hs9=>?_
       ·refine s0<|oB hs9 fun x14 hx14 hs9=>qm Z<|qm Z<|A0 (J2 (rows:=Zg cI [s6.1]) Z Z (D9 (fun _=>rfl) _)) Z<|O7 (A0u (f:=cI) Z Z Z Z X8 (fun _=>rfl) hx14) Z<|qm Z<|es (ra5 Z Z Z Z Z)<|G5 ?_
        obtain rfl:=os hs9
        exact lx Z px (su5 Z Z Z Z Z)
       ·refine B8<|r0<|A0 (D8 Z Z) Z<|qm Z<|en (ra7 Z Z Z Z Z Z Z) ?_
        cases hs9
        exact lnT () Z (su7 Z Z Z Z Z Z Z)
      ·refine G5 ?_
       obtain rfl:=os hs9
       exact lx Z px (su5 Z Z Z Z Z)
     ·rcases o15 with vo15_0|vo15_1
      ·rintro e s' H'-⟨rfl,rfl,rfl⟩
       refine r0<|A0 (D8 Z Z) Z<|qm Z<|en (ra5 Z Z Z Z Z) ?_
       cases hs6
       exact lnT () Z (su5 Z Z Z Z Z)
      ·rintro e s' H'-⟨rfl,rfl,rfl⟩
       refine r0<|A0 (D8 Z Z) Z<|qm Z<|en (ra5 Z Z Z Z Z) ?_
       cases hs6
       exact lnT () Z (su5 Z Z Z Z Z)
    ·refine G5 ?_
     obtain rfl:=os hs6
     exact lx Z px (su1 Z)
   ·rintro e s' H'-⟨rfl,rfl,rfl⟩
    refine s0<|qm Z<|qm Z<|qm Z<|es (ra2 Z Z)<|C6 ?_
    obtain rfl:=os h
    exact retq trivial (A8 Z (A8 Z B6)) (A5 (A5u Z (Zi _)) (A5 Z B5)) (A3 Y2 (A3 A4 B1))
 ·rw[if_neg hc2]at h
  refine O7 (U1 (rs:=[.lit (.pointer none),.i x1.1]) Z Z (A1 (D0 Z) B3) (A5i hx1 (by simpa using hc2)) Z) Z<|qm Z<|A0 (A7 Z Z) Z<|A0 (A7 Z Z) Z<|qm Z<|qm Z<|es (ra5 Z Z Z Z Z)<|B9<|C5<|s0<|qm Z<|A0 (H9 Z Z) Z<|qm Z<|es (ra6 Z Z Z Z Z Z)<|Q5 Z (nef hc2)<|sg 2 Z<|qm Z<|A0 A5d Z<|qm Z<|es (ra2 Z Z)<|C6 ?_
  obtain rfl:=os h
  exact retq trivial (A8 Z (A8 Z B6)) (A5 (A5u Z (Zi _)) (A5 Z B5)) (A3 Y2 (A3 A4 B1))
def A3i (a0:(List Int)) (a1:(List Int)) (s1:(Bool×Int)):Option ((Bool×Int)⊕Bool) :=
 if (s1.1&&(decide (s1.2<(Zh a0:Int))))=true then
  (idx a0 s1.2).bind fun x5 =>
  (idx a1 s1.2).bind fun x6 =>
  some (.inl ((x5==x6),(w64 (s1.2+1))))
 else
  some (.inr s1.1)
def X0 (a0:(List Int)) (a1:(List Int)):Option Bool :=
 (loop (A3i a0 a1) (((Zh a0:Int)==(Zh a1:Int)),0)).bind fun (o7:Bool) =>
 some o7
theorem Z6 {c:Sc} {H:A2} {a0:(List Int)} {a1:(List Int)} {r:Bool} (h:X0 a0 a1=some r) :
  F0 tab c H (.fn (.func 18) [] []) [(.seq 1 (Zg cI a0)),(.seq 1 (Zg cI a1))] [.b r]:= by
 unfold X0 at h
 refine cE Z Z<|s0<|qm Z<|es (ra2 Z Z)<|s0<|qm Z<|A0 (F2 (f:=cI) Z) Z<|qm Z<|A0 (F2 (f:=cI) Z) Z<|A0 (F9 Z Z) Z<|qm Z<|es (ra3 Z Z Z)<|B9<|s0<|qm Z<|es (ra4 Z Z Z Z)<|C5<|oB h fun o7 ho7 h=>wl (fun s1=>[(0,(.seq 1 (Zg cI a0))),(1,(.seq 1 (Zg cI a1))),(5,.b s1.1),(6,.i s1.2)]) (fun (q2:Unit) s1=>[]) 0 (fun r e s' H'=>PX 0 [(5,.b r)] (H++[]) e s' H') () ho7 Z Z (fun _ _=>rfl) (fun _=>rfl) Z (fun s1=>(bdc G6 (bdc G6 (bdc A4 (bdc A4 bdn))))) (fun q2 s1 ys1 hs1=>?_) ?_
 ·unfold A3i at hs1
  refine B9<|s0<|qm Z<|qm Z<|gp 5 18 (.b (s1.1&&(decide (s1.2<(Zh a0:Int))))) 13 Z Z (fun hg3=>?_) (fun hg3=>?_) ?_
  ·exact gT Z hg3<|qm Z<|gT Z hg3<|qm Z<|gT Z hg3<|A0 (F2 (f:=cI) Z) Z<|gT Z hg3<|A0 (I3 Z Z) Z<|A0 (C1 Z hg3 Z) Z<|ge 5 (by rw[hg3];rfl) Z Z
  ·exact nT Z hg3 Z<|nT Z hg3 Z<|nT Z hg3 Z<|nT Z hg3 Z<|A0 (C0 Z hg3 Z) Z<|ge 5 (by rw[hg3];rfl) Z Z
  refine es (ra5 Z Z Z Z Z)<|wi hs1 Z (fun hc4 hs1=>?_) fun hc4 hs1=>?_
  ·refine B8<|B9<|C5<|r0<|oB hs1 fun x5 hx5 hs1=>oB hs1 fun x6 hx6 hs1=>qm Z<|qm Z<|A0 (D4 (f:=cI) Z Z hx5) Z<|A0 (G2 Z Z) Z<|qm Z<|qm Z<|A0 (D4 (f:=cI) Z Z hx6) Z<|A0 (G2 Z Z) Z<|A0 (F9 Z Z) Z<|qm Z<|en (ra4 Z Z Z Z)<|r0<|qm Z<|A0 (D8 Z Z) Z<|qm Z<|en (ra4 Z Z Z Z) ?_
   cases hs1
   exact lnT () Z (su4 Z Z Z Z)
  ·refine G5 ?_
   obtain rfl:=os hs1
   exact lx Z px (su1 Z)
 ·rintro e s' H'-⟨rfl,rfl,rfl⟩
  refine s0<|qm Z<|qm Z<|es (ra1 Z)<|C6 ?_
  obtain rfl:=os h
  exact retq trivial (A8 Z B6) (A5 Z B5) (A3 A4 B1)
def T9 (a0:Int) (a1:Int) (a2:Int):Option PaUse :=
 some (PaUse.mk a0 a1 a2)
theorem Y8 {c:Sc} {H:A2} {a0:Int} {a1:Int} {a2:Int} {r:PaUse} (h:T9 a0 a1 a2=some r) :
  F0 tab c H (.fn (.func 61) [] []) [.i a0,.i a1,.i a2] [(.agg (A6 r))]:= by
 unfold T9 at h
 refine cE Z Z<|sg 0 Z<|A0 J6 Z<|es (ra4 Z Z Z Z)<|s0<|qm Z<|qm Z<|qm Z<|A0 (R4 (cs:=A6 (PaUse.mk a0 a1 a2)) Z Z) Z<|O6 (G0 (ds:=(A6 (PaUse.mk a0 a1 a2))) Z Z Z Z (E0 Z) Z) Z<|es (ra1 Z)<|C6 ?_
 obtain rfl:=os h
 exact retq trivial (B3v (A6b (ds:=A6 (PaUse.mk a0 a1 a2)) Z Z Z Z) B6) (A5 (B79 Z) B5) (A3 (B69 Z) B1)
def A5n :Option (List PaUse) :=
 (T9 0 1 0).bind fun x1 =>
 (T9 1 0 0).bind fun x2 =>
 (T9 2 2 0).bind fun x3 =>
 some [x1,x2,x3]
theorem A6c {c:Sc} {H:A2}  {r:(List PaUse)} (h:A5n  = some r) :
  F0 tab c H (.fn (.func 60) [] []) [] [(.seq 3 (Zg A6 r))]:= by
 unfold A5n at h
 refine cE Z Z<|s0<|qm Z<|es .n<|s0<|oB h fun x1 hx1 h=>oB h fun x2 hx2 h=>oB h fun x3 hx3 h=>B2 (rs:=[(.agg (A6 x1))]) Z Z (A1 Z (A1 Z (A1 Z B3))) ((Y8 hx1).frz)<|B2 (rs:=[(.agg (A6 x2))]) Z Z (A1 Z (A1 Z (A1 Z B3))) ((Y8 hx2).frz)<|B2 (rs:=[(.agg (A6 x3))]) Z Z (A1 Z (A1 Z (A1 Z B3))) ((Y8 hx3).frz)<|A0 (J2 (rows:=Zg A6 [x1,x2,x3]) Z Z (D9 (fun _=>rfl) _)) Z<|qm Z<|es (ra1 Z)<|C6 ?_
 obtain rfl:=os h
 exact retq trivial (A8 Z B6) (A5 Z B5) (A3 G6 B1)
def B01 (a0:Bool):Option PaShow :=
 if a0=true then
  some (PaShow.mk ((PaShow.mk [(PaGown.mk (ByteArray.mk #[114,101,100]) 3 true 90 10 3 20 100),(PaGown.mk (ByteArray.mk #[98,108,117,101]) 1 false 0 0 0 0 0),(PaGown.mk (ByteArray.mk #[103,111,108,100]) 7 true 120 5 8 0 60)] [(PaFigure.mk (ByteArray.mk #[113,117,101,101,110]) 50 59 2),(PaFigure.mk (ByteArray.mk #[98,105,115,104,111,112]) 20 80 1),(PaFigure.mk (ByteArray.mk #[108,97,100,121]) 45 50 4)] 100 [(PaIncome.mk 40 150)]).Gowns) ((PaShow.mk [(PaGown.mk (ByteArray.mk #[114,101,100]) 3 true 90 10 3 20 100),(PaGown.mk (ByteArray.mk #[98,108,117,101]) 1 false 0 0 0 0 0),(PaGown.mk (ByteArray.mk #[103,111,108,100]) 7 true 120 5 8 0 60)] [(PaFigure.mk (ByteArray.mk #[113,117,101,101,110]) 50 59 2),(PaFigure.mk (ByteArray.mk #[98,105,115,104,111,112]) 20 80 1),(PaFigure.mk (ByteArray.mk #[108,97,100,121]) 45 50 4)] 100 [(PaIncome.mk 40 150)]).Figures) 20 ([]:List PaIncome))
 else
  some (PaShow.mk [(PaGown.mk (ByteArray.mk #[114,101,100]) 3 true 90 10 3 20 100),(PaGown.mk (ByteArray.mk #[98,108,117,101]) 1 false 0 0 0 0 0),(PaGown.mk (ByteArray.mk #[103,111,108,100]) 7 true 120 5 8 0 60)] [(PaFigure.mk (ByteArray.mk #[113,117,101,101,110]) 50 59 2),(PaFigure.mk (ByteArray.mk #[98,105,115,104,111,112]) 20 80 1),(PaFigure.mk (ByteArray.mk #[108,97,100,121]) 45 50 4)] 100 [(PaIncome.mk 40 150)])
theorem B4c {c:Sc} {H:A2} {a0:Bool} {r:PaShow} (h:B01 a0=some r) :
  F0 tab c H (.fn (.func 59) [] []) [.b a0] [(.agg (A9 r))]:= by
 unfold B01 at h
 refine cE Z Z<|sg 0 Z<|A0 J6 Z<|es (ra2 Z Z)<|sg 1 Z<|A0 (R4 (cs:=C7 (PaGown.mk (ByteArray.mk #[114,101,100]) 3 true 90 10 3 20 100)) Z Z) Z<|A0 (R4 (cs:=C7 (PaGown.mk (ByteArray.mk #[98,108,117,101]) 1 false 0 0 0 0 0)) Z Z) Z<|A0 (R4 (cs:=C7 (PaGown.mk (ByteArray.mk #[103,111,108,100]) 7 true 120 5 8 0 60)) Z Z) Z<|A0 (J2 (rows:=Zg C7 [(PaGown.mk (ByteArray.mk #[114,101,100]) 3 true 90 10 3 20 100),(PaGown.mk (ByteArray.mk #[98,108,117,101]) 1 false 0 0 0 0 0),(PaGown.mk (ByteArray.mk #[103,111,108,100]) 7 true 120 5 8 0 60)]) Z Z (D9 (fun _=>rfl) _)) Z<|A0 (R4 (cs:=B7 (PaFigure.mk (ByteArray.mk #[113,117,101,101,110]) 50 59 2)) Z Z) Z<|A0 (R4 (cs:=B7 (PaFigure.mk (ByteArray.mk #[98,105,115,104,111,112]) 20 80 1)) Z Z) Z<|A0 (R4 (cs:=B7 (PaFigure.mk (ByteArray.mk #[108,97,100,121]) 45 50 4)) Z Z) Z<|A0 (J2 (rows:=Zg B7 [(PaFigure.mk (ByteArray.mk #[113,117,101,101,110]) 50 59 2),(PaFigure.mk (ByteArray.mk #[98,105,115,104,111,112]) 20 80 1),(PaFigure.mk (ByteArray.mk #[108,97,100,121]) 45 50 4)]) Z Z (D9 (fun _=>rfl) _)) Z<|A0 (R4 (cs:=D3 (PaIncome.mk 40 150)) Z Z) Z<|A0 (J2 (rows:=Zg D3 [(PaIncome.mk 40 150)]) Z Z (D9 (fun _=>rfl) _)) Z<|A0 (R4 (cs:=A9 (PaShow.mk [(PaGown.mk (ByteArray.mk #[114,101,100]) 3 true 90 10 3 20 100),(PaGown.mk (ByteArray.mk #[98,108,117,101]) 1 false 0 0 0 0 0),(PaGown.mk (ByteArray.mk #[103,111,108,100]) 7 true 120 5 8 0 60)] [(PaFigure.mk (ByteArray.mk #[113,117,101,101,110]) 50 59 2),(PaFigure.mk (ByteArray.mk #[98,105,115,104,111,112]) 20 80 1),(PaFigure.mk (ByteArray.mk #[108,97,100,121]) 45 50 4)] 100 [(PaIncome.mk 40 150)])) Z Z) Z<|A0 J6 Z<|O6 (G0 (ds:=(A9 (PaShow.mk [(PaGown.mk (ByteArray.mk #[114,101,100]) 3 true 90 10 3 20 100),(PaGown.mk (ByteArray.mk #[98,108,117,101]) 1 false 0 0 0 0 0),(PaGown.mk (ByteArray.mk #[103,111,108,100]) 7 true 120 5 8 0 60)] [(PaFigure.mk (ByteArray.mk #[113,117,101,101,110]) 50 59 2),(PaFigure.mk (ByteArray.mk #[98,105,115,104,111,112]) 20 80 1),(PaFigure.mk (ByteArray.mk #[108,97,100,121]) 45 50 4)] 100 [(PaIncome.mk 40 150)]))) Z Z Z Z (E0 Z) Z) Z<|es (ra3 Z Z Z)<|B9<|s0<|qm Z<|es (ra3 Z Z Z)<|wi h Z (fun hc1 h=>?_) fun hc1 h=>?_
 ·refine r0<|A0 (C3 Z) Z<|O6 (G0 (ds:=(A9 (PaShow.mk ((PaShow.mk [(PaGown.mk (ByteArray.mk #[114,101,100]) 3 true 90 10 3 20 100),(PaGown.mk (ByteArray.mk #[98,108,117,101]) 1 false 0 0 0 0 0),(PaGown.mk (ByteArray.mk #[103,111,108,100]) 7 true 120 5 8 0 60)] [(PaFigure.mk (ByteArray.mk #[113,117,101,101,110]) 50 59 2),(PaFigure.mk (ByteArray.mk #[98,105,115,104,111,112]) 20 80 1),(PaFigure.mk (ByteArray.mk #[108,97,100,121]) 45 50 4)] 100 [(PaIncome.mk 40 150)]).Gowns) ((PaShow.mk [(PaGown.mk (ByteArray.mk #[114,101,100]) 3 true 90 10 3 20 100),(PaGown.mk (ByteArray.mk #[98,108,117,101]) 1 false 0 0 0 0 0),(PaGown.mk (ByteArray.mk #[103,111,108,100]) 7 true 120 5 8 0 60)] [(PaFigure.mk (ByteArray.mk #[113,117,101,101,110]) 50 59 2),(PaFigure.mk (ByteArray.mk #[98,105,115,104,111,112]) 20 80 1),(PaFigure.mk (ByteArray.mk #[108,97,100,121]) 45 50 4)] 100 [(PaIncome.mk 40 150)]).Figures) 20 ((PaShow.mk [(PaGown.mk (ByteArray.mk #[114,101,100]) 3 true 90 10 3 20 100),(PaGown.mk (ByteArray.mk #[98,108,117,101]) 1 false 0 0 0 0 0),(PaGown.mk (ByteArray.mk #[103,111,108,100]) 7 true 120 5 8 0 60)] [(PaFigure.mk (ByteArray.mk #[113,117,101,101,110]) 50 59 2),(PaFigure.mk (ByteArray.mk #[98,105,115,104,111,112]) 20 80 1),(PaFigure.mk (ByteArray.mk #[108,97,100,121]) 45 50 4)] 100 [(PaIncome.mk 40 150)]).Incomes)))) Z Z Z Z (E0 Z) Z) Z<|A0 (C3 Z) Z<|O6 (G0 (ds:=(A9 (PaShow.mk ((PaShow.mk [(PaGown.mk (ByteArray.mk #[114,101,100]) 3 true 90 10 3 20 100),(PaGown.mk (ByteArray.mk #[98,108,117,101]) 1 false 0 0 0 0 0),(PaGown.mk (ByteArray.mk #[103,111,108,100]) 7 true 120 5 8 0 60)] [(PaFigure.mk (ByteArray.mk #[113,117,101,101,110]) 50 59 2),(PaFigure.mk (ByteArray.mk #[98,105,115,104,111,112]) 20 80 1),(PaFigure.mk (ByteArray.mk #[108,97,100,121]) 45 50 4)] 100 [(PaIncome.mk 40 150)]).Gowns) ((PaShow.mk [(PaGown.mk (ByteArray.mk #[114,101,100]) 3 true 90 10 3 20 100),(PaGown.mk (ByteArray.mk #[98,108,117,101]) 1 false 0 0 0 0 0),(PaGown.mk (ByteArray.mk #[103,111,108,100]) 7 true 120 5 8 0 60)] [(PaFigure.mk (ByteArray.mk #[113,117,101,101,110]) 50 59 2),(PaFigure.mk (ByteArray.mk #[98,105,115,104,111,112]) 20 80 1),(PaFigure.mk (ByteArray.mk #[108,97,100,121]) 45 50 4)] 100 [(PaIncome.mk 40 150)]).Figures) 20 ([]:List PaIncome)))) Z Z Z Z (E0 Z) Z) Z<|en (ra2 Z Z)<|s0<|A0 (C9 Z Z Z) Z<|O6 (G0 (ds:=(A9 (PaShow.mk ((PaShow.mk [(PaGown.mk (ByteArray.mk #[114,101,100]) 3 true 90 10 3 20 100),(PaGown.mk (ByteArray.mk #[98,108,117,101]) 1 false 0 0 0 0 0),(PaGown.mk (ByteArray.mk #[103,111,108,100]) 7 true 120 5 8 0 60)] [(PaFigure.mk (ByteArray.mk #[113,117,101,101,110]) 50 59 2),(PaFigure.mk (ByteArray.mk #[98,105,115,104,111,112]) 20 80 1),(PaFigure.mk (ByteArray.mk #[108,97,100,121]) 45 50 4)] 100 [(PaIncome.mk 40 150)]).Gowns) ((PaShow.mk [(PaGown.mk (ByteArray.mk #[114,101,100]) 3 true 90 10 3 20 100),(PaGown.mk (ByteArray.mk #[98,108,117,101]) 1 false 0 0 0 0 0),(PaGown.mk (ByteArray.mk #[103,111,108,100]) 7 true 120 5 8 0 60)] [(PaFigure.mk (ByteArray.mk #[113,117,101,101,110]) 50 59 2),(PaFigure.mk (ByteArray.mk #[98,105,115,104,111,112]) 20 80 1),(PaFigure.mk (ByteArray.mk #[108,97,100,121]) 45 50 4)] 100 [(PaIncome.mk 40 150)]).Figures) 20 ([]:List PaIncome)))) Z Z Z Z (E0 Z) Z) Z<|es (ra1 Z)<|C6 ?_
  obtain rfl:=os h
  exact retq trivial (B3v (A6b (ds:=A9 (PaShow.mk ((PaShow.mk [(PaGown.mk (ByteArray.mk #[114,101,100]) 3 true 90 10 3 20 100),(PaGown.mk (ByteArray.mk #[98,108,117,101]) 1 false 0 0 0 0 0),(PaGown.mk (ByteArray.mk #[103,111,108,100]) 7 true 120 5 8 0 60)] [(PaFigure.mk (ByteArray.mk #[113,117,101,101,110]) 50 59 2),(PaFigure.mk (ByteArray.mk #[98,105,115,104,111,112]) 20 80 1),(PaFigure.mk (ByteArray.mk #[108,97,100,121]) 45 50 4)] 100 [(PaIncome.mk 40 150)]).Gowns) ((PaShow.mk [(PaGown.mk (ByteArray.mk #[114,101,100]) 3 true 90 10 3 20 100),(PaGown.mk (ByteArray.mk #[98,108,117,101]) 1 false 0 0 0 0 0),(PaGown.mk (ByteArray.mk #[103,111,108,100]) 7 true 120 5 8 0 60)] [(PaFigure.mk (ByteArray.mk #[113,117,101,101,110]) 50 59 2),(PaFigure.mk (ByteArray.mk #[98,105,115,104,111,112]) 20 80 1),(PaFigure.mk (ByteArray.mk #[108,97,100,121]) 45 50 4)] 100 [(PaIncome.mk 40 150)]).Figures) 20 ([]:List PaIncome))) Z Z Z Z) B6) (A5 (B79 Z) B5) (A3 (B69 Z) B1)
 ·refine B8<|s0<|A0 (C9 Z Z Z) Z<|O6 (G0 (ds:=(A9 (PaShow.mk [(PaGown.mk (ByteArray.mk #[114,101,100]) 3 true 90 10 3 20 100),(PaGown.mk (ByteArray.mk #[98,108,117,101]) 1 false 0 0 0 0 0),(PaGown.mk (ByteArray.mk #[103,111,108,100]) 7 true 120 5 8 0 60)] [(PaFigure.mk (ByteArray.mk #[113,117,101,101,110]) 50 59 2),(PaFigure.mk (ByteArray.mk #[98,105,115,104,111,112]) 20 80 1),(PaFigure.mk (ByteArray.mk #[108,97,100,121]) 45 50 4)] 100 [(PaIncome.mk 40 150)]))) Z Z Z Z (E0 Z) Z) Z<|es (ra1 Z)<|C6 ?_
  obtain rfl:=os h
  exact retq trivial (B3v (A6b (ds:=A9 (PaShow.mk [(PaGown.mk (ByteArray.mk #[114,101,100]) 3 true 90 10 3 20 100),(PaGown.mk (ByteArray.mk #[98,108,117,101]) 1 false 0 0 0 0 0),(PaGown.mk (ByteArray.mk #[103,111,108,100]) 7 true 120 5 8 0 60)] [(PaFigure.mk (ByteArray.mk #[113,117,101,101,110]) 50 59 2),(PaFigure.mk (ByteArray.mk #[98,105,115,104,111,112]) 20 80 1),(PaFigure.mk (ByteArray.mk #[108,97,100,121]) 45 50 4)] 100 [(PaIncome.mk 40 150)])) Z Z Z Z) B6) (A5 (B79 Z) B5) (A3 (B69 Z) B1)
def A25 (a0:(List Int)) (s1:Int):Option (Int⊕(Int⊕Unit)) :=
 if (decide (s1<(Zh a0:Int)))=true then
  (idx a0 s1).bind fun x4 =>
  if (x4 != 0)=true then
  some (.inr (.inl x4))
  else
  some (.inl (w64 (s1+1)))
 else
  some (.inr (.inr ()))
def A5h (a0:(List Int)):Option Int :=
 (loop (A25 a0) 0).bind fun (o6:(Int⊕Unit)) =>
 match o6 with
 | (.inl vo6_0) =>
  some vo6_0
 | (.inr vo6_1) =>
  some 0
theorem B4b {c:Sc} {H:A2} {a0:(List Int)} {r:Int} (h:A5h a0=some r) :
  F0 tab c H (.fn (.func 72) [] []) [(.seq 1 (Zg cI a0))] [.i r]:= by
 unfold A5h at h
 refine cE Z Z<|s0<|qm Z<|es (ra1 Z)<|s0<|qm Z<|es (ra2 Z Z)<|B9<|s0<|qm Z<|A0 (F2 (f:=cI) Z) Z<|qm Z<|es (ra4 Z Z Z Z)<|C5<|oB h fun o6 ho6 h=>wl (fun s1=>[(3,.i 0),(6,(.seq 1 (Zg cI a0))),(7,(.i (Zh a0:Int))),(8,.i s1)]) (fun (q2:Unit) s1=>[]) 0 (fun r e s' H'=>(match r with|(.inl v)=>e=.ret∧RetQ H [.tmp 2] [.i v] e s' H' | (.inr v)=>PX 0 [(3,.i 0)] (H++[]) e s' H':Prop)) () ho6 Z Z (fun _ _=>rfl) (fun _=>rfl) Z (fun s1=>(bdc A4 (bdc G6 (bdc A4 (bdc A4 bdn))))) (fun q2 s1 ys1 hs1=>?_) ?_
 ·unfold A25 at hs1
  refine s0<|A0 (I3 Z Z) Z<|es (ra5 Z Z Z Z Z)<|B9<|wi hs1 Z (fun hc3 hs1=>?_) fun hc3 hs1=>?_
  ·refine B8<|B9<|C5<|s0<|oB hs1 fun x4 hx4 hs1=>A0 (D4 (f:=cI) Z Z hx4) Z<|A0 (G2 Z Z) Z<|qm Z<|es (ra5 Z Z Z Z Z)<|s0<|qm Z<|qm Z<|A0 (H9 Z Z) Z<|es (ra6 Z Z Z Z Z Z)<|wi hs1 Z (fun hc5 hs1=>?_) fun hc5 hs1=>?_
   ·refine s0<|qm Z<|qm Z<|es (ra1 Z)<|C6 ?_
    obtain rfl:=os hs1
    exact lx Z (ZE Z (retq trivial (A8 Z B6) (A5 Z B5) (A3 A4 B1))) (Sub.refl _)
   ·refine B8<|r0<|A0 (D8 Z Z) Z<|qm Z<|en (ra4 Z Z Z Z) ?_
    cases hs1
    exact lnT () Z (su4 Z Z Z Z)
  ·refine G5 ?_
   obtain rfl:=os hs1
   exact lx Z px (su1 Z)
 ·rcases o6 with vo6_0|vo6_1
  ·rintro e s' H'-⟨rfl,hret⟩
   cases h
   exact hret
  ·rintro e s' H'-⟨rfl,rfl,rfl⟩
   refine s0<|qm Z<|qm Z<|es (ra1 Z)<|C6 ?_
   obtain rfl:=os h
   exact retq trivial (A8 Z B6) (A5 Z B5) (A3 A4 B1)
def A6n (a0:pawn_found) (a1:pawn_found):Option Int :=
 (A5h [(w64 (a0.without_-a1.without_)),(w64 (a0.cost_-a1.cost_))]).bind fun x1 =>
 some x1
theorem C2g {c:Sc} {H:A2} {a0:pawn_found} {a1:pawn_found} {r:Int} (h:A6n a0 a1=some r) :
  F0 tab c H (.fn (.func 71) [] []) [(.agg (C8 a0)),(.agg (C8 a1))] [.i r]:= by
 unfold A6n at h
 refine cE Z Z<|sg 0 Z<|A0 (G1 (cs:=C8 a0) Z Z Z) Z<|A0 (G1 (cs:=C8 a1) Z Z Z) Z<|qm Z<|es (ra2 Z Z)<|s0<|oB h fun x1 hx1 h=>A0 (C3 Z) Z<|A0 (B4 Z Z Z) Z<|A0 (C3 Z) Z<|A0 (B4 Z Z Z) Z<|A0 (W1 Z Z) Z<|A0 (C3 Z) Z<|A0 (B4 Z Z Z) Z<|A0 (C3 Z) Z<|A0 (B4 Z Z Z) Z<|A0 (W1 Z Z) Z<|A0 (J2 (rows:=Zg cI [(w64 (a0.without_-a1.without_)),(w64 (a0.cost_-a1.cost_))]) Z Z (D9 (fun _=>rfl) _)) Z<|B2 (rs:=[.i x1]) Z Z (A1 Z B3) ((B4b hx1).frz)<|qm Z<|es (ra1 Z)<|C6 ?_
 obtain rfl:=os h
 exact retq trivial (A8 Z B6) (A5 Z B5) (A3 A4 B1)
end Pw
end
section
set_option maxRecDepth 100000
namespace Am
open Go
theorem C7q {c:Sc} {H H':A2} (h:T5 c H=true) (hl:H.length≤H'.length):T5 c H'=true:= by
 unfold T5 at h ⊢
 rw[Zq]at h ⊢
 intro B hB
 have:=Zp (h B hB)
 exact Zl (by omega)
theorem C8v {M N:Nat} {L:A2} (hMN:N≤M) (h:grL M L=true):grL N L=true:= by
 unfold grL at h ⊢
 rw[Zq]at h ⊢
 intro o ho
 have:=h o ho
 rw[Zq]at this ⊢
 intro b hb
 have:=Zp (this b hb)
 exact Zl (by omega)
theorem A93 {N:Nat} {o:AO} {L:A2} (ho:o.anc=[]) (h:grL N L=true):grL N (o::L)=true:= by
 unfold grL at h ⊢
 rw[List.all_cons,h,ho];rfl
theorem D6a {H:A2} {n K:Nat} {o:AO}:(hset H K o).take n=hset (H.take n) K o:= by unfold hset;rw[Z31]
section
variable {T:Tab} {s:C2} {H:A2} {c:Sc} {Q:Ex→C2→A2→Prop}
def E7o {σ ρ:Type} (Hs:σ→A2) (Hx:ρ→A2) (K:Nat) (ex:ρ→Ex) (b:AO) (L:A2) (o:σ⊕ρ) (e:Ex) (_s:C2) (H2:A2):Prop :=
 match o with
  | .inl s'=>e=.normal∧H2.take (K+1+L.length)=Hs s'++b::L
  | .inr r=>e=ex r∧H2.take (K+1+L.length)=Hx r++b::L
def E7n (T:Tab) (G:A2) (b0 b1:AO) (bd:ACode) (c:Sc) (Q:Ex→C2→A2→Prop) (e:Ex) (s1:C2) (H1:A2):Prop :=
 e=.normal∧∃ L1,H1=G++b0::L1∧WP T bd s1 (G++b1::L1) c Q
theorem B62 {σ ρ α:Type} {f:Opd} {p i K:Nat} {live:List Nat} {aq bd:ACode} {fc:List AV} {sh:Nat→A2→α→AV→Prop} {pre:A2→Prop} {it:∀(σ ρ:Type),(α→σ→Option (σ⊕ρ))→σ→Option (σ⊕ρ)} {s0:σ} {o:σ⊕ρ} {body:α→σ→Option (σ⊕ρ)}
  (hit:C0v T i fc sh pre it) (sl:C2) (Hs:σ→A2) (Hx:ρ→A2) (ex:ρ→Ex) (h:it σ ρ body s0=some o) (hex:∀r,(ex r).out=true)
  (hf:ev s f=some (.fn (.func i) [] fc)) (hs:∀S,Sub s S→restrict S live=sl) (hH:Hs s0=H) (hk:∀x,(Hs x).length=K) (hkx:∀x,(Hx x).length=K)
  (hpre:(∀ x b,pre (Hs x++[b]))∧∀ x b,pre (Hx x++[b])) (hc:T5 c H=true)
  (hb:∀c x s o L v,T5 ⟨K+1+L.length,c⟩ (Hs s++.dead::L)=true→grL (K+1) L=true→sh (K+1) L x v→body x s=some o→∀ y0 y1:AO,y0.anc=[]→y1.anc=[]→WP T aq ((p,v)::sl) (Hs s++y0::L) ⟨K+1+L.length,c⟩ (E7n T (Hs s) y0 y1 bd ⟨K+1+L.length,c⟩ (E7o Hs Hx K ex y1 L o)))
  (kont:match o with|.inl s'=>Q .normal s (Hs s'++[.dead])|.inr r=>Q (ex r) s (Hx r++[.dead])):WP T (.rangeFunc f [p] live aq bd) s H c Q:= by
 subst hH
 intro S hS
 let Hm:σ⊕ρ→A2:=fun o=>match o with
  | .inl x=>Hs x++[.loop 0 sl [p] aq bd false none]
  | .inr r=>Hx r++[.loop 0 sl [p] aq bd false (some (ex r))]
 have hN:∀x,(Hm x).length=K+1:= by
  intro x
  cases x with
  | inl x=>simp[Hm,hk]
  | inr x=>simp[Hm,hkx]
 have hap:∀(A:List AO) (b:AO) (L:A2),A++[b]++L=A++b::L:=fun A b L=>by simp
 have gat:∀(A:A2) (b:AO) (L:A2),A.length=K→hget (A++b::L) K=some b:=fun A b L hA=>by
  unfold hget;rw[← hA,List.getElem?_append_right (Zn _),Z3h];rfl
 have sat:∀(A:A2) (b b':AO) (L:A2),A.length=K→hset (A++b::L) K b'=A++b'::L:=fun A b b' L hA=>by
  unfold hset;rw[← hA,Z0s _ _ (Zn _),Z3h];rfl
 have hy:∀{L:A2} {c:Sc} {x:α} {s:σ} {o:σ⊕ρ} {v:AV},T5 c (Hm (.inl s)++L)=true→grL (K+1) L=true→sh (K+1) L x v→body x s=some o→L5 T c (Hm (.inl s)++L) (.fn (.yield K) [] []) [v] [.b o.isLeft] (Hm o++L):= by
  intro L c x s o v hsc hgr hsh hbo
  have hml:∀b,(Hs s++b::L).length=K+1+L.length:=fun b=>by simp[hk];omega
  have hm:Hm (.inl s)++L=Hs s++.loop 0 sl [p] aq bd false none::L:=hap _ _ _
  have hsc2:T5 ⟨K+1+L.length,c.cur::c.outer⟩ (Hs s++.dead::L)=true:= by
   rw[hm]at hsc
   exact B2z (c:=c) hsc (by rw[hml,hml];exact Zn _) (by rw[hml];exact Zn _)
  obtain⟨e1,S1,s1,H1,r1,q1,rfl,L1,rfl,hw⟩:=hb (c.cur::c.outer) x s o L v hsc2 hgr hsh hbo (.loop 0 sl [p] aq bd false none) (.loop 0 sl [p] aq bd true none) Z Z _ (Sub.refl _)
  obtain⟨e2,S2,s2,H2,r2,q2,hb2⟩:=hw S1 q1
  rw[hm]
  have fin:∀(B:A2) (er:Ex),B.length=K→H2.take (K+1+L.length)=B++.loop 0 sl [p] aq bd true none::L→e2=er→L5 T c (Hs s++.loop 0 sl [p] aq bd false none::L) (.fn (.yield K) [] []) [v] [.b (!er.out)] (B++.loop 0 sl [p] aq bd false (match er with|.normal=>none|e=>some e)::L):= by
   intro B er hB tk he
   subst he
   have g2:hget H2 K=some (.loop 0 sl [p] aq bd true none):= by
    have:hget (H2.take (K+1+L.length)) K=hget H2 K:= by unfold hget;exact ZO (by omega)
    rw[← this,tk];exact gat _ _ _ hB
   refine L5.yield (ps:=[p]) (st0:=⟨(p,v)::sl,Hs s++.loop 0 sl [p] aq bd false none::L,⟨K+1+L.length,c.cur::c.outer⟩⟩) (st1:=⟨S1,Hs s++.loop 0 sl [p] aq bd false none::L1,⟨K+1+L.length,c.cur::c.outer⟩⟩)
    (st2:=⟨S2,H2,⟨K+1+L.length,c.cur::c.outer⟩⟩) (e:=e2) Z (gat _ _ _ (hk s)) Z (by rw[hml];rfl) r1 (gat _ _ _ (hk s)) (by rw[sat _ _ _ _ (hk s)]) r2 g2 Z ?_
   rw[hml]
   simp only[trunc,bdL,if_true]
   rw[D6a,tk,sat _ _ _ _ hB]
   cases e2 <;> rfl
  cases o with
  | inl s' =>
   have:=fin (Hs s') .normal (hk s') hb2.2 hb2.1
   have hm2:Hm (.inl s')++L=Hs s'++.loop 0 sl [p] aq bd false none::L:=hap _ _ _
   rw[hm2];exact this
  | inr r =>
   have:=fin (Hx r) (ex r) (hkx r) hb2.2 hb2.1
   have he:(match ex r with|.normal=>none|e=>some e)=some (ex r):= by
    have:=hex r
    cases hq:ex r <;> rw[hq]at this <;> first|rfl|cases this
   rw[he,hex r]at this
   have hm2:Hm (.inr r)++L=Hx r++.loop 0 sl [p] aq bd false (some (ex r))::L:=hap _ _ _
   rw[hm2];exact this
 have hcall:=hit Hm (K+1) hN (by
  intro x
  cases x with
  | inl x=>exact hpre.1 x _
  | inr x=>exact hpre.2 x _) (.fn (.yield K) [] []) (by simp only[AV.bd,bdL,Z32];exact Zl (by omega)) Z body hy h (c:=c) (by
  have hq:=hN (.inl s0)
  exact C7q hc (by rw[hq,hk];omega))
 have hres:=hs S hS
 have g:∀o:σ⊕ρ,hget (Hm o) K=some (.loop 0 sl [p] aq bd false (C7k ex o)):= by
  intro o
  cases o with
  | inl x=>exact gat _ _ [] (hk x)
  | inr x=>exact gat _ _ [] (hkx x)
 have hr:=J5.rangeFunc (T:=T) (ac:=.rangeFunc f [p] live aq bd) (st:=⟨S,Hs s0,c⟩) (l:=K) (H0:=Hm (.inl s0)) (H':=Hm o) (pend:=C7k ex o) (e:=E42 ex o)
  (st':=⟨S,hset (Hm o) K .dead,c⟩) Z (A3v hS hf) (hk s0).symm (by simp only[hres,Hm]) hcall (g o) (by cases o <;> rfl) Z
 refine⟨_,S,s,_,hr,hS,?_⟩
 cases o with
 | inl x =>
  have:hset (Hm (.inl x)) K .dead=Hs x++[.dead]:=sat _ _ _ [] (hk x)
  show Q .normal s (hset (Hm (.inl x)) K .dead)
  rw[this];exact kont
 | inr r =>
  have:hset (Hm (.inr r)) K .dead=Hx r++[.dead]:=sat _ _ _ [] (hkx r)
  show Q (ex r) s (hset (Hm (.inr r)) K .dead)
  rw[this];exact kont
end
end Am
end
section
set_option maxRecDepth 100000
set_option maxHeartbeats 0
namespace Pw
open Go Am Go.Proofs.YtjpjdglddmhplaaGreat.Cd
theorem B43 {c:Sc} {H:A2} {a0:pawn_show} {b0:Nat} (hb0:hcells H b0=some [(.seq 8 (Zg C7 a0.PaShow.Gowns)),(.seq 4 (Zg B7 a0.PaShow.Figures)),.i a0.PaShow.Purse,(.seq 2 (Zg D3 a0.PaShow.Incomes)),(.fn (.func 90) [] []),(.fn (.func 91) [] []),(.fn (.func 92) [] []),(.fn (.func 52) [] []),(.fn (.func 93) [] []),(.fn (.func 94) [] []),(.fn (.func 55) [] []),(.fn (.func 95) [] []),(.fn (.func 96) [] []),(.seq 1 (Zg cI a0.days_))]) {a1:(List PaUse)} {v:AV} (hv:SlV H v a1) {a2:Int} {r:Int} (h:T4 a0 a1 a2=some r) :
  F0 tab c H (.fn (.func 63) [] []) [.ptr b0 0,v,.i a2] [.i r]:= by
 unfold T4 at h
 refine cE Z Z<|s0<|qm Z<|es (ra3 Z Z Z)<|s0<|qm Z<|A0 (N3 Z Z) Z<|A0 (C3 Z) Z<|A0 (C3 Z) Z<|A0 (I6 (x:=(.i a0.PaShow.Purse)) Z hb0 Z) Z<|qm Z<|es (ra4 Z Z Z Z)<|B9<|s0<|qm Z<|A0 (N3 Z Z) Z<|A0 (C3 Z) Z<|A0 (C3 Z) Z<|A0 (I6 (x:=(.seq 2 (Zg D3 a0.PaShow.Incomes))) Z hb0 Z) Z<|A0 (F2 (f:=D3) Z) Z<|qm Z<|es (ra7 Z Z Z Z Z Z Z)<|C5<|oB h fun o6 ho6 h=>wl (fun s1=>[(0,.ptr b0 0),(1,v),(2,.i a2),(7,.i s1.1),(23,(.seq 2 (Zg D3 a0.PaShow.Incomes))),(24,(.i (Zh a0.PaShow.Incomes:Int))),(25,.i s1.2)]) (fun (q2:Unit) s1=>[]) 0 (fun r e s' H'=>PX 0 [(0,.ptr b0 0),(1,v),(2,.i a2),(7,.i r)] (H++[]) e s' H') () ho6 Z Z (fun _ _=>rfl) (fun _=>rfl) Z (fun s1=>(bdc (A8q hb0) (bdc hv.bd (bdc A4 (bdc A4 (bdc G6 (bdc A4 (bdc A4 bdn)))))))) (fun q2 s1 ys1 hs1=>?_) ?_
 ·unfold U2 at hs1
  refine s0<|A0 (I3 Z Z) Z<|es (ra8 Z Z Z Z Z Z Z Z)<|B9<|wi hs1 Z (fun hc3 hs1=>?_) fun hc3 hs1=>?_
  ·refine B8<|B9<|C5<|sg 0 Z<|oB hs1 fun x4 hx4 hs1=>A0 (D4 (f:=D3) Z Z hx4) Z<|A0 (I0 Z Z) Z<|A0 J6 Z<|O6 (G0 (ds:=(D3 x4)) Z Z Z Z (E0 Z) Z) Z<|es (ra8 Z Z Z Z Z Z Z Z)<|s0<|A0 (C3 Z) Z<|A0 (B4 Z Z Z) Z<|qm Z<|A0 (A4p Z Z) Z<|es (ra9 Z Z Z Z Z Z Z Z Z)<|wi hs1 Z (fun hc5 hs1=>?_) fun hc5 hs1=>?_
   ·refine r0<|qm Z<|A0 (C3 Z) Z<|A0 (B4 Z Z Z) Z<|A0 (D8 Z Z) Z<|qm Z<|en (ra7 Z Z Z Z Z Z Z)<|r0<|A0 (D8 Z Z) Z<|qm Z<|en (ra7 Z Z Z Z Z Z Z) ?_
    cases hs1
    exact lnT () Z (su7 Z Z Z Z Z Z Z)
   ·refine B8<|r0<|A0 (D8 Z Z) Z<|qm Z<|en (ra7 Z Z Z Z Z Z Z) ?_
    cases hs1
    exact lnT () Z (su7 Z Z Z Z Z Z Z)
  ·refine G5 ?_
   obtain rfl:=os hs1
   exact lx Z px (su4 Z Z Z Z)
 ·rintro e s' H'-⟨rfl,rfl,rfl⟩
  refine B9<|s0<|qm Z<|A0 (B72 hv Z) Z<|qm Z<|es (ra6 Z Z Z Z Z Z)<|C5<|oB h fun o13 ho13 h=>wl (fun s7=>[(0,.ptr b0 0),(2,.i a2),(7,.i s7.1),(38,v),(39,(.i (Zh a1:Int))),(40,.i s7.2)]) (fun (q8:Unit) s7=>[]) 0 (fun r e s' H'=>PX 2 [(7,.i r)] (H++[]) e s' H') () ho13 Z Z (fun _ _=>rfl) (fun _=>rfl) Z (fun s7=>(bdc (A8q hb0) (bdc A4 (bdc A4 (bdc hv.bd (bdc A4 (bdc A4 bdn))))))) (fun q8 s7 ys7 hs7=>?_) ?_
  ·unfold U3 at hs7
   refine s0<|A0 (I3 Z Z) Z<|es (ra7 Z Z Z Z Z Z Z)<|B9<|wi hs7 Z (fun hc9 hs7=>?_) fun hc9 hs7=>?_
   ·refine B8<|B9<|C5<|sg 0 Z<|oB hs7 fun x10 hx10 hs7=>qm Z<|A0 (B70 hv hx10 Z Z) Z<|A0 (C0n hv hx10 Z) Z<|A0 J6 Z<|qm Z<|O6 (G0 (ds:=(A6 x10)) Z Z Z Z (E0 Z) Z) Z<|es (ra8 Z Z Z Z Z Z Z Z)<|s0<|oB hs7 fun x11 hx11 hs7=>qm Z<|qm Z<|A0 (C9 Z Z Z) Z<|B2 (rs:=[.i x11.1,.i x11.2]) Z Z (A1 Z (A1 Z (A1 (D0 Z) B3))) ((Y9 (F3 hb0 _) hx11).frz)<|qm Z<|A0 (A7 Z Z) Z<|A0 (A7 Z Z) Z<|qm Z<|qm Z<|es (ra8 Z Z Z Z Z Z Z Z)<|s0<|qm Z<|qm Z<|A0 (A4p Z Z) Z<|es (ra8 Z Z Z Z Z Z Z Z)<|wi hs7 Z (fun hc12 hs7=>?_) fun hc12 hs7=>?_
    ·refine r0<|qm Z<|qm Z<|A0 (W1 Z Z) Z<|qm Z<|en (ra6 Z Z Z Z Z Z)<|r0<|A0 (D8 Z Z) Z<|qm Z<|en (ra6 Z Z Z Z Z Z) ?_
     cases hs7
     exact lnT () Z (su6 Z Z Z Z Z Z)
    ·refine B8<|r0<|A0 (D8 Z Z) Z<|qm Z<|en (ra6 Z Z Z Z Z Z) ?_
     cases hs7
     exact lnT () Z (su6 Z Z Z Z Z Z)
   ·refine G5 ?_
    obtain rfl:=os hs7
    exact lx Z px (su1 Z)
  ·rintro e s' H'-⟨rfl,rfl,rfl⟩
   refine s0<|qm Z<|qm Z<|es (ra1 Z)<|C6 ?_
   obtain rfl:=os h
   exact retq trivial (A8 Z B6) (A5 Z B5) (A3 A4 B1)
theorem B31 {c:Sc} {H:A2} {a0:pawn_show} {b0:Nat} (hb0:hcells H b0=some [(.seq 8 (Zg C7 a0.PaShow.Gowns)),(.seq 4 (Zg B7 a0.PaShow.Figures)),.i a0.PaShow.Purse,(.seq 2 (Zg D3 a0.PaShow.Incomes)),(.fn (.func 90) [] []),(.fn (.func 91) [] []),(.fn (.func 92) [] []),(.fn (.func 52) [] []),(.fn (.func 93) [] []),(.fn (.func 94) [] []),(.fn (.func 55) [] []),(.fn (.func 95) [] []),(.fn (.func 96) [] []),(.seq 1 (Zg cI a0.days_))]) {a1:(List PaUse)} {v:AV} (hv:SlV H v a1) {r:(Int×Int)} (h:R2 a0 a1=some r) :
  F0 tab c H (.fn (.func 66) [] []) [.ptr b0 0,v] [.i r.1,.i r.2]:= by
 unfold R2 at h
 refine cE Z Z<|s0<|qm Z<|qm Z<|es (ra3 Z Z Z)<|s0<|qm Z<|es (ra4 Z Z Z Z)<|B9<|s0<|qm Z<|A0 (B72 hv Z) Z<|qm Z<|es (ra7 Z Z Z Z Z Z Z)<|C5<|oB h fun o8 ho8 h=>wl (fun s1=>[(0,.ptr b0 0),(1,v),(4,.i s1.1),(5,.i s1.2.1),(11,v),(12,(.i (Zh a1:Int))),(13,.i s1.2.2)]) (fun (q2:Unit) s1=>[]) 0 (fun r e s' H'=>PX 0 [(4,.i r.1),(5,.i r.2)] (H++[]) e s' H') () ho8 Z Z (fun _ _=>rfl) (fun _=>rfl) Z (fun s1=>(bdc (A8q hb0) (bdc hv.bd (bdc A4 (bdc A4 (bdc hv.bd (bdc A4 (bdc A4 bdn)))))))) (fun q2 s1 ys1 hs1=>?_) ?_
 ·unfold S4 at hs1
  refine s0<|A0 (I3 Z Z) Z<|es (ra8 Z Z Z Z Z Z Z Z)<|B9<|wi hs1 Z (fun hc3 hs1=>?_) fun hc3 hs1=>?_
  ·refine B8<|B9<|C5<|sg 0 Z<|oB hs1 fun x4 hx4 hs1=>qm Z<|A0 (B70 hv hx4 Z Z) Z<|A0 (C0n hv hx4 Z) Z<|A0 J6 Z<|qm Z<|O6 (G0 (ds:=(A6 x4)) Z Z Z Z (E0 Z) Z) Z<|es (ra9 Z Z Z Z Z Z Z Z Z)<|s0<|oB hs1 fun x5 hx5 hs1=>qm Z<|qm Z<|A0 (C9 Z Z Z) Z<|B2 (rs:=[.i x5.1,.i x5.2]) Z Z (A1 Z (A1 Z (A1 (D0 Z) B3))) ((Y9 (F3 hb0 _) hx5).frz)<|qm Z<|A0 (A7 Z Z) Z<|A0 (A7 Z Z) Z<|qm Z<|qm Z<|es (ra8 Z Z Z Z Z Z Z Z)<|s0<|oB hs1 fun x6 hx6 hs1=>qm Z<|qm Z<|qm Z<|O7 (Z7 (rs:=[.i x6]) Z Z ((B43 (F3 hb0 _) hv.app hx6).frz)) Z<|qm Z<|es (ra9 Z Z Z Z Z Z Z Z Z)<|s0<|qm Z<|A0 (I3 Z Z) Z<|es (ra10 Z Z Z Z Z Z Z Z Z Z)<|wi hs1 Z (fun hc7 hs1=>?_) fun hc7 hs1=>?_
   ·refine r0<|qm Z<|qm Z<|A0 (C9i Z Z) Z<|A0 (C9g Z Z) Z<|qm Z<|qm Z<|A0 (C9g Z Z) Z<|qm Z<|qm Z<|en (ra7 Z Z Z Z Z Z Z)<|r0<|A0 (D8 Z Z) Z<|qm Z<|en (ra7 Z Z Z Z Z Z Z) ?_
    cases hs1
    exact lnT () Z (su7 Z Z Z Z Z Z Z)
   ·refine B8<|r0<|A0 (D8 Z Z) Z<|qm Z<|en (ra7 Z Z Z Z Z Z Z) ?_
    cases hs1
    exact lnT () Z (su7 Z Z Z Z Z Z Z)
  ·refine G5 ?_
   obtain rfl:=os hs1
   exact lx Z px (su2 Z Z)
 ·rintro e s' H'-⟨rfl,rfl,rfl⟩
  refine s0<|qm Z<|qm Z<|qm Z<|qm Z<|es (ra2 Z Z)<|C6 ?_
  obtain rfl:=os h
  exact retq trivial (A8 Z (A8 Z B6)) (A5 Z (A5 Z B5)) (A3 A4 (A3 A4 B1))
structure Fd where
 w:Int
 c:Int
 h:Ar3 Int
def B3d (t:PaShow) (days:List Int) (p:List PaUse) (x:Fd×Int):Option ((Fd×Int)⊕Fd) :=
 if (decide (x.2<(Zh p:Int)))=true then
  (idx p x.2).bind fun u=>(W9 (shw t days) x.2 u).bind fun y=>(idx x.1.h.l x.2).bind fun _=>(A1c).bind fun bb =>
  if ((u.Gown==bb.Gown)&&((u.How==bb.How)&&((u.Day==bb.Day)&&true)))=true then
   some (.inl (⟨w64 (x.1.w+1),w64 (x.1.c+y.1),x.1.h.set x.2 (w64 (u.Gown+1))⟩,w64 (x.2+1)))
  else some (.inl (⟨x.1.w,w64 (x.1.c+y.1),x.1.h.set x.2 (w64 (u.Gown+1))⟩,w64 (x.2+1)))
 else some (.inr x.1)
def B5u (t:PaShow) (days:List Int) (p:List PaUse):Option pawn_found :=
 (B38 24 (Zh p:Int) (PaUse.mk 0 0 0)).bind fun _ =>
 (loop (B3d t days p) (⟨0,0,⟨0,0,0⟩⟩,0)).bind fun x =>
 (R2 (shw t days) p).bind fun y=>some ⟨p,x.w,x.c,y.1,x.h⟩
def C0z (t:PaShow) (days:List Int) (σ ρ:Type) (body:pawn_found→σ→Option (σ⊕ρ)) (s:σ):Option (σ⊕ρ) :=
 B3s t days σ ρ (fun p s=>(B5u t days p).bind fun x=>body x s) s
def shF (_:Nat) (_:A2) (x:pawn_found) (v:AV):Prop:=v=.agg (C8 x)
theorem E2n {α:Type} {d m:List α} (h:d.length=m.length):cpy d m=m:= by
 unfold cpy;rw[h,Z5v,Z0n,List.drop_of_length_le (by omega),ZY]
theorem E3z {H:A2} {b:Nat} {p:Bool} {l:List PaUse} (h:harr H b=some (3,p,l.map A6)):rd H (.asl b l.length) 3 (l.map A6):=⟨by simp only[A0n,h,Zi,Z17,if_true],by simp only[kOf,h]⟩
def fnC (q:AV) (x:Fd) (s:Int):List AV:=[q,.i x.w,.i x.c,.i s,.i x.h.x0,.i x.h.x1,.i x.h.x2]
section
variable {σ ρ:Type} {t:PaShow} {days:List Int} {b bS:Nat}
theorem D6j {G:A2} {c:Sc} {v:AV} {bY:Nat} {y:AV} {p:List PaUse} {x:pawn_found} {ok:Bool} {GE:A2} (hv:∃bp pb,v=.asl bp p.length∧harr G bp=some (3,pb,p.map A6)) (h1:hcells G bS=some [.ptr b 0]) (h2:hcells G b=some (A5f t days)) (hY:hcells G bY=some [y]) (hc:c.cur≤G.length)
  (hx:B5u t days p=some x) (hcall:∀(c':Sc) (l:List AO),(∀ o∈l,o.anc=[])→T5 c (G++l)=true→c'=c→L5 tab c' (G++l) y [.agg (C8 x)] [.b ok] (GE++l)) (hsc:T5 c G=true) :
  WP tab (.block 1 (.s 3 [M 0 12 3,LE 1 13 12,q 2 14 (.mkslice 3 24 [.lit (.int .i64 0),.lit (.int .i64 0),.lit (.int .i64 0)] 13 13 0),q 3 15 (.build [.seq 3 [],.lit (.int .i64 0),.lit (.int .i64 0),.lit (.int .i64 0),.lit (.int .i64 0),.lit (.int .i64 0),.lit (.int .i64 0)] [(0,1,14)]),q 4 4 (.alloc [.nils 3,.lit (.int .i64 0),.lit (.int .i64 0),.lit (.int .i64 0),.lit (.int .i64 0),.lit (.int .i64 0),.lit (.int .i64 0)] [(0,1,3)] 2),ST 5 7 4 15] [1,2,3,4] (.s 0 [FA 0 16 0 4,L 1 17 16,M 2 18 3,q 3 19 (.copy 3 17 18)] [1,2,3,4] (.seq (.s 0 [M 0 20 3,LE 1 21 20,M 2 22 (.i 0)] [1,2,3,4,20,21,22] (.block 2 (.loop true [1,2,3,4,20,21,22] (.s 0 [B 0 23 .lss 22 21] [1,2,3,4,20,21,22,23] (.seq (.cond 23 .skip (.exit 2)) (.seq (.block 3 (.s 1 [M 0 24 22,IX 1 25 3 20 22,LK 2 26 3 25,q 3 6 (.alloc [.lit (.int .i64 0),.lit (.int .i64 0),.lit (.int .i64 0)] [] 0),M 4 5 24,ST 5 3 6 26] [1,2,3,4,5,6,20,21,22] (.s 0 [L 0 28 1,M 1 29 5,LK 2 30 3 6,CL 3 31 103 [28,29,30],M 4 27 31,EX 5 32 27 0,EX 6 33 27 1,M 7 7 32,M 8 8 33] [1,2,3,4,5,6,7,20,21,22] (.s 0 [FA 0 34 2 4,L 1 35 34,M 2 36 7,B 3 37 .add 35 36,FA 4 38 2 4,ST 5 1 38 37] [1,2,3,4,5,6,20,21,22] (.s 0 [M 0 39 5,FA 1 40 0 6,L 2 41 40,B 3 42 .add 41 (.i 1),FA 4 43 4 4,q 5 44 (.idxA 1 3 43 39),ST 6 1 44 42] [1,2,3,4,6,20,21,22] (.sd 0 [LK 0 45 3 6,CP 1 46 99 [],q 2 47 (.cmp false [0,0,0] 45 46)]
 [1,2,3,4,20,21,22,47] (.cond 47 (.g 0 [FA 0 48 1 4,L 1 49 48,B 2 50 .add 49 (.i 1),FA 3 51 1 4,ST 4 1 51 50] [1,2,3,4,20,21,22]) .skip))))))) (.g 0 [B 0 52 .add 22 (.i 1),M 1 22 52] [1,2,3,4,20,21,22]))))))) (.s 0 [L 0 54 1,M 1 55 3,q 2 56 (.call (.f 66) [54,55] [[],[],[],[],[],[],[],[],[]] false),M 3 53 56,EX 4 57 53 0,EX 5 58 53 1,FA 6 59 3 4,ST 7 1 59 57] [2,4] (.s 0 [L 0 60 2,LK 1 61 7 4,q 2 62 (.call 60 [61] [] false),q 3 63 (.un .not 62)] [63] (.cond 63 .ret .skip)))))))
   [(1,.ptr bS 0),(2,.ptr bY 0),(3,v)] G c (fun e _ H'=>e=(if ok then .normal else .ret)∧∃ l,H'=GE++l):= by
 obtain⟨bp,pb,rfl,hbp⟩:=hv
 have hGv:SlV G (.asl bp p.length) p:=.asl bp pb p hbp
 unfold B5u at hx
 refine oB hx fun p0 hp0 hx=>oB hx fun z hz hx=>oB hx fun sh hsh hx=>?_
 obtain rfl:=os hx
 have hlp:p0.length=p.length:= by obtain⟨_,rfl⟩:=C5l hp0;simp
 have hcp:=E2n hlp
 refine Z3<|C5<|sg 0 Z<|qm Z<|A0 (B72 hGv Z) Z<|A0 (B73 (f:=A6) (zt:=PaUse.mk 0 0 0) Z Z Z hp0) Z<|A0 (R4 (cs:=[.asl (G.length+0) p0.length,.i 0,.i 0,.i 0,.i 0,.i 0,.i 0]) Z Z) Z<|A0 C9d Z<|O6 (G0 (ds:=fnC (.asl (G.length+0) p0.length) ⟨0,0,⟨0,0,0⟩⟩ 0) Z Z Z Z (A2p (Nat.le_trans hc (ZL _ _))) Z) Z<|es (ra4 Z Z Z Z)<|s0<|A0 (C3 Z) Z<|A0 (B4 (x:=.asl (G.length+0) p0.length) Z Z Z) Z<|qm Z<|O7 (E02 (f:=A6) (d:=p0) (m:=p) Z Z Z Z (E3z (A10 hbp)) (fun _=>rfl)) Z ?_
 rw[hcp]
 refine es (ra4 Z Z Z Z)<|B9<|s0<|qm Z<|A0 (B72 hGv Z) Z<|qm Z<|es (ra7 Z Z Z Z Z Z Z)<|C5<|wl (fun x=>[(1,.ptr bS 0),(2,.ptr bY 0),(3,.asl bp p.length),(4,.ptr (G.length+2) 0),(20,.asl bp p.length),(21,.i p.length),(22,.i x.2)]) (fun (_:Unit) x=>[.arr 3 false (p.map A6),.arr 3 false [],.cells (fnC (.asl (G.length+0) p0.length) x.1 0)]) 3 (fun r e s' H'=>PX 2 [(1,.ptr bS 0),(2,.ptr bY 0),(3,.asl bp p.length),(4,.ptr (G.length+2) 0)] (G++[.arr 3 false (p.map A6),.arr 3 false [],.cells (fnC (.asl (G.length+0) p0.length) r 0)]) e s' H') () hz Z Z (fun _ _=>rfl) (fun _=>rfl) Z (fun _=>bdc (A8q h1) (bdc (A8q hY) (bdc hGv.bd (bdc (J7 Z) (bdc hGv.bd (bdc A4 (bdc A4 bdn))))))) (fun _ x o hs=>?_) ?_
 ·obtain⟨⟨w,cc,hd⟩,i⟩:=x
  unfold B3d at hs
  refine s0<|A0 (I3 Z Z) Z<|es (ra8 Z Z Z Z Z Z Z Z)<|B9<|wi hs Z (fun hc1 hs=>?_) fun hc1 hs=>?_
  ·refine oB hs fun u hu hs=>oB hs fun pd hpd hs=>oB hs fun ow how hs=>oB hs fun bb hbb hs=>?_
   refine B8<|B9<|C5<|sg 3 Z<|qm Z<|A0 (B70 hGv hu Z Z) Z<|A0 (C0n hGv hu Z) Z<|A0 J6 Z<|qm Z<|O6 (G0 (ds:=A6 u) Z Z Z Z (E0 Z) Z) Z<|es (ra9 Z Z Z Z Z Z Z Z Z)<|s0<|A0 (I6 Z h1 Z) Z<|qm Z<|A0 (C9 Z Z Z) Z<|B2 (rs:=[.i pd.1,.i pd.2]) Z Z (A1 Z (A1 Z (A1 (D0 Z) B3))) ((Y9 (a0:=shw t days) (F3 h2 _) hpd).frz)<|qm Z<|A0 (A7 Z Z) Z<|A0 (A7 Z Z) Z<|qm Z<|qm Z<|es (ra10 Z Z Z Z Z Z Z Z Z Z)<|s0<|A0 (C3 Z) Z<|A0 (B4 (x:=.i cc) Z Z Z) Z<|qm Z<|A0 (D8 Z Z) Z<|A0 (C3 Z) Z<|O6 (G0 (ds:=fnC (.asl (G.length+0) p0.length) ⟨w,w64 (cc+pd.1),hd⟩ 0) Z Z Z Z (E0 Z) Z) Z<|es (ra9 Z Z Z Z Z Z Z Z Z)<|s0<|qm Z<|A0 (C3 Z) Z<|A0 (B4 (x:=.i u.Gown) Z Z Z) Z<|A0 (D8 Z Z) Z<|A0 (C3 Z) Z<|A0 (D8h (e:=Ar3.l hd) Z Z Z how) Z<|O6 (D8m (f:=cI) (e:=Ar3.l hd) (e2:=Ar3.l (hd.set i (w64 (u.Gown+1)))) (z:=w64 (u.Gown+1)) (ds:=fnC (.asl (G.length+0) p0.length) ⟨w,w64 (cc+pd.1),hd.set i (w64 (u.Gown+1))⟩ 0) Z Z Z Z Z Z (fun _=>rfl) how (Ar3.set_l how) Z (E0 Z)) Z<|es (ra8 Z Z Z Z Z Z Z Z)<|s0<|A0 (C9 Z Z Z) Z<|T3 (rs:=[(.agg (A6 bb))]) Z Z A0j B3 ((A68 hbb).frz)<|A0 (C7d (a:=A6 u) (b:=A6 bb) Z Z Z Z (U9 (U9 (U9 B29)))) Z<|es (ra8 Z Z Z Z Z Z Z Z)<|wi hs Z (fun hc2 hs=>?_) fun hc2 hs=>?_
   ·refine r0<|A0 (C3 Z) Z<|A0 (B4 (x:=.i w) Z Z Z) Z<|A0 (D8 Z Z) Z<|A0 (C3 Z) Z<|O6 (G0 (ds:=fnC (.asl (G.length+0) p0.length) ⟨w64 (w+1),w64 (cc+pd.1),hd.set i (w64 (u.Gown+1))⟩ 0) Z Z Z Z (E0 Z) Z) Z<|en (ra7 Z Z Z Z Z Z Z)<|r0<|A0 (D8 Z Z) Z<|qm Z<|en (ra7 Z Z Z Z Z Z Z) ?_
    cases hs
    exact lnT () Z (su7 Z Z Z Z Z Z Z)
   ·refine B8<|r0<|A0 (D8 Z Z) Z<|qm Z<|en (ra7 Z Z Z Z Z Z Z) ?_
    cases hs
    exact lnT () Z (su7 Z Z Z Z Z Z Z)
  ·refine G5 ?_
   obtain rfl:=os hs
   exact lx Z px (su4 Z Z Z Z)
 ·rintro e s' H'-⟨rfl,rfl,rfl⟩
  have hcl:=hcall c [.arr 3 true (p.map A6),.arr 3 false [],.cells (fnC (.asl (G.length+0) p0.length) z sh.1)] (by intro o ho;simp at ho;rcases ho with rfl|rfl|rfl <;> rfl) (C7q hsc (by simp)) Z
  refine s0<|A0 (I6 Z h1 Z) Z<|qm Z<|O7 (Z7 (rs:=[.i sh.1,.i sh.2]) Z Z ((B31 (a0:=shw t days) (F3 h2 _) hGv.app hsh).frz)) Z<|qm Z<|A0 (A7 Z Z) Z<|A0 (A7 Z Z) Z<|A0 (C3 Z) Z<|O6 (G0 (ds:=fnC (.asl (G.length+0) p0.length) z sh.1) Z Z Z Z (E0 Z) Z) Z<|es (ra2 Z Z)<|s0<|A0 (I6 Z hY Z) Z<|A0 (A6b (ds:=fnC (.asl (G.length+0) p0.length) z sh.1) Z Z Z Z) Z<|O7 (U1 (rs:=[.b ok]) Z Z (A1 (E0a (B0s (E2s Z (by rw[Zi];exact hlp.symm)) (B0s Z (B0s Z (B0s Z (B0s Z (B0s Z (B0s Z E2p)))))))) B3) hcl Z) Z<|A0 (C9i Z Z) Z<|es (ra1 Z) ?_
  cases ok with
  | true=>exact T0 Z Z<|B8 ⟨Z,_,Z⟩
  | false=>exact Q5 Z Z<|C6 ⟨Z,_,Z⟩
end
theorem E0d {N:Nat} {l:A2} (h:∀o∈l,o.anc=[]):grL N l=true:= by
 unfold grL
 rw[Zq]
 intro o ho
 rw[h o ho];rfl
def B8f (t:PaShow) (days:List Int) (bS b:Nat) (H:A2):Prop:=hcells H bS=some [.ptr b 0]∧hcells H b=some (A5f t days)
theorem B8f.app {t:PaShow} {days:List Int} {bS b:Nat} {H L:A2} (h:B8f t days bS b H):B8f t days bS b (H++L):=⟨F3 h.1 _,F3 h.2 _⟩
theorem D6k {t:PaShow} {days:List Int} {bS b:Nat}:C0v tab 108 [.ptr bS 0] shF (B8f t days bS b) (C0z t days):= by
 intro σ ρ Hm N hN hpre y hyb hyc body hy a0 o ho c hc
 unfold C0z at ho
 have h1:∀x,hcells (Hm x) bS=some [.ptr b 0]:=fun x=>(hpre x).1
 have ht:∀x,hcells (Hm x) b=some (A5f t days):=fun x=>(hpre x).2
 have e:=hN (.inl a0)
 have q0:∀z L,hcells (Hm z++(AO.cells [y]::L)) (N+0)=some [y]:=fun z L=>by rw[← hN z];exact F7 Z
 have q1:∀z L,hcells (Hm z++(AO.cells [y]::.cells [.ptr b 0]::L)) (N+1)=some [.ptr b 0]:=fun z L=>by rw[← hN z];exact F7 Z
 have htk:∀z L,(Hm z++L).take N=Hm z:=fun z L=>by rw[← hN z];exact Z07
 have hl2:∀z,(Hm z++[AO.cells [y],.cells [.ptr b 0]]).length=N+2:=fun z=>by rw[Zo,hN];rfl
 have key:WP tab c108 [(0,y),(1,.ptr bS 0)] (Hm (.inl a0)++[]) ⟨(Hm (.inl a0)).length,c.cur::c.outer⟩ (B1s (Hm (.inl a0)) (Hm o) [] []):= by
  refine sg 0 Z<|A0 (G1 Z hyc Z) Z<|es (ra2 Z Z)<|s0<|A0 (I6 Z (h1 _) Z) Z<|A7m (as2:=[.ptr b 0]) (H1:=Hm (.inl a0)++[.cells [y]]) Z Z (A1 Z B3) Z Z Z (B3l Z)<|sg 1 Z<|A0 (G1 (cs:=[.ptr b 0]) Z Z Z) Z<|qm Z<|es (ra1 Z)<|s0<|A0 (A5r Z Z) Z<|qm Z<|es (ra1 Z)<|C6<|InlQ.mk trivial ⟨_,_,_,[(.fn (.func 119) [] [(.ptr ((Hm (.inl a0)).length+1) 0)])],_,(A8 Z B6),(A5 Z B5),(B3h (Y3 (B7a (Y3 (A8r Z)))) (B3g Z B7m)),?_⟩
  refine es (ra3 Z Z Z)<|C5 ?_
  refine B62 (it:=B3s t days) (sh:=shP) (pre:=B8f t days ((Hm (.inl a0)).length+1) b) (D88 (t:=t) (days:=days) (bS:=(Hm (.inl a0)).length+1) (b:=b)) (K:=N+2) [(1,.ptr bS 0),(2,.ptr ((Hm (.inl a0)).length+0) 0)] (fun z=>Hm (.inl z)++[.cells [y],.cells [.ptr b 0]]) (fun r=>Hm (.inr r)++[.cells [y],.cells [.ptr b 0]]) (fun _=>.ret) ho (fun _=>rfl) Z (fun S hS=>Q8 (live:=[1,2]) Z (by decide) (Sub.trans (su2 Z Z) hS)) Z (fun x=>hl2 _) (fun x=>hl2 _) ?_ ?_ ?_ ?_
  ·rw[e]
   exact⟨fun x z=>⟨F3 (q1 _ _) _,F3 (F3 (ht _) _) _⟩,fun x z=>⟨F3 (q1 _ _) _,F3 (F3 (ht _) _) _⟩⟩
  ·exact B2z hc (by simp) (by simp)
  ·intro c' p s o' L v hsc hgr hv hbo y0 y1 hy0 hy1
   obtain⟨j,rfl,hj⟩:=hv
   refine oB hbo fun x hx hbo=>?_
   have hGl:(Hm (.inl s)++[AO.cells [y],.cells [.ptr b 0]]++y1::L).length=N+2+1+L.length:= by rw[Zo,hl2];simp;omega
   have e4:∀z (l:List AO),Hm z++[AO.cells [y],.cells [.ptr b 0]]++y1::L++l=Hm z++(AO.cells [y]::.cells [.ptr b 0]::y1::(L++l)):=fun z l=>by simp
   refine r0<|qm Z<|en (ra3 Z Z Z) ⟨Z,L,Z,?_⟩
   have hharr:harr (Hm (.inl s)++[AO.cells [y],.cells [.ptr b 0]]++y1::L) (N+2+1+j)=some (3,false,p.map A6):= by
    have h3:(Hm (.inl s)++[AO.cells [y],.cells [.ptr b 0]]++[y1]).length=N+2+1:= by rw[Zo,hl2];rfl
    rw[show Hm (.inl s)++[AO.cells [y],.cells [.ptr b 0]]++y1::L=(Hm (.inl s)++[AO.cells [y],.cells [.ptr b 0]]++[y1])++L by simp,← h3]
    exact P9 hj
   refine A22 (D6j (t:=t) (days:=days) (x:=x) (ok:=o'.isLeft) (GE:=Hm o'++[AO.cells [y],.cells [.ptr b 0]]++y1::L) (y:=y) ⟨_,_,Z,hharr⟩ (F3 (F3 (h1 _) _) _) (F3 (F3 (ht _) _) _) (by rw[e];exact F3 (q0 _ _) _) (by rw[hGl];exact Zn _) hx (fun c2 l hl hs2 hc2=>?_) (C7q hsc (by rw[hGl];simp[hN];omega))) ?_
   ·have hsc3:T5 c2 (Hm (.inl s)++(AO.cells [y]::.cells [.ptr b 0]::y1::(L++l)))=true:= by rw[hc2,← e4];exact hs2
    rw[e4,e4]
    exact hy hsc3 (A93 Z (A93 Z (A93 hy1 (C0i (C8v (by omega) hgr) (E0d hl))))) Z hbo
   ·rintro e1 s1 H1 ⟨he,l,rfl⟩
    have htk2:∀z,(Hm z++[AO.cells [y],.cells [.ptr b 0]]++y1::L++l).take (N+2+1+L.length)=Hm z++[AO.cells [y],.cells [.ptr b 0]]++y1::L:=fun z=>by
     have:(Hm z++[AO.cells [y],.cells [.ptr b 0]]++y1::L).length=N+2+1+L.length:= by rw[Zo,hl2];simp;omega
     rw[← this];exact Z07
    cases o' with
    | inl s'=>exact⟨he,htk2 _⟩
    | inr r=>exact⟨he,htk2 _⟩
  ·rw[e]
   cases o with
   | inl s' =>
    show B1s _ _ _ _ .normal _ _
    refine C25 trivial Z Z Z ?_
    rw[ZB,e];exact htk _ _
   | inr r =>
    show B1s _ _ _ _ .ret _ _
    refine C25 trivial Z Z Z ?_
    rw[ZB,e];exact htk _ _
 rw[ZY]at key
 exact A1x (aq:=[y,.ptr bS 0]) Z Z Z key
def B9b (t:PaShow) (days:List Int) (σ ρ:Type) (body:pawn_found→σ→Option (σ⊕ρ)) (s:σ):Option (σ⊕ρ) :=
 C0z t days σ ρ (fun x s=>if (decide (x.short_>0))=true then some (.inl s) else body x s) s
theorem D14 {t:PaShow} {days:List Int} {bS b:Nat}:C0v tab 106 [.ptr bS 0] shF (B8f t days bS b) (B9b t days):= by
 intro σ ρ Hm N hN hpre y hyb hyc body hy a0 o ho c hc
 unfold B9b at ho
 have h1:∀x,hcells (Hm x) bS=some [.ptr b 0]:=fun x=>(hpre x).1
 have ht:∀x,hcells (Hm x) b=some (A5f t days):=fun x=>(hpre x).2
 have e:=hN (.inl a0)
 have q0:∀z L,hcells (Hm z++(AO.cells [y]::L)) (N+0)=some [y]:=fun z L=>by rw[← hN z];exact F7 Z
 have q1:∀z L,hcells (Hm z++(AO.cells [y]::.cells [.ptr b 0]::L)) (N+1)=some [.ptr b 0]:=fun z L=>by rw[← hN z];exact F7 Z
 have htk:∀z L,(Hm z++L).take N=Hm z:=fun z L=>by rw[← hN z];exact Z07
 have hl2:∀z,(Hm z++[AO.cells [y],.cells [.ptr b 0]]).length=N+2:=fun z=>by rw[Zo,hN];rfl
 have key:WP tab c106 [(0,y),(1,.ptr bS 0)] (Hm (.inl a0)++[]) ⟨(Hm (.inl a0)).length,c.cur::c.outer⟩ (B1s (Hm (.inl a0)) (Hm o) [] []):= by
  refine sg 0 Z<|A0 (G1 Z hyc Z) Z<|es (ra2 Z Z)<|D4k<|B9<|B8<|s0<|A0 (I6 Z (h1 _) Z) Z<|A7m (as2:=[.ptr b 0]) (H1:=Hm (.inl a0)++[.cells [y]]) Z Z (A1 Z B3) Z Z Z (B3l Z)<|sg 1 Z<|A0 (G1 (cs:=[.ptr b 0]) Z Z Z) Z<|qm Z<|es (ra1 Z)<|s0<|A0 (A5r Z Z) Z<|qm Z<|es (ra1 Z)<|C6<|InlQ.mk trivial ⟨_,_,_,[(.fn (.func 108) [] [(.ptr ((Hm (.inl a0)).length+1) 0)])],_,(A8 Z B6),(A5 Z B5),(B3h (Y3 (B7a (Y3 (A8r Z)))) (B3g Z B7m)),?_⟩
  refine es (ra2 Z Z)<|C5 ?_
  refine B62 (it:=C0z t days) (sh:=shF) (pre:=B8f t days ((Hm (.inl a0)).length+1) b) (D6k (t:=t) (days:=days) (bS:=(Hm (.inl a0)).length+1) (b:=b)) (K:=N+2) [(2,.ptr ((Hm (.inl a0)).length+0) 0)] (fun z=>Hm (.inl z)++[.cells [y],.cells [.ptr b 0]]) (fun r=>Hm (.inr r)++[.cells [y],.cells [.ptr b 0]]) (fun _=>.ret) ho (fun _=>rfl) Z (fun S hS=>Q8 (live:=[2]) Z (by decide) (Sub.trans (su1 Z) hS)) Z (fun x=>hl2 _) (fun x=>hl2 _) ?_ ?_ ?_ ?_
  ·rw[e]
   exact⟨fun x z=>⟨F3 (q1 _ _) _,F3 (F3 (ht _) _) _⟩,fun x z=>⟨F3 (q1 _ _) _,F3 (F3 (ht _) _) _⟩⟩
  ·exact B2z hc (by simp) (by simp)
  ·intro c' x s o' L v hsc hgr hv hbo y0 y1 hy0 hy1
   obtain rfl:v=.agg (C8 x):=hv
   have hGl:∀z z1,(Hm z++[AO.cells [y],.cells [.ptr b 0]]++z1::L).length=N+2+1+L.length:=fun z z1=>by rw[Zo,hl2];simp;omega
   have e4:∀z (l:List AO),Hm z++[AO.cells [y],.cells [.ptr b 0]]++y1::L++l=Hm z++(AO.cells [y]::.cells [.ptr b 0]::y1::(L++l)):=fun z l=>by simp
   have htk2:∀z l,(Hm z++[AO.cells [y],.cells [.ptr b 0]]++y1::L++l).take (N+2+1+L.length)=Hm z++[AO.cells [y],.cells [.ptr b 0]]++y1::L:=fun z l=>by
    rw[← hGl z y1];exact Z07
   refine Z3<|rg 0 Z<|A0 J6 Z<|O6 (G0 (ds:=C8 x) Z Z Z Z (A2p (by rw[hGl];exact ZL _ _)) Z) Z<|en (ra2 Z Z) ⟨Z,L++[.cells (C8 x)],by simp,?_⟩
   refine B9q (show _=(Hm (.inl s)++[AO.cells [y],.cells [.ptr b 0]]++y1::L)++[.cells (C8 x)] by simp) ?_
   have q8:ev [(2,AV.ptr ((Hm (.inl a0)).length+0) 0),(3,.ptr ((Hm (.inl s)++[AO.cells [y],.cells [.ptr b 0]]++y0::L).length+(0+0)) 0)] (.t 3)=some (.ptr ((Hm (.inl s)++[AO.cells [y],.cells [.ptr b 0]]++y1::L).length+0) 0):= by
    show some _=some _
    rw[hGl,hGl]
   rw[show (AV.ptr ((Hm (.inl s)++[AO.cells [y],.cells [.ptr b 0]]++y0::L).length+(0+0)) 0)=.ptr ((Hm (.inl s)++[AO.cells [y],.cells [.ptr b 0]]++y1::L).length+0) 0 by rw[hGl,hGl]]
   refine C5<|B9<|s0<|A0 (C3 Z) Z<|A0 (B4 (x:=.i x.short_) Z Z Z) Z<|A0 (W0 Z Z) Z<|es (ra3 Z Z Z)<|wi hbo Z (fun hc2 hbo=>?_) fun hc2 hbo=>?_
   ·cases hbo
    exact G5 ⟨Z,htk2 _ _⟩
   ·have hcl:L5 tab ⟨N+2+1+L.length,c'⟩ (Hm (.inl s)++[AO.cells [y],.cells [.ptr b 0]]++y1::L++[.cells (C8 x)]) y [.agg (C8 x)] [.b o'.isLeft] (Hm o'++[AO.cells [y],.cells [.ptr b 0]]++y1::L++[.cells (C8 x)]):= by
     have hsc3:T5 ⟨N+2+1+L.length,c'⟩ (Hm (.inl s)++(AO.cells [y]::.cells [.ptr b 0]::y1::(L++[.cells (C8 x)])))=true:= by
      rw[← e4]
      exact C7q hsc (by simp only[Zo,ZT,Z3i];omega)
     rw[e4,e4]
     exact hy hsc3 (A93 Z (A93 Z (A93 hy1 (C0i (C8v (by omega) hgr) Z)))) Z hbo
    refine B8<|s0<|A0 (I6 (x:=y) Z (by rw[e];exact F3 (q0 _ _) _) Z) Z<|A0 (C9 Z Z Z) Z<|O7 (U1 (rs:=[.b o'.isLeft]) Z Z (A1 (D0 Z) B3) hcl Z) Z<|A0 (C9i Z Z) Z<|es (ra1 Z) ?_
    cases o' with
    | inl s'=>exact T0 Z Z<|B8 ⟨Z,htk2 _ _⟩
    | inr r=>exact Q5 Z Z<|C6 ⟨Z,htk2 _ _⟩
  ·rw[e]
   cases o with
   | inl s' =>
    show B1s _ _ _ _ .normal _ _
    refine C25 trivial Z Z Z ?_
    rw[ZB,e];exact htk _ _
   | inr r =>
    show B1s _ _ _ _ .ret _ _
    refine C25 trivial Z Z Z ?_
    rw[ZB,e];exact htk _ _
 rw[ZY]at key
 exact A1x (aq:=[y,.ptr bS 0]) Z Z Z key
end Pw
end
section
set_option maxRecDepth 100000
set_option maxHeartbeats 0
namespace Pw
open Go Am Go.Proofs.YtjpjdglddmhplaaGreat.Cd
def fnd0:pawn_found:=⟨[],0,0,0,⟨0,0,0⟩⟩
def C4l (g:pawn_found→pawn_found→Option Int) (x:pawn_found) (s:pawn_found×Bool):Option ((pawn_found×Bool)⊕Unit) :=
 (if (!s.2)=true then some true else (g x s.1).bind fun r=>some (decide (r<0))).bind fun z =>
 if z=true then some (.inl (x,true)) else some (.inl s)
abbrev It:=∀ (σ ρ:Type),(pawn_found→σ→Option (σ⊕ρ))→σ→Option (σ⊕ρ)
def C04 (it:It) (g:pawn_found→pawn_found→Option Int):Option (pawn_found×Bool) :=
 (it (pawn_found×Bool) Unit (C4l g) (fnd0,false)).bind fun o=>match o with
  | .inl s=>some s
  | .inr _=>none
def bM (ig:Nat) (s:pawn_found×Bool):List AO:=[.cells [.fn (.func ig) [] []],.cells (C8 s.1),.cells [.b s.2]]
theorem C6j {c:Sc} {H:A2} {i ig bS b:Nat} {t:PaShow} {days:List Int} {it:It} {g:pawn_found→pawn_found→Option Int} {r:pawn_found×Bool} (hit:C0v tab i [.ptr bS 0] shF (B8f t days bS b) it)
  (hg:∀{c:Sc} {H:A2} {x y:pawn_found} {r:Int},g x y=some r→A0f tab c H (.fn (.func ig) [] []) [.agg (C8 x),.agg (C8 y)] [.i r]) (hpre:B8f t days bS b H) (hscv:T5 c H=true) (h:C04 it g=some r) :
  A0f tab c H (.fn (.func 69) [] []) [.fn (.func i) [] [.ptr bS 0],.fn (.func ig) [] []] [.agg (C8 r.1),.b r.2]:= by
 unfold C04 at h
 refine oB h fun o ho h=>?_
 have hl3:∀s,(H++bM ig s).length=H.length+3:=fun s=>by rw[Zo];rfl
 refine cF Z Z<|sg 0 Z<|A0 (G1 (cs:=[.fn (.func ig) [] []]) Z Z Z) Z<|A0 J6 Z<|A0 J6 Z<|es (ra4 Z Z Z Z)<|B9<|s0<|qm Z<|es (ra4 Z Z Z Z)<|C5 ?_
 refine B62 (it:=it) (sh:=shF) (pre:=B8f t days bS b) hit (K:=H.length+3) [(3,.ptr (H.length+0) 0),(4,.ptr (H.length+1) 0),(5,.ptr (H.length+2) 0)] (fun s=>H++bM ig s) (fun (_:Unit)=>H++bM ig (fnd0,false)) (fun _=>.ret) ho (fun _=>rfl) Z (fun S hS=>Q8 (live:=[3,4,5]) Z (by decide) (Sub.trans (su3 Z Z Z) hS)) Z (fun _=>hl3 _) (fun _=>hl3 _) ⟨fun _ _=>by rw[ZB];exact hpre.app,fun _ _=>by rw[ZB];exact hpre.app⟩ (A1w hscv) (fun c' x s o' L v hsc hgr hv hbo y0 y1 hy0 hy1=>?_) ?_
 ·obtain rfl:v=.agg (C8 x):=hv
  have hGl:∀s z,(H++bM ig s++z::L).length=H.length+3+1+L.length:=fun s z=>by rw[Zo,hl3];simp;omega
  refine Z3<|rg 0 Z<|A0 J6 Z<|O6 (G0 (ds:=C8 x) Z Z Z Z (A2p (by rw[hGl];exact ZL _ _)) Z) Z<|en (ra4 Z Z Z Z) ⟨Z,L++[.cells (C8 x)],by simp,?_⟩
  refine B9q (show _=H++(.cells [.fn (.func ig) [] []]::.cells (C8 s.1)::.cells [.b s.2]::y1::(L++[AO.cells (C8 x)])) by simp[bM]) ?_
  rw[show (AV.ptr ((H++bM ig s++y0::L).length+(0+0)) 0)=.ptr (H.length+3+1+L.length) 0 by rw[hGl];rfl]
  have q6:∀s':pawn_found×Bool,hcells (H++(.cells [.fn (.func ig) [] []]::.cells (C8 s'.1)::.cells [.b s'.2]::y1::(L++[AO.cells (C8 x)]))) (H.length+3+1+L.length)=some (C8 x):=fun s'=>by
   rw[show H++(.cells [.fn (.func ig) [] []]::.cells (C8 s'.1)::.cells [.b s'.2]::y1::(L++[AO.cells (C8 x)]))=(H++bM ig s'++y1::L)++[AO.cells (C8 x)] by simp[bM],← hGl s' y1]
   exact F7 (j:=0) Z
  have htk:∀(s':pawn_found×Bool),(H++(.cells [.fn (.func ig) [] []]::.cells (C8 s'.1)::.cells [.b s'.2]::y1::(L++[AO.cells (C8 x)]))).take (H.length+3+1+L.length)=H++bM ig s'++y1::L:=fun s'=>by
   rw[show H++(.cells [.fn (.func ig) [] []]::.cells (C8 s'.1)::.cells [.b s'.2]::y1::(L++[AO.cells (C8 x)]))=(H++bM ig s'++y1::L)++[AO.cells (C8 x)] by simp[bM],← hGl s' y1]
   exact Z07
  unfold C4l at hbo
  refine oB hbo fun z hz hbo=>?_
  refine C5<|s0<|A0 (B4 (x:=.b s.2) Z Z Z) Z<|A0 (C9i Z Z) Z<|qm Z<|gp 6 17 (.b z) 11 Z Z (fun hc1=>?_) (fun hc1=>?_) ?_
  ·obtain rfl:=os (bt hz hc1)
   exact nF Z hc1 Z<|nF Z hc1 Z<|nF Z hc1 Z<|G4 (D2 Z (by rw[hc1];rfl)) Z<|nF Z hc1 Z<|A0 (C1 Z hc1 Z) Z<|ge 6 Z Z Z
  ·refine oB (bf hz hc1) fun q hq hz=>?_
   obtain rfl:=os hz
   exact gF Z hc1<|A0 (B4 (x:=.fn (.func ig) [] []) Z Z Z) Z<|gF Z hc1<|A0 (A98 (ds:=C8 x) Z (q6 s) Z Z) Z<|gF Z hc1<|A0 (A6b (ds:=C8 s.1) Z Z Z Z) Z<|gF Z hc1<|B2 (rs:=[.i q]) Z Z (A1 (D0 Z) (A1 (D0 Z) B3)) (hg hq)<|gF Z hc1<|A0 (I3 Z Z) Z<|A0 (C0 Z hc1 Z) Z<|ge 6 Z Z Z
  ·refine es (ra4 Z Z Z Z)<|wi hbo Z (fun hc2 hbo=>?_) fun hc2 hbo=>?_
   ·cases hbo
    refine r0<|A0 (A98 (ds:=C8 x) Z (q6 s) Z Z) Z<|O6 (G0 (j:=1) (ds:=C8 x) Z Z Z Z (E0 Z) Z) Z<|O6 (G0 (j:=2) (ds:=[.b true]) Z Z Z Z (E0 Z) Z) Z<|en .n ⟨Z,htk (x,true)⟩
   ·cases hbo
    exact B8 ⟨Z,htk s⟩
 ·rcases o with s|s
  ·obtain rfl:=os h
   refine B9q (show _=H++[.cells [.fn (.func ig) [] []],.cells (C8 s.1),.cells [.b s.2],.dead] by simp[bM]) ?_
   refine s0<|A0 (A6b (ds:=C8 s.1) Z Z Z Z) Z<|C0o [2] [.cells [.fn (.func ig) [] []],.cells (C8 s.1),.cells [.b s.2],.dead] (O2 [] rfl (B3z Z B0w H7) Z Z) (seen0 Z) (G0 (j:=1) (ds:=C8 s.1) Z Z Z Z (E0 Z) Z) Z Z Z<|J3 [] (O2 [] rfl H7 Z Z) (C0r (b:=H.length+2) Z (B3x (A63 _ Z) B6x)) (B4 (x:=.b s.2) Z Z Z) Z<|O6 (G0 (j:=2) (ds:=[.b s.2]) Z Z Z Z (E0 Z) Z) Z<|es (ra2 Z Z)<|C6 ?_
   exact⟨_,retq trivial (B3v (A6b (ds:=C8 s.1) Z Z Z Z) (B3v (B4 (x:=.b s.2) Z Z Z) B6)) (A5 (B79 Z) (A5 Z B5)) (A3 (B69 Z) (A3 A4 B1)),Z⟩
  ·cases h
end Pw
namespace Am
open Go
theorem C0v.it {α:Type} {T:Tab} {i:Nat} {fc:List AV} {ea:α→AV} {pre:A2→Prop} {it:∀(σ ρ:Type),(α→σ→Option (σ⊕ρ))→σ→Option (σ⊕ρ)} (h:C0v T i fc (fun _ _ x v=>v=ea x) pre it):E4o T i fc ea pre it :=
 fun Hm N h1 h2 y hb hc body hy _ _ ho _ hs=>h Hm N h1 h2 y hb hc body (fun a b d e=>by subst d;exact hy a b e) ho hs
end Am
end
section
set_option maxRecDepth 100000
set_option maxHeartbeats 0
namespace Pw
open Go Am Go.Proofs.YtjpjdglddmhplaaGreat.Cd
def S3 (a0:PaShow):Option ((List PaUse)×Int×Int×Int) :=
 (A32 a0).bind fun x1 =>
 if (x1.1==0)=true then
  (C04 (B9b a0 x1.2) A6n).bind fun x4 =>
  some (x4.1.plan_,x4.1.without_,x4.1.cost_,0)
 else
  some (([]:List PaUse),0,0,x1.1)
theorem V1 {c:Sc} {H:A2} (hscv:T5 c H=true) {a0:PaShow} {r:((List PaUse)×Int×Int×Int)} (h:S3 a0=some r) :
  F0 tab c H (.fn (.func 26) [] []) [(.agg (A9 a0))] [(.seq 3 (Zg A6 r.1)),.i r.2.1,.i r.2.2.1,.i r.2.2.2]:= by
 unfold S3 at h
 refine cE Z Z<|sg 0 Z<|A0 (G1 (cs:=A9 a0) Z Z Z) Z<|qm Z<|qm Z<|qm Z<|qm Z<|es (ra1 Z)<|s0<|oB h fun x1 hx1 h=>A0 (C9 Z Z Z) Z ?_
 by_cases hc2:(x1.1==0)=true
 ·rw[if_pos hc2]at h
  obtain⟨X3,hX3⟩:=A4g hx1 hc2
  refine O7 (A6e hX3 Z Z (A1 (D0 Z) B3) Z) Z<|qm Z<|A0 (A7 Z Z) Z<|A0 (A7 Z Z) Z<|qm Z<|qm Z<|es (ra2 Z Z)<|B9<|s0<|qm Z<|A0 (R8 (v:=(.b false)) Z Z Z) Z<|es (ra3 Z Z Z)<|T0 Z Z<|B8<|sg 4 Z<|qm Z<|A7m (as2:=[(.ptr (H.length+3) 0)]) (H1:=(H++[(.cells (A9 a0)),(.cells (A9 a0)),X3,(.cells [(.seq 8 (Zg C7 a0.Gowns)),(.seq 4 (Zg B7 a0.Figures)),.i a0.Purse,(.seq 2 (Zg D3 a0.Incomes)),(.fn (.func 90) [] []),(.fn (.func 91) [] []),(.fn (.func 92) [] []),(.fn (.func 52) [] []),(.fn (.func 93) [] []),(.fn (.func 94) [] []),(.fn (.func 55) [] []),(.fn (.func 95) [] []),(.fn (.func 96) [] []),(.seq 1 (Zg cI x1.2))]),.dead])) Z Z (A1 Z B3) Z Z Z (B3l Z)<|sg 5 Z<|A0 (G1 (cs:=[(.ptr (H.length+3) 0)]) Z Z Z) Z<|qm Z<|es (ra1 Z)<|s0<|A0 (A5r Z Z) Z<|qm Z<|es (ra1 Z)<|C6<|InlQ.mk trivial ⟨_,_,_,[(.fn (.func 106) [] [(.ptr (H.length+5) 0)])],_,(A8 Z B6),(A5 Z B5),(B3h (Y3 (B7a (Y3 (A8r Z)))) (B3g Z B7m)),?_⟩
  refine oB h fun x4 hx4 h=>B2 (rs:=[(.agg (C8 x4.1)),.b x4.2]) Z Z (A1 Z (A1 Z B3)) (C6j (D14 (t:=a0) (days:=x1.2) (bS:=H.length+5) (b:=H.length+3)) (fun h=>(C2g h).frz) (ZE (F7 Z) (F7 Z)) (A1w hscv) hx4)<|qm Z<|A0 (A7 Z Z) Z<|A0 (A7 Z Z) Z<|A0 J6 Z<|O6 (G0 (ds:=(C8 x4.1)) Z Z Z Z (E0 Z) Z) Z<|qm Z<|es (ra1 Z)<|s0<|A0 (C3 Z) Z<|A0 (B4 Z Z Z) Z<|A0 (C3 Z) Z<|A0 (B4 Z Z Z) Z<|A0 (C3 Z) Z<|A0 (B4 Z Z Z) Z<|qm Z<|qm Z<|qm Z<|qm Z<|es (ra4 Z Z Z Z)<|C6 ?_
  obtain rfl:=os h
  exact retq trivial (A8 Z (A8 Z (A8 Z (A8 Z B6)))) (A5 Z (A5 Z (A5 Z (A5 Z B5)))) (A3 G6 (A3 A4 (A3 A4 (A3 A4 B1))))
 ·rw[if_neg hc2]at h
  refine O7 (U1 (rs:=[.lit (.pointer none),.i x1.1]) Z Z (A1 (D0 Z) B3) (A5i hx1 (by simpa using hc2)) Z) Z<|qm Z<|A0 (A7 Z Z) Z<|A0 (A7 Z Z) Z<|qm Z<|qm Z<|es (ra2 Z Z)<|B9<|s0<|qm Z<|A0 (H9 Z Z) Z<|es (ra3 Z Z Z)<|Q5 Z (nef hc2)<|s0<|qm Z<|qm Z<|qm Z<|qm Z<|qm Z<|es (ra4 Z Z Z Z)<|C6 ?_
  obtain rfl:=os h
  exact retq trivial (A8 Z (A8 Z (A8 Z (A8 Z B6)))) (A5 Z (A5 Z (A5 Z (A5 Z B5)))) (A3 G6 (A3 A4 (A3 A4 (A3 A4 B1))))
def A1q (a0:PaUse) (a1:Int):Option Bool :=
 some ((a0.Gown==a1)&&(a0.How==1))
theorem B2l {c:Sc} {H:A2} {a0:PaUse} {a1:Int} {b1:Nat} (hb1:hcells H b1=some (cI a1)) {r:Bool} (h:A1q a0 a1=some r) :
  F0 tab c H (.fn (.func 105) [] []) [(.agg (A6 a0)),.ptr b1 0] [.b r]:= by
 unfold A1q at h
 refine cE Z Z<|sg 0 Z<|A0 (G1 (cs:=A6 a0) Z Z Z) Z<|qm Z<|es (ra2 Z Z)<|s0<|A0 (C3 Z) Z<|A0 (B4 Z Z Z) Z<|A0 (I6 Z hb1 Z) Z<|A0 (F9 Z Z) Z<|qm Z<|gp 4 12 (.b ((a0.Gown==a1)&&(a0.How==1))) 8 Z Z (fun hg1=>?_) (fun hg1=>?_) ?_
 ·exact gT Z hg1<|A0 (C3 Z) Z<|gT Z hg1<|A0 (B4 Z Z Z) Z<|gT Z hg1<|A0 (F9 Z Z) Z<|A0 (C1 Z hg1 Z) Z<|ge 4 (by rw[hg1];rfl) Z Z
 ·exact nT Z hg1 Z<|nT Z hg1 Z<|nT Z hg1 Z<|A0 (C0 Z hg1 Z) Z<|ge 4 (by rw[hg1];rfl) Z Z
 refine qm Z<|es (ra1 Z)<|C6 ?_
 obtain rfl:=os h
 exact retq trivial (A8 Z B6) (A5 Z B5) (A3 A4 B1)
def A6z (a0:pawn_show) (a1:(List PaUse)) (a2:Int):Option Bool :=
 (G8 a1 (fun (y:PaUse)=>A1q y a2)).bind fun x1 =>
 some x1
theorem B41 {c:Sc} {H:A2} {a0:pawn_show} {b0:Nat} (hb0:hcells H b0=some [(.seq 8 (Zg C7 a0.PaShow.Gowns)),(.seq 4 (Zg B7 a0.PaShow.Figures)),.i a0.PaShow.Purse,(.seq 2 (Zg D3 a0.PaShow.Incomes)),(.fn (.func 90) [] []),(.fn (.func 91) [] []),(.fn (.func 92) [] []),(.fn (.func 52) [] []),(.fn (.func 93) [] []),(.fn (.func 94) [] []),(.fn (.func 55) [] []),(.fn (.func 95) [] []),(.fn (.func 96) [] []),(.seq 1 (Zg cI a0.days_))]) {a1:(List PaUse)} {a2:Int} {r:Bool} (h:A6z a0 a1 a2=some r) :
  F0 tab c H (.fn (.func 68) [] []) [.ptr b0 0,(.seq 3 (Zg A6 a1)),.i a2] [.b r]:= by
 unfold A6z at h
 refine cE Z Z<|sg 0 Z<|A0 (G1 (cs:=cI a2) Z Z Z) Z<|qm Z<|es (ra2 Z Z)<|s0<|oB h fun x1 hx1 h=>qm Z<|A0 (A5r Z Z) Z<|B2 (rs:=[.b x1]) Z Z (A1 Z (A1 Z B3)) ((A0v (show Impl _ _ 105 [] [(.ptr (H.length+0) 0)] (fun (y:PaUse)=>A1q y a2) (fun (y:PaUse)=>[(.agg (A6 y))]) (fun (y:Bool)=>[.b y]) from ⟨⟨B1,(by rw[Zo];exact(A3 (J7 Z) B1))⟩,fun H' hle hag c y r hr=>(A5g (B2l (hag _ _ (F7 Z)) hr)).frz⟩) hx1).frz)<|qm Z<|es (ra1 Z)<|C6 ?_
 obtain rfl:=os h
 exact retq trivial (A8 Z B6) (A5 Z B5) (A3 A4 B1)
end Pw
end
