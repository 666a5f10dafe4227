/- Texts that the claim stands on, one behind another. -/
import Derived.Test.YtjpjdglddmhplaaA5
import Derived.Laws.RangeAny
set_option linter.unusedVariables false
set_option linter.unusedSimpArgs false
set_option linter.unnecessarySimpa false
open And renaming intro→ZO
open Array renaming length_toList→Z0f
open Bool renaming and_eq_true→Zc,and_true→Z2y,eq_iff_iff→Z0s,false_eq_true→Zj,not_eq_true'→Z02,not_not→Z3w,not_true→Z1e,or_eq_false_iff→Z1t,or_eq_true→Z0q,or_false→Z5j,or_true→Z1n
open Int renaming add_zero→Z4v,le_refl→ZR,mul_le_mul→Z5h,mul_nonneg→Z5g,natCast_nonneg→Z0t,tdiv_eq_ediv_of_nonneg→Z2l,tdiv→Z5l,tmod_eq_emod_of_nonneg→Z3n,toNat_natCast→ZL,toNat_zero→Z4g
open List renaming all_eq_true→Zq,any_eq_true→Z31,any_map→Z4u,append_assoc→Zz,append_nil→ZZ,cons_append→Z0d,drop_of_length_le→Z2b,drop_zero→Z0z,drop→Z4t,foldl_cons→Z11,getElem?_eq_getElem→Zm,getElem?_eq_some_iff→Ze,getElem?_map→ZK,getElem?_take_of_lt→ZM,getElem?_toArray→Z0o,getElem_mem→Z1y,getElem_set_self→Z4h,head?_cons→Z2a,length_append→Zp,length_cons→ZX,length_map→Zi,length_nil→Z3b,length_set→Z0p,length_take→ZE,length→Zh,map_append→Z01,map_cons→Zt,map→Zd,mem_append→ZA,mem_cons_of_mem→ZB,mem_cons_self→ZC,mem_cons→Zv,mem_filter→Z0k,mem_iff_getElem→ZW,mem_map→ZJ,mem_of_mem_take→Z05,mem_singleton→Z14,mem_take_iff_getElem→Z0b,pairwise_append→Z0v,pairwise_cons→Z26,pairwise_iff_getElem→Z0a,perm_append_comm→Z36,range→Z09,replicate→Zu,set_append_right→Z0i,set_eq_of_length_le→Z1j,take_left→Z07,take_length→Z1f,take_of_length_le→ZP,take_set→Z2x,take_succ_eq_append_getElem→ZY,take_take→Z3i
open Nat renaming beq_refl→Z0x,ble_eq_true_of_le→Zk,ble→ZG,blt→ZU,div_le_self→Z5c,le_add_right→Zx,le_of_ble_eq_true→Zo,le_of_lt→Z3x,le_refl→Zn,le_succ→Z5p,min_eq_left→Z1a,min_self→Z5k,mul_le_mul→Z2u,sub_self→Z2e,zero_add→Z1c
open Option renaming bind_some→Zg,map_some→Zb,some_inj→Z5b
open Option.some renaming injEq→Za,inj→Z06
open Prod renaming fst→Z33
open Sum renaming inl→Z5f
section
namespace Pw
open Go Am
instance:Inhabited PaGown:=⟨⟨ByteArray.empty,0,false,0,0,0,0,0⟩⟩
instance:Inhabited PaFigure:=⟨⟨ByteArray.empty,0,0,0⟩⟩
instance:Inhabited PaIncome:=⟨⟨0,0⟩⟩
instance:Inhabited PaUse:=⟨⟨0,0,0⟩⟩
def D0y (s:ByteArray) (i:Nat):Bool :=
 !(decide (97≤s[i]!.toNat)&&decide (s[i]!.toNat≤122))&&(i==0||!((decide (48≤s[i]!.toNat)&&decide (s[i]!.toNat≤57))||s[i]!.toNat==46))
def bad (s:ByteArray) (i:Nat):Option Unit:=if D0y s i then some () else none
def A1h (s:ByteArray):Bool:=(!(s.size==0)&&decide (s.size≤16))&&(first (bad s) s.size).isNone
theorem nd97 {x:Nat}:decide ((97:Int)≤(x:Int))=decide (97≤x):=decide_eq_decide.mpr (by omega)
theorem nd122 {x:Nat}:decide ((x:Int)≤122)=decide (x≤122):=decide_eq_decide.mpr (by omega)
theorem nd48 {x:Nat}:decide ((48:Int)≤(x:Int))=decide (48≤x):=decide_eq_decide.mpr (by omega)
theorem nd57 {x:Nat}:decide ((x:Int)≤57)=decide (x≤57):=decide_eq_decide.mpr (by omega)
theorem nl48 {x:Nat}:decide ((x:Int)<48) = !decide (48≤x):= by rw[Z0s];simp;omega
theorem nl57 {x:Nat}:decide ((57:Int)<(x:Int)) = !decide (x≤57):= by rw[Z0s];simp;omega
theorem nz0 {x:Nat}:((x:Int)==0)=(x==0):= by rw[Z0s];simp
theorem n46 {x:Nat}:((x:Int)==46)=(x==46):= by rw[Z0s];simp;omega
theorem n46' {x:Nat}:((x:Int)==46)=(x==46):=n46
theorem D0g {s:ByteArray} {i:Nat} (h:i<s.size):B2k s (i:Int)=some (s[i]!.toNat:Int):= by
 unfold B2k
 rw[if_pos (Z0t i),ZL,getElem?_pos s i h,getElem!_pos s i h];rfl
theorem B9e (s:ByteArray):A4y s=some (A1h s):= by
 unfold A4y A1h
 by_cases h0:s.size=0
 ·rw[if_pos (by simp[h0])];simp[h0]
 by_cases h1:s.size>16
 ·rw[if_pos (by simp;omega)]
  have:decide (s.size≤16)=false:= by simp;omega
  rw[this];simp
 rw[if_neg (by simp only[Z0q,beq_iff_eq,decide_eq_true_eq];omega)]
 have hl:loop (A06 s) 0=some ((first (fun i=>(bad s i).map fun _=>(Z5f false:Bool⊕Unit)) s.size).getD (.inr ())):= by
  refine B5u s.size _ _ (by omega) ?_ ?_
  ·intro i hi _
   unfold A06
   rw[if_pos (by simpa using hi),D0g hi]
   have hb:s[i]!.toNat<256:=s[i]!.toNat_lt
   generalize hx:s[i]!.toNat=x at hb
   simp only[Zg,A2b,F5 (n:=(x:Int)) (by omega),ge_iff_le,nd97,nd122,nd48,nd57,nz0,n46]
   unfold bad D0y
   rw[hx]
   generalize decide (97≤x)=b1
   generalize decide (x≤122)=b2
   generalize decide (48≤x)=b3
   generalize decide (x≤57)=b4
   generalize (x==46)=b5
   generalize (i==0)=b6
   cases b1 <;> cases b2 <;> cases b3 <;> cases b4 <;> cases b5 <;> cases b6 <;> rfl
  ·unfold A06
   rw[if_neg (by simp)]
 rw[hl]
 cases hf:first (bad s) s.size with
 | none =>
  have:=J5.mp hf
  rw[J5.mpr fun i hi=>by rw[this i hi];rfl]
  have e1:(s.size==0)=false:= by rw[beq_eq_false_iff_ne];exact h0
  have e2:decide (s.size≤16)=true:=decide_eq_true (by omega)
  rw[e1,e2];rfl
 | some u =>
  obtain⟨i,hi,h2,h3⟩:=U8 hf
  rw[A74 (r:=.inl false) hi (by rw[h2];rfl) fun j hj=>by rw[h3 j hj];rfl]
  simp
theorem A9v (s:ByteArray) (hs:s.size<9223372036854775808):A2p s=some (A1h s):= by
 unfold A2p A1h
 have hl:loop (A02 s) (0:Nat)=some ((first (fun i=>(bad s i).map fun _=>(Z5f false:Bool⊕Nat)) s.size).getD (.inr s.size)):= by
  refine A9d (fun i=>i) s.size _ _ hs ?_ ?_
  ·intro i hi _
   unfold A02
   rw[if_pos (by simpa using hi)]
   unfold bad D0y
   rw[getElem!_pos s i hi]
   by_cases ha:(s[i]'hi).toNat<128
   ·rw[decode_ascii s i hi ha]
    generalize (s[i]'hi).toNat=x at ha ⊢
    simp only[nd97,nd122,gt_iff_lt,nl48,nl57,nz0,n46',bne]
    generalize decide (97≤x)=b1
    generalize decide (x≤122)=b2
    generalize decide (48≤x)=b3
    generalize decide (x≤57)=b4
    generalize (x==46)=b5
    generalize (i==0)=b6
    cases b1 <;> cases b2 <;> cases b3 <;> cases b4 <;> cases b5 <;> cases b6 <;> rfl
   ·have hd:=(decode_high s i hi (by omega)).1
    generalize (Utf8.decode s i).1=y at hd ⊢
    generalize (s[i]'hi).toNat=x at ha ⊢
    rw[if_pos (by simp;omega)]
    have e1:decide (x≤122)=false:= by simp;omega
    have e2:decide (x≤57)=false:= by simp;omega
    have e3:(x==46)=false:= by simp;omega
    simp[e1,e2,e3]
  ·intro _
   unfold A02
   rw[if_neg (by simp)]
 rw[hl]
 have he:eqS s (ByteArray.mk #[])=(s.size==0):= by
  unfold eqS
  cases hz:s.data.toList with
  | nil =>
   have:s.size=0:= by show s.data.size=0;rw[← Z0f,hz];rfl
   rw[this];rfl
  | cons a t =>
   have:s.size=t.length+1:= by show s.data.size=_;rw[← Z0f,hz];rfl
   rw[this];rfl
 cases hf:first (bad s) s.size with
 | none =>
  have:=J5.mp hf
  rw[J5.mpr fun i hi=>by rw[this i hi];rfl]
  have e2:decide ((s.size:Int)≤16)=decide (s.size≤16):=decide_eq_decide.mpr (by omega)
  simp[he,e2]
 | some u =>
  obtain⟨i,hi,h2,h3⟩:=U8 hf
  rw[A74 (r:=.inl false) hi (by rw[h2];rfl) fun j hj=>by rw[h3 j hj];rfl]
  simp
theorem C8z {α:Type} [Inhabited α] (l:List α) (p:α→Bool):(first (fun i=>if p l[i]! then some (i:Int) else none) l.length).isSome=l.any p:= by
 cases hf:first (fun i=>if p l[i]! then some (i:Int) else none) l.length with
 | none =>
  have h0:=J5.mp hf
  cases ha:l.any p with
  | false=>rfl
  | true =>
   rw[Z31]at ha
   obtain⟨x,hx,hp⟩:=ha
   obtain⟨i,hi,e⟩:=ZW.mp hx
   have:=h0 i hi
   rw[getElem!_pos l i hi,e,hp]at this
   exact absurd this (by simp)
 | some r =>
  obtain⟨i,hi,h1,_⟩:=U8 hf
  rw[getElem!_pos l i hi]at h1
  cases hp:p l[i] with
  | false=>rw[hp]at h1;exact absurd h1 (by simp)
  | true=>exact(Z31.mpr ⟨l[i],Z1y hi,hp⟩).symm
theorem B9x {α:Type} [Inhabited α] (l:List α) (p:α→Bool) {b:Int→Option (Int⊕(Int⊕Unit))} (hl:l.length<9223372036854775808)
  (hb:∀i:Nat,i<l.length→b i=some (if p l[i]! then .inr (.inl (i:Int)) else .inl (w64 ((i:Int)+1)))) (he:b l.length=some (.inr (.inr ()))) :
  ∃ o,loop b 0=some o∧(match o with|.inl i=>0≤i∧l.any p=true|.inr _=>l.any p=false):= by
 have h:=B5u (b:=b) l.length (fun i=>if p l[i]! then some (.inl (i:Int)) else none) (.inr ()) hl (fun i hi _=>by
  rw[hb i hi];cases p l[i]! <;> rfl) he
 refine⟨_,h,?_⟩
 have ha:=C8z l p
 cases hf:first (fun i=>if p l[i]! then some (Z5f (i:Int):Int⊕Unit) else none) l.length with
 | none =>
  have h0:=J5.mp hf
  rw[J5.mpr fun i hi=>by
   have:=h0 i hi
   cases hp:p l[i]! with
   | false=>rfl
   | true=>rw[hp]at this;exact absurd this (by simp)]at ha
  simpa using ha.symm
 | some r =>
  obtain⟨i,hi,h1,h2⟩:=U8 hf
  cases hp:p l[i]! with
  | false=>rw[hp]at h1;exact absurd h1 (by simp)
  | true =>
   rw[hp]at h1
   have h1:some (Z5f (i:Int))=some r:=h1
   obtain rfl:=Z06 h1
   refine⟨Z0t i,?_⟩
   rw[A74 (r:=(i:Int)) hi (by rw[hp];rfl) fun j hj=>by
    have:=h2 j hj
    cases hq:p l[j]! with
    | false=>rfl
    | true=>rw[hq]at this;exact absurd this (by simp)]at ha
   exact ha.symm
theorem A3u {α:Type} [Inhabited α] (l:List α) (g:α→Option Bool) (p:α→Bool) {b:Int→Option (Int⊕(Int⊕Unit))} {F:Option Bool} (hl:l.length<9223372036854775808) (hg:∀x∈l,g x=some (p x))
  (hb:∀i:Int,b i=if decide (i<l.length)=true then (idx l i).bind fun x=>(g x).bind fun y=>if y=true then some (.inr (.inl i)) else some (.inl (w64 (i+1))) else some (.inr (.inr ())))
  (hF:F=((loop b 0).bind fun o=>match o with|.inl v=>some v|.inr _=>some (-1)).bind fun x=>some (decide (x≥0))):F=some (l.any p):= by
 obtain⟨o,ho,hc⟩:=B9x l p (b:=b) hl (fun i hi=>by
  rw[hb,if_pos (by simpa using hi),M0 hi]
  simp only[Zg]
  rw[hg _ (by rw[getElem!_pos l i hi];exact Z1y hi)]
  simp only[Zg]
  cases p l[i]! <;> rfl) (by
  rw[hb,if_neg (by simp)])
 rw[hF,ho]
 rcases o with i|u
 ·simp only[Zg]
  rw[hc.2,decide_eq_true hc.1]
 ·simp only[Zg]
  rw[hc];rfl
theorem C1j (l:List Int) (g:Int→Option Bool) (p:Int→Bool) (hl:l.length<9223372036854775808) (hg:∀x∈l,g x=some (p x)):N5 l g=some (l.any p) :=
 A3u l g p (b:=R7 l g) hl hg (fun _=>rfl) Z
theorem B8y (l:List PaGown) (g:PaGown→Option Bool) (p:PaGown→Bool) (hl:l.length<9223372036854775808) (hg:∀x∈l,g x=some (p x)):H6 l g=some (l.any p) :=
 A3u l g p (b:=K2 l g) hl hg (fun _=>rfl) Z
theorem B45 (l:List PaFigure) (g:PaFigure→Option Bool) (p:PaFigure→Bool) (hl:l.length<9223372036854775808) (hg:∀x∈l,g x=some (p x)):G2 l g=some (l.any p) :=
 A3u l g p (b:=I9 l g) hl hg (fun _=>rfl) Z
def out (lo hi x:Int):Bool:=decide (x<lo)||decide (x>hi)
theorem B0s (lo hi:Int) (l:List Int) (hl:l.length<9223372036854775808):E2 lo hi l=some (l.any (out lo hi)):= by
 unfold E2
 exact(congrArg (Option.bind · some) (C1j l (fun y=>Z9 y lo hi) (out lo hi) hl fun x _=>rfl)).trans Z
theorem out1 (lo hi x:Int):E2 lo hi [x]=some (out lo hi x):= by
 rw[B0s lo hi [x] (by simp)];simp
theorem out2 (lo hi x y:Int):E2 lo hi [x,y]=some (out lo hi x||out lo hi y):= by
 rw[B0s lo hi [x,y] (by simp)];simp
theorem C12 (lo hi x:Int):R2 x lo hi=some (!out lo hi x):= by
 unfold R2 out
 rw[Z5b,Z0s];simp
def M8 (s:ByteArray) (l:List ByteArray):Int:=if A1h s then (if l.any (fun y=>eqS y s) then 5 else 0) else 6
instance:Inhabited ByteArray:=⟨ByteArray.empty⟩
theorem B2a (s:ByteArray) (l:List ByteArray) (hl:l.length<9223372036854775808):A4b s l=some (M8 s l):= by
 unfold A4b M8
 rw[B9e]
 cases A1h s
 ·rfl
 ·simp only[Zg]
  unfold A5l
  obtain⟨o,ho,hc⟩:=B9x l (fun y=>eqS y s) (b:=A0a l s) hl (fun i hi=>by
   unfold A0a
   rw[if_pos (by simpa using hi),M0 hi]
   simp only[Zg]
   cases eqS l[i]! s <;> rfl) (by
   unfold A0a
   rw[if_neg (by simp)])
  rw[ho]
  rcases o with i|u
  ·simp only[Zg]
   rw[hc.2,decide_eq_true hc.1];rfl
  ·simp only[Zg]
   rw[hc];rfl
def wrong (f:Nat→Int) (n:Nat):Option (Int×Int):=first (fun i=>if f i==0 then none else some ((i:Int),f i)) n
theorem A46 {f:Nat→Int} {n:Nat} {x:Int×Int} (h:wrong f n=some x):(x.2 != 0)=true:= by
 obtain⟨i,_,h1,_⟩:=U8 h
 cases hb:f i==0 with
 | true=>rw[hb]at h1;exact absurd h1 (by simp)
 | false =>
  rw[hb]at h1
  have h1:some ((i:Int),f i)=some x:=h1
  rw[← Z06 h1]
  show (f i != 0)=true
  rw[bne,hb];rfl
theorem T2 {lo hi x:Int}:out lo hi x=false↔lo≤x∧x≤hi:= by
 unfold out
 rw[Z1t,decide_eq_false_iff_not,decide_eq_false_iff_not]
 omega
theorem A4o {ρ:Type} {b:Int→Option (Int⊕ρ)} (n:Nat) (f:Nat→Int) (k:Int×Int→ρ) (z:ρ) (hn:n<9223372036854775808)
  (hs:∀i:Nat,i<n→b (i:Int)=some (if f i==0 then .inl (w64 ((i:Int)+1)) else .inr (k ((i:Int),f i))))
  (he:b (n:Int)=some (.inr z)) :
  loop b 0=some (match wrong f n with|some x=>k x|none=>z):= by
 rw[B5u n (fun i=>if f i==0 then none else some (k ((i:Int),f i))) z hn (fun i hi _=>by rw[hs i hi];cases f i==0 <;> rfl) he]
 unfold wrong
 cases hf:first (fun i=>if f i==0 then none else some ((i:Int),f i)) n with
 | none =>
  have h0:=J5.mp hf
  rw[J5.mpr fun i hi=>by
   have:=h0 i hi
   cases hb:f i==0 with
   | true=>rfl
   | false=>rw[hb]at this;exact absurd this (by simp)]
  rfl
 | some x =>
  obtain⟨i,hi,h1,h2⟩:=U8 hf
  rw[A74 (r:=k x) hi (by
   cases hb:f i==0 with
   | true=>rw[hb]at h1;exact absurd h1 (by simp)
   | false =>
    rw[hb]at h1
    have h1:some ((i:Int),f i)=some x:=h1
    rw[← Z06 h1];rfl) fun j hj=>by
   have:=h2 j hj
   cases hb:f j==0 with
   | true=>rfl
   | false=>rw[hb]at this;exact absurd this (by simp)]
  rfl
theorem K3 {α:Type} [Inhabited α] {l:List α} {i:Nat} (h:i<l.length):l[i]! ∈ l:= by
 rw[getElem!_pos l i h];exact Z1y h
theorem B31 {α β:Type} [Inhabited α] (k:α→β) {l:List α} {i:Nat} (h:i<l.length):(l.take i).map k++[k l[i]!]=(l.take (i+1)).map k:= by
 rw[ZY h,getElem!_pos l i h,Z01];rfl
theorem C63 {f:Nat→Int} {n:Nat} (h:wrong f n=none):∀i,i<n→f i=0:= by
 intro i hi
 have:=J5.mp h i hi
 by_cases c:f i=0
 ·exact c
 ·have e:(f i==0)=false:=beq_eq_false_iff_ne.mpr c
  rw[e]at this;exact absurd this (by simp)
def gOk (g:PaGown):Bool :=
 !out 0 15 g.Looks&&(if g.Pawn then !out 0 5000 g.Loan&&(!out 0 500 g.Rate&&(!out 0 100 g.Fee&&(!out 0 364 g.Ago&&!out 0 364 g.Last)))
  else g.Loan==0&&(g.Rate==0&&(g.Fee==0&&(g.Ago==0&&g.Last==0))))
theorem out00 (x:Int):out 0 0 x = !(x==0):= by
 unfold out
 rw[Z0s];simp;omega
theorem D3v (g:PaGown):A4w g=some (!gOk g):= by
 unfold A4w gOk
 cases hp:g.Pawn
 ·simp only[out1,Zg,Bool.not_false,if_true,Zj,if_false]
  rw[B0s _ _ _ (by simp)]
  simp only[List.any_cons,List.any_nil,out00,Zg,Z5j]
  generalize out 0 15 g.Looks=b0
  generalize (g.Loan==0)=b1
  generalize (g.Rate==0)=b2
  generalize (g.Fee==0)=b3
  generalize (g.Ago==0)=b4
  generalize (g.Last==0)=b5
  cases b0 <;> cases b1 <;> cases b2 <;> cases b3 <;> cases b4 <;> cases b5 <;> rfl
 ·simp only[out1,out2,Zg,Z1e,Zj,if_false,if_true]
  generalize out 0 15 g.Looks=b0
  generalize out 0 5000 g.Loan=b1
  generalize out 0 500 g.Rate=b2
  generalize out 0 100 g.Fee=b3
  generalize out 0 364 g.Ago=b4
  generalize out 0 364 g.Last=b5
  cases b0 <;> cases b1 <;> cases b2 <;> cases b3 <;> cases b4 <;> cases b5 <;> rfl
theorem C4w (g:PaGown):A4z g=some (gOk g):= by
 unfold A4z gOk
 simp only[C12,Zg,Z3w]
 cases hp:g.Pawn
 ·generalize out 0 15 g.Looks=b0
  generalize (g.Loan==0)=b1
  generalize (g.Rate==0)=b2
  generalize (g.Fee==0)=b3
  generalize (g.Ago==0)=b4
  generalize (g.Last==0)=b5
  cases b0 <;> cases b1 <;> cases b2 <;> cases b3 <;> cases b4 <;> cases b5 <;> rfl
 ·generalize out 0 15 g.Looks=b0
  generalize out 0 5000 g.Loan=b1
  generalize out 0 500 g.Rate=b2
  generalize out 0 100 g.Fee=b3
  generalize out 0 364 g.Ago=b4
  generalize out 0 364 g.Last=b5
  cases b0 <;> cases b1 <;> cases b2 <;> cases b3 <;> cases b4 <;> cases b5 <;> rfl
def fC (f:PaFigure):Int:=if out 0 364 f.Day||(out 0 364 f.Until||out 0 15 f.Needs) then 7 else if f.Day>f.Until then 2 else 0
theorem B9f (f:PaFigure):A2c f=some (fC f):= by
 unfold A2c fC
 simp only[C12,Zg,Z3w]
 generalize out 0 364 f.Day=b1
 generalize out 0 364 f.Until=b2
 generalize out 0 15 f.Needs=b3
 by_cases hd:f.Day>f.Until <;> cases b1 <;> cases b2 <;> cases b3 <;> simp[hd]
def A78 (l:List PaGown) (i:Nat):Int:=if M8 l[i]!.Name ((l.take i).map (·.Name))=0 then (if gOk l[i]! then 0 else 7) else M8 l[i]!.Name ((l.take i).map (·.Name))
def A72 (l:List PaFigure) (i:Nat):Int:=if M8 l[i]!.Name ((l.take i).map (·.Name))=0 then fC l[i]! else M8 l[i]!.Name ((l.take i).map (·.Name))
def A8d (l:List PaIncome) (i:Nat):Int:=if out 0 364 l[i]!.Day||out 0 10000 l[i]!.Pence then 7 else 0
def chk (s:PaShow):Int×Int×Int :=
 if s.Gowns.length>5 then (1,0,3) else
 match wrong (A78 s.Gowns) s.Gowns.length with
 | some x=>(1,x)
 | none =>
  if s.Figures.length>3 then (2,0,3) else
  match wrong (A72 s.Figures) s.Figures.length with
  | some x=>(2,x)
  | none =>
   if out 0 10000 s.Purse then (3,0,7) else
   if s.Incomes.length>3 then (4,0,3) else
   match wrong (A8d s.Incomes) s.Incomes.length with
   | some x=>(4,x)
   | none=>(0,0,0)
def NB (s:PaShow):Prop:=(∀ v∈s.Gowns,v.Name.size<9223372036854775808)∧(∀ v∈s.Figures,v.Name.size<9223372036854775808)
theorem B7g (s:ByteArray) (l:List ByteArray):M8 s l=if A1h s then (if l.any (fun y=>eqS y s) then 5 else 0) else 6:=rfl
theorem C6c {l:List PaGown} {i:Nat} (hi:i<l.length) (hl:l.length≤100) (hb:∀v∈l,v.Name.size<9223372036854775808) :
  O7 l (i:Int) (fun y=>A0j y)=some (M8 l[i]!.Name ((l.take i).map (·.Name))):= by
 unfold O7
 rw[M0 hi]
 simp only[Zg,A0j]
 rw[A9v _ (hb _ (K3 hi))]
 simp only[Zg]
 rw[B7g]
 cases A1h l[i]!.Name with
 | false=>rfl
 | true =>
  rw[B5z (Z3x hi)]
  simp only[Zg,Z1e,Zj,if_false]
  rw[B8y _ _ (fun y=>eqS y.Name l[i]!.Name) (by rw[ZE];omega) (fun x _=>by unfold N4;rw[M0 hi];rfl),Z4u]
  rw[show ((fun y=>eqS y l[i]!.Name)∘fun (x:PaGown)=>x.Name)=(fun (y:PaGown)=>eqS y.Name l[i]!.Name) from Z]
  cases (l.take i).any (fun (y:PaGown)=>eqS y.Name l[i]!.Name) <;> rfl
theorem C16 {l:List PaFigure} {i:Nat} (hi:i<l.length) (hl:l.length≤100) (hb:∀v∈l,v.Name.size<9223372036854775808) :
  N3 l (i:Int) (fun y=>A0k y)=some (M8 l[i]!.Name ((l.take i).map (·.Name))):= by
 unfold N3
 rw[M0 hi]
 simp only[Zg,A0k]
 rw[A9v _ (hb _ (K3 hi))]
 simp only[Zg]
 rw[B7g]
 cases A1h l[i]!.Name with
 | false=>rfl
 | true =>
  rw[B5z (Z3x hi)]
  simp only[Zg,Z1e,Zj,if_false]
  rw[B45 _ _ (fun y=>eqS y.Name l[i]!.Name) (by rw[ZE];omega) (fun x _=>by unfold M4;rw[M0 hi];rfl),Z4u]
  rw[show ((fun y=>eqS y l[i]!.Name)∘fun (x:PaFigure)=>x.Name)=(fun (y:PaFigure)=>eqS y.Name l[i]!.Name) from Z]
  cases (l.take i).any (fun (y:PaFigure)=>eqS y.Name l[i]!.Name) <;> rfl
theorem D0p (s:PaShow) (hb:NB s):A2t s=some (chk s):= by
 unfold A2t chk
 by_cases h1:s.Gowns.length>5
 ·rw[if_pos (by simp;omega),if_pos h1]
 rw[if_neg (by simp;omega),if_neg h1]
 rw[A4o (b:=A03 s) s.Gowns.length (A78 s.Gowns) (fun x=>.inl (1,x)) (.inr ()) (by omega) (fun i hi=>by
  unfold A03 A78
  rw[if_pos (by simpa using hi),M0 hi]
  simp only[Zg]
  rw[C6c hi (by omega) hb.1,D3v]
  simp only[Zg]
  generalize M8 s.Gowns[i]!.Name ((s.Gowns.take i).map (·.Name))=z
  by_cases hz:z=0
  ·subst hz
   cases gOk s.Gowns[i]! <;> rfl
  ·have e1:(z==0)=false:=beq_eq_false_iff_ne.mpr hz
   have e2:(z != 0)=true:= by simpa using hz
   simp only[e1,e2,hz,Zj,if_false,if_true,Zg]) (by
  unfold A03
  rw[if_neg (by simp)])]
 simp only[Zg]
 cases hw:wrong (A78 s.Gowns) s.Gowns.length with
 | some x=>rfl
 | none =>
  simp only
  by_cases h2:s.Figures.length>3
  ·rw[if_pos (by simp;omega),if_pos h2]
  rw[if_neg (by simp;omega),if_neg h2]
  rw[A4o (b:=A04 s) s.Figures.length (A72 s.Figures) (fun x=>.inl (2,x)) (.inr ()) (by omega) (fun i hi=>by
   unfold A04 A72
   rw[if_pos (by simpa using hi),M0 hi]
   simp only[Zg]
   rw[C16 hi (by omega) hb.2]
   simp only[Zg,out1,out2]
   generalize M8 s.Figures[i]!.Name ((s.Figures.take i).map (·.Name))=z
   by_cases hz:z=0
   ·subst hz
    unfold fC
    generalize s.Figures[i]! = f
    generalize out 0 364 f.Day=b1
    generalize out 0 364 f.Until=b2
    generalize out 0 15 f.Needs=b3
    by_cases hd:f.Until<f.Day
    ·cases b1 <;> cases b2 <;> cases b3 <;> simp[hd]
    ·cases b1 <;> cases b2 <;> cases b3 <;> simp[hd]
   ·have e1:(z==0)=false:=beq_eq_false_iff_ne.mpr hz
    have e2:(z != 0)=true:= by simpa using hz
    simp only[e1,e2,hz,Zj,if_false,if_true]) (by
   unfold A04
   rw[if_neg (by simp)])]
  simp only[Zg]
  cases hw2:wrong (A72 s.Figures) s.Figures.length with
  | some x=>rfl
  | none =>
   simp only[out1,Zg]
   cases out 0 10000 s.Purse with
   | true=>rfl
   | false =>
    simp only[Zj,if_false]
    by_cases h3:s.Incomes.length>3
    ·rw[if_pos (by simp;omega),if_pos h3]
    rw[if_neg (by simp;omega),if_neg h3]
    rw[A4o (b:=A05 s) s.Incomes.length (A8d s.Incomes) (fun x=>.inl (4,x)) (.inr ()) (by omega) (fun i hi=>by
     unfold A05 A8d
     rw[if_pos (by simpa using hi),M0 hi]
     simp only[Zg,out1]
     generalize out 0 364 s.Incomes[i]!.Day=b1
     generalize out 0 10000 s.Incomes[i]!.Pence=b2
     cases b1 <;> cases b2 <;> rfl) (by
     unfold A05
     rw[if_neg (by simp)])]
    simp only[Zg]
    cases wrong (A8d s.Incomes) s.Incomes.length <;> rfl
theorem B68 {α ρ:Type} [Inhabited α] (l:List α) (nm:α→ByteArray) (f:Nat→Int) (k:Int×Int→ρ) {b:Int×List ByteArray→Option ((Int×List ByteArray)⊕(ρ⊕List ByteArray))} (hl:l.length≤100)
  (hs:∀i:Nat,i<l.length→b ((i:Int),(l.take i).map nm)=some (if f i==0 then .inl (w64 ((i:Int)+1),(l.take (i+1)).map nm) else .inr (.inl (k ((i:Int),f i)))))
  (he:b ((l.length:Int),l.map nm)=some (.inr (.inr (l.map nm)))) :
  loop b (0,[])=some (match wrong f l.length with|some x=>.inl (k x)|none=>.inr (l.map nm)):= by
 have:=A9d (b:=b) (fun i=>((i:Int),(l.take i).map nm)) l.length (fun i=>if f i==0 then none else some (.inl (k ((i:Int),f i)))) (.inr (l.map nm)) (by omega) (fun i hi _=>by
  rw[hs i hi,F5 (by omega)]
  cases f i==0 <;> rfl) (fun _=>by
  rw[Z1f];exact he)
 rw[show ((0:Int),([]:List ByteArray))=(((0:Nat):Int),(l.take 0).map nm) from Z,this]
 unfold wrong
 cases hf:first (fun i=>if f i==0 then none else some ((i:Int),f i)) l.length with
 | none =>
  rw[J5.mpr fun i hi=>by
   have:=J5.mp hf i hi
   cases hb:f i==0 with
   | true=>rfl
   | false=>rw[hb]at this;exact absurd this (by simp)]
  rfl
 | some x =>
  obtain⟨i,hi,h1,h2⟩:=U8 hf
  rw[A74 (r:=(.inl (k x):ρ⊕List ByteArray)) hi (by
   cases hb:f i==0 with
   | true=>rw[hb]at h1;exact absurd h1 (by simp)
   | false=>rw[hb]at h1;have h1:some ((i:Int),_)=some x:=h1;rw[← Z06 h1];rfl) fun j hj=>by
   have:=h2 j hj
   cases hb:f j==0 with
   | true=>rfl
   | false=>rw[hb]at this;exact absurd this (by simp)]
  rfl
theorem C2k (s:PaShow):A3i s=some (chk s):= by
 unfold A3i chk
 by_cases h1:s.Gowns.length>5
 ·rw[if_pos (by simp;omega),if_pos h1]
 rw[if_neg (by simp;omega),if_neg h1]
 rw[B68 (b:=A0b s) s.Gowns (·.Name) (A78 s.Gowns) (fun x=>(1,x)) (by omega) (fun i hi=>by
  unfold A0b A78
  simp only[]
  rw[if_pos (by simpa using hi),M0 hi]
  simp only[Zg]
  rw[B2a _ _ (by rw[Zi,ZE];omega),C4w,B57 (by omega) (by rw[Zi,ZE];simp;omega),B31 (fun x:PaGown=>x.Name) hi]
  simp only[Zg]
  generalize M8 s.Gowns[i]!.Name ((s.Gowns.take i).map (·.Name))=z
  by_cases hz:z=0
  ·subst hz
   cases gOk s.Gowns[i]! <;> rfl
  ·have e1:(z==0)=false:=beq_eq_false_iff_ne.mpr hz
   have e2:(z != 0)=true:= by simpa using hz
   simp only[e1,e2,hz,Zj,if_false,if_true,Zg]) (by
  unfold A0b
  rw[if_neg (by simp)])]
 simp only[Zg]
 cases hw:wrong (A78 s.Gowns) s.Gowns.length with
 | some x=>rfl
 | none =>
  simp only
  by_cases h2:s.Figures.length>3
  ·rw[if_pos (by simp;omega),if_pos h2]
  rw[if_neg (by simp;omega),if_neg h2]
  rw[B68 (b:=A0c s) s.Figures (·.Name) (A72 s.Figures) (fun x=>(2,x)) (by omega) (fun i hi=>by
   unfold A0c A72
   simp only[]
   rw[if_pos (by simpa using hi),M0 hi]
   simp only[Zg]
   rw[B2a _ _ (by rw[Zi,ZE];omega),B9f,B57 (by omega) (by rw[Zi,ZE];simp;omega),B31 (fun x:PaFigure=>x.Name) hi]
   simp only[Zg]
   generalize M8 s.Figures[i]!.Name ((s.Figures.take i).map (·.Name))=z
   by_cases hz:z=0
   ·subst hz
    generalize fC s.Figures[i]! = y
    by_cases hy:y=0
    ·subst hy;rfl
    ·have e1:(y==0)=false:=beq_eq_false_iff_ne.mpr hy
     have e2:(y != 0)=true:= by simpa using hy
     simp[e1,e2]
   ·have e1:(z==0)=false:=beq_eq_false_iff_ne.mpr hz
    have e2:(z != 0)=true:= by simpa using hz
    simp only[e1,e2,hz,Zj,if_false,if_true]) (by
   unfold A0c
   rw[if_neg (by simp)])]
  simp only[Zg]
  cases hw2:wrong (A72 s.Figures) s.Figures.length with
  | some x=>rfl
  | none =>
   simp only[C12,Zg,Z3w]
   cases out 0 10000 s.Purse with
   | true=>rfl
   | false =>
    simp only[Zj,if_false]
    by_cases h3:s.Incomes.length>3
    ·rw[if_pos (by simp;omega),if_pos h3]
    rw[if_neg (by simp;omega),if_neg h3]
    rw[A4o (b:=A0d s) s.Incomes.length (A8d s.Incomes) (fun x=>.inl (4,x)) (.inr ()) (by omega) (fun i hi=>by
     unfold A0d A8d
     rw[if_pos (by simpa using hi),M0 hi]
     simp only[Zg,C12,Z3w]
     generalize out 0 364 s.Incomes[i]!.Day=b1
     generalize out 0 10000 s.Incomes[i]!.Pence=b2
     cases b1 <;> cases b2 <;> rfl) (by
     unfold A0d
     rw[if_neg (by simp)])]
    simp only[Zg]
    cases wrong (A8d s.Incomes) s.Incomes.length <;> rfl
end Pw
end
section
set_option maxRecDepth 100000
set_option maxHeartbeats 0
namespace Pw
open Go Am Go.Proofs.Ytjpjdglddmhplaa.Cd
def A0w (a0:Int):Option Bool :=
 some (a0 != a0)
theorem A6c {c:Sc} {H:A1} {a0:Int} {r:Bool} (h:A0w a0=some r) :
  E7 tab c H (.fn (.func 104) [] []) [.i a0] [.b r]:= by
 unfold A0w at h
 refine cE Z Z<|s0<|qm Z<|es (ra1 Z)<|s0<|qm Z<|qm Z<|A0 (Q9 Z Z) Z<|qm Z<|es (ra1 Z)<|C7 ?_
 obtain rfl:=os h
 exact retq trivial (A7 Z C0) (A4 Z B9) (A2 A5 A8)
def A1y (a0:Int) (a1:Int):Option Bool :=
 (A0w a0).bind fun x1 =>
 (if x1=true then
  (A0w a1).bind fun x3 =>
  some (!x3)
 else
  some false).bind fun x4 =>
 some (x4||(decide (a0<a1)))
theorem B47 {c:Sc} {H:A1} {a0:Int} {a1:Int} {r:Bool} (h:A1y a0 a1=some r) :
  E7 tab c H (.fn (.func 90) [] []) [.i a0,.i a1] [.b r]:= by
 unfold A1y at h
 refine cE Z Z<|s0<|qm Z<|es (ra2 Z Z)<|s0<|oB h fun x1 hx1 h=>oB h fun x4 hx4 h=>qm Z<|C3 (rs:=[.b x1]) Z Z (A3 Z C2) ((A6c hx1).frz)<|qm Z<|gp 4 11 (.b x4) 7 Z Z (fun hg2=>?_) (fun hg2=>?_) ?_
 ·refine oB (bt hx4 hg2) fun x3 hx3 hx4=>?_
  obtain rfl:=os hx4
  exact gT Z hg2<|qm Z<|gT Z hg2<|C3 (rs:=[.b x3]) Z Z (A3 Z C2) ((A6c hx3).frz)<|gT Z hg2<|A0 (Y9 Z) Z<|A0 (D1 Z hg2 Z) Z<|ge 4 Z Z Z
 ·obtain rfl:=os (bf hx4 hg2)
  exact nT Z hg2 Z<|L7 (F4 Z (by rw[hg2];rfl)) Z<|nT Z hg2 Z<|A0 (D0 Z hg2 Z) Z<|ge 4 Z Z Z
 refine qm Z<|gp 4 16 (.b (x4||(decide (a0<a1)))) 12 Z Z (fun hg5=>?_) (fun hg5=>?_) ?_
 ·exact nF Z hg5 Z<|nF Z hg5 Z<|nF Z hg5 Z<|A0 (D1 Z hg5 Z) Z<|ge 4 (by rw[hg5];rfl) Z Z
 ·exact gF Z hg5<|qm Z<|gF Z hg5<|qm Z<|gF Z hg5<|A0 (L5 Z Z) Z<|A0 (D0 Z hg5 Z) Z<|ge 4 (by rw[hg5];rfl) Z Z
 refine qm Z<|es (ra1 Z)<|C7 ?_
 obtain rfl:=os h
 exact retq trivial (A7 Z C0) (A4 Z B9) (A2 A5 A8)
def A3o (a0:Int):Option Int :=
 (if (decide (a0≥4294967296))=true then
  (D3i .u64 a0 32).bind fun x3 =>
  some (x3,32)
  else
  some (a0,0)).bind fun (p1:(Int×Int)) =>
 (if (decide (p1.1≥65536))=true then
  (D3i .u64 p1.1 16).bind fun x6 =>
  some (x6,(w64 (p1.2+16)))
  else
  some (p1.1,p1.2)).bind fun (p4:(Int×Int)) =>
 if (decide (p4.1≥256))=true then
  (D3i .u64 p4.1 8).bind fun x8 =>
  (B2k (ByteArray.mk #[0,1,2,2,3,3,3,3,4,4,4,4,4,4,4,4,5,5,5,5,5,5,5,5,5,5,5,5,5,5,5,5,6,6,6,6,6,6,6,6,6,6,6,6,6,6,6,6,6,6,6,6,6,6,6,6,6,6,6,6,6,6,6,6,7,7,7,7,7,7,7,7,7,7,7,7,7,7,7,7,7,7,7,7,7,7,7,7,7,7,7,7,7,7,7,7,7,7,7,7,7,7,7,7,7,7,7,7,7,7,7,7,7,7,7,7,7,7,7,7,7,7,7,7,7,7,7,7,8,8,8,8,8,8,8,8,8,8,8,8,8,8,8,8,8,8,8,8,8,8,8,8,8,8,8,8,8,8,8,8,8,8,8,8,8,8,8,8,8,8,8,8,8,8,8,8,8,8,8,8,8,8,8,8,8,8,8,8,8,8,8,8,8,8,8,8,8,8,8,8,8,8,8,8,8,8,8,8,8,8,8,8,8,8,8,8,8,8,8,8,8,8,8,8,8,8,8,8,8,8,8,8,8,8,8,8,8,8,8,8,8,8,8,8,8,8,8,8,8,8,8,8,8,8,8,8]) (IntKind.u8.wrap x8)).bind fun x9 =>
  some (w64 ((w64 (p4.2+8))+(w64 x9)))
 else
  (B2k (ByteArray.mk #[0,1,2,2,3,3,3,3,4,4,4,4,4,4,4,4,5,5,5,5,5,5,5,5,5,5,5,5,5,5,5,5,6,6,6,6,6,6,6,6,6,6,6,6,6,6,6,6,6,6,6,6,6,6,6,6,6,6,6,6,6,6,6,6,7,7,7,7,7,7,7,7,7,7,7,7,7,7,7,7,7,7,7,7,7,7,7,7,7,7,7,7,7,7,7,7,7,7,7,7,7,7,7,7,7,7,7,7,7,7,7,7,7,7,7,7,7,7,7,7,7,7,7,7,7,7,7,7,8,8,8,8,8,8,8,8,8,8,8,8,8,8,8,8,8,8,8,8,8,8,8,8,8,8,8,8,8,8,8,8,8,8,8,8,8,8,8,8,8,8,8,8,8,8,8,8,8,8,8,8,8,8,8,8,8,8,8,8,8,8,8,8,8,8,8,8,8,8,8,8,8,8,8,8,8,8,8,8,8,8,8,8,8,8,8,8,8,8,8,8,8,8,8,8,8,8,8,8,8,8,8,8,8,8,8,8,8,8,8,8,8,8,8,8,8,8,8,8,8,8,8,8,8,8,8,8]) (IntKind.u8.wrap p4.1)).bind fun x10 =>
  some (w64 (p4.2+(w64 x10)))
theorem B0n {c:Sc} {H:A1} {a0:Int} {r:Int} (h:A3o a0=some r) :
  E7 tab c H (.fn (.func 94) [] []) [(.lit (.int .u64 a0))] [.i r]:= by
 unfold A3o at h
 refine cE Z Z<|s0<|qm Z<|es (ra2 Z Z)<|C4<|s0<|qm Z<|A0 (A7x Z Z) Z<|es (ra3 Z Z Z)<|oB h fun p1 hp1 h=>C60 (Q1:=fun e s' H'=>e=.normal∧s'=[(0,(.lit (.int .u64 p1.1))),(2,.i p1.2)]∧H'=(H++[])) ?_ ?_
 ·refine wi hp1 Z (fun hc2 hp1=>?_) fun hc2 hp1=>?_
  ·refine s0<|oB hp1 fun x3 hx3 hp1=>qm Z<|A0 (D2s Z Z hx3) Z<|qm Z<|es (ra1 Z)<|r0<|qm Z<|en (ra2 Z Z) ?_
   obtain rfl:=os hp1
   exact me (ZO Z (ZO Z Z)) (su2 Z Z)
  ·refine C6 ?_
   obtain rfl:=os hp1
   exact me (ZO Z (ZO Z Z)) (su2 Z Z)
 ·rintro e s' H' ⟨rfl,rfl,rfl⟩
  refine C4<|s0<|qm Z<|A0 (A7x Z Z) Z<|es (ra3 Z Z Z)<|oB h fun p4 hp4 h=>C60 (Q1:=fun e s' H'=>e=.normal∧s'=[(0,(.lit (.int .u64 p4.1))),(2,.i p4.2)]∧H'=(H++[])) ?_ ?_
  ·refine wi hp4 Z (fun hc5 hp4=>?_) fun hc5 hp4=>?_
   ·refine s0<|oB hp4 fun x6 hx6 hp4=>qm Z<|A0 (D2s Z Z hx6) Z<|qm Z<|es (ra2 Z Z)<|r0<|qm Z<|A0 (G1 Z Z) Z<|qm Z<|en (ra2 Z Z) ?_
    obtain rfl:=os hp4
    exact me (ZO Z (ZO Z Z)) (su2 Z Z)
   ·refine C6 ?_
    obtain rfl:=os hp4
    exact me (ZO Z (ZO Z Z)) (su2 Z Z)
  ·rintro e s' H' ⟨rfl,rfl,rfl⟩
   refine C4<|s0<|qm Z<|A0 (A7x Z Z) Z<|es (ra3 Z Z Z)<|wi h Z (fun hc7 h=>?_) fun hc7 h=>?_
   ·refine s0<|oB h fun x8 hx8 h=>qm Z<|A0 (D2s Z Z hx8) Z<|qm Z<|es (ra2 Z Z)<|r0<|qm Z<|A0 (G1 Z Z) Z<|qm Z<|en (ra2 Z Z)<|s0<|oB h fun x9 hx9 h=>qm Z<|qm Z<|A0 (A4s Z) Z<|A0 (A8j Z Z hx9) Z<|A0 (A4s Z) Z<|A0 (G1 Z Z) Z<|qm Z<|es (ra1 Z)<|C7 ?_
    obtain rfl:=os h
    exact retq trivial (A7 Z C0) (A4 Z B9) (A2 A5 A8)
   ·refine C6<|s0<|oB h fun x10 hx10 h=>qm Z<|qm Z<|A0 (A4s Z) Z<|A0 (A8j Z Z hx10) Z<|A0 (A4s Z) Z<|A0 (G1 Z Z) Z<|qm Z<|es (ra1 Z)<|C7 ?_
    obtain rfl:=os h
    exact retq trivial (A7 Z C0) (A4 Z B9) (A2 A5 A8)
def A24 (a0:Int):Option Int :=
 (A3o a0).bind fun x1 =>
 some x1
theorem B3n {c:Sc} {H:A1} {a0:Int} {r:Int} (h:A24 a0=some r) :
  E7 tab c H (.fn (.func 70) [] []) [(.lit (.int .u64 a0))] [.i r]:= by
 unfold A24 at h
 refine cE Z Z<|s0<|qm Z<|es (ra1 Z)<|C4<|Q6 Z Z<|C6<|s0<|oB h fun x1 hx1 h=>qm Z<|C3 (rs:=[.i x1]) Z Z (A3 Z C2) ((B0n hx1).frz)<|qm Z<|es (ra1 Z)<|C7 ?_
 obtain rfl:=os h
 exact retq trivial (A7 Z C0) (A4 Z B9) (A2 A5 A8)
end Pw
end
section
set_option maxRecDepth 100000
namespace Am
open Go
theorem C0k {σ ρ:Type} {b:σ→Option (σ⊕ρ)} (I:σ→Prop) (J:ρ→Prop) (hs:∀x y,I x→b x=some (.inl y)→I y) (he:∀x r,I x→b x=some (.inr r)→J r) {x0:σ} {r:ρ} (h0:I x0) (h:loop b x0=some r):J r:= by
 have key:∀n x0,I x0→A5h b n x0=some r→J r:= by
  intro n
  induction n with
  | zero=>intro x0 _ h;cases h
  | succ n ih =>
   intro x0 hI h
   rw[J7]at h
   split at h
   ·next x' hb=>exact ih x' (hs _ _ hI hb) h
   ·next r' hb=>simp only[Za]at h;subst h;exact he _ _ hI hb
   ·cases h
 exact key _ _ h0 h
end Am
namespace Pw
open Go Am Go.Proofs.Ytjpjdglddmhplaa.Cd
def A1e (a:Int) (s:Int×List Int):Option ((Int×List Int)⊕List Int) :=
 (if (decide (s.1>a))=true then (idx s.2 s.1).bind fun x=>(idx s.2 (w64 (s.1-1))).bind fun y=>(A1y x y).bind fun z=>some z else some false).bind fun g =>
 if g=true then
  (idx s.2 (w64 (s.1-1))).bind fun y=>(idx s.2 s.1).bind fun x =>
  (idx (P0 s.2 s.1 y) (w64 (s.1-1))).bind fun _ =>
  some (.inl (w64 (s.1-1),P0 (P0 s.2 s.1 y) (w64 (s.1-1)) x))
 else some (.inr s.2)
def A5o (a b:Int) (s:Int×List Int):Option ((Int×List Int)⊕List Int) :=
 if (decide (s.1<b))=true then
  (loop (A1e a) (s.1,s.2)).bind fun l=>some (.inl (w64 (s.1+1),l))
 else some (.inr s.2)
def C02 (a b:Int) (l:List Int):Option (List Int):=loop (A5o a b) (w64 (a+1),l)
def ar1 (l:List Int):AO:=.arr 1 false (l.map cI)
theorem D3j {c:Sc} {A B:A1} {a b:Int} {l r:List Int} (h:C02 a b l=some r) :
  I6 tab c (A++(ar1 l::B)) (.fn (.func 84) [] []) [.asl (A.length+0) l.length,.i a,.i b] [] (A++(ar1 r::B)):= by
 unfold C02 at h
 have htk:∀x:AO,(x::B).take (B.length+1)=x::B:=fun x=>ZP (Zn _)
 refine Z3 (aq:=[.asl (A.length+0) l.length,.i a,.i b]) Z Z Z ?_
 refine s0<|qm Z<|A0 (G1 Z Z) Z<|qm Z<|es (ra4 Z Z Z Z)<|C8<|wl (fun s=>[(0,.asl (A.length+0) s.2.length),(1,.i a),(2,.i b),(6,.i s.1)]) (fun (_:Unit) s=>ar1 s.2::B) (B.length+1) (fun r e s' H'=>PX 0 [] (A++(ar1 r::B)) e s' H') () h Z Z (fun _ _=>rfl) (fun _=>rfl) Z (fun s=>bdc (A3l (Zk (by omega))) (bdc A5 (bdc A5 (bdc A5 bdn)))) (fun _ s o hs=>?_) ?_
 ·unfold A5o at hs
  refine C4<|s0<|qm Z<|qm Z<|A0 (L5 Z Z) Z<|es (ra5 Z Z Z Z Z)<|wi hs Z (fun hc hs=>?_) fun hc hs=>?_
  ·refine oB hs fun l1 hl1 hs=>?_
   refine C6<|C4<|C8<|s0<|qm Z<|qm Z<|es (ra5 Z Z Z Z Z)<|C8<|wl (fun t=>[(0,.asl (A.length+0) t.2.length),(1,.i a),(2,.i b),(6,.i s.1),(7,.i t.1)]) (fun (_:Unit) t=>ar1 t.2::B) (B.length+1) (fun r e s' H'=>PX 2 [(0,.asl (A.length+0) r.length),(1,.i a),(2,.i b),(6,.i s.1)] (A++(ar1 r::B)) e s' H') () hl1 Z Z (fun _ _=>rfl) (fun _=>rfl) Z (fun t=>bdc (A3l (Zk (by omega))) (bdc A5 (bdc A5 (bdc A5 (bdc A5 bdn))))) (fun _ t o' ht=>?_) ?_
   ·unfold A1e at ht
    refine oB ht fun g hg ht=>?_
    refine C4<|s0<|qm Z<|qm Z<|A0 (A3b Z Z) Z<|qm Z<|gp 11 30 (.b g) 19 Z Z (fun hb=>?_) (fun hb=>?_) ?_
    ·refine oB (bt hg hb) fun x hx hg=>oB hg fun y hy hg=>oB hg fun z hz hg=>?_
     obtain rfl:=os hg
     exact gT Z hb<|qm Z<|gT Z hb<|qm Z<|gT Z hb<|A0 (A1i (f:=cI) Z Z Z Z hx) Z<|gT Z hb<|A0 (A17 (x:=.i x) Z Z (Zi _) (A0t hx) Z) Z<|gT Z hb<|qm Z<|gT Z hb<|qm Z<|gT Z hb<|A0 (A0s Z Z) Z<|gT Z hb<|A0 (A1i (f:=cI) Z Z Z Z hy) Z<|gT Z hb<|A0 (A17 (x:=.i y) Z Z (Zi _) (A0t hy) Z) Z<|gT Z hb<|C3 (rs:=[.b z]) Z Z (A3 Z (A3 Z C2)) ((B47 hz).frz)<|A0 (D1 Z hb Z) Z<|ge 11 Z Z Z
    ·obtain rfl:=os (bf hg hb)
     exact nT Z hb Z<|nT Z hb Z<|nT Z hb Z<|nT Z hb Z<|nT Z hb Z<|nT Z hb Z<|nT Z hb Z<|nT Z hb Z<|nT Z hb Z<|L7 (F4 Z (by rw[hb];rfl)) Z<|A0 (D0 Z hb Z) Z<|ge 11 Z Z Z
    ·refine es (ra6 Z Z Z Z Z Z)<|wi ht Z (fun hc2 ht=>?_) fun hc2 ht=>?_
     ·refine oB ht fun y hy ht=>oB ht fun x hx ht=>oB ht fun w hw ht=>?_
      refine C6<|C4<|C8<|r0<|qm Z<|qm Z<|qm Z<|qm Z<|A0 (A0s Z Z) Z<|A0 (A1i (f:=cI) Z Z Z Z hy) Z<|A0 (A17 (x:=.i y) Z Z (Zi _) (A0t hy) Z) Z<|qm Z<|qm Z<|A0 (A1i (f:=cI) Z Z Z Z hx) Z<|A0 (A17 (x:=.i x) Z Z (Zi _) (A0t hx) Z) Z<|A0 (A1i (f:=cI) Z Z Z Z hx) Z<|K6 (A6b (ds:=cI y) Z Z Z Z Z (Zi _) (A0t hx) Z Z) Z ?_
      rw[A59]
      refine qm Z<|qm Z<|A0 (A0s Z Z) Z<|A0 (A1i (f:=cI) (e:=P0 t.2 t.1 y) Z Z Z (S0 _ _ _) hw) Z<|K6 (A6b (ds:=cI x) Z Z Z Z Z (by rw[Zi,S0]) (A0t hw) Z Z) Z ?_
      rw[A59]
      refine en (ra5 Z Z Z Z Z)<|r0<|qm Z<|A0 (A0s Z Z) Z<|qm Z<|en (ra5 Z Z Z Z Z) ?_
      cases ht
      exact lnT () (htk _) (su5 (by simp only[S0];rfl) Z Z Z Z)
     ·refine J1 ?_
      obtain rfl:=os ht
      exact lx Z px (su4 Z Z Z Z)
   ·rintro e s' H'-⟨rfl,rfl,rfl⟩
    refine r0<|qm Z<|A0 (G1 Z Z) Z<|qm Z<|en (ra4 Z Z Z Z) ?_
    cases hs
    exact lnT () (htk _) (su4 Z Z Z Z)
  ·refine J1 ?_
   obtain rfl:=os hs
   exact lx Z px (Sub.nil _)
 ·rintro e s' H'-⟨rfl,rfl,rfl⟩
  show A7t _ _ _ _ .normal _ _
  exact B79 trivial C0 B9 A8 (ZP (by simp))
def D3a (a b:Int) (l:List Int):Option (List Int):=if (decide (w64 (b-a)≤12))=true then C02 a b l else none
theorem D5e {c:Sc} {A B:A1} {a b k:Int} {l r:List Int} (h:D3a a b l=some r) :
  I6 tab c (A++(ar1 l::B)) (.fn (.func 69) [] []) [.asl (A.length+0) l.length,.i a,.i b,.i k] [] (A++(ar1 r::B)):= by
 unfold D3a at h
 split at h
 ·next hc =>
  refine Z3 (aq:=[.asl (A.length+0) l.length,.i a,.i b,.i k]) Z Z Z ?_
  refine s0<|qm Z<|es (ra5 Z Z Z Z Z)<|s0<|qm Z<|es (ra6 Z Z Z Z Z Z)<|C8<|D3r (B.length+1) Z _ (fun S hS=>O0 (live:=[0,1,2,3,8,9]) Z (by decide) (Sub.trans (su6 Z Z Z Z Z Z) hS))<|C8<|s0<|qm Z<|qm Z<|A0 (A0s Z Z) Z<|qm Z<|es (ra7 Z Z Z Z Z Z Z)<|C4<|s0<|qm Z<|A0 (A4f Z Z) Z<|es (ra8 Z Z Z Z Z Z Z Z)<|O1 Z hc<|s0<|qm Z<|qm Z<|qm Z<|N9 (A1s Z Z (D3j h) Z) Z<|es .n<|C7 ?_
  refine .out Z ?_
  show A7t _ _ _ _ .ret _ _
  exact B79 trivial C0 B9 A8 (ZP (by simp))
 ·cases h
def B4x (l:List Int):Option (List Int) :=
 (A24 (IntKind.u64.wrap (Zh l:Int))).bind fun _=>D3a 0 (Zh l:Int) l
theorem D5k {c:Sc} {A B:A1} {l r:List Int} (h:B4x l=some r) :
  I6 tab c (A++(ar1 l::B)) (.fn (.func 48) [] []) [.asl (A.length+0) l.length] [] (A++(ar1 r::B)):= by
 unfold B4x at h
 refine oB h fun k hk h=>?_
 refine Z3 (aq:=[.asl (A.length+0) l.length]) Z Z Z ?_
 refine s0<|qm Z<|A0 (B3k (f:=cI) Z Z Z) Z<|qm Z<|es (ra2 Z Z)<|r0<|qm Z<|qm Z<|qm Z<|A0 (A4s Z) Z<|C3 (rs:=[.i k]) Z Z (A3 Z C2) ((B3n hk).frz)<|N9 (A1s Z Z (D5e h) Z) Z<|en .n ?_
 show A7t _ _ _ _ .normal _ _
 exact B79 trivial C0 B9 A8 (ZP (by simp))
theorem D0b {a b:Int} {l r:List Int} (h:C02 a b l=some r):r.length=l.length:= by
 unfold C02 at h
 refine C0k (fun s=>s.2.length=l.length) (fun r=>r.length=l.length) (fun x y hx hy=>?_) (fun x r hx hr=>?_) Z h
 ·unfold A5o at hy
  split at hy
  ·refine oB hy fun l1 hl1 hy=>?_
   cases hy
   refine C0k (fun s=>s.2.length=l.length) (fun r=>r.length=l.length) (fun x y hx hy=>?_) (fun x r hx hr=>?_) hx hl1
   ·unfold A1e at hy
    refine oB hy fun g _ hy=>?_
    split at hy
    ·refine oB hy fun _ _ hy=>oB hy fun _ _ hy=>oB hy fun _ _ hy=>?_
     cases hy
     simpa only[S0] using hx
    ·cases hy
   ·unfold A1e at hr
    refine oB hr fun g _ hr=>?_
    split at hr
    ·refine oB hr fun _ _ hr=>oB hr fun _ _ hr=>oB hr fun _ _ hr=>?_
     cases hr
    ·cases hr;exact hx
  ·cases hy
 ·unfold A5o at hr
  split at hr
  ·refine oB hr fun _ _ hr=>?_
   cases hr
  ·cases hr;exact hx
theorem D0c {l r:List Int} (h:B4x l=some r):r.length=l.length:= by
 unfold B4x D3a at h
 refine oB h fun _ _ h=>?_
 split at h
 ·exact D0b h
 ·cases h
end Pw
end
section
set_option maxRecDepth 100000
namespace Pw
open Go Am Go.Proofs.Ytjpjdglddmhplaa.Cd
def C3u (l:List Int) (k0:Int) (i:Int):Option Int:=if 0≤i∧i<((l.length-k0.toNat:Nat):Int) then idx l (k0+i) else none
theorem C3v {l:List Int} {k0 i a:Int} (h0:0≤k0) (h:C3u l k0 i=some a):0≤i∧i<((l.length-k0.toNat:Nat):Int)∧(l.map cI)[k0.toNat+i.toNat]? = some (cI a):= by
 unfold C3u at h
 split at h
 ·next h1 =>
  obtain⟨h2,h3⟩:=A5e h
  refine⟨h1.1,h1.2,?_⟩
  rw[show k0.toNat+i.toNat=(k0+i).toNat by omega,ZK,h3];rfl
 ·cases h
section
variable {T:Tab} {s:A9} {H0:A1} {l:List AO} {c:Sc} {n0:Nat}
theorem D2u {α:Type} {f:α→List AV} {k j m q:Nat} {p:Bool} {x:Opd} {lo hi:Option Opd} {e:List α} {a b:Int} (h:ev s x=some (.asl (H0.length+j) m)) (hl:l[j]? = some (.arr k p (e.map f))) (hm:e.length=m) (h1:bnd s 0 lo=some a) (h2:bnd s m hi=some b) (h3:0≤a∧a<b∧b≤m) (hq:b.toNat-a.toNat=q) :
  One T c n0 s (H0++l) (.sub k x lo hi) (.csl (H0.length+j) a.toNat m q) (H0++l):= by
 have:=D62 (T:=T) (c:=c) (n0:=n0) h hl hm h1 h2 ⟨h3.1,by omega,h3.2.2⟩
 rwa [if_neg (by omega),hq]at this
theorem D6a {N j k o m q:Nat} (h:ZG (j+1) k=true):(AV.csl (N+j) o m q).bd (N+k)=true:= by simp only[AV.bd];exact Zk (by have:=Zo h;omega)
end
def Z4 (k0:Int) (s:Int×Int×List Int):Option ((Int×Int×List Int)⊕(Int×List Int)) :=
 if (decide (s.1<((s.2.2.length-k0.toNat:Nat):Int)))=true then
  (C3u s.2.2 k0 s.1).bind fun a=>(C3u s.2.2 k0 (w64 (s.1-1))).bind fun b =>
  if (a != b)=true then
   (idx s.2.2 s.2.1).bind fun _=>some (.inl (w64 (s.1+1),w64 (s.2.1+1),P0 s.2.2 s.2.1 a))
  else some (.inl (w64 (s.1+1),s.2.1,s.2.2))
 else some (.inr (s.2.1,s.2.2))
def clr (l:List Int) (k:Int):List Int:=l.take k.toNat++(Zu (l.length-k.toNat) 0++l.drop (k.toNat+(l.length-k.toNat)))
def A4h (l:List Int) (k:Int):Option (Int⊕(Bool×List Int)) :=
 if (decide (k<(l.length:Int)))=true then
  (idx l k).bind fun a=>(idx l (w64 (k-1))).bind fun b =>
  if (a==b)=true then
   (loop (Z4 k) (1,k,l)).bind fun x =>
   if 0≤x.1∧x.1<(x.2.length:Int) then (slc (clr x.2 x.1) 0 x.1).bind fun r=>some (.inr (true,r)) else none
  else some (.inl (w64 (k+1)))
 else some (.inr (false,l))
def A5z (l:List Int):Option (Bool×List Int):=if (decide ((l.length:Int)<2))=true then some (false,l) else loop (A4h l) 1
theorem C7b {l:List Int} {k:Int} (h:0≤k∧k<(l.length:Int)):(clr l k).length=l.length:= by
 unfold clr;simp;omega
def CpP (A:A1) (X:AO) (l:List Int) (x:Bool×List Int) (e:Ex) (s:A9) (H:A1):Prop :=
 (x=(false,l)∧e=.exit 0∧s=[(0,.asl (A.length+0) l.length)]∧H=A++[ar1 l,X,.arr 1 false []]) ∨
 (x.1=true∧e=.ret∧s=[(2,.asl (A.length+3) x.2.length)]∧H=A++[.dead,X,.arr 1 false [],.arr 1 false (x.2.map cI)])
theorem C5p {c:Sc} {A:A1} {X:AO} {l:List Int} {x:Bool×List Int} (h:A5z l=some x) :
  I6 tab c (A++[ar1 l,X]) (.fn (.func 49) [] []) [.asl (A.length+0) l.length] (bif x.1 then [.fresh 1 (x.2.map cI)] else [.seq 1 (x.2.map cI)]) (A++[bif x.1 then .dead else .arr 1 true (l.map cI),X]):= by
 unfold A5z at h
 have hlen:(A++[ar1 l,X]).length=A.length+2:= by simp
 have fin0:∀s:A9,sget s 2=some (.asl (A.length+0) l.length)→A7t (A++[ar1 l,X]) (A++[.arr 1 true (l.map cI),X]) [.tmp 2] [.seq 1 (l.map cI)] .ret s (A++[ar1 l,X,.arr 1 false []]):=fun s hs=>by
  refine⟨trivial,_,_,A7 hs C0,by rw[hlen];exact A4 (D4d Z (Zi _) Z) B9,A2 N7 A8,?_⟩
  rw[hlen,A6p];rfl
 refine Z3 (aq:=[.asl (A.length+0) l.length]) Z Z Z ?_
 refine sg (H0:=A) 2 Z<|A0 A7p Z<|es (ra1 Z)<|C4<|s0<|qm Z<|A0 (B3k (f:=cI) Z Z Z) Z<|A0 (L5 Z Z) Z<|es (ra2 Z Z)<|wi h Z (fun hc h=>?_) fun hc h=>?_
 ·refine s0<|qm Z<|qm Z<|es (ra1 Z)<|C7 ?_
  obtain rfl:=os h
  exact fin0 _ Z
 ·refine C6<|C4<|s0<|qm Z<|es (ra2 Z Z)<|C8<|wl (fun k=>[(0,.asl (A.length+0) l.length),(3,.i k)]) (fun (_:Unit) _=>[ar1 l,X,.arr 1 false []]) 3 (CpP A X l) () h Z Z (fun _ _=>rfl) (fun _=>rfl) Z (fun _=>bdc (A3l Z) (bdc A5 bdn)) (fun _ k o hs=>?_) ?_
  ·unfold A4h at hs
   refine C4<|s0<|qm Z<|qm Z<|A0 (B3k (f:=cI) Z Z Z) Z<|A0 (L5 Z Z) Z<|es (ra3 Z Z Z)<|wi hs Z (fun hc hs=>?_) fun hc hs=>?_
   ·refine oB hs fun a ha hs=>oB hs fun b hb hs=>?_
    have hk0:0≤k:=(A5e ha).1
    refine C6<|C4<|C8<|s0<|qm Z<|qm Z<|A0 (A1i (f:=cI) Z Z Z Z ha) Z<|A0 (A17 (x:=.i a) Z Z (Zi _) (A0t ha) Z) Z<|qm Z<|qm Z<|A0 (A0s Z Z) Z<|A0 (A1i (f:=cI) Z Z Z Z hb) Z<|A0 (A17 (x:=.i b) Z Z (Zi _) (A0t hb) Z) Z<|A0 (K0 Z Z) Z<|es (ra3 Z Z Z)<|wi hs Z (fun hc2 hs=>?_) fun hc2 hs=>?_
    ·refine oB hs fun y hy hs=>?_
     have hkl:k<(l.length:Int):= by have:=(Ze.1 (A5e ha).2).1;omega
     refine s0<|qm Z<|qm Z<|A0 (D2u (f:=cI) (e:=l) (q:=l.length-k.toNat) Z Z Z Z Z ⟨hk0,hkl,ZR _⟩ Z) Z<|qm Z<|es (ra3 Z Z Z)<|C4<|s0<|qm Z<|es (ra4 Z Z Z Z)<|C8<|wl (fun t=>[(0,.asl (A.length+0) t.2.2.length),(3,.i t.2.1),(4,.csl (A.length+0) k.toNat t.2.2.length (t.2.2.length-k.toNat)),(5,.i t.1)]) (fun (_:Unit) t=>[ar1 t.2.2,X,.arr 1 false []]) 3 (fun r e s' H'=>PX 2 [(0,.asl (A.length+0) r.2.length),(3,.i r.1)] (A++[ar1 r.2,X,.arr 1 false []]) e s' H') () hy Z Z (fun _ _=>rfl) (fun _=>rfl) Z (fun _=>bdc (A3l Z) (bdc A5 (bdc (D6a Z) (bdc A5 bdn)))) (fun _ t o ht=>?_) ?_
     ·unfold Z4 at ht
      refine C4<|s0<|qm Z<|qm Z<|A0 (D40 Z) Z<|A0 (L5 Z Z) Z<|es (ra5 Z Z Z Z Z)<|wi ht Z (fun hc3 ht=>?_) fun hc3 ht=>?_
      ·refine oB ht fun u hu ht=>oB ht fun v hv ht=>?_
       obtain⟨u1,u2,u3⟩:=C3v hk0 hu
       obtain⟨v1,v2,v3⟩:=C3v hk0 hv
       refine C6<|C4<|C8<|s0<|qm Z<|qm Z<|A0 (C6e (f:=cI) Z Z Z Z u1 u2) Z<|A0 (A17 (x:=.i u) Z Z (Zi _) u3 Z) Z<|qm Z<|qm Z<|A0 (A0s Z Z) Z<|A0 (C6e (f:=cI) Z Z Z Z v1 v2) Z<|A0 (A17 (x:=.i v) Z Z (Zi _) v3 Z) Z<|A0 (Q9 Z Z) Z<|es (ra5 Z Z Z Z Z)<|wi ht Z (fun hc4 ht=>?_) fun hc4 ht=>?_
       ·refine oB ht fun w hw ht=>?_
        refine s0<|qm Z<|qm Z<|qm Z<|qm Z<|A0 (C6e (f:=cI) Z Z Z Z u1 u2) Z<|A0 (A17 (x:=.i u) Z Z (Zi _) u3 Z) Z<|A0 (A1i (f:=cI) Z Z Z Z hw) Z<|K6 (A6b (ds:=cI u) Z Z Z Z Z (Zi _) (A0t hw) Z Z) Z ?_
        rw[A59]
        refine es (ra4 Z Z Z Z)<|r0<|qm Z<|A0 (G1 Z Z) Z<|qm Z<|en (ra4 Z Z Z Z)<|r0<|qm Z<|A0 (G1 Z Z) Z<|qm Z<|en (ra4 Z Z Z Z) ?_
        cases ht
        exact lnT () Z (su4 (by simp only[S0];rfl) Z (by simp only[S0];rfl) Z)
       ·refine C6<|r0<|qm Z<|A0 (G1 Z Z) Z<|qm Z<|en (ra4 Z Z Z Z) ?_
        cases ht
        exact lnT () Z (su4 Z Z Z Z)
      ·refine J1 ?_
       obtain rfl:=os ht
       exact lx Z px (su2 Z Z)
     ·rintro e s' H'-⟨rfl,rfl,rfl⟩
      obtain⟨k1,l1⟩:=y
      split at hs
      ·next hk1 =>
       refine oB hs fun r hr hs=>?_
       replace hk1:0≤k1∧k1<(l1.length:Int):=hk1
       replace hr:slc (clr l1 k1) 0 k1=some r:=hr
       have hcl:=C7b hk1
       refine s0<|qm Z<|qm Z<|A0 (D2u (f:=cI) (e:=l1) (q:=l1.length-k1.toNat) Z Z Z Z Z ⟨hk1.1,hk1.2,ZR _⟩ Z) Z<|K6 (D4v (f:=cI) (e:=l1) (a:=0) Z Z Z Z (show k1.toNat+(l1.length-k1.toNat)≤l1.length by omega) (show 0<l1.length-k1.toNat by omega)) Z<|es (ra2 Z Z)<|sg (H0:=A) 3 Z<|qm Z<|qm Z<|N9 (D9g (f:=cI) (e:=clr l1 k1) Z Z hcl Z hr) Z<|qm Z<|es (ra1 Z)<|C7 ?_
       cases hs
       exact lx Z (.inr ⟨Z,Z,Z,Z⟩) (su1 Z)
      ·cases hs
    ·refine C6<|r0<|qm Z<|A0 (G1 Z Z) Z<|qm Z<|en (ra2 Z Z) ?_
     cases hs
     exact lnT () Z (su2 Z Z)
   ·refine J1 ?_
    obtain rfl:=os hs
    exact lx Z (.inl ⟨Z,Z,Z,Z⟩) (su1 Z)
  ·rintro e s' H'-(⟨rfl,rfl,rfl,rfl⟩|⟨hx,rfl,rfl,rfl⟩)
   ·refine s0<|qm Z<|qm Z<|es (ra1 Z)<|C7 ?_
    exact fin0 _ Z
   ·obtain⟨d,r⟩:=x
    obtain rfl:d=true:=hx
    show A7t _ _ _ _ .ret _ _
    refine⟨trivial,_,_,A7 Z C0,by rw[hlen];exact A4 (D6m Z (Zi _) Z) B9,A2 A0u A8,?_⟩
    rw[hlen,A6p];rfl
end Pw
end
section
namespace Pw
open Go Am
abbrev Srt (l:List Int):Prop:=l.Pairwise (·≤·)
abbrev Str (l:List Int):Prop:=l.Pairwise (· < ·)
theorem C76 (x y:Int):A1y x y=some (decide (x<y)):= by
 unfold A1y A0w
 simp
theorem C8r:∀(m:Nat) (P:List Int) (x:Int) (R:List Int) (n:Nat),P.length=m→Srt P→m<4611686018427387904→m+1≤n→∃ Q,A5h (A1e 0) n ((m:Int),P++x::R)=some (Q++R)∧Srt Q∧Q.Perm (x::P)
 | 0,P,x,R,n+1,hP,hs,_,_=>by
  obtain rfl:=List.length_eq_zero_iff.mp hP
  refine⟨[x],?_,by simp[Srt],List.Perm.refl _⟩
  rw[J7]
  have:A1e 0 (((0:Nat):Int),[]++x::R)=some (.inr (x::R)):= by unfold A1e;simp
  rw[this];rfl
 | m+1,P,x,R,n+1,hP,hs,hm,hn=>by
  obtain⟨P',y,rfl⟩:∃P' y,P=P'++[y]:=⟨P.dropLast,P.getLast (by intro e;rw[e]at hP;cases hP),(List.dropLast_concat_getLast _).symm⟩
  have hP':P'.length=m:= by simpa using hP
  subst hP'
  have hs':=Z0v.mp hs
  have e1:idx (P'++[y]++x::R) ((P'.length+1:Nat):Int)=some x:=A12 (by simp)
  have ew:w64 (((P'.length+1:Nat):Int)-1)=(P'.length:Int):= by rw[F5 (by omega)];omega
  have e0:idx (P'++[y]++x::R) (P'.length:Int)=some y:=A12 (by simp)
  rw[J7]
  by_cases hxy:x<y
  ·obtain⟨Q,h1,h2,h3⟩:=C8r P'.length P' x (y::R) n Z hs'.1 (by omega) (by omega)
   have hset1:P0 (P'++[y]++x::R) ((P'.length+1:Nat):Int) y=P'++[y]++y::R:= by
    unfold P0;rw[ZL,Z0i _ _ (by simp)];simp
   have hset2:P0 (P'++[y]++y::R) (P'.length:Int) x=P'++x::(y::R):= by
    unfold P0;rw[ZL];simp
   have hb:A1e 0 (((P'.length+1:Nat):Int),P'++[y]++x::R)=some (.inl ((P'.length:Int),P'++x::(y::R))):= by
    unfold A1e
    simp only[ew]
    have e3:idx (P'++[y]++y::R) (P'.length:Int)=some y:=A12 (by simp)
    rw[if_pos (by simp <;> omega),e1,e0]
    simp only[Zg,C76,decide_eq_true hxy,if_true]
    rw[hset1,e3,hset2]
    rfl
   rw[hb]
   refine⟨Q++[y],by show A5h (A1e 0) n ((P'.length:Int),P'++x::(y::R))=_;rw[h1];simp,?_,?_⟩
   ·refine Z0v.mpr ⟨h2,by simp,fun a ha b hb=>?_⟩
    have:b=y:= by simpa using hb
    subst this
    rcases Zv.mp (h3.mem_iff.mp ha) with rfl|ha
    ·omega
    ·exact hs'.2.2 a ha b (by simp)
   ·have:=(Z36 (l₁:=Q) (l₂:=[y]))
    refine this.trans ?_
    refine(List.Perm.cons y h3).trans ((List.Perm.swap x y P').trans ?_)
    exact List.Perm.cons x (Z36 (l₁:=[y]) (l₂:=P'))
  ·refine⟨P'++[y]++[x],?_,?_,Z36 (l₁:=P'++[y]) (l₂:=[x])⟩
   ·have hb:A1e 0 (((P'.length+1:Nat):Int),P'++[y]++x::R)=some (.inr (P'++[y]++x::R)):= by
     unfold A1e
     simp only[ew]
     rw[if_pos (by simp <;> omega),e1,e0]
     simp only[Zg,C76,decide_eq_false hxy,Zj,if_false]
    rw[hb];simp
   ·refine Z0v.mpr ⟨hs,by simp,fun a ha b hb=>?_⟩
    have:b=x:= by simpa using hb
    subst this
    rcases ZA.mp ha with ha|ha
    ·have:=hs'.2.2 a ha y (by simp);omega
    ·have:a=y:= by simpa using ha
     omega
theorem C47:∀(R S:List Int) (n:Nat),Srt S→S.length+R.length<4611686018427387904→R.length+1≤n→∃ l',A5h (A5o 0 ((S.length+R.length:Nat):Int)) n ((S.length:Int),S++R)=some l'∧Srt l'∧l'.Perm (S++R)
 | [],S,n+1,hs,_,_=>by
  refine⟨S,?_,hs,by simp⟩
  rw[J7]
  unfold A5o
  simp
 | x::R,S,n+1,hs,hl,hn=>by
  obtain⟨Q,h1,h2,h3⟩:=C8r S.length S x R 9223372036854775808 Z hs (by simp at hl;omega) (by simp at hl;omega)
  have hQ:Q.length=S.length+1:= by rw[h3.length_eq];rfl
  obtain⟨l',g1,g2,g3⟩:=C47 R Q n h2 (by simp at hl;omega) (by simp at hn;omega)
  refine⟨l',?_,g2,g3.trans ?_⟩
  ·rw[J7]
   have hb:A5o 0 ((S.length+(x::R).length:Nat):Int) ((S.length:Int),S++x::R)=some (.inl ((Q.length:Int),Q++R)):= by
    unfold A5o
    simp only[]
    rw[if_pos (by simp <;> omega)]
    unfold loop
    rw[h1]
    simp only[Zg]
    rw[F5 (by simp at hl;omega),hQ];rfl
   rw[hb]
   simp only
   have e:((S.length+(x::R).length:Nat):Int)=((Q.length+R.length:Nat):Int):= by rw[hQ];simp;omega
   rw[e];exact g1
  ·refine(List.Perm.append_right R h3).trans ?_
   rw[Z0d]
   exact(List.perm_middle (l₁:=S) (l₂:=R) (a:=x)).symm
theorem C80:∀n,n<13→(A24 (IntKind.u64.wrap ((n:Nat):Int))).isSome=true:= by decide +kernel
theorem D5j (l:List Int) (h0:0<l.length) (hl:l.length<13):∃l',B4x l=some l'∧Srt l'∧l'.Perm l:= by
 obtain⟨k,hk⟩:=Option.isSome_iff_exists.mp (C80 l.length hl)
 cases l with
 | nil=>cases h0
 | cons a l =>
  obtain⟨l',h1,h2,h3⟩:=C47 l [a] 9223372036854775808 (by simp[Srt]) (by simp at hl ⊢; omega) (by simp at hl;omega)
  refine⟨l',?_,h2,h3⟩
  unfold B4x D3a C02
  rw[hk]
  simp only[Zg]
  rw[if_pos (by rw[decide_eq_true_eq,F5 (by simp only[ZX]at hl ⊢; omega)];simp only[ZX]at hl ⊢; omega)]
  have e:(((a::l).length:Nat):Int)=(([a].length+l.length:Nat):Int):= by simp;omega
  rw[e]
  exact h1
theorem C0f {l:List Int} {k0 i:Nat} {x:Int} (h:l[k0+i]? = some x):C3u l (k0:Int) (i:Int)=some x:= by
 unfold C3u
 have:=(Ze.mp h).1
 rw[if_pos ⟨by omega,by omega⟩,show (k0:Int)+(i:Int)=((k0+i:Nat):Int) by omega]
 exact A12 h
theorem compact2 {O:List Int} {k0:Nat} (hO:Srt O) (hk0:1≤k0) (hlen:O.length<4611686018427387904):∀(d k2 k:Nat) (cur:List Int) (n:Nat),k0+k2+d=O.length→1≤k2→1≤k→k+1≤k0+k2→cur.length=O.length→(∀ i,k0+k2≤i+1→cur[i]? = O[i]?)→Str (cur.take k)→(∀ x,x∈cur.take k↔x∈O.take (k0+k2))→d+1≤n →
  ∃ (k':Nat) (cur':List Int),A5h (Z4 (k0:Int)) n ((k2:Int),(k:Int),cur)=some ((k':Int),cur')∧cur'.length=O.length∧k'<O.length∧Str (cur'.take k')∧∀ x,x∈cur'.take k'↔x∈O
 | 0,k2,k,cur,n+1,hd,h2,hk,hlt,hcl,hdr,hst,hmem,_=>by
  refine⟨k,cur,?_,hcl,by omega,hst,fun x=>by rw[hmem,ZP (by omega)]⟩
  rw[J7]
  unfold Z4
  simp only[]
  rw[if_neg (by rw[hcl,ZL];simp;omega)]
 | d+1,k2,k,cur,n+1,hd,h2,hk,hlt,hcl,hdr,hst,hmem,hn=>by
  have hi1:k0+k2<O.length:= by omega
  have ha:O[k0+k2]? = some O[k0+k2]:=Zm hi1
  have hb:O[k0+(k2-1)]? = some O[k0+(k2-1)]:=Zm (by omega)
  have hle:O[k0+(k2-1)]≤O[k0+k2]:=Z0a.mp hO _ _ (by omega) hi1 (by omega)
  have ea:C3u cur (k0:Int) (k2:Int)=some O[k0+k2]:=C0f (by rw[hdr _ (by omega),ha])
  have eb:C3u cur (k0:Int) (w64 ((k2:Int)-1))=some O[k0+(k2-1)]:= by
   rw[F5 (by omega),show (k2:Int)-1=((k2-1:Nat):Int) by omega]
   exact C0f (by rw[hdr _ (by omega),hb])
  have hw1:w64 ((k2:Int)+1)=((k2+1:Nat):Int):= by rw[F5 (by omega)];omega
  have htk:∀x,x∈O.take (k0+(k2+1))↔x∈O.take (k0+k2)∨x=O[k0+k2]:=fun x=>by
   rw[show k0+(k2+1)=k0+k2+1 by omega,ZY hi1,ZA,Z14]
  have hlast:O[k0+(k2-1)]∈O.take (k0+k2):= by
   rw[Z0b];exact⟨k0+(k2-1),by omega,Z⟩
  rw[J7]
  by_cases hab:O[k0+k2]=O[k0+(k2-1)]
  ·have hB:Z4 (k0:Int) ((k2:Int),(k:Int),cur)=some (.inl (((k2+1:Nat):Int),(k:Int),cur)):= by
    unfold Z4
    simp only[]
    rw[if_pos (by rw[hcl,ZL];simp;omega),ea,eb]
    simp only[Zg,hw1]
    rw[if_neg (by simp[hab])]
   rw[hB]
   exact compact2 hO hk0 hlen d (k2+1) k cur n (by omega) (by omega) hk (by omega) hcl (fun i hi=>hdr i (by omega)) hst (fun x=>by rw[hmem,htk];exact⟨fun h=>.inl h,fun h=>h.elim id fun h=>by rw[h,hab];exact hlast⟩) (by omega)
  ·have hkl:k<cur.length:= by omega
   have hB:Z4 (k0:Int) ((k2:Int),(k:Int),cur)=some (.inl (((k2+1:Nat):Int),((k+1:Nat):Int),cur.set k O[k0+k2])):= by
    unfold Z4
    simp only[]
    rw[if_pos (by rw[hcl,ZL];simp;omega),ea,eb]
    simp only[Zg,hw1]
    rw[if_pos (by simpa using hab),A12 (Zm hkl)]
    simp only[Zg]
    rw[F5 (by omega)]
    unfold P0
    rw[ZL];rfl
   rw[hB]
   have htake:(cur.set k O[k0+k2]).take (k+1)=cur.take k++[O[k0+k2]]:= by
    rw[ZY (by simpa using hkl)]
    simp[Z2x]
    rw[Z1j (by rw[ZE];omega)]
   refine compact2 hO hk0 hlen d (k2+1) (k+1) (cur.set k O[k0+k2]) n (by omega) (by omega) (by omega) (by omega) (by simpa using hcl) (fun i hi=>?_) ?_ ?_ (by omega)
   ·rw[List.getElem?_set_ne (by omega)];exact hdr i (by omega)
   ·rw[htake]
    refine Z0v.mpr ⟨hst,by simp,fun x hx z hz=>?_⟩
    have:z=O[k0+k2]:= by simpa using hz
    subst this
    have hx2:=(hmem x).mp hx
    rw[Z0b]at hx2
    obtain⟨j,hj,rfl⟩:=hx2
    have h1:O[j]≤O[k0+(k2-1)]:= by
     by_cases hjk:j=k0+(k2-1)
     ·subst hjk;exact ZR _
     ·exact Z0a.mp hO _ _ (by omega) (by omega) (by omega)
    omega
   ·intro x
    rw[htake,htk]
    simp[hmem x]
theorem compact1 {O:List Int} (hO:Srt O) (hlen:O.length<4611686018427387904):∀(d k:Nat) (n:Nat),k+d=O.length→1≤k→Str (O.take k)→d+1≤n →
  ∃ b r,A5h (A4h O) n (k:Int)=some (b,r)∧Str r∧∀ x,x∈r↔x∈O
 | 0,k,n+1,hd,hk,hst,_=>by
  refine⟨false,O,?_,by rwa [ZP (by omega)]at hst,fun x=>Iff.rfl⟩
  rw[J7]
  unfold A4h
  rw[if_neg (by simp <;> omega)]
 | d+1,k,n+1,hd,hk,hst,hn=>by
  have hi1:k<O.length:= by omega
  have ea:idx O (k:Int)=some O[k]:=A12 (Zm hi1)
  have eb:idx O (w64 ((k:Int)-1))=some O[k-1]:= by
   rw[F5 (by omega),show (k:Int)-1=((k-1:Nat):Int) by omega]
   exact A12 (Zm (by omega))
  have hle:O[k-1]≤O[k]:=Z0a.mp hO _ _ (by omega) hi1 (by omega)
  rw[J7]
  unfold A4h
  rw[if_pos (by simp <;> omega),ea,eb]
  simp only[Zg]
  by_cases hab:O[k]=O[k-1]
  ·rw[if_pos (by simpa using hab)]
   obtain⟨k',cur',h1,h2,h3,h4,h5⟩:=compact2 hO hk hlen (O.length-k-1) 1 k O 9223372036854775808 (by omega) (by omega) hk (by omega) Z (fun _ _=>rfl) hst (fun x=>by
    rw[ZY hi1]
    simp only[ZA,Z14]
    refine⟨fun h=>.inl h,fun h=>h.elim id fun h=>?_⟩
    rw[h,hab,Z0b]
    exact⟨k-1,by omega,Z⟩) (by omega)
   unfold loop
   rw[show ((1:Int),(k:Int),O)=(((1:Nat):Int),(k:Int),O) from Z,h1]
   simp only[Zg]
   rw[if_pos ⟨by omega,by omega⟩]
   have hr:(clr cur' (k':Int)).take k'=cur'.take k':= by
    unfold clr
    rw[ZL,List.take_append_of_le_length (by simp <;> omega),Z3i,Z5k]
   rw[B5z (by rw[C7b ⟨by omega,by omega⟩];omega),hr]
   exact⟨true,_,Z,h4,h5⟩
  ·rw[if_neg (by simpa using hab),F5 (by omega),show (k:Int)+1=((k+1:Nat):Int) by omega]
   refine compact1 hO hlen d (k+1) n (by omega) (by omega) ?_ (by omega)
   rw[ZY hi1]
   refine Z0v.mpr ⟨hst,by simp,fun x hx z hz=>?_⟩
   have:z=O[k]:= by simpa using hz
   subst this
   rw[Z0b]at hx
   obtain⟨j,hj,rfl⟩:=hx
   have h1:O[j]≤O[k-1]:= by
    by_cases hjk:j=k-1
    ·subst hjk;exact ZR _
    ·exact Z0a.mp hO _ _ (by omega) (by omega) (by omega)
   omega
theorem C5o {O:List Int} (hO:Srt O) (h0:0<O.length) (hlen:O.length<100):∃b r,A5z O=some (b,r)∧Str r∧∀ x,x∈r↔x∈O:= by
 unfold A5z
 by_cases h:O.length=1
 ·rw[if_pos (by simp <;> omega)]
  refine⟨false,O,Z,?_,fun x=>Iff.rfl⟩
  match O,h with
  | [a],_=>simp[Str]
 ·rw[if_neg (by simp <;> omega)]
  refine compact1 hO (by omega) (O.length-1) 1 9223372036854775808 (by omega) (by omega) ?_ (by omega)
  match O,h0 with
  | a::l,_=>simp[Str]
end Pw
end
section
set_option maxRecDepth 100000
namespace Am
open Go
theorem D2v {c:Sc} {b a n:Nat} (h:a<b):c.okL b [.asl a n]=true:= by
 have key:∀B,(ZG B b||ZU a B)=true:=fun B=>by
  by_cases hB:B≤b
  ·rw[Zk hB];rfl
  ·rw[show ZU a B=true from Zk (by omega),Z1n]
 have h2:(c.outer.all fun B=>ZG B b||ZU a B)=true:=Zq.2 fun B _=>key B
 have h3:=key c.cur
 simp only[Sc.okL,Sc.ok,AV.plain,AV.bd,h2,h3,Z5j,Z2y,Z1n]
theorem C29 {T:Tab} {c:Sc} {i:Nat} {af:AFunc} {first cap args aq rs:List AV} {H H':A1} (haf:T i=some af) (has:first++args++cap=aq) (hn:(Nat.beq aq.length af.nargs&&ZU af.nargs 1000)=true)
  (h:WP T af.body (J0 0 aq) H ⟨H.length,c.cur::c.outer⟩ (fun e s H1=>(match e with|.exit _=>False|_=>True)∧∃ rs0,results s H1 af.results=some rs0∧P3 H.length H1 rs0=some (rs,H')∧bdL H.length rs=false)):I6 T c H (.fn (.func i) first cap) args rs H':= by
 obtain⟨e,S',s',H2,h1,h2,h3,rs0,h4,h5,h6⟩:=h _ (Sub.refl _)
 refine I6.fn (af:=af) (bd:=af.body) (aq:=aq) (rs0:=rs0) (rs1:=rs) (H1:=H') (e:=e) (st':=⟨S',H2,⟨H.length,c.cur::c.outer⟩⟩) Z haf Z has.symm hn Z h1 (by cases e <;> first|rfl|exact h3.elim) (R6 h2 h4) h5 Z ?_
 unfold trunc
 rw[h6];rfl
end Am
namespace Am
open Go
def New (T:Tab) (f:AV) (aq:List AV) (i:Nat) (L:List AO):Prop:=∀ (c:Sc) (H:A1) (N:Nat),H.length=N→I6 T c H f aq [.ptr (N+i) 0,.i 0] (H++L)
theorem A28 {T:Tab} {s:A9} {H0:A1} {l l1:List AO} {c:Sc} {n0 k i:Nat} {f:Opd} {args:List Opd} {fv:AV} {as0 aq:List AV} {L:List AO} (hn:New T fv aq i L) (hf:ev s f=some fv) (ha:evs s args=some as0) (hz:P2 (H0++l) as0=some (aq,H0++l1)) (hk:l1.length=k) :
  One T c n0 s (H0++l) (.call f args [] false) (.tup [.ptr (H0.length+(k+i)) 0,.i 0]) (H0++(l1++L)):= by
 have:=hn c (H0++l1) (H0.length+k) (by rw[Zp,hk])
 rw[Zz,Nat.add_assoc]at this
 exact Q3 hf ha hz this Z
def inR (n:Nat) (i:Int):Option Unit:=if 0≤i∧i<n then some () else none
theorem C1y {n:Nat} {i:Int} {u:Unit} (h:inR n i=some u):0≤i∧i<n:= by
 unfold inR at h;split at h
 ·assumption
 ·cases h
def isel (i:Int) (a b c:Nat):Nat:=if i=0 then a else if i=1 then b else c
def sel3 {α:Type} (i:Int) (a b c:Option α):Option α:=if i=0 then a else if i=1 then b else c
theorem B8b {α:Type} {T:Tab} {c:Sc} {H:A1} {i:Int} {n0 n1 n2:Nat} {aq:List AV} {rs:α→List AV} {a b d:Option α} {x:α} (h0:∀{x},a=some x→X5 T c H (.fn (.func n0) [] []) aq (rs x)) (h1:∀{x},b=some x→X5 T c H (.fn (.func n1) [] []) aq (rs x)) (h2:∀{x},d=some x→X5 T c H (.fn (.func n2) [] []) aq (rs x)) (h:sel3 i a b d=some x) :
  X5 T c H (.fn (.func (isel i n0 n1 n2)) [] []) aq (rs x):= by
 unfold sel3 at h
 unfold isel
 split at h
 ·next e=>rw[if_pos e];exact h0 h
 ·next e =>
  rw[if_neg e]
  split at h
  ·next e=>rw[if_pos e];exact h1 h
  ·next e=>rw[if_neg e];exact h2 h
end Am
namespace Am
open Go
theorem C53 {H:A1} {b:Nat} {cs:List AV} (h:hcells H b=some cs):hstk H b=none:= by
 unfold hcells at h
 unfold hstk
 split at h <;> first|(rename_i e;rw[e])|cases h
end Am
namespace Pw
open Go Am Go.Proofs.Ytjpjdglddmhplaa.Cd
def A42 (t:PaShow) (d:AV):List AV:=[.seq 8 (Zd B2 t.Gowns),.seq 4 (Zd A6 t.Figures),.i t.Purse,.seq 2 (Zd B1 t.Incomes),.fn (.func 41) [] [],.fn (.func 42) [] [],.fn (.func 43) [] [],.fn (.func 25) [] [],.fn (.func 44) [] [],.fn (.func 45) [] [],.fn (.func 26) [] [],.fn (.func 46) [] [],.fn (.func 47) [] [],d]
def shI (t:PaShow) (w:List AV) (d:AV):List AV:=.seq 8 (Zd B2 t.Gowns)::.seq 4 (Zd A6 t.Figures)::.i t.Purse::.seq 2 (Zd B1 t.Incomes)::(w++[d])
def A2h (t:PaShow) (days:List Int):List AV:=A42 t (.seq 1 (Zd cI days))
def shw (t:PaShow) (days:List Int):pawn_show:=⟨t,⟨pawn_way.mk,pawn_way.mk,pawn_way.mk⟩,days⟩
theorem way3 {i:Int} {u:Unit} (h:inR 3 i=some u):i=0∨i=1∨i=2:= by have:=C1y h;omega
theorem D98 {t:PaShow} {d:AV} {i:Int} {u:Unit} (h:inR 3 i=some u):((A42 t d).drop (4+i.toNat*3+2)).head? = some (.fn (.func (isel i 43 45 47)) [] []):= by rcases way3 h with rfl|rfl|rfl <;> rfl
theorem D99 {t:PaShow} {d:AV} {i:Int} {u:Unit} (h:inR 3 i=some u):((A42 t d).drop (4+i.toNat*3)).take 3=[.fn (.func (isel i 41 25 26)) [] [],.fn (.func (isel i 42 44 46)) [] [],.fn (.func (isel i 43 45 47)) [] []]:= by rcases way3 h with rfl|rfl|rfl <;> rfl
theorem E0a {t:PaShow} {d:AV} {i:Int} {u:Unit} (h:inR 3 i=some u):ZG 3 ((A42 t d).drop (4+i.toNat*3)).length=true:= by rcases way3 h with rfl|rfl|rfl <;> rfl
end Pw
end
section
set_option maxRecDepth 100000
namespace Pw
open Go Am Go.Proofs.Ytjpjdglddmhplaa.Cd
def A4i (t:PaShow) (s:List Int×Int):Option ((List Int×Int)⊕List Int) :=
 if (decide (s.2<(Zh t.Incomes:Int)))=true then
  (idx t.Incomes s.2).bind fun x=>(app 8 s.1 [x.Day]).bind fun l=>some (.inl (l,w64 (s.2+1)))
 else some (.inr s.1)
def A1f (t:PaShow):Option (Int×List Int) :=
 (A2t t).bind fun x =>
 if (x.2.2 != 0)=true then some (x.2.2,[])
 else (loop (A4i t) ([0],0)).bind fun l=>(B4x l).bind fun l=>(A5z l).bind fun y=>some (0,y.2)
theorem A2k {c:Sc} {H:A1} {t:PaShow} {x:Int×List Int} (h:A1f t=some x) (hx:(x.1==0)=false) :
  I6 tab c H (.fn (.func 23) [] []) [.agg (B6 t)] [.lit (.pointer none),.i x.1] H:= by
 unfold A1f at h
 refine oB h fun y hy h=>?_
 refine Z3 (aq:=[.agg (B6 t)]) Z Z Z (U7 ?_)
 refine sg 0 Z<|A0 (F6 (cs:=B6 t) Z Z Z) Z<|qm Z<|qm Z<|es (ra1 Z)<|C4<|s0<|A0 (E8 Z Z Z) Z<|C3 (rs:=[.i y.1,.i y.2.1,.i y.2.2]) Z Z (A3 (E1 Z) C2) ((A92 hy).frz)<|qm Z<|A0 (B4 Z Z) Z<|A0 (B4 Z Z) Z<|A0 (B4 Z Z) Z<|qm Z<|qm Z<|qm Z<|es (ra2 Z Z)<|s0<|qm Z<|A0 (Q9 Z Z) Z<|es (ra3 Z Z Z)<|wi h Z (fun hc h=>?_) fun hc h=>?_
 ·obtain rfl:=os h
  refine s0<|qm Z<|qm Z<|qm Z<|es (ra2 Z Z)<|C7 ?_
  refine⟨trivial,_,_,A7 Z (A7 Z C0),A4 Z (A4 Z B9),A2 A5 (A2 A5 A8),?_⟩
  exact Z07
 ·refine oB h fun l hl h=>oB h fun l2 hl2 h=>oB h fun z hz h=>?_
  cases h
  cases hx
theorem C86 {c:Sc} {H:A1} {t:PaShow} {x:Int×List Int} (h:A1f t=some x) (hx:(x.1==0)=true) {y:Int×Int×Int} {l l2:List Int} {z:Bool×List Int} (hy:A2t t=some y) (hl:loop (A4i t) ([0],0)=some l) (hl2:B4x l=some l2) (hz:A5z l2=some z) :
  I6 tab c H (.fn (.func 23) [] []) [.agg (B6 t)] [.ptr (H.length+2) 0,.i 0] (H++[.cells (B6 t),bif z.1 then .dead else .arr 1 true (l2.map cI),.cells (A2h t x.2)]):= by
 unfold A1f at h
 rw[hy,Zg]at h
 split at h
 ·next hc=>cases h;rw[show y.2.2=0 by simpa using hx]at hc;cases hc
 next hc =>
 rw[hl,Zg,hl2,Zg,hz,Zg]at h
 obtain rfl:=os h
 have hsort:∀c' d,I6 tab c' (H++[.cells (B6 t),ar1 l,.cells (A42 t d)]) (.fn (.func 48) [] []) [.asl (H.length+1) l.length] [] (H++[.cells (B6 t),ar1 l2,.cells (A42 t d)]):=fun c' d=>by
  have:=D5k (c:=c') (A:=H++[.cells (B6 t)]) (B:=[.cells (A42 t d)]) hl2
  simpa using this
 have hcomp:∀c' d,I6 tab c' (H++[.cells (B6 t),ar1 l2,.cells (A42 t d)]) (.fn (.func 49) [] []) [.asl (H.length+1) l2.length] (bif z.1 then [.fresh 1 (z.2.map cI)] else [.seq 1 (z.2.map cI)]) (H++[.cells (B6 t),bif z.1 then .dead else .arr 1 true (l2.map cI),.cells (A42 t d)]):=fun c' d=>by
  have:=C5p (c:=c') (A:=H++[.cells (B6 t)]) (X:=.cells (A42 t d)) hz
  simpa using this
 have hlen2:=D0c hl2
 refine C29 (aq:=[.agg (B6 t)]) Z Z Z (U7 ?_)
 refine sg 0 Z<|A0 (F6 (cs:=B6 t) Z Z Z) Z<|qm Z<|qm Z<|es (ra1 Z)<|C4<|s0<|A0 (E8 Z Z Z) Z<|C3 (rs:=[.i y.1,.i y.2.1,.i y.2.2]) Z Z (A3 (E1 Z) C2) ((A92 hy).frz)<|qm Z<|A0 (B4 Z Z) Z<|A0 (B4 Z Z) Z<|A0 (B4 Z Z) Z<|qm Z<|qm Z<|qm Z<|es (ra2 Z Z)<|s0<|qm Z<|A0 (Q9 Z Z) Z<|es (ra3 Z Z Z)<|Q6 Z (by simpa using hc)<|C6<|sg 1 Z<|A0 (E8 Z Z Z) Z<|A0 (A9h (rows:=Zd cI [0]) Z Z (D9 (fun _=>rfl) _)) Z<|A0 (R5 (cs:=(shI t [.lit .nilFunc,.lit .nilFunc,.lit .nilFunc,.lit .nilFunc,.lit .nilFunc,.lit .nilFunc,.lit .nilFunc,.lit .nilFunc,.lit .nilFunc] (.asl (H.length+1) 1))) Z Z) Z<|A0 (F6 (cs:=(shI t [.lit .nilFunc,.lit .nilFunc,.lit .nilFunc,.lit .nilFunc,.lit .nilFunc,.lit .nilFunc,.lit .nilFunc,.lit .nilFunc,.lit .nilFunc] (.asl (H.length+1) 1))) Z Z Z) Z<|qm Z<|es (ra2 Z Z) ?_
 refine s0<|qm Z<|A0 (R5 (cs:=[.fn (.func 41) [] [],.fn (.func 42) [] [],.fn (.func 43) [] []]) Z Z) Z<|A0 (L3 Z Z) Z<|A0 (C1 Z) Z<|A0 (A9g Z Z (by decide)) Z<|K6 (D4 (ds:=(shI t [.fn (.func 41) [] [],.fn (.func 42) [] [],.fn (.func 43) [] [],.lit .nilFunc,.lit .nilFunc,.lit .nilFunc,.lit .nilFunc,.lit .nilFunc,.lit .nilFunc] (.asl (H.length+1) 1))) Z Z Z Z (M2 (Zx _ _)) Z) Z<|es (ra2 Z Z) ?_
 refine s0<|qm Z<|A0 (R5 (cs:=[.fn (.func 25) [] [],.fn (.func 44) [] [],.fn (.func 45) [] []]) Z Z) Z<|A0 (L3 Z Z) Z<|A0 (C1 Z) Z<|A0 (A9g Z Z (by decide)) Z<|K6 (D4 (ds:=(shI t [.fn (.func 41) [] [],.fn (.func 42) [] [],.fn (.func 43) [] [],.fn (.func 25) [] [],.fn (.func 44) [] [],.fn (.func 45) [] [],.lit .nilFunc,.lit .nilFunc,.lit .nilFunc] (.asl (H.length+1) 1))) Z Z Z Z (M2 (Zx _ _)) Z) Z<|es (ra2 Z Z) ?_
 refine s0<|qm Z<|A0 (R5 (cs:=[.fn (.func 26) [] [],.fn (.func 46) [] [],.fn (.func 47) [] []]) Z Z) Z<|A0 (L3 Z Z) Z<|A0 (C1 Z) Z<|A0 (A9g Z Z (by decide)) Z<|K6 (D4 (ds:=(shI t [.fn (.func 41) [] [],.fn (.func 42) [] [],.fn (.func 43) [] [],.fn (.func 25) [] [],.fn (.func 44) [] [],.fn (.func 45) [] [],.fn (.func 26) [] [],.fn (.func 46) [] [],.fn (.func 47) [] []] (.asl (H.length+1) 1))) Z Z Z Z (M2 (Zx _ _)) Z) Z<|es (ra2 Z Z) ?_
 refine C4<|s0<|A0 (C1 Z) Z<|A0 (B5 Z Z Z) Z<|A0 (I0 (f:=B1) Z) Z<|qm Z<|es (ra4 Z Z Z Z)<|C8<|wl (fun s=>[(7,.ptr (H.length+2) 0),(39,.seq 2 (Zd B1 t.Incomes)),(40,.i t.Incomes.length),(41,.i s.2)]) (fun (_:Unit) s=>[.cells (B6 t),ar1 s.1,.cells (A42 t (.asl (H.length+1) s.1.length))]) 3 (fun r e s' H'=>PX 0 [(7,.ptr (H.length+2) 0)] (H++[.cells (B6 t),ar1 r,.cells (A42 t (.asl (H.length+1) r.length))]) e s' H') () hl Z Z (fun _ _=>rfl) (fun _=>rfl) Z (fun _=>bdc (N6 Z) (bdc N7 (bdc A5 (bdc A5 bdn)))) (fun _ s o hs=>?_) ?_
 ·unfold A4i at hs
  refine s0<|A0 (L5 Z Z) Z<|es (ra5 Z Z Z Z Z)<|C4<|wi hs Z (fun hc hs=>?_) fun hc hs=>?_
  ·refine oB hs fun x hx hs=>oB hs fun l' hl' hs=>?_
   refine C6<|C4<|C8<|sg 3 Z<|A0 (H7 (f:=B1) Z Z hx) Z<|A0 (C39 (ds:=B1 x) Z Z Z) Z<|A0 H8 Z<|K6 (D4 (ds:=B1 x) Z Z Z Z (M2 (Zn _)) Z) Z<|es (ra5 Z Z Z Z Z)<|r0<|qm Z<|A0 (L3 Z Z) Z<|A0 (C1 Z) Z<|A0 (B5 (x:=.asl (H.length+1) s.1.length) Z Z Z) Z<|A0 (C1 Z) Z<|A0 (B5 Z Z Z) Z<|A0 (I8 (rows:=Zd cI [x.Day]) Z Z (D9 (fun _=>rfl) _)) Z<|N9 (A16 (f:=cI) Z Z Z Z A1k (fun _=>rfl) hl') Z<|qm Z<|A0 (L3 Z Z) Z<|A0 (C1 Z) Z<|K6 (D4 (ds:=A42 t (.asl (H.length+1) l'.length)) Z Z Z Z (D2v (Nat.lt_succ_self _)) Z) Z<|en (ra4 Z Z Z Z)<|r0<|A0 (G1 Z Z) Z<|qm Z<|en (ra4 Z Z Z Z) ?_
   cases hs
   exact lnT () Z (su4 Z Z Z Z)
  ·refine J1 ?_
   obtain rfl:=os hs
   exact lx Z px (su1 Z)
 ·rintro e s' H'-⟨rfl,rfl,rfl⟩
  refine s0<|qm Z<|A0 (L3 Z Z) Z<|A0 (C1 Z) Z<|A0 (B5 (x:=.asl (H.length+1) l.length) Z Z Z) Z<|N9 (A1s Z Z (hsort _ _) Z) Z<|es (ra1 Z) ?_
  have hrs:((bif z.1 then [AV.fresh 1 (z.2.map cI)] else [.seq 1 (z.2.map cI)]):List AV).map fzA=[.seq 1 (z.2.map cI)]:= by cases z.1 <;> rfl
  rw[← hlen2]
  refine s0<|qm Z<|qm Z<|A0 (L3 Z Z) Z<|A0 (C1 Z) Z<|A0 (B5 (x:=.asl (H.length+1) l2.length) Z Z Z) Z<|N9 (A1s Z Z (hcomp _ _) hrs) Z<|A0 (L3 Z Z) Z<|A0 (C1 Z) Z<|K6 (D4 (ds:=A2h t z.2) Z Z Z Z (E0 Z) Z) Z<|es (ra1 Z)<|s0<|qm Z<|qm Z<|qm Z<|es (ra2 Z Z)<|C7 ?_
  refine⟨trivial,_,A7 Z (A7 Z C0),A4 Z (A4 Z B9),U1 ?_⟩
  have:=A49 (N:=H.length) (B:=0) (j:=2) (o:=0) Z
  exact this
end Pw
namespace Pw
open Go Am Go.Proofs.Ytjpjdglddmhplaa.Cd
theorem nef {a:Int} (h:¬ (a==0)=true):(a != 0)=true:= by simpa [bne] using h
theorem A1o {t:PaShow} {x:Int×List Int} (h:A1f t=some x) (hx:(x.1==0)=true):∃X,New tab (.fn (.func 23) [] []) [.agg (B6 t)] 2 [.cells (B6 t),X,.cells (A2h t x.2)]:= by
 have h0:=h
 unfold A1f at h0
 refine oB h0 fun y hy h0=>?_
 split at h0
 ·next hc=>cases h0;rw[show y.2.2=0 by simpa using hx]at hc;cases hc
 refine oB h0 fun l hl h0=>oB h0 fun l2 hl2 h0=>oB h0 fun z hz h0=>?_
 refine⟨bif z.1 then .dead else .arr 1 true (l2.map cI),fun c H N hN=>?_⟩
 subst hN
 exact C86 h hx hy hl hl2 hz
end Pw
end
section
set_option maxRecDepth 100000
set_option maxHeartbeats 0
namespace Pw
open Go Am Go.Proofs.Ytjpjdglddmhplaa.Cd
def W4 (a0:PaShow):Option Bool :=
 (A3i a0).bind fun x1 =>
 some (x1.2.2==0)
theorem A18 {c:Sc} {H:A1} {a0:PaShow} {r:Bool} (h:W4 a0=some r) :
  E7 tab c H (.fn (.func 18) [] []) [(.agg (B6 a0))] [.b r]:= by
 unfold W4 at h
 refine cE Z Z<|sg 0 Z<|A0 (F6 (cs:=B6 a0) Z Z Z) Z<|qm Z<|es (ra1 Z)<|s0<|oB h fun x1 hx1 h=>A0 (E8 Z Z Z) Z<|C3 (rs:=[.i x1.1,.i x1.2.1,.i x1.2.2]) Z Z (A3 (E1 Z) C2) ((B7s hx1).frz)<|qm Z<|A0 (B4 Z Z) Z<|A0 (B4 Z Z) Z<|A0 (B4 Z Z) Z<|qm Z<|qm Z<|qm Z<|es (ra1 Z)<|s0<|qm Z<|A0 (K0 Z Z) Z<|qm Z<|es (ra1 Z)<|C7 ?_
 obtain rfl:=os h
 exact retq trivial (A7 Z C0) (A4 Z B9) (A2 A5 A8)
end Pw
end
section
namespace Pw
open Go Am
structure GwOk (g:PaGown):Prop where
 looks:0≤g.Looks∧g.Looks≤15
 loan:0≤g.Loan∧g.Loan≤5000
 rate:0≤g.Rate∧g.Rate≤500
 fee:0≤g.Fee∧g.Fee≤100
 ago:0≤g.Ago∧g.Ago≤364
 last:0≤g.Last∧g.Last≤364
 free:g.Pawn=false→g.Loan=0∧g.Rate=0∧g.Fee=0∧g.Ago=0∧g.Last=0
structure FgOk (f:PaFigure):Prop where
 day:0≤f.Day∧f.Day≤f.Until
 til:f.Until≤364
 needs:0≤f.Needs∧f.Needs≤15
structure InOk (x:PaIncome):Prop where
 day:0≤x.Day∧x.Day≤364
 pence:0≤x.Pence∧x.Pence≤10000
theorem A25 {α:Type} [Inhabited α] {l:List α} {x:α} (h:x∈l):∃i,i<l.length∧l[i]! = x:= by
 obtain⟨i,hi,e⟩:=ZW.mp h
 exact⟨i,hi,by rw[getElem!_pos l i hi,e]⟩
structure NmOk (l:List ByteArray):Prop where
 each:∀s∈l,A1h s=true
 two:l.Pairwise fun a b=>eqS a b=false
theorem D1c (a b:ByteArray):eqS a b=eqS b a:= by
 unfold eqS
 rw[Z0s,beq_iff_eq,beq_iff_eq]
 exact eq_comm
theorem A67 {s:ByteArray} {l:List ByteArray}:M8 s l=0↔A1h s=true∧∀ y∈l,eqS y s=false:= by
 unfold M8
 cases A1h s with
 | false=>simp
 | true =>
  rw[if_pos Z]
  cases hl:l.any (fun y=>eqS y s) with
  | true =>
   rw[Z31]at hl
   obtain⟨y,h1,h2⟩:=hl
   refine⟨fun q=>absurd q (by decide),fun q=>?_⟩
   rw[q.2 y h1]at h2;cases h2
  | false =>
   rw[List.any_eq_false]at hl
   refine⟨fun _=>⟨Z,fun y hy=>by have:=hl y hy;simpa using this⟩,fun _=>rfl⟩
theorem D2c (l:List ByteArray):(∀ i,i<l.length→M8 l[i]! (l.take i)=0)↔NmOk l:= by
 constructor
 ·intro h
  refine⟨fun s hs=>?_,?_⟩
  ·obtain⟨i,hi,rfl⟩:=A25 hs
   exact(A67.mp (h i hi)).1
  ·rw[Z0a]
   intro i j hi hj hij
   have:=(A67.mp (h j hj)).2 l[i] (by
    rw[Z0b]
    exact⟨i,by omega,Z⟩)
   rwa [getElem!_pos l j hj]at this
 ·intro h i hi
  refine A67.mpr ⟨h.each _ (K3 hi),fun y hy=>?_⟩
  rw[Z0b]at hy
  obtain⟨j,hj,rfl⟩:=hy
  have:=Z0a.mp h.two j i (by omega) hi (by omega)
  rwa [getElem!_pos l i hi]
theorem D2d {α:Type} [Inhabited α] (k:α→ByteArray) (l:List α):(∀ i,i<l.length→M8 (k l[i]!) ((l.take i).map k)=0)↔NmOk (l.map k):= by
 rw[← D2c,Zi]
 refine forall_congr' fun i=>forall_congr' fun hi=>?_
 rw[List.map_take,getElem!_pos (l.map k) i (by rw[Zi];exact hi),List.getElem_map,getElem!_pos l i hi]
theorem NmOk.reverse {l:List ByteArray} (h:NmOk l):NmOk l.reverse :=
 ⟨fun s hs=>h.each s (List.mem_reverse.mp hs),by
  rw[List.pairwise_reverse]
  exact h.two.imp fun {a b} e=>by rw[D1c];exact e⟩
structure ShOk (s:PaShow):Prop where
 gowns:s.Gowns.length≤5
 gown:∀g∈s.Gowns,GwOk g
 gname:NmOk (s.Gowns.map (·.Name))
 figures:s.Figures.length≤3
 figure:∀f∈s.Figures,FgOk f
 fname:NmOk (s.Figures.map (·.Name))
 purse:0≤s.Purse∧s.Purse≤10000
 incomes:s.Incomes.length≤3
 income:∀x∈s.Incomes,InOk x
theorem C7r (g:PaGown):gOk g=true↔GwOk g:= by
 unfold gOk
 cases hp:g.Pawn
 ·simp only[Zc,Z02,T2,Zj,if_false,beq_iff_eq]
  constructor
  ·rintro⟨h1,h2,h3,h4,h5,h6⟩
   exact⟨h1,by omega,by omega,by omega,by omega,by omega,fun _=>⟨h2,h3,h4,h5,h6⟩⟩
  ·intro h
   have:=h.free hp
   exact⟨h.looks,this⟩
 ·simp only[Zc,Z02,T2,if_true]
  constructor
  ·rintro⟨h1,h2,h3,h4,h5,h6⟩
   exact⟨h1,h2,h3,h4,h5,h6,fun h=>by rw[hp]at h;cases h⟩
  ·intro h
   exact⟨h.looks,h.loan,h.rate,h.fee,h.ago,h.last⟩
theorem C7h (f:PaFigure):fC f=0↔FgOk f:= by
 unfold fC
 constructor
 ·intro h
  split at h
  ·cases h
  ·next h1 =>
   split at h
   ·cases h
   ·next h2 =>
    have h1:(out 0 364 f.Day||(out 0 364 f.Until||out 0 15 f.Needs))=false:= by simpa using h1
    rw[Z1t,Z1t,T2,T2,T2]at h1
    exact⟨by omega,by omega,h1.2.2⟩
 ·intro h
  have h1:=h.day
  have h2:=h.til
  rw[T2.mpr (by omega:0≤f.Day∧f.Day≤364),T2.mpr (by omega:0≤f.Until∧f.Until≤364),T2.mpr h.needs,if_neg (by decide),if_neg (by omega)]
theorem A6q {f:Nat→Int} {n:Nat} (h:∀i,i<n→f i=0):wrong f n=none:= by
 unfold wrong
 rw[J5]
 intro i hi
 rw[h i hi];rfl
theorem A3a {f:Nat→Int} {n:Nat}:wrong f n=none↔∀ i,i<n→f i=0:=⟨C63,A6q⟩
theorem B6w {l:List PaGown}:(∀ i,i<l.length→A78 l i=0)↔(∀ g∈l,GwOk g)∧NmOk (l.map (·.Name)):= by
 rw[← D2d]
 have key:∀i,A78 l i=0↔M8 l[i]!.Name ((l.take i).map (·.Name))=0∧gOk l[i]! = true:=fun i=>by
  unfold A78
  by_cases c:M8 l[i]!.Name ((l.take i).map (·.Name))=0
  ·rw[if_pos c]
   cases gOk l[i]! with
   | true=>exact⟨fun _=>⟨c,Z⟩,fun _=>rfl⟩
   | false=>exact⟨fun q=>absurd q (by decide),fun q=>absurd q.2 (by decide)⟩
  ·rw[if_neg c];exact⟨fun q=>absurd q c,fun q=>absurd q.1 c⟩
 constructor
 ·intro q
  refine⟨fun x hx=>?_,fun i hi=>((key i).mp (q i hi)).1⟩
  obtain⟨i,hi,rfl⟩:=A25 hx
  exact(C7r _).mp ((key i).mp (q i hi)).2
 ·intro q i hi
  exact(key i).mpr ⟨q.2 i hi,(C7r _).mpr (q.1 _ (K3 hi))⟩
theorem B6l {l:List PaFigure}:(∀ i,i<l.length→A72 l i=0)↔(∀ g∈l,FgOk g)∧NmOk (l.map (·.Name)):= by
 rw[← D2d]
 have key:∀i,A72 l i=0↔M8 l[i]!.Name ((l.take i).map (·.Name))=0∧fC l[i]! = 0:=fun i=>by
  unfold A72
  by_cases c:M8 l[i]!.Name ((l.take i).map (·.Name))=0
  ·rw[if_pos c];exact⟨fun q=>⟨c,q⟩,fun q=>q.2⟩
  ·rw[if_neg c];exact⟨fun q=>absurd q c,fun q=>absurd q.1 c⟩
 constructor
 ·intro q
  refine⟨fun x hx=>?_,fun i hi=>((key i).mp (q i hi)).1⟩
  obtain⟨i,hi,rfl⟩:=A25 hx
  exact(C7h _).mp ((key i).mp (q i hi)).2
 ·intro q i hi
  exact(key i).mpr ⟨q.2 i hi,(C7h _).mpr (q.1 _ (K3 hi))⟩
theorem B6z {l:List PaIncome}:(∀ i,i<l.length→A8d l i=0)↔∀ g∈l,InOk g:= by
 have key:∀i,A8d l i=0↔InOk l[i]!:=fun i=>by
  unfold A8d
  cases h1:out 0 364 l[i]!.Day with
  | true=>exact⟨fun q=>by simp at q,fun q=>by rw[T2.mpr q.day]at h1;cases h1⟩
  | false =>
   cases h2:out 0 10000 l[i]!.Pence with
   | true=>exact⟨fun q=>by simp at q,fun q=>by rw[T2.mpr q.pence]at h2;cases h2⟩
   | false=>exact⟨fun _=>⟨T2.mp h1,T2.mp h2⟩,fun _=>rfl⟩
 constructor
 ·intro q x hx
  obtain⟨i,hi,rfl⟩:=A25 hx
  exact(key i).mp (q i hi)
 ·intro q i hi
  exact(key i).mpr (q _ (K3 hi))
theorem A1w (s:PaShow):(chk s).2.2=0↔ShOk s:= by
 unfold chk
 by_cases h1:s.Gowns.length>5
 ·rw[if_pos h1];exact⟨fun q=>absurd q (by decide:(3:Int)≠0),fun q=>absurd q.gowns (by omega)⟩
 rw[if_neg h1]
 cases hw:wrong (A78 s.Gowns) s.Gowns.length with
 | some x =>
  refine⟨fun q=>?_,fun q=>?_⟩
  ·have:=A46 hw
   have q:x.2=0:=q
   rw[q]at this;cases this
  ·rw[A6q (B6w.mpr ⟨q.gown,q.gname⟩)]at hw;cases hw
 | none =>
  simp only
  have hg:=B6w.mp (A3a.mp hw)
  by_cases h2:s.Figures.length>3
  ·rw[if_pos h2];exact⟨fun q=>absurd q (by decide:(3:Int)≠0),fun q=>absurd q.figures (by omega)⟩
  rw[if_neg h2]
  cases hw2:wrong (A72 s.Figures) s.Figures.length with
  | some x =>
   refine⟨fun q=>?_,fun q=>?_⟩
   ·have:=A46 hw2
    have q:x.2=0:=q
    rw[q]at this;cases this
   ·rw[A6q (B6l.mpr ⟨q.figure,q.fname⟩)]at hw2;cases hw2
  | none =>
   simp only
   have hf:=B6l.mp (A3a.mp hw2)
   cases hp:out 0 10000 s.Purse with
   | true=>exact⟨fun q=>absurd q (by decide:(7:Int)≠0),fun q=>by rw[T2.mpr q.purse]at hp;cases hp⟩
   | false =>
    simp only[Zj,if_false]
    by_cases h3:s.Incomes.length>3
    ·rw[if_pos h3];exact⟨fun q=>absurd q (by decide:(3:Int)≠0),fun q=>absurd q.incomes (by omega)⟩
    rw[if_neg h3]
    cases hw3:wrong (A8d s.Incomes) s.Incomes.length with
    | some x =>
     refine⟨fun q=>?_,fun q=>?_⟩
     ·have:=A46 hw3
      have q:x.2=0:=q
      rw[q]at this;cases this
     ·rw[A6q (B6z.mpr q.income)]at hw3;cases hw3
    | none =>
     exact⟨fun _=>⟨by omega,hg.1,hg.2,by omega,hf.1,hf.2,T2.mp hp,by omega,B6z.mp (A3a.mp hw3)⟩,fun _=>rfl⟩
theorem C8s:∀{l m:List Int},Str l→Str m→(∀ x,x∈l↔x∈m)→l=m
 | [],[],_,_,_=>rfl
 | [],y::m,_,_,h=>absurd ((h y).mpr (ZC ..)) (by simp)
 | x::l,[],_,_,h=>absurd ((h x).mp (ZC ..)) (by simp)
 | x::l,y::m,hl,hm,h=>by
  have hl':=Z26.mp hl
  have hm':=Z26.mp hm
  have hxy:x=y:= by
   rcases Zv.mp ((h x).mp (ZC ..)) with e|h1
   ·exact e
   ·rcases Zv.mp ((h y).mpr (ZC ..)) with e|h2
    ·exact e.symm
    ·have:=hm'.1 x h1;have:=hl'.1 y h2;omega
  subst hxy
  rw[C8s hl'.2 hm'.2 fun z=>?_]
  constructor
  ·intro hz
   rcases Zv.mp ((h z).mp (ZB _ hz)) with e|h1
   ·subst e;have:=hl'.1 z hz;omega
   ·exact h1
  ·intro hz
   rcases Zv.mp ((h z).mpr (ZB _ hz)) with e|h1
   ·subst e;have:=hm'.1 z hz;omega
   ·exact h1
def M9 (s:PaShow):List Int:=0::((Z09 364).map fun (i:Nat)=>(i:Int)+1).filter fun d=>s.Incomes.any fun x=>x.Day==d
theorem B9r (s:PaShow):Str (M9 s):= by
 unfold M9
 refine Z26.mpr ⟨fun x hx=>?_,?_⟩
 ·have:=(Z0k.mp hx).1
  obtain⟨i,_,rfl⟩:=ZJ.mp this
  omega
 ·refine List.Pairwise.filter _ ?_
  rw[List.pairwise_map]
  exact List.pairwise_lt_range.imp (fun h=>by omega)
theorem A82 {s:PaShow} (hs:ShOk s) (d:Int):d∈M9 s↔d=0∨∃ x∈s.Incomes,x.Day=d:= by
 unfold M9
 rw[Zv,Z0k,ZJ,Z31]
 constructor
 ·rintro (h|⟨_,x,hx,e⟩)
  ·exact .inl h
  ·exact .inr ⟨x,hx,by simpa using e⟩
 ·rintro (h|⟨x,hx,rfl⟩)
  ·exact .inl h
  ·have:=(hs.income x hx).day
   by_cases h0:x.Day=0
   ·exact .inl h0
   ·exact .inr ⟨⟨(x.Day-1).toNat,by simp;omega,by omega⟩,x,hx,by simp⟩
theorem C5v (s:PaShow) (hl:s.Incomes.length≤3):loop (A4i s) ([0],0)=some ([0]++s.Incomes.map (·.Day)):= by
 have:=A9d (b:=A4i s) (fun i=>([0]++(s.Incomes.take i).map (·.Day),(i:Int))) s.Incomes.length (fun _=>none) ([0]++s.Incomes.map (·.Day)) (by omega) (fun i hi _=>by
  unfold A4i
  rw[if_pos (by simpa using hi),M0 hi]
  simp only[Zg]
  rw[B57 (by omega) (by simp;omega),F5 (by omega)]
  simp only[Zg]
  rw[Zz,B31 (fun x:PaIncome=>x.Day) hi]
  rfl) (fun _=>by
  unfold A4i
  rw[if_neg (by simp),Z1f])
 rw[show (([0]:List Int),(0:Int))=([0]++(s.Incomes.take 0).map (·.Day),((0:Nat):Int)) from Z,this]
 rw[J5.mpr fun _ _=>rfl];rfl
theorem A51 (s:PaShow) (hb:NB s):A1f s=some (if (chk s).2.2=0 then (0,M9 s) else ((chk s).2.2,[])):= by
 unfold A1f
 rw[D0p s hb]
 simp only[Zg]
 by_cases h:(chk s).2.2=0
 ·have hs:=(A1w s).mp h
  rw[if_neg (by simp[h]),if_pos h,C5v s hs.incomes]
  simp only[Zg]
  have hle:=hs.incomes
  obtain⟨l',h1,h2,h3⟩:=D5j ([0]++s.Incomes.map (·.Day)) (by simp) (by simp;omega)
  rw[h1]
  simp only[Zg]
  have hlen:=h3.length_eq
  obtain⟨b,r,h4,h5,h6⟩:=C5o h2 (by rw[hlen];simp) (by rw[hlen];simp;omega)
  rw[h4]
  simp only[Zg]
  rw[C8s h5 (B9r s) fun x=>?_]
  rw[h6,h3.mem_iff,A82 hs]
  simp
 ·rw[if_pos (by simpa using h),if_neg h]
theorem B2l (s:PaShow):W4 s=some (decide ((chk s).2.2=0)):= by
 unfold W4
 rw[C2k]
 simp only[Zg]
 by_cases h:(chk s).2.2=0 <;> simp[h]
theorem A6l {α:Type} {l:List Sh} {c:α→List AV} {Q:α→Prop} (h:∀r,SatL l r→∃ x,r=c x∧Q x):∀rows:List (List AV),(∀ r∈rows,SatL l r)→∃ xs:List α,rows=xs.map c∧xs.length=rows.length∧∀ x∈xs,Q x
 | [],_=>⟨[],Z,Z,by simp⟩
 | r::rows,hr=>by
  obtain⟨x,hx,hq⟩:=h r (hr r (ZC ..))
  obtain⟨xs,hxs,hlen,hqs⟩:=A6l h rows fun r' h'=>hr r' (ZB _ h')
  refine⟨x::xs,by rw[hx,hxs];rfl,by rw[ZX,ZX,hlen],?_⟩
  intro y hy
  rcases Zv.mp hy with rfl|hy
  ·exact hq
  ·exact hqs y hy
theorem C9r (r:List AV) (h:SatL [.str,.int .i64,.bool,.int .i64,.int .i64,.int .i64,.int .i64,.int .i64] r):∃x:PaGown,r=B2 x∧x.Name.size≤maxLen:= by
 simp only[SatL,Sat]at h
 obtain⟨x1,q1,rfl,⟨s,rfl,hs⟩,x2,q2,rfl,⟨n2,rfl,_⟩,x3,q3,rfl,⟨n3,rfl⟩,x4,q4,rfl,⟨n4,rfl,_⟩,x5,q5,rfl,⟨n5,rfl,_⟩,x6,q6,rfl,⟨n6,rfl,_⟩,x7,q7,rfl,⟨n7,rfl,_⟩,x8,q8,rfl,⟨n8,rfl,_⟩,rfl⟩:=h
 exact⟨⟨s,n2,n3,n4,n5,n6,n7,n8⟩,Z,hs⟩
theorem C4d (r:List AV) (h:SatL [.str,.int .i64,.int .i64,.int .i64] r):∃x:PaFigure,r=A6 x∧x.Name.size≤maxLen:= by
 simp only[SatL,Sat]at h
 obtain⟨x1,q1,rfl,⟨s,rfl,hs⟩,x2,q2,rfl,⟨n2,rfl,_⟩,x4,q4,rfl,⟨n4,rfl,_⟩,x5,q5,rfl,⟨n5,rfl,_⟩,rfl⟩:=h
 exact⟨⟨s,n2,n4,n5⟩,Z,hs⟩
theorem C4e (r:List AV) (h:SatL [.int .i64,.int .i64] r):∃x:PaIncome,r=B1 x∧True:= by
 simp only[SatL,Sat]at h
 obtain⟨x1,q1,rfl,⟨n1,rfl,_⟩,x2,q2,rfl,⟨n2,rfl,_⟩,rfl⟩:=h
 exact⟨⟨n1,n2⟩,Z,trivial⟩
def C6v:List Sh:=[.seq 8 [.str,.int .i64,.bool,.int .i64,.int .i64,.int .i64,.int .i64,.int .i64],.seq 4 [.str,.int .i64,.int .i64,.int .i64],.int .i64,.seq 2 [.int .i64,.int .i64]]
theorem C9s (r:List AV) (h:SatL C6v r):∃x:PaShow,r=B6 x∧NB x:= by
 unfold C6v at h
 rw[SatL]at h;obtain⟨x0,q0,rfl,h0,h⟩:=h
 rw[SatL]at h;obtain⟨x1,q1,rfl,h1,h⟩:=h
 rw[SatL]at h;obtain⟨x2,q2,rfl,h2,h⟩:=h
 rw[SatL]at h;obtain⟨x3,q3,rfl,h3,h⟩:=h
 rw[SatL]at h;subst h
 simp only[Sat]at h0 h1 h2 h3
 obtain⟨rows0,rfl,_,hr0⟩:=h0
 obtain⟨rows1,rfl,_,hr1⟩:=h1
 obtain⟨n2,rfl,_⟩:=h2
 obtain⟨rows3,rfl,_,hr3⟩:=h3
 obtain⟨xs,rfl,_,hq0⟩:=A6l C9r rows0 hr0
 obtain⟨ys,rfl,_,hq1⟩:=A6l C4d rows1 hr1
 obtain⟨ws,rfl,_,_⟩:=A6l C4e rows3 hr3
 refine⟨⟨xs,ys,n2,ws⟩,Z,fun v hv=>?_,fun v hv=>?_⟩
 ·have:=hq0 v hv;simp only[maxLen]at this;omega
 ·have:=hq1 v hv;simp only[maxLen]at this;omega
theorem C65 {g:Ghost} {cs:List Value} {r:List AV} (hr:r.length=cs.length) (h:∀(j:Nat) (x:AV),r[j]? = some x→∃ v,cs[j]? = some v∧Den g.Φ x v∧v.oneCell'=true):V g (.agg r) (.agg cs.toArray):= by
 refine .agg r cs.toArray (by simpa using hr.symm) ?_ ?_
 ·intro j x hx
  obtain⟨v,hv,hd,_⟩:=h j x hx
  rw[Z0o,hv];exact .den _ _ hd
 ·intro j x hx
  obtain⟨v,hv,_,h1⟩:=h j x hx
  rw[Z0o,hv];exact h1
theorem B8p {n:Int} (h:(Lit.int .u8 n).wf=true):0≤n∧n<256:= by
 rw[Lit.wf,Zc,decide_eq_true_eq,decide_eq_true_eq]at h
 have h1:IntKind.u8.min=0:=rfl
 have h2:IntKind.u8.max=255:=rfl
 omega
end Pw
end
section
set_option maxRecDepth 100000
set_option maxHeartbeats 0
namespace Pw
open Go Am Go.Proofs.Ytjpjdglddmhplaa.Cd
def Y3 :Option PaUse :=
 some (PaUse.mk (-1) 0 0)
theorem A3z {c:Sc} {H:A1}  {r:PaUse} (h:Y3  = some r) :
  E7 tab c H (.fn (.func 52) [] []) [] [(.agg (B3 r))]:= by
 unfold Y3 at h
 refine cE Z Z<|sg 0 Z<|A0 H8 Z<|es (ra1 Z)<|s0<|A0 (R5 (cs:=B3 (PaUse.mk (-1) 0 0)) Z Z) Z<|K6 (D4 (ds:=(B3 (PaUse.mk (-1) 0 0))) Z Z Z Z (E0 Z) Z) Z<|es (ra1 Z)<|C7 ?_
 obtain rfl:=os h
 exact retq trivial (A2d (J2 (ds:=B3 (PaUse.mk (-1) 0 0)) Z Z Z Z) C0) (A4 (B3r Z) B9) (A2 (A4g Z) A8)
def A32 (a0:PaGown) (a1:PaFigure) (a2:Int):Option Bool :=
 some (a2==0)
theorem B5c {c:Sc} {H:A1} {a0:PaGown} {a1:PaFigure} {a2:Int} {r:Bool} (h:A32 a0 a1 a2=some r) :
  E7 tab c H (.fn (.func 43) [] []) [(.agg (B2 a0)),(.agg (A6 a1)),.i a2] [.b r]:= by
 unfold A32 at h
 refine cE Z Z<|sg 0 Z<|A0 (F6 (cs:=B2 a0) Z Z Z) Z<|A0 (F6 (cs:=A6 a1) Z Z Z) Z<|qm Z<|es (ra1 Z)<|s0<|qm Z<|A0 (K0 Z Z) Z<|qm Z<|es (ra1 Z)<|C7 ?_
 obtain rfl:=os h
 exact retq trivial (A7 Z C0) (A4 Z B9) (A2 A5 A8)
def A33 (a0:PaGown) (a1:PaFigure) (a2:Int):Option Bool :=
 some (decide (a2≤(K9 a0.Last a1.Day)))
theorem B5e {c:Sc} {H:A1} {a0:PaGown} {a1:PaFigure} {a2:Int} {r:Bool} (h:A33 a0 a1 a2=some r) :
  E7 tab c H (.fn (.func 45) [] []) [(.agg (B2 a0)),(.agg (A6 a1)),.i a2] [.b r]:= by
 unfold A33 at h
 refine cE Z Z<|sg 0 Z<|A0 (F6 (cs:=B2 a0) Z Z Z) Z<|A0 (F6 (cs:=A6 a1) Z Z Z) Z<|qm Z<|es (ra3 Z Z Z)<|s0<|qm Z<|A0 (C1 Z) Z<|A0 (B5 Z Z Z) Z<|A0 (C1 Z) Z<|A0 (B5 Z Z Z) Z<|A0 (C18 Z Z) Z<|A0 (A4f Z Z) Z<|qm Z<|es (ra1 Z)<|C7 ?_
 obtain rfl:=os h
 exact retq trivial (A7 Z C0) (A4 Z B9) (A2 A5 A8)
def A0l (a0:PaGown) (a1:PaFigure) (a2:Int):Option Bool :=
 some (decide (a1.Until≤a0.Last))
theorem A7q {c:Sc} {H:A1} {a0:PaGown} {a1:PaFigure} {a2:Int} {r:Bool} (h:A0l a0 a1 a2=some r) :
  E7 tab c H (.fn (.func 47) [] []) [(.agg (B2 a0)),(.agg (A6 a1)),.i a2] [.b r]:= by
 unfold A0l at h
 refine cE Z Z<|sg 0 Z<|A0 (F6 (cs:=B2 a0) Z Z Z) Z<|A0 (F6 (cs:=A6 a1) Z Z Z) Z<|qm Z<|es (ra2 Z Z)<|s0<|A0 (C1 Z) Z<|A0 (B5 Z Z Z) Z<|A0 (C1 Z) Z<|A0 (B5 Z Z Z) Z<|A0 (A4f Z Z) Z<|qm Z<|es (ra1 Z)<|C7 ?_
 obtain rfl:=os h
 exact retq trivial (A7 Z C0) (A4 Z B9) (A2 A5 A8)
def V2 (a0:pawn_show) (a1:Int) (a2:PaUse):Option Int :=
 (Y3).bind fun x1 =>
 if ((a2.Gown==x1.Gown)&&((a2.How==x1.How)&&((a2.Day==x1.Day)&&true)))=true then
  some 0
 else
  if (a2.Gown==(-1))=true then
  some 2
  else
  (E2 0 (w64 ((Zh a0.PaShow.Gowns:Int)-1)) [a2.Gown]).bind fun x4 =>
  if x4=true then
   some 4
  else
   (idx a0.PaShow.Gowns a2.Gown).bind fun x6 =>
   (idx a0.PaShow.Figures a1).bind fun x7 =>
   (if (a2.How==1)=true then
    some 364
   else
    some 0).bind fun (p8:Int) =>
   (E2 0 2 [a2.How]).bind fun x10 =>
   (if (x10||(!(x6.Pawn==(a2.How != 0))))=true then
   some true
   else
   (E2 0 p8 [a2.Day]).bind fun x13 =>
   some x13).bind fun x14 =>
   if x14=true then
   some 2
   else
   (if ((A08 x7.Needs x6.Looks) != 0)=true then
    some true
   else
    (inR 3 a2.How).bind fun x17 =>
    (sel3 a2.How (A32 x6 x7 a2.Day) (A33 x6 x7 a2.Day) (A0l x6 x7 a2.Day)).bind fun x18 =>
    some (!x18)).bind fun x19 =>
   if x19=true then
    some 9
   else
    some 0
theorem A2r {c:Sc} {H:A1} {a0:pawn_show} {b0:Nat} (hb0:hcells H b0=some [(.seq 8 (Zd B2 a0.PaShow.Gowns)),(.seq 4 (Zd A6 a0.PaShow.Figures)),.i a0.PaShow.Purse,(.seq 2 (Zd B1 a0.PaShow.Incomes)),(.fn (.func 41) [] []),(.fn (.func 42) [] []),(.fn (.func 43) [] []),(.fn (.func 25) [] []),(.fn (.func 44) [] []),(.fn (.func 45) [] []),(.fn (.func 26) [] []),(.fn (.func 46) [] []),(.fn (.func 47) [] []),(.seq 1 (Zd cI a0.days_))]) {a1:Int} {a2:PaUse} {r:Int} (h:V2 a0 a1 a2=some r) :
  E7 tab c H (.fn (.func 27) [] []) [.ptr b0 0,.i a1,(.agg (B3 a2))] [.i r]:= by
 unfold V2 at h
 refine cE Z Z<|sg 0 Z<|A0 (F6 (cs:=B3 a2) Z Z Z) Z<|qm Z<|es (ra3 Z Z Z)<|C4<|C8<|s0<|oB h fun x1 hx1 h=>A0 (E8 Z Z Z) Z<|Z8 (rs:=[(.agg (B3 x1))]) Z Z A4v C2 ((A3z hx1).frz)<|A0 (C6d (a:=B3 a2) (b:=B3 x1) Z Z Z Z (V7 (V7 (V7 B1c)))) Z<|qm Z<|es (ra4 Z Z Z Z)<|wi h Z (fun hc2 h=>?_) fun hc2 h=>?_
 ·refine s0<|qm Z<|es (ra1 Z)<|C7 ?_
  obtain rfl:=os h
  exact retq trivial (A7 Z C0) (A4 Z B9) (A2 A5 A8)
 ·refine s0<|A0 (C1 Z) Z<|A0 (B5 Z Z Z) Z<|A0 (K0 Z Z) Z<|qm Z<|es (ra4 Z Z Z Z)<|wi h Z (fun hc3 h=>?_) fun hc3 h=>?_
  ·refine s0<|qm Z<|es (ra1 Z)<|C7 ?_
   obtain rfl:=os h
   exact retq trivial (A7 Z C0) (A4 Z B9) (A2 A5 A8)
  ·refine s0<|oB h fun x4 hx4 h=>qm Z<|A0 (L3 Z Z) Z<|A0 (C1 Z) Z<|A0 (C1 Z) Z<|A0 (F1 (x:=(.seq 8 (Zd B2 a0.PaShow.Gowns))) Z hb0 Z) Z<|A0 (I0 (f:=B2) Z) Z<|A0 (A0s Z Z) Z<|A0 (C1 Z) Z<|A0 (B5 Z Z Z) Z<|A0 (I8 (rows:=Zd cI [a2.Gown]) Z Z (D9 (fun _=>rfl) _)) Z<|C3 (rs:=[.b x4]) Z Z (A3 Z (A3 Z (A3 Z C2))) ((E6 hx4).frz)<|qm Z<|es (ra4 Z Z Z Z)<|wi h Z (fun hc5 h=>?_) fun hc5 h=>?_
   ·refine s0<|qm Z<|es (ra1 Z)<|C7 ?_
    obtain rfl:=os h
    exact retq trivial (A7 Z C0) (A4 Z B9) (A2 A5 A8)
   ·refine C6<|sg 1 Z<|oB h fun x6 hx6 h=>oB h fun x7 hx7 h=>qm Z<|A0 (L3 Z Z) Z<|A0 (C1 Z) Z<|A0 (C1 Z) Z<|K5 [1,2] (P7 [1,2] rfl F9 Z Z) (seen0 Z) (F1 (x:=(.seq 8 (Zd B2 a0.PaShow.Gowns))) Z hb0 Z) Z<|A0 (C1 Z) Z<|K5 [1,2] (P7 [1,2] rfl F9 Z Z) (seen0 Z) (B5 Z Z Z) Z<|K5 [1,2] (P7 [1,2] rfl F9 Z Z) (seen0 Z) (H7 (f:=B2) Z Z hx6) Z<|K5 [1,2] (P7 [1,2] rfl F9 Z Z) (seen0 Z) (I1 Z Z) Z<|A0 H8 Z<|A0 H8 Z<|D21 [] [(.cells (B3 a2)),(.cells (B2 x6)),(.cells (A6 (PaFigure.mk (ByteArray.mk #[]) 0 0 0)))] (A3x hb0) (D6l [] rfl (A4d Z A2m F9) Z Z (A3x hb0) (C53 hb0)) (seen0 Z) (D2h (F0 _ _ _) (ds:=(B2 x6)) Z Z Z Z Z Z) Z Z Z<|qm Z<|A0 (L3 Z Z) Z<|A0 (C1 Z) Z<|A0 (C1 Z) Z<|K5 [1,2] (P7 [1,2] rfl F9 Z Z) (A9n (b:=b0) Z (A4c (B8z _ _) A6m)) (F1 (x:=(.seq 4 (Zd A6 a0.PaShow.Figures))) Z hb0 Z) Z<|qm Z<|K5 [1,2] (P7 [1,2] rfl F9 Z Z) (C01 Z) (H7 (f:=A6) Z Z hx7) Z<|K5 [1,2] (P7 [1,2] rfl F9 Z Z) (C01 Z) (I1 Z Z) Z<|K6 (D4 (ds:=(A6 x7)) Z Z Z Z (E0 Z) Z) Z<|es (ra4 Z Z Z Z)<|s0<|qm Z<|es (ra5 Z Z Z Z Z)<|C4<|s0<|A0 (C1 Z) Z<|A0 (B5 Z Z Z) Z<|A0 (K0 Z Z) Z<|es (ra6 Z Z Z Z Z Z)<|oB h fun p8 hp8 h=>C60 (Q1:=fun e s' H'=>e=.normal∧s'=[(0,.ptr b0 0),(5,(.ptr (H.length+0) 0)),(7,(.ptr (H.length+1) 0)),(8,(.ptr (H.length+2) 0)),(9,.i p8)]∧H'=(H++[(.cells (B3 a2)),(.cells (B2 x6)),(.cells (A6 x7))])) ?_ ?_
    ·refine wi hp8 Z (fun hc9 hp8=>?_) fun hc9 hp8=>?_
     ·refine r0<|qm Z<|en (ra5 Z Z Z Z Z) ?_
      obtain rfl:=os hp8
      exact me (ZO Z (ZO Z Z)) (su5 Z Z Z Z Z)
     ·refine C6 ?_
      obtain rfl:=os hp8
      exact me (ZO Z (ZO Z Z)) (su5 Z Z Z Z Z)
    ·rintro e s' H' ⟨rfl,rfl,rfl⟩
     refine C4<|C8<|s0<|oB h fun x10 hx10 h=>oB h fun x14 hx14 h=>A0 (C1 Z) Z<|A0 (B5 Z Z Z) Z<|A0 (I8 (rows:=Zd cI [a2.How]) Z Z (D9 (fun _=>rfl) _)) Z<|C3 (rs:=[.b x10]) Z Z (A3 Z (A3 Z (A3 Z C2))) ((E6 hx10).frz)<|qm Z<|gp 7 62 (.b (x10||(!(x6.Pawn==(a2.How != 0))))) 55 Z Z (fun hg11=>?_) (fun hg11=>?_) ?_
     ·exact nF Z hg11 Z<|nF Z hg11 Z<|nF Z hg11 Z<|nF Z hg11 Z<|nF Z hg11 Z<|nF Z hg11 Z<|A0 (D1 Z hg11 Z) Z<|ge 7 (by rw[hg11];rfl) Z Z
     ·exact gF Z hg11<|A0 (C1 Z) Z<|gF Z hg11<|A0 (B5 Z Z Z) Z<|gF Z hg11<|A0 (C1 Z) Z<|gF Z hg11<|A0 (B5 Z Z Z) Z<|gF Z hg11<|A0 (Q9 Z Z) Z<|gF Z hg11<|A0 (D6z Z Z) Z<|A0 (D0 Z hg11 Z) Z<|ge 7 (by rw[hg11];rfl) Z Z
     refine qm Z<|gp 6 69 (.b x14) 63 Z Z (fun hg12=>?_) (fun hg12=>?_) ?_
     ·obtain rfl:=os (bt hx14 hg12)
      exact nF Z hg12 Z<|nF Z hg12 Z<|nF Z hg12 Z<|nF Z hg12 Z<|L7 (F4 Z (by rw[hg12];rfl)) Z<|A0 (D1 Z hg12 Z) Z<|ge 6 Z Z Z
     ·refine oB (bf hx14 hg12) fun x13 hx13 hx14=>?_
      obtain rfl:=os hx14
      exact gF Z hg12<|qm Z<|gF Z hg12<|A0 (C1 Z) Z<|gF Z hg12<|A0 (B5 Z Z Z) Z<|gF Z hg12<|A0 (I8 (rows:=Zd cI [a2.Day]) Z Z (D9 (fun _=>rfl) _)) Z<|gF Z hg12<|C3 (rs:=[.b x13]) Z Z (A3 Z (A3 Z (A3 Z C2))) ((E6 hx13).frz)<|A0 (D0 Z hg12 Z) Z<|ge 6 Z Z Z
     refine qm Z<|es (ra5 Z Z Z Z Z)<|wi h Z (fun hc15 h=>?_) fun hc15 h=>?_
     ·refine s0<|qm Z<|es (ra1 Z)<|C7 ?_
      obtain rfl:=os h
      exact retq trivial (A7 Z C0) (A4 Z B9) (A2 A5 A8)
     ·refine s0<|oB h fun x19 hx19 h=>A0 (C1 Z) Z<|A0 (B5 Z Z Z) Z<|A0 (C1 Z) Z<|A0 (B5 Z Z Z) Z<|A0 (T6 (v:=(.i (A08 x7.Needs x6.Looks))) Z Z Z) Z<|A0 (Q9 Z Z) Z<|qm Z<|gp 15 92 (.b x19) 77 Z Z (fun hg16=>?_) (fun hg16=>?_) ?_
      ·obtain rfl:=os (bt hx19 hg16)
       exact nF Z hg16 Z<|nF Z hg16 Z<|nF Z hg16 Z<|nF Z hg16 Z<|nF Z hg16 Z<|nF Z hg16 Z<|nF Z hg16 Z<|nF Z hg16 Z<|nF Z hg16 Z<|nF Z hg16 Z<|nF Z hg16 Z<|nF Z hg16 Z<|L7 (F4 Z (by rw[hg16];rfl)) Z<|nF Z hg16 Z<|A0 (D1 Z hg16 Z) Z<|ge 15 Z Z Z
      ·refine oB (bf hx19 hg16) fun x17 hx17 hx19=>oB hx19 fun x18 hx18 hx19=>?_
       obtain rfl:=os hx19
       exact gF Z hg16<|qm Z<|gF Z hg16<|A0 (C1 Z) Z<|gF Z hg16<|A0 (B5 Z Z Z) Z<|gF Z hg16<|A0 (L3 Z Z) Z<|gF Z hg16<|A0 (C1 Z) Z<|gF Z hg16<|A0 (A9g Z Z (C1y hx17)) Z<|gF Z hg16<|A0 (C1 Z) Z<|gF Z hg16<|A0 (F1 (x:=(.fn (.func (isel a2.How 43 45 47)) [] [])) Z hb0 (D98 hx17)) Z<|gF Z hg16<|A0 (E8 Z Z Z) Z<|gF Z hg16<|A0 (E8 Z Z Z) Z<|gF Z hg16<|A0 (C1 Z) Z<|gF Z hg16<|A0 (B5 Z Z Z) Z<|gF Z hg16<|C3 (rs:=[.b x18]) Z Z (A3 (E1 Z) (A3 (E1 Z) (A3 Z C2))) (B8b (rs:=fun (y:Bool)=>[.b y]) (fun h=>(B5c h).frz) (fun h=>(B5e h).frz) (fun h=>(A7q h).frz) hx18)<|gF Z hg16<|A0 (Y9 Z) Z<|A0 (D0 Z hg16 Z) Z<|ge 15 Z Z Z
      refine qm Z<|es (ra1 Z)<|wi h Z (fun hc20 h=>?_) fun hc20 h=>?_
      ·refine s0<|qm Z<|es (ra1 Z)<|C7 ?_
       obtain rfl:=os h
       exact retq trivial (A7 Z C0) (A4 Z B9) (A2 A5 A8)
      ·refine C6<|s0<|qm Z<|es (ra1 Z)<|C7 ?_
       obtain rfl:=os h
       exact retq trivial (A7 Z C0) (A4 Z B9) (A2 A5 A8)
def A2u (a0:PaGown) (a1:PaFigure) (a2:Int):Option Int :=
 some (w64 (a0.Fee*(w64 ((w64 (a1.Until-a1.Day))+1))))
theorem A94 {c:Sc} {H:A1} {a0:PaGown} {a1:PaFigure} {a2:Int} {r:Int} (h:A2u a0 a1 a2=some r) :
  E7 tab c H (.fn (.func 26) [] []) [(.agg (B2 a0)),(.agg (A6 a1)),.i a2] [.i r]:= by
 unfold A2u at h
 refine cE Z Z<|sg 0 Z<|A0 (F6 (cs:=B2 a0) Z Z Z) Z<|A0 (F6 (cs:=A6 a1) Z Z Z) Z<|qm Z<|es (ra2 Z Z)<|s0<|A0 (C1 Z) Z<|A0 (B5 Z Z Z) Z<|A0 (C1 Z) Z<|A0 (B5 Z Z Z) Z<|A0 (C1 Z) Z<|A0 (B5 Z Z Z) Z<|A0 (A0s Z Z) Z<|A0 (G1 Z Z) Z<|A0 (C69 Z Z) Z<|qm Z<|es (ra1 Z)<|C7 ?_
 obtain rfl:=os h
 exact retq trivial (A7 Z C0) (A4 Z B9) (A2 A5 A8)
def A7a (a0:PaFigure) (a1:Int):Option Int :=
 some 0
theorem B5b {c:Sc} {H:A1} {a0:PaFigure} {a1:Int} {r:Int} (h:A7a a0 a1=some r) :
  E7 tab c H (.fn (.func 42) [] []) [(.agg (A6 a0)),.i a1] [.i r]:= by
 unfold A7a at h
 refine cE Z Z<|sg 0 Z<|A0 (F6 (cs:=A6 a0) Z Z Z) Z<|qm Z<|es .n<|s0<|qm Z<|es (ra1 Z)<|C7 ?_
 obtain rfl:=os h
 exact retq trivial (A7 Z C0) (A4 Z B9) (A2 A5 A8)
def A7b (a0:PaFigure) (a1:Int):Option Int :=
 some a1
theorem B5d {c:Sc} {H:A1} {a0:PaFigure} {a1:Int} {r:Int} (h:A7b a0 a1=some r) :
  E7 tab c H (.fn (.func 44) [] []) [(.agg (A6 a0)),.i a1] [.i r]:= by
 unfold A7b at h
 refine cE Z Z<|sg 0 Z<|A0 (F6 (cs:=A6 a0) Z Z Z) Z<|qm Z<|es (ra1 Z)<|s0<|qm Z<|qm Z<|es (ra1 Z)<|C7 ?_
 obtain rfl:=os h
 exact retq trivial (A7 Z C0) (A4 Z B9) (A2 A5 A8)
def A7c (a0:PaFigure) (a1:Int):Option Int :=
 some a0.Day
theorem B5f {c:Sc} {H:A1} {a0:PaFigure} {a1:Int} {r:Int} (h:A7c a0 a1=some r) :
  E7 tab c H (.fn (.func 46) [] []) [(.agg (A6 a0)),.i a1] [.i r]:= by
 unfold A7c at h
 refine cE Z Z<|sg 0 Z<|A0 (F6 (cs:=A6 a0) Z Z Z) Z<|qm Z<|es (ra1 Z)<|s0<|A0 (C1 Z) Z<|A0 (B5 Z Z Z) Z<|qm Z<|es (ra1 Z)<|C7 ?_
 obtain rfl:=os h
 exact retq trivial (A7 Z C0) (A4 Z B9) (A2 A5 A8)
def B3w (a0:PaGown) (a1:PaFigure) (a2:Int):Option Int :=
 some 0
theorem C2f {c:Sc} {H:A1} {a0:PaGown} {a1:PaFigure} {a2:Int} {r:Int} (h:B3w a0 a1 a2=some r) :
  E7 tab c H (.fn (.func 41) [] []) [(.agg (B2 a0)),(.agg (A6 a1)),.i a2] [.i r]:= by
 unfold B3w at h
 refine cE Z Z<|sg 0 Z<|A0 (F6 (cs:=B2 a0) Z Z Z) Z<|A0 (F6 (cs:=A6 a1) Z Z Z) Z<|qm Z<|es .n<|s0<|qm Z<|es (ra1 Z)<|C7 ?_
 obtain rfl:=os h
 exact retq trivial (A7 Z C0) (A4 Z B9) (A2 A5 A8)
def A0m (a0:PaGown) (a1:PaFigure) (a2:Int):Option Int :=
 some (w64 (a0.Loan+(w64 (a0.Rate*(w64 (1+(w64 (Z5l (w64 (a0.Ago+a2)) 30))))))))
theorem A7r {c:Sc} {H:A1} {a0:PaGown} {a1:PaFigure} {a2:Int} {r:Int} (h:A0m a0 a1 a2=some r) :
  E7 tab c H (.fn (.func 25) [] []) [(.agg (B2 a0)),(.agg (A6 a1)),.i a2] [.i r]:= by
 unfold A0m at h
 refine cE Z Z<|sg 0 Z<|A0 (F6 (cs:=B2 a0) Z Z Z) Z<|A0 (F6 (cs:=A6 a1) Z Z Z) Z<|qm Z<|es (ra2 Z Z)<|s0<|A0 (C1 Z) Z<|A0 (B5 Z Z Z) Z<|A0 (C1 Z) Z<|A0 (B5 Z Z Z) Z<|A0 (C1 Z) Z<|A0 (B5 Z Z Z) Z<|qm Z<|A0 (G1 Z Z) Z<|A0 (T6 (v:=(.i (w64 (Z5l (w64 (a0.Ago+a2)) 30)))) Z Z Z) Z<|A0 (G1 Z Z) Z<|A0 (C69 Z Z) Z<|A0 (G1 Z Z) Z<|qm Z<|es (ra1 Z)<|C7 ?_
 obtain rfl:=os h
 exact retq trivial (A7 Z C0) (A4 Z B9) (A2 A5 A8)
def T3 (a0:pawn_show) (a1:Int) (a2:PaUse):Option (Int×Int) :=
 (Y3).bind fun x1 =>
 if ((a2.Gown==x1.Gown)&&((a2.How==x1.How)&&((a2.Day==x1.Day)&&true)))=true then
  some (0,0)
 else
  (inR 3 a2.How).bind fun x3 =>
  (idx a0.PaShow.Gowns a2.Gown).bind fun x4 =>
  (idx a0.PaShow.Figures a1).bind fun x5 =>
  (sel3 a2.How (B3w x4 x5 a2.Day) (A0m x4 x5 a2.Day) (A2u x4 x5 a2.Day)).bind fun x6 =>
  (idx a0.PaShow.Figures a1).bind fun x7 =>
  (sel3 a2.How (A7a x7 a2.Day) (A7b x7 a2.Day) (A7c x7 a2.Day)).bind fun x8 =>
  some (x6,x8)
theorem U3 {c:Sc} {H:A1} {a0:pawn_show} {b0:Nat} (hb0:hcells H b0=some [(.seq 8 (Zd B2 a0.PaShow.Gowns)),(.seq 4 (Zd A6 a0.PaShow.Figures)),.i a0.PaShow.Purse,(.seq 2 (Zd B1 a0.PaShow.Incomes)),(.fn (.func 41) [] []),(.fn (.func 42) [] []),(.fn (.func 43) [] []),(.fn (.func 25) [] []),(.fn (.func 44) [] []),(.fn (.func 45) [] []),(.fn (.func 26) [] []),(.fn (.func 46) [] []),(.fn (.func 47) [] []),(.seq 1 (Zd cI a0.days_))]) {a1:Int} {a2:PaUse} {r:(Int×Int)} (h:T3 a0 a1 a2=some r) :
  E7 tab c H (.fn (.func 54) [] []) [.ptr b0 0,.i a1,(.agg (B3 a2))] [.i r.1,.i r.2]:= by
 unfold T3 at h
 refine cE Z Z<|sg 0 Z<|A0 (F6 (cs:=B3 a2) Z Z Z) Z<|qm Z<|qm Z<|es (ra3 Z Z Z)<|C4<|s0<|oB h fun x1 hx1 h=>A0 (E8 Z Z Z) Z<|Z8 (rs:=[(.agg (B3 x1))]) Z Z A4v C2 ((A3z hx1).frz)<|A0 (C6d (a:=B3 a2) (b:=B3 x1) Z Z Z Z (V7 (V7 (V7 B1c)))) Z<|es (ra4 Z Z Z Z)<|wi h Z (fun hc2 h=>?_) fun hc2 h=>?_
 ·refine s0<|qm Z<|qm Z<|es (ra2 Z Z)<|C7 ?_
  obtain rfl:=os h
  exact retq trivial (A7 Z (A7 Z C0)) (A4 Z (A4 Z B9)) (A2 A5 (A2 A5 A8))
 ·refine C6<|sg 1 Z<|oB h fun x3 hx3 h=>qm Z<|A0 (C1 Z) Z<|K5 [1] (P7 [1] rfl F9 Z Z) (seen0 Z) (B5 Z Z Z) Z<|A0 (L3 Z Z) Z<|A0 (C1 Z) Z<|A0 (A9g Z Z (C1y hx3)) Z<|K5 [1] (P7 [1] rfl F9 Z Z) (seen0 Z) (B7j (ds:=[(.fn (.func (isel a2.How 41 25 26)) [] []),(.fn (.func (isel a2.How 42 44 46)) [] []),(.fn (.func (isel a2.How 43 45 47)) [] [])]) Z hb0 (E0a hx3) (D99 hx3)) Z<|A0 H8 Z<|K6 (D4 (ds:=[(.fn (.func (isel a2.How 41 25 26)) [] []),(.fn (.func (isel a2.How 42 44 46)) [] []),(.fn (.func (isel a2.How 43 45 47)) [] [])]) Z Z Z Z (M2 (Zx _ _)) Z) Z<|es (ra4 Z Z Z Z)<|s0<|oB h fun x4 hx4 h=>oB h fun x5 hx5 h=>oB h fun x6 hx6 h=>oB h fun x7 hx7 h=>oB h fun x8 hx8 h=>A0 (C1 Z) Z<|A0 (B5 (x:=(.fn (.func (isel a2.How 41 25 26)) [] [])) Z Z Z) Z<|qm Z<|A0 (L3 Z Z) Z<|A0 (C1 Z) Z<|A0 (C1 Z) Z<|A0 (F1 (x:=(.seq 8 (Zd B2 a0.PaShow.Gowns))) Z hb0 Z) Z<|A0 (C1 Z) Z<|A0 (B5 Z Z Z) Z<|A0 (H7 (f:=B2) Z Z hx4) Z<|A0 (I1 Z Z) Z<|qm Z<|A0 (L3 Z Z) Z<|A0 (C1 Z) Z<|A0 (C1 Z) Z<|A0 (F1 (x:=(.seq 4 (Zd A6 a0.PaShow.Figures))) Z hb0 Z) Z<|qm Z<|A0 (H7 (f:=A6) Z Z hx5) Z<|A0 (I1 Z Z) Z<|A0 (C1 Z) Z<|A0 (B5 Z Z Z) Z<|Z8 (rs:=[.i x6]) Z Z (B11 Z (B11 Z (B11 Z A4v))) (A3 (E1 Z) (A3 (E1 Z) (A3 Z C2))) (B8b (rs:=fun (y:Int)=>[.i y]) (fun h=>(C2f h).frz) (fun h=>(A7r h).frz) (fun h=>(A94 h).frz) hx6)<|A0 (C1 Z) Z<|A0 (B5 (x:=(.fn (.func (isel a2.How 42 44 46)) [] [])) Z Z Z) Z<|qm Z<|A0 (L3 Z Z) Z<|A0 (C1 Z) Z<|A0 (C1 Z) Z<|A0 (F1 (x:=(.seq 4 (Zd A6 a0.PaShow.Figures))) Z hb0 Z) Z<|qm Z<|A0 (H7 (f:=A6) Z Z hx7) Z<|A0 (I1 Z Z) Z<|A0 (C1 Z) Z<|A0 (B5 Z Z Z) Z<|C3 (rs:=[.i x8]) Z Z (A3 (E1 Z) (A3 Z C2)) (B8b (rs:=fun (y:Int)=>[.i y]) (fun h=>(B5b h).frz) (fun h=>(B5d h).frz) (fun h=>(B5f h).frz) hx8)<|qm Z<|qm Z<|es (ra2 Z Z)<|C7 ?_
  obtain rfl:=os h
  exact retq trivial (A7 Z (A7 Z C0)) (A4 Z (A4 Z B9)) (A2 A5 (A2 A5 A8))
def Q4 (a0:pawn_show) (a2:Int) (s1:(Int×Int)):Option ((Int×Int)⊕Int) :=
 if (decide (s1.2<(Zh a0.PaShow.Incomes:Int)))=true then
  (idx a0.PaShow.Incomes s1.2).bind fun x4 =>
  if (decide (x4.Day≤a2))=true then
  some (.inl ((w64 (s1.1+x4.Pence)),(w64 (s1.2+1))))
  else
  some (.inl (s1.1,(w64 (s1.2+1))))
 else
  some (.inr s1.1)
def Q5 (a0:pawn_show) (a1:(List PaUse)) (a2:Int) (s7:(Int×Int)):Option ((Int×Int)⊕Int) :=
 if (decide (s7.2<(Zh a1:Int)))=true then
  (idx a1 s7.2).bind fun x10 =>
  (T3 a0 s7.2 x10).bind fun x11 =>
  if (decide (x11.2≤a2))=true then
  some (.inl ((w64 (s7.1-x11.1)),(w64 (s7.2+1))))
  else
  some (.inl (s7.1,(w64 (s7.2+1))))
 else
  some (.inr s7.1)
def P8 (a0:pawn_show) (a1:(List PaUse)) (a2:Int):Option Int :=
 (loop (Q4 a0 a2) (a0.PaShow.Purse,0)).bind fun (o6:Int) =>
 (loop (Q5 a0 a1 a2) (o6,0)).bind fun (o13:Int) =>
 some o13
theorem A5i {c:Sc} {H:A1} {a0:pawn_show} {b0:Nat} (hb0:hcells H b0=some [(.seq 8 (Zd B2 a0.PaShow.Gowns)),(.seq 4 (Zd A6 a0.PaShow.Figures)),.i a0.PaShow.Purse,(.seq 2 (Zd B1 a0.PaShow.Incomes)),(.fn (.func 41) [] []),(.fn (.func 42) [] []),(.fn (.func 43) [] []),(.fn (.func 25) [] []),(.fn (.func 44) [] []),(.fn (.func 45) [] []),(.fn (.func 26) [] []),(.fn (.func 46) [] []),(.fn (.func 47) [] []),(.seq 1 (Zd cI a0.days_))]) {a1:(List PaUse)} {a2:Int} {r:Int} (h:P8 a0 a1 a2=some r) :
  E7 tab c H (.fn (.func 29) [] []) [.ptr b0 0,(.seq 3 (Zd B3 a1)),.i a2] [.i r]:= by
 unfold P8 at h
 refine cE Z Z<|s0<|qm Z<|es (ra3 Z Z Z)<|s0<|qm Z<|A0 (L3 Z Z) Z<|A0 (C1 Z) Z<|A0 (C1 Z) Z<|A0 (F1 (x:=(.i a0.PaShow.Purse)) Z hb0 Z) Z<|qm Z<|es (ra4 Z Z Z Z)<|C4<|s0<|qm Z<|A0 (L3 Z Z) Z<|A0 (C1 Z) Z<|A0 (C1 Z) Z<|A0 (F1 (x:=(.seq 2 (Zd B1 a0.PaShow.Incomes))) Z hb0 Z) Z<|A0 (I0 (f:=B1) Z) Z<|qm Z<|es (ra7 Z Z Z Z Z Z Z)<|C8<|oB h fun o6 ho6 h=>wl (fun s1=>[(0,.ptr b0 0),(1,(.seq 3 (Zd B3 a1))),(2,.i a2),(7,.i s1.1),(23,(.seq 2 (Zd B1 a0.PaShow.Incomes))),(24,(.i (Zh a0.PaShow.Incomes:Int))),(25,.i s1.2)]) (fun (q2:Unit) s1=>[]) 0 (fun r e s' H'=>PX 0 [(0,.ptr b0 0),(1,(.seq 3 (Zd B3 a1))),(2,.i a2),(7,.i r)] (H++[]) e s' H') () ho6 Z Z (fun _ _=>rfl) (fun _=>rfl) Z (fun s1=>(bdc (A48 hb0) (bdc N7 (bdc A5 (bdc A5 (bdc N7 (bdc A5 (bdc A5 bdn)))))))) (fun q2 s1 ys1 hs1=>?_) ?_
 ·unfold Q4 at hs1
  refine s0<|A0 (L5 Z Z) Z<|es (ra8 Z Z Z Z Z Z Z Z)<|C4<|wi hs1 Z (fun hc3 hs1=>?_) fun hc3 hs1=>?_
  ·refine C6<|C4<|C8<|sg 0 Z<|oB hs1 fun x4 hx4 hs1=>A0 (H7 (f:=B1) Z Z hx4) Z<|A0 (I1 Z Z) Z<|A0 H8 Z<|K6 (D4 (ds:=(B1 x4)) Z Z Z Z (E0 Z) Z) Z<|es (ra8 Z Z Z Z Z Z Z Z)<|s0<|A0 (C1 Z) Z<|A0 (B5 Z Z Z) Z<|qm Z<|A0 (A4f Z Z) Z<|es (ra9 Z Z Z Z Z Z Z Z Z)<|wi hs1 Z (fun hc5 hs1=>?_) fun hc5 hs1=>?_
   ·refine r0<|qm Z<|A0 (C1 Z) Z<|A0 (B5 Z Z Z) Z<|A0 (G1 Z Z) Z<|qm Z<|en (ra7 Z Z Z Z Z Z Z)<|r0<|A0 (G1 Z Z) Z<|qm Z<|en (ra7 Z Z Z Z Z Z Z) ?_
    cases hs1
    exact lnT () Z (su7 Z Z Z Z Z Z Z)
   ·refine C6<|r0<|A0 (G1 Z Z) Z<|qm Z<|en (ra7 Z Z Z Z Z Z Z) ?_
    cases hs1
    exact lnT () Z (su7 Z Z Z Z Z Z Z)
  ·refine J1 ?_
   obtain rfl:=os hs1
   exact lx Z px (su4 Z Z Z Z)
 ·rintro e s' H'-⟨rfl,rfl,rfl⟩
  refine C4<|s0<|qm Z<|A0 (I0 (f:=B3) Z) Z<|qm Z<|es (ra6 Z Z Z Z Z Z)<|C8<|oB h fun o13 ho13 h=>wl (fun s7=>[(0,.ptr b0 0),(2,.i a2),(7,.i s7.1),(38,(.seq 3 (Zd B3 a1))),(39,(.i (Zh a1:Int))),(40,.i s7.2)]) (fun (q8:Unit) s7=>[]) 0 (fun r e s' H'=>PX 2 [(7,.i r)] (H++[]) e s' H') () ho13 Z Z (fun _ _=>rfl) (fun _=>rfl) Z (fun s7=>(bdc (A48 hb0) (bdc A5 (bdc A5 (bdc N7 (bdc A5 (bdc A5 bdn))))))) (fun q8 s7 ys7 hs7=>?_) ?_
  ·unfold Q5 at hs7
   refine s0<|A0 (L5 Z Z) Z<|es (ra7 Z Z Z Z Z Z Z)<|C4<|wi hs7 Z (fun hc9 hs7=>?_) fun hc9 hs7=>?_
   ·refine C6<|C4<|C8<|sg 0 Z<|oB hs7 fun x10 hx10 hs7=>qm Z<|A0 (H7 (f:=B3) Z Z hx10) Z<|A0 (I1 Z Z) Z<|A0 H8 Z<|qm Z<|K6 (D4 (ds:=(B3 x10)) Z Z Z Z (E0 Z) Z) Z<|es (ra8 Z Z Z Z Z Z Z Z)<|s0<|oB hs7 fun x11 hx11 hs7=>qm Z<|qm Z<|A0 (E8 Z Z Z) Z<|C3 (rs:=[.i x11.1,.i x11.2]) Z Z (A3 Z (A3 Z (A3 (E1 Z) C2))) ((U3 (D5 hb0 _) hx11).frz)<|qm Z<|A0 (B4 Z Z) Z<|A0 (B4 Z Z) Z<|qm Z<|qm Z<|es (ra8 Z Z Z Z Z Z Z Z)<|s0<|qm Z<|qm Z<|A0 (A4f Z Z) Z<|es (ra8 Z Z Z Z Z Z Z Z)<|wi hs7 Z (fun hc12 hs7=>?_) fun hc12 hs7=>?_
    ·refine r0<|qm Z<|qm Z<|A0 (A0s Z Z) Z<|qm Z<|en (ra6 Z Z Z Z Z Z)<|r0<|A0 (G1 Z Z) Z<|qm Z<|en (ra6 Z Z Z Z Z Z) ?_
     cases hs7
     exact lnT () Z (su6 Z Z Z Z Z Z)
    ·refine C6<|r0<|A0 (G1 Z Z) Z<|qm Z<|en (ra6 Z Z Z Z Z Z) ?_
     cases hs7
     exact lnT () Z (su6 Z Z Z Z Z Z)
   ·refine J1 ?_
    obtain rfl:=os hs7
    exact lx Z px (su1 Z)
  ·rintro e s' H'-⟨rfl,rfl,rfl⟩
   refine s0<|qm Z<|qm Z<|es (ra1 Z)<|C7 ?_
   obtain rfl:=os h
   exact retq trivial (A7 Z C0) (A4 Z B9) (A2 A5 A8)
def O9 (a0:pawn_show) (a1:(List PaUse)) (s1:(Int×Int×Int)):Option ((Int×Int×Int)⊕(Int×Int)) :=
 if (decide (s1.2.2<(Zh a1:Int)))=true then
  (idx a1 s1.2.2).bind fun x4 =>
  (T3 a0 s1.2.2 x4).bind fun x5 =>
  (P8 a0 a1 x5.2).bind fun x6 =>
  if (decide (x6<0))=true then
  some (.inl ((A2e s1.1 (w64 (0-x6))),(K9 s1.2.1 x5.2),(w64 (s1.2.2+1))))
  else
  some (.inl (s1.1,s1.2.1,(w64 (s1.2.2+1))))
 else
  some (.inr (s1.1,s1.2.1))
def O5 (a0:pawn_show) (a1:(List PaUse)):Option (Int×Int) :=
 (loop (O9 a0 a1) (0,365,0)).bind fun (o8:(Int×Int)) =>
 some (o8.1,o8.2)
theorem B0p {c:Sc} {H:A1} {a0:pawn_show} {b0:Nat} (hb0:hcells H b0=some [(.seq 8 (Zd B2 a0.PaShow.Gowns)),(.seq 4 (Zd A6 a0.PaShow.Figures)),.i a0.PaShow.Purse,(.seq 2 (Zd B1 a0.PaShow.Incomes)),(.fn (.func 41) [] []),(.fn (.func 42) [] []),(.fn (.func 43) [] []),(.fn (.func 25) [] []),(.fn (.func 44) [] []),(.fn (.func 45) [] []),(.fn (.func 26) [] []),(.fn (.func 46) [] []),(.fn (.func 47) [] []),(.seq 1 (Zd cI a0.days_))]) {a1:(List PaUse)} {r:(Int×Int)} (h:O5 a0 a1=some r) :
  E7 tab c H (.fn (.func 56) [] []) [.ptr b0 0,(.seq 3 (Zd B3 a1))] [.i r.1,.i r.2]:= by
 unfold O5 at h
 refine cE Z Z<|s0<|qm Z<|qm Z<|es (ra3 Z Z Z)<|s0<|qm Z<|es (ra4 Z Z Z Z)<|C4<|s0<|qm Z<|A0 (I0 (f:=B3) Z) Z<|qm Z<|es (ra7 Z Z Z Z Z Z Z)<|C8<|oB h fun o8 ho8 h=>wl (fun s1=>[(0,.ptr b0 0),(1,(.seq 3 (Zd B3 a1))),(4,.i s1.1),(5,.i s1.2.1),(11,(.seq 3 (Zd B3 a1))),(12,(.i (Zh a1:Int))),(13,.i s1.2.2)]) (fun (q2:Unit) s1=>[]) 0 (fun r e s' H'=>PX 0 [(4,.i r.1),(5,.i r.2)] (H++[]) e s' H') () ho8 Z Z (fun _ _=>rfl) (fun _=>rfl) Z (fun s1=>(bdc (A48 hb0) (bdc N7 (bdc A5 (bdc A5 (bdc N7 (bdc A5 (bdc A5 bdn)))))))) (fun q2 s1 ys1 hs1=>?_) ?_
 ·unfold O9 at hs1
  refine s0<|A0 (L5 Z Z) Z<|es (ra8 Z Z Z Z Z Z Z Z)<|C4<|wi hs1 Z (fun hc3 hs1=>?_) fun hc3 hs1=>?_
  ·refine C6<|C4<|C8<|sg 0 Z<|oB hs1 fun x4 hx4 hs1=>qm Z<|A0 (H7 (f:=B3) Z Z hx4) Z<|A0 (I1 Z Z) Z<|A0 H8 Z<|qm Z<|K6 (D4 (ds:=(B3 x4)) Z Z Z Z (E0 Z) Z) Z<|es (ra9 Z Z Z Z Z Z Z Z Z)<|s0<|oB hs1 fun x5 hx5 hs1=>qm Z<|qm Z<|A0 (E8 Z Z Z) Z<|C3 (rs:=[.i x5.1,.i x5.2]) Z Z (A3 Z (A3 Z (A3 (E1 Z) C2))) ((U3 (D5 hb0 _) hx5).frz)<|qm Z<|A0 (B4 Z Z) Z<|A0 (B4 Z Z) Z<|qm Z<|qm Z<|es (ra8 Z Z Z Z Z Z Z Z)<|s0<|oB hs1 fun x6 hx6 hs1=>qm Z<|qm Z<|qm Z<|N9 (V1 (rs:=[.i x6]) Z Z ((A5i (D5 hb0 _) hx6).frz)) Z<|qm Z<|es (ra9 Z Z Z Z Z Z Z Z Z)<|s0<|qm Z<|A0 (L5 Z Z) Z<|es (ra10 Z Z Z Z Z Z Z Z Z Z)<|wi hs1 Z (fun hc7 hs1=>?_) fun hc7 hs1=>?_
   ·refine r0<|qm Z<|qm Z<|A0 (C4c Z Z) Z<|A0 (C18 Z Z) Z<|qm Z<|qm Z<|A0 (C18 Z Z) Z<|qm Z<|qm Z<|en (ra7 Z Z Z Z Z Z Z)<|r0<|A0 (G1 Z Z) Z<|qm Z<|en (ra7 Z Z Z Z Z Z Z) ?_
    cases hs1
    exact lnT () Z (su7 Z Z Z Z Z Z Z)
   ·refine C6<|r0<|A0 (G1 Z Z) Z<|qm Z<|en (ra7 Z Z Z Z Z Z Z) ?_
    cases hs1
    exact lnT () Z (su7 Z Z Z Z Z Z Z)
  ·refine J1 ?_
   obtain rfl:=os hs1
   exact lx Z px (su2 Z Z)
 ·rintro e s' H'-⟨rfl,rfl,rfl⟩
  refine s0<|qm Z<|qm Z<|qm Z<|qm Z<|es (ra2 Z Z)<|C7 ?_
  obtain rfl:=os h
  exact retq trivial (A7 Z (A7 Z C0)) (A4 Z (A4 Z B9)) (A2 A5 (A2 A5 A8))
end Pw
end
section
set_option maxRecDepth 100000
namespace Pw
open Go Am Go.Proofs.Ytjpjdglddmhplaa.Cd
inductive SlV (H:A1):AV→List PaUse→Prop
 | seq (l:List PaUse):SlV H (.seq 3 (l.map B3)) l
 | asl (b:Nat) (p:Bool) (l:List PaUse) (h:harr H b=some (3,p,l.map B3)):SlV H (.asl b l.length) l
 | csl (b:Nat) (p:Bool) (o:Nat) (full l:List PaUse) (h:harr H b=some (3,p,full.map B3)) (hl:∀n a,l[n]? = some a→full[o+n]? = some a) (hq:o+l.length≤full.length):SlV H (.csl b o full.length l.length) l
theorem B0j {H:A1} {b:Nat} {x:Nat×Bool×List (List AV)} (h:harr H b=some x):b<H.length:= by
 unfold harr hget at h
 cases e:H[b]? with
 | none=>rw[e]at h;cases h
 | some o=>exact(Ze.1 e).1
theorem Z5 {H L:A1} {b:Nat} {x:Nat×Bool×List (List AV)} (h:harr H b=some x):harr (H++L) b=some x:= by
 have:=B0j h
 unfold harr hget at h ⊢
 rw[List.getElem?_append_left this];exact h
theorem SlV.app {H L:A1} {v:AV} {l:List PaUse} (h:SlV H v l):SlV (H++L) v l:= by
 cases h with
 | seq=>exact .seq l
 | asl b p _ h=>exact .asl b p l (Z5 h)
 | csl b p o full _ h hl hq=>exact .csl b p o full l (Z5 h) hl hq
theorem SlV.bd {H:A1} {v:AV} {l:List PaUse} {k:Nat} (h:SlV H v l):v.bd (H.length+k)=true:= by
 cases h with
 | seq=>exact N7
 | asl b p _ h=>have:=B0j h;simp only[AV.bd];exact Zk (by omega)
 | csl b p o full _ h hl hq=>have:=B0j h;simp only[AV.bd];exact Zk (by omega)
def elP (v:AV) (n:Nat):AV:=match v with
 | .seq _ rows=>.cptr ((rows[n]?).getD [])
 | .asl b m=>.eptr b m n 0
 | .csl b o m _=>.eptr b m (o+n) 0
 | _=>.undef
def elF (off:Nat) (v:AV):AV:=match v with
 | .eptr b m i o=>.eptr b m i (o+off)
 | .cptr cs=>.cptr (cs.drop off)
 | _=>.undef
theorem B9s {H:A1} {v:AV} {l:List PaUse} {n:Int} {a:PaUse} (hv:SlV H v l) (ha:idx l n=some a):E5 H (elP v n.toNat)=some (B3 a):= by
 obtain⟨h1,h2⟩:=A5e ha
 cases hv with
 | seq=>simp only[elP,E5,ZK,h2,Zb,Option.getD_some]
 | asl b p _ h=>simp only[elP,E5,h,Zi,Z0x,if_true,ZK,h2,Zb,Z0z]
 | csl b p o full _ h hl hq=>simp only[elP,E5,h,Zi,Z0x,if_true,ZK,hl _ _ h2,Zb,Z0z]
section
variable {T:Tab} {s:A9} {H0:A1} {l:List AO} {c:Sc} {n0:Nat} {v:AV} {e:List PaUse}
theorem B3l {x:Opd} (hv:SlV H0 v e) (h:ev s x=some v):One T c n0 s (H0++l) (.lenL x) (.lit (.int .i64 e.length)) (H0++l):=⟨0,by
 cases hv with
 | seq=>simp[core,prim,h]
 | asl b p _ hb=>simp[core,prim,h,Z5 hb]
 | csl b p o full _ hb hl hq=>simp[core,prim,h]⟩
theorem B3j {x i:Opd} {kk:IntKind} {n:Int} {a:PaUse} (hv:SlV H0 v e) (ha:idx e n=some a) (h:ev s x=some v) (hi:ev s i=some (.lit (.int kk n))):One T c n0 s (H0++l) (.idxS 3 x i) (elP v n.toNat) (H0++l):=⟨0,by
 obtain⟨h1,h2⟩:=A5e ha
 have hlt:n<(e.length:Int):= by have:=(Ze.1 h2).1;omega
 cases hv with
 | seq=>simp[core,prim,h,hi,h1,h2,elP]
 | asl b p _ hb=>simp[core,prim,h,hi,h1,hlt,Z5 hb,elP]
 | csl b p o full _ hb hl hq=>simp[core,prim,h,hi,h1,hlt,Z5 hb,elP]⟩
theorem B5w {x:Opd} {n:Int} {a:PaUse} (hv:SlV H0 v e) (ha:idx e n=some a) (h:ev s x=some (elP v n.toNat)):One T c n0 s (H0++l) (.load (some 3) x) (.agg (B3 a)) (H0++l):=⟨0,by
 have:=B9s (hv.app (L:=l)) ha
 simp[core,prim,h,this,B3,ZG]⟩
theorem D51 {x:Opd} {off:Nat} {n:Int} {a:PaUse} (hv:SlV H0 v e) (ha:idx e n=some a) (h:ev s x=some (elP v n.toNat)):One T c n0 s (H0++l) (.fieldAddr off x) (elF off (elP v n.toNat)) (H0++l):=⟨0,by
 cases hv <;> simp[core,prim,h,elP,elF]⟩
theorem C4a {x:Opd} {off:Nat} {n:Int} {a:PaUse} {y:AV} (hv:SlV H0 v e) (ha:idx e n=some a) (h:ev s x=some (elF off (elP v n.toNat))) (hy:((B3 a).drop off).head? = some y):One T c n0 s (H0++l) (.load none x) y (H0++l):=⟨0,by
 have h1:=B9s (hv.app (L:=l)) ha
 have h2:E5 (H0++l) (elF off (elP v n.toNat))=some ((B3 a).drop off):= by
  cases hv with
  | seq =>
   simp only[elP,E5,Za]at h1
   simp only[elP,elF,E5,h1]
  | asl b p _ hb =>
   simp only[elP,E5,Z5 hb,Zi,Z0x,if_true]at h1
   simp only[elP,elF,E5,Z5 hb,Zi,Z0x,if_true]
   split at h1
   ·next r hr=>simp only[Z0z,Za]at h1;simp only[h1,Z1c]
   ·cases h1
  | csl b p o full _ hb hl hq =>
   simp only[elP,E5,Z5 hb,Zi,Z0x,if_true]at h1
   simp only[elP,elF,E5,Z5 hb,Zi,Z0x,if_true]
   split at h1
   ·next r hr=>simp only[Z0z,Za]at h1;simp only[h1,Z1c]
   ·cases h1
 simp only[core,prim,h,h2]
 cases hd:(B3 a).drop off with
 | nil=>rw[hd]at hy;cases hy
 | cons u t=>rw[hd]at hy;simp only[Z2a,Za]at hy;subst hy;rfl⟩
def D5l (v:AV) (i:Nat) (m:List PaUse):AV:=match v with
 | .asl b n=>if i=0 then .seq 3 [] else .csl b 0 n i
 | _=>.seq 3 (m.map B3)
theorem D5m {i:Int} {m:List PaUse} (hv:SlV H0 v e) (hne:∀b o a q,v≠.csl b o a q) (hm:slc e 0 i=some m):SlV H0 (D5l v i.toNat m) m:= by
 obtain⟨h3,rfl⟩:=A29 hm
 simp only[Z4g,Z0z]
 cases hv with
 | seq=>exact .seq _
 | asl b p _ hb =>
  have hl:(e.take i.toNat).length=i.toNat:= by simp;omega
  unfold D5l
  simp only
  split
  ·next hz=>rw[hz];exact .seq []
  ·next hz =>
   have:=SlV.csl (H:=H0) b p 0 e (e.take i.toNat) hb (fun n a hn=>by
    rw[Z1c]
    have:=(Ze.1 hn).1
    rw[ZM (by omega)]at hn;exact hn) (by omega)
   rwa [hl]at this
 | csl b p o full _ hb hl hq=>exact absurd Z (hne _ _ _ _)
theorem D63 {x hi:Opd} {i:Int} {m:List PaUse} (hv:SlV H0 v e) (hne:∀b o a q,v≠.csl b o a q) (hm:slc e 0 i=some m) (h:ev s x=some v) (hi':ev s hi=some (.lit (.int .i64 i))):One T c n0 s (H0++l) (.sub 3 x none (some hi)) (D5l v i.toNat m) (H0++l):= by
 have hm0:=hm
 obtain⟨h3,rfl⟩:=A29 hm
 simp only[Z4g,Z0z]
 cases hv with
 | seq=>exact D9u (f:=B3) (a:=0) (b:=i) h Z (by simp[bnd,A70,hi']) (by simpa using hm0)
 | asl b p _ hb =>
  refine⟨0,?_⟩
  have hq:(0=i)↔(i.toNat=0):= by omega
  simp[core,prim,h,Z5 hb,bnd,A70,hi',h3.2.1,h3.2.2,D5l,hq]
 | csl b p o full _ hb hl hq=>exact absurd Z (hne _ _ _ _)
end
end Pw
namespace Am
open Go
def A9q {α β:Type} (T:Tab) (H:A1) (i:Nat) (ff fc:List AV) (g:α→Option β) (ea:α→List AV) (er:β→List AV):Prop :=
 (bdL H.length ff=true∧bdL H.length fc=true)∧∀ (L:A1) c x r,g x=some r→X5 T c (H++L) (.fn (.func i) ff fc) (ea x) (er r)
theorem A9q.app {α β:Type} {T:Tab} {H:A1} {i:Nat} {ff fc:List AV} {g:α→Option β} {ea:α→List AV} {er:β→List AV} (h:A9q T H i ff fc g ea er) (l:List AO):A9q T (H++l) i ff fc g ea er :=
 ⟨⟨bdL_more (by simp) h.1.1,bdL_more (by simp) h.1.2⟩,fun L c x r e=>by rw[Zz];exact h.2 (l++L) c x r e⟩
theorem A9q.call {α β:Type} {T:Tab} {c:Sc} {H:A1} {i:Nat} {ff fc:List AV} {g:α→Option β} {ea:α→List AV} {er:β→List AV} (h:A9q T H i ff fc g ea er) {x:α} {r:β} (e:g x=some r) (l:List AO):X5 T c (H++l) (.fn (.func i) ff fc) (ea x) (er r):=h.2 l c x r e
end Am
end
section
set_option maxRecDepth 100000
set_option maxHeartbeats 0
namespace Pw
open Go Am Go.Proofs.Ytjpjdglddmhplaa.Cd
def I2 (a0:(List PaUse)) (g1:(PaUse→Option Bool)) (s1:Int):Option (Int⊕(Int⊕Unit)) :=
 if (decide (s1<(Zh a0:Int)))=true then
  (idx a0 s1).bind fun x4 =>
  (g1 x4).bind fun x5 =>
  if x5=true then
  some (.inr (.inl s1))
  else
  some (.inl (w64 (s1+1)))
 else
  some (.inr (.inr ()))
def G8 (a0:(List PaUse)) (g1:(PaUse→Option Bool)):Option Int :=
 (loop (I2 a0 g1) 0).bind fun (o7:(Int⊕Unit)) =>
 match o7 with
 | (.inl vo7_0) =>
  some vo7_0
 | (.inr vo7_1) =>
  some (-1)
theorem Z1 {c:Sc} {H:A1} {a0:(List PaUse)} {g1:PaUse→Option Bool} {g1_i:Nat} {g1_f g1_c:List AV} (g1_h:Impl tab H g1_i g1_f g1_c g1 (fun y=>[(.agg (B3 y))]) (fun y=>[.b y])) {r:Int} (h:G8 a0 g1=some r) :
  E7 tab c H (.fn (.func 95) [] []) [(.seq 3 (Zd B3 a0)),.fn (.func g1_i) g1_f g1_c] [.i r]:= by
 unfold G8 at h
 refine cE Z Z<|s0<|qm Z<|es (ra2 Z Z)<|C4<|s0<|qm Z<|A0 (I0 (f:=B3) Z) Z<|qm Z<|es (ra4 Z Z Z Z)<|C8<|oB h fun o7 ho7 h=>wl (fun s1=>[(0,(.seq 3 (Zd B3 a0))),(1,(.fn (.func g1_i) g1_f g1_c)),(7,(.i (Zh a0:Int))),(8,.i s1)]) (fun (q2:Unit) s1=>[]) 0 (fun r e s' H'=>(match r with|(.inl v)=>e=.ret∧RetQ H [.tmp 4] [.i v] e s' H' | (.inr v)=>PX 0 [] (H++[]) e s' H':Prop)) () ho7 Z Z (fun _ _=>rfl) (fun _=>rfl) Z (fun s1=>(bdc N7 (bdc (C26 g1_h.1) (bdc A5 (bdc A5 bdn))))) (fun q2 s1 ys1 hs1=>?_) ?_
 ·unfold I2 at hs1
  refine s0<|A0 (L5 Z Z) Z<|es (ra5 Z Z Z Z Z)<|C4<|wi hs1 Z (fun hc3 hs1=>?_) fun hc3 hs1=>?_
  ·refine C6<|C4<|C8<|s0<|qm Z<|qm Z<|es (ra5 Z Z Z Z Z)<|s0<|oB hs1 fun x4 hx4 hs1=>oB hs1 fun x5 hx5 hs1=>qm Z<|qm Z<|qm Z<|A0 (H7 (f:=B3) Z Z hx4) Z<|A0 (I1 Z Z) Z<|C3 (rs:=[.b x5]) Z Z (A3 (E1 Z) C2) (Impl.call g1_h hx5 _)<|es (ra6 Z Z Z Z Z Z)<|wi hs1 Z (fun hc6 hs1=>?_) fun hc6 hs1=>?_
   ·refine s0<|qm Z<|qm Z<|es (ra1 Z)<|C7 ?_
    obtain rfl:=os hs1
    exact lx Z (ZO Z (retq trivial (A7 Z C0) (A4 Z B9) (A2 A5 A8))) (Sub.refl _)
   ·refine C6<|r0<|A0 (G1 Z Z) Z<|qm Z<|en (ra4 Z Z Z Z) ?_
    cases hs1
    exact lnT () Z (su4 Z Z Z Z)
  ·refine J1 ?_
   obtain rfl:=os hs1
   exact lx Z px (.nil _)
 ·rcases o7 with vo7_0|vo7_1
  ·rintro e s' H'-⟨rfl,hret⟩
   cases h
   exact hret
  ·rintro e s' H'-⟨rfl,rfl,rfl⟩
   refine s0<|qm Z<|es (ra1 Z)<|C7 ?_
   obtain rfl:=os h
   exact retq trivial (A7 Z C0) (A4 Z B9) (A2 A5 A8)
def E4 (a0:(List PaUse)) (g1:(PaUse→Option Bool)):Option Bool :=
 (G8 a0 g1).bind fun x1 =>
 some (decide (x1≥0))
theorem W8 {c:Sc} {H:A1} {a0:(List PaUse)} {g1:PaUse→Option Bool} {g1_i:Nat} {g1_f g1_c:List AV} (g1_h:Impl tab H g1_i g1_f g1_c g1 (fun y=>[(.agg (B3 y))]) (fun y=>[.b y])) {r:Bool} (h:E4 a0 g1=some r) :
  E7 tab c H (.fn (.func 72) [] []) [(.seq 3 (Zd B3 a0)),.fn (.func g1_i) g1_f g1_c] [.b r]:= by
 unfold E4 at h
 refine cE Z Z<|s0<|qm Z<|es (ra2 Z Z)<|s0<|oB h fun x1 hx1 h=>qm Z<|qm Z<|N9 (V1 (rs:=[.i x1]) Z Z ((Z1 (Impl.app g1_h _) hx1).frz)) Z<|A0 (A7x Z Z) Z<|qm Z<|es (ra1 Z)<|C7 ?_
 obtain rfl:=os h
 exact retq trivial (A7 Z C0) (A4 Z B9) (A2 A5 A8)
theorem Y4 {c:Sc} {H:A1} {a0:(List PaUse)} {v:AV} (hv:SlV H v a0) {g1:PaUse→Option Bool} {g1_i:Nat} {g1_f g1_c:List AV} (g1_h:A9q tab H g1_i g1_f g1_c g1 (fun y=>[(.agg (B3 y))]) (fun y=>[.b y])) {r:Int} (h:G8 a0 g1=some r) :
  E7 tab c H (.fn (.func 95) [] []) [v,.fn (.func g1_i) g1_f g1_c] [.i r]:= by
 unfold G8 at h
 refine cE Z Z<|s0<|qm Z<|es (ra2 Z Z)<|C4<|s0<|qm Z<|A0 (B3l hv Z) Z<|qm Z<|es (ra4 Z Z Z Z)<|C8<|oB h fun o7 ho7 h=>wl (fun s1=>[(0,v),(1,(.fn (.func g1_i) g1_f g1_c)),(7,(.i (Zh a0:Int))),(8,.i s1)]) (fun (q2:Unit) s1=>[]) 0 (fun r e s' H'=>(match r with|(.inl v)=>e=.ret∧RetQ H [.tmp 4] [.i v] e s' H' | (.inr v)=>PX 0 [] (H++[]) e s' H':Prop)) () ho7 Z Z (fun _ _=>rfl) (fun _=>rfl) Z (fun s1=>(bdc hv.bd (bdc (C26 g1_h.1) (bdc A5 (bdc A5 bdn))))) (fun q2 s1 ys1 hs1=>?_) ?_
 ·unfold I2 at hs1
  refine s0<|A0 (L5 Z Z) Z<|es (ra5 Z Z Z Z Z)<|C4<|wi hs1 Z (fun hc3 hs1=>?_) fun hc3 hs1=>?_
  ·refine C6<|C4<|C8<|s0<|qm Z<|qm Z<|es (ra5 Z Z Z Z Z)<|s0<|oB hs1 fun x4 hx4 hs1=>oB hs1 fun x5 hx5 hs1=>qm Z<|qm Z<|qm Z<|A0 (B3j hv hx4 Z Z) Z<|A0 (B5w hv hx4 Z) Z<|C3 (rs:=[.b x5]) Z Z (A3 (E1 Z) C2) (A9q.call g1_h hx5 _)<|es (ra6 Z Z Z Z Z Z)<|wi hs1 Z (fun hc6 hs1=>?_) fun hc6 hs1=>?_
   ·refine s0<|qm Z<|qm Z<|es (ra1 Z)<|C7 ?_
    obtain rfl:=os hs1
    exact lx Z (ZO Z (retq trivial (A7 Z C0) (A4 Z B9) (A2 A5 A8))) (Sub.refl _)
   ·refine C6<|r0<|A0 (G1 Z Z) Z<|qm Z<|en (ra4 Z Z Z Z) ?_
    cases hs1
    exact lnT () Z (su4 Z Z Z Z)
  ·refine J1 ?_
   obtain rfl:=os hs1
   exact lx Z px (.nil _)
 ·rcases o7 with vo7_0|vo7_1
  ·rintro e s' H'-⟨rfl,hret⟩
   cases h
   exact hret
  ·rintro e s' H'-⟨rfl,rfl,rfl⟩
   refine s0<|qm Z<|es (ra1 Z)<|C7 ?_
   obtain rfl:=os h
   exact retq trivial (A7 Z C0) (A4 Z B9) (A2 A5 A8)
theorem W3 {c:Sc} {H:A1} {a0:(List PaUse)} {v:AV} (hv:SlV H v a0) {g1:PaUse→Option Bool} {g1_i:Nat} {g1_f g1_c:List AV} (g1_h:A9q tab H g1_i g1_f g1_c g1 (fun y=>[(.agg (B3 y))]) (fun y=>[.b y])) {r:Bool} (h:E4 a0 g1=some r) :
  E7 tab c H (.fn (.func 72) [] []) [v,.fn (.func g1_i) g1_f g1_c] [.b r]:= by
 unfold E4 at h
 refine cE Z Z<|s0<|qm Z<|es (ra2 Z Z)<|s0<|oB h fun x1 hx1 h=>qm Z<|qm Z<|N9 (V1 (rs:=[.i x1]) Z Z ((Y4 hv.app (A9q.app g1_h _) hx1).frz)) Z<|A0 (A7x Z Z) Z<|qm Z<|es (ra1 Z)<|C7 ?_
 obtain rfl:=os h
 exact retq trivial (A7 Z C0) (A4 Z B9) (A2 A5 A8)
def X0 (a0:PaUse) (a1:(List PaUse)) (a2:Int):Option Bool :=
 (idx a1 a2).bind fun x1 =>
 some (a0.Gown==x1.Gown)
theorem B3o {c:Sc} {H:A1} {a0:PaUse} {a1:List PaUse} {v:AV} (hv:SlV H v a1) {b1:Nat} (hb1:hcells H b1=some [v]) {a2:Int} {b2:Nat} (hb2:hcells H b2=some (cI a2)) {r:Bool} (h:X0 a0 a1 a2=some r) :
  E7 tab c H (.fn (.func 73) [] []) [(.agg (B3 a0)),.ptr b1 0,.ptr b2 0] [.b r]:= by
 unfold X0 at h
 refine cE Z Z<|sg 0 Z<|A0 (F6 (cs:=B3 a0) Z Z Z) Z<|qm Z<|es (ra3 Z Z Z)<|s0<|oB h fun x1 hx1 h=>A0 (C1 Z) Z<|A0 (B5 Z Z Z) Z<|A0 (F1 Z hb1 Z) Z<|A0 (F1 Z hb2 Z) Z<|A0 (B3j hv hx1 Z Z) Z<|A0 (D51 hv hx1 Z) Z<|A0 (C4a (y:=.i x1.Gown) hv hx1 Z Z) Z<|A0 (K0 Z Z) Z<|qm Z<|es (ra1 Z)<|C7 ?_
 obtain rfl:=os h
 exact retq trivial (A7 Z C0) (A4 Z B9) (A2 A5 A8)
def A2v (a0:List PaUse) (a1:Int):Option Bool :=
 (idx a0 a1).bind fun x =>
 (if (x.Gown != (-1))=true then (slc a0 0 a1).bind fun m=>(E4 m (fun y=>X0 y a0 a1)).bind fun z=>some z else some false).bind fun g=>some g
theorem A8n {c:Sc} {H:A1} {a0:List PaUse} {v:AV} (hv:SlV H v a0) (hne:∀b o a q,v≠.csl b o a q) (hc:v.cellsOf=[v]) {a1:Int} {r:Bool} (h:A2v a0 a1=some r) :
  E7 tab c H (.fn (.func 53) [] []) [v,.i a1] [.b r]:= by
 unfold A2v at h
 refine oB h fun x hx h=>oB h fun g hg h=>?_
 have hbd:v.bd (H.length+2)=true:=hv.bd
 refine cE Z Z<|sg 0 Z<|A0 (F6 (cs:=[v]) Z hc Z) Z<|A0 (F6 (cs:=cI a1) Z Z Z) Z<|qm Z<|es (ra2 Z Z)<|s0<|A0 (B5 (x:=v) Z Z Z) Z<|A0 (B5 (x:=.i a1) Z Z Z) Z<|A0 (B3j hv hx Z Z) Z<|A0 (D51 hv hx Z) Z<|A0 (C4a (y:=.i x.Gown) hv hx Z Z) Z<|A0 (Q9 Z Z) Z<|qm Z ?_
 refine gp 6 17 (.b g) 11 Z Z (fun hb=>?_) (fun hb=>?_) ?_
 ·refine oB (bt hg hb) fun m hm hg=>oB hg fun z hz hg=>?_
  obtain rfl:=os hg
  refine gT Z hb<|A0 (B5 (x:=v) Z Z Z) Z<|gT Z hb<|A0 (B5 (x:=.i a1) Z Z Z) Z<|gT Z hb<|A0 (D63 hv hne hm Z Z) Z<|gT Z hb<|A0 (A2q Z Z) Z<|gT Z hb<|N9 (V1 (rs:=[.b z]) Z Z ((W3 (D5m hv hne hm).app (show A9q tab _ 73 [] [.ptr (H.length+0) 0,.ptr (H.length+1) 0] (fun y=>X0 y a0 a1) (fun y=>[.agg (B3 y)]) (fun y=>[.b y]) from ⟨⟨A8,by rw[Zp];exact A2 (N6 Z) (A2 (N6 Z) A8)⟩,fun L c y r hr=>(A2i (B3o hv.app.app (D5 (D7 Z) _) (D5 (D7 Z) _) hr)).frz⟩) hz).frz)) Z<|A0 (D1 Z hb Z) Z<|ge 6 Z Z Z
 ·obtain rfl:=os (bf hg hb)
  exact nT Z hb Z<|nT Z hb Z<|nT Z hb Z<|nT Z hb Z<|L7 (F4 Z (by rw[hb];rfl)) Z<|A0 (D0 Z hb Z) Z<|ge 6 Z Z Z
 ·refine qm Z<|es (ra1 Z)<|C7 ?_
  obtain rfl:=os h
  exact retq trivial (A7 Z C0) (A4 Z B9) (A2 A5 A8)
end Pw
end
section
namespace Pw
open Go Am
def A76 (g:PaGown) (x:PaUse):Bool:=if g.Pawn then (x.How==2&&x.Day==0)||(x.How==1&&!out 0 364 x.Day) else x.How==0&&x.Day==0
def A9t (g:PaGown) (y:PaFigure) (x:PaUse):Bool:=(x.How==1&&(decide (x.Day>g.Last)||decide (x.Day>y.Day)))||(x.How==2&&decide (y.Until>g.Last))
def B4g (g:PaGown) (y:PaFigure):Bool:=A08 y.Needs g.Looks==0
def D7t (s:PaShow) (f:Int) (x:PaUse):Int :=
 if x.Gown = -1 then (if x.How=0∧x.Day=0 then 0 else 2) else
 if out 0 ((s.Gowns.length:Int)-1) x.Gown then 4 else
 if A76 s.Gowns[x.Gown.toNat]! x=false then 2 else
 if A9t s.Gowns[x.Gown.toNat]! s.Figures[f.toNat]! x||!B4g s.Gowns[x.Gown.toNat]! s.Figures[f.toNat]! then 9 else 0
theorem D3q {s:PaShow} (hs:ShOk s) (days:List Int) {f:Int} (hf:0≤f∧f<s.Figures.length) (x:PaUse):V2 (shw s days) f x=some (D7t s f x):= by
 have hG:=hs.gowns
 unfold V2 Y3 D7t
 simp only[Zg]
 by_cases hx:x.Gown = -1
 ·rw[if_pos hx]
  by_cases hb:x.How=0∧x.Day=0
  ·rw[if_pos hb,if_pos (by simp[hx,hb.1,hb.2])]
  ·rw[if_neg hb,if_neg (by simp[hx];omega),if_pos (by simp[hx])]
 ·rw[if_neg hx,if_neg (by simp[hx]),if_neg (by simp[hx])]
  rw[show (shw s days).PaShow=s from Z,F5 (by omega),out1]
  simp only[Zg]
  cases ho:out 0 ((s.Gowns.length:Int)-1) x.Gown with
  | true=>rfl
  | false =>
   have hg:=T2.mp ho
   simp only[Zj,if_false]
   rw[A65 (l:=s.Gowns) hg.1 (by omega),A65 (l:=s.Figures) hf.1 hf.2]
   simp only[Zg]
   generalize s.Gowns[x.Gown.toNat]! = g
   generalize s.Figures[f.toNat]! = y
   obtain⟨gn,how,day⟩:=x
   simp only at hx hg ⊢
   by_cases h0:how=0
   ·subst h0
    have e1:E2 0 2 [0]=some false:= by rw[out1];rfl
    have e2:∀z,out 0 0 z = !(z==0):=out00
    rw[e1]
    simp only[Zg]
    unfold A76 A9t B4g
    cases hp:g.Pawn
    ·simp only[out1,e2,Zg]
     by_cases hd:day=0
     ·subst hd
      cases hk:A08 y.Needs g.Looks==0
      ·have:(A08 y.Needs g.Looks != 0)=true:= by simpa [bne] using hk
       simp[this,e2]
      ·have:(A08 y.Needs g.Looks != 0)=false:= by simpa [bne] using hk
       simp[this,inR,sel3,A32,e2]
     ·simp[hd,e2]
    ·simp
   ·by_cases h1:how=1
    ·subst h1
     have e1:E2 0 2 [1]=some false:= by rw[out1];rfl
     rw[e1]
     simp only[Zg]
     unfold A76 A9t B4g
     cases hp:g.Pawn
     ·simp
     ·simp only[out1,Zg]
      cases hd:out 0 364 day
      ·have hmin:(decide (day≤K9 g.Last y.Day)) = !(decide (day>g.Last)||decide (day>y.Day)):= by
        unfold K9
        rw[Z0s]
        split <;> simp <;> omega
       cases hk:A08 y.Needs g.Looks==0
       ·have:(A08 y.Needs g.Looks != 0)=true:= by simpa [bne] using hk
        simp[hd,this]
       ·have:(A08 y.Needs g.Looks != 0)=false:= by simpa [bne] using hk
        simp[hd,this,inR,sel3,A33,hmin]
        split <;> rfl
      ·simp[hd]
    ·by_cases h2:how=2
     ·subst h2
      have e1:E2 0 2 [2]=some false:= by rw[out1];rfl
      have e2:∀z,out 0 0 z = !(z==0):=out00
      rw[e1]
      simp only[Zg]
      unfold A76 A9t B4g
      cases hp:g.Pawn
      ·simp
      ·simp only[out1,e2,Zg]
       by_cases hd:day=0
       ·subst hd
        have hle:(decide (y.Until≤g.Last)) = !(decide (y.Until>g.Last)):= by
         rw[Z0s];simp
        cases hk:A08 y.Needs g.Looks==0
        ·have:(A08 y.Needs g.Looks != 0)=true:= by simpa [bne] using hk
         simp[this,e2]
        ·have:(A08 y.Needs g.Looks != 0)=false:= by simpa [bne] using hk
         simp[this,inR,sel3,A0l,hle,e2]
         split <;> rfl
       ·simp[hd,e2]
     ·have e1:E2 0 2 [how]=some true:= by
       rw[out1];unfold out
       rw[Z5b,Z0s];simp;omega
      rw[e1]
      simp only[Zg]
      unfold A76
      cases hp:g.Pawn <;> simp[h0,h1,h2]
end Pw
end
section
set_option maxRecDepth 100000
set_option maxHeartbeats 0
namespace Pw
open Go Am Go.Proofs.Ytjpjdglddmhplaa.Cd
def A3g (a0:PaShow) (a1:Int) (a2:Int):Option (Int×Int) :=
 (A1f a0).bind fun x1 =>
 if (x1.1==0)=true then
  (E2 0 (w64 ((Zh a0.Gowns:Int)-1)) [a1]).bind fun x4 =>
  if x4=true then
  some (0,4)
  else
  (idx a0.Gowns a1).bind fun x6 =>
  if (!x6.Pawn)=true then
   some (0,2)
  else
   (E2 0 364 [a2]).bind fun x8 =>
   if x8=true then
   some (0,7)
   else
   (idx a0.Gowns a1).bind fun x10 =>
   if (decide (a2>x10.Last))=true then
    some (0,9)
   else
    (idx a0.Gowns a1).bind fun x12 =>
    (A0m x12 (PaFigure.mk (ByteArray.mk #[]) 0 0 0) a2).bind fun x13 =>
    some (x13,0)
 else
  some (0,x1.1)
theorem B7q {c:Sc} {H:A1} {a0:PaShow} {a1:Int} {a2:Int} {r:(Int×Int)} (h:A3g a0 a1 a2=some r) :
  E7 tab c H (.fn (.func 8) [] []) [(.agg (B6 a0)),.i a1,.i a2] [.i r.1,.i r.2]:= by
 unfold A3g at h
 refine cE Z Z<|sg 0 Z<|A0 (F6 (cs:=B6 a0) Z Z Z) Z<|qm Z<|qm Z<|es (ra3 Z Z Z)<|s0<|oB h fun x1 hx1 h=>A0 (E8 Z Z Z) Z ?_
 by_cases hc2:(x1.1==0)=true
 ·rw[if_pos hc2]at h
  obtain⟨X3,hX3⟩:=A1o hx1 hc2
  refine N9 (A28 hX3 Z Z (A3 (E1 Z) C2) Z) Z<|qm Z<|A0 (B4 Z Z) Z<|A0 (B4 Z Z) Z<|qm Z<|qm Z<|es (ra4 Z Z Z Z)<|C4<|C8<|s0<|qm Z<|A0 (T6 (v:=(.b false)) Z Z Z) Z<|qm Z<|es (ra5 Z Z Z Z Z)<|Q6 Z Z<|s0<|oB h fun x4 hx4 h=>A0 (C1 Z) Z<|A0 (B5 Z Z Z) Z<|A0 (I0 (f:=B2) Z) Z<|A0 (A0s Z Z) Z<|qm Z<|A0 (I8 (rows:=Zd cI [a1]) Z Z (D9 (fun _=>rfl) _)) Z<|C3 (rs:=[.b x4]) Z Z (A3 Z (A3 Z (A3 Z C2))) ((E6 hx4).frz)<|qm Z<|es (ra4 Z Z Z Z)<|wi h Z (fun hc5 h=>?_) fun hc5 h=>?_
  ·refine s0<|qm Z<|qm Z<|es (ra2 Z Z)<|C7 ?_
   obtain rfl:=os h
   exact retq trivial (A7 Z (A7 Z C0)) (A4 Z (A4 Z B9)) (A2 A5 (A2 A5 A8))
  ·refine s0<|oB h fun x6 hx6 h=>A0 (C1 Z) Z<|A0 (B5 Z Z Z) Z<|qm Z<|A0 (H7 (f:=B2) Z Z hx6) Z<|A0 (A9y (ds:=(Z4t 2 (B2 x6))) Z Z) Z<|A0 (V8 Z Z) Z<|A0 (Y9 Z) Z<|qm Z<|es (ra4 Z Z Z Z)<|wi h Z (fun hc7 h=>?_) fun hc7 h=>?_
   ·refine s0<|qm Z<|qm Z<|es (ra2 Z Z)<|C7 ?_
    obtain rfl:=os h
    exact retq trivial (A7 Z (A7 Z C0)) (A4 Z (A4 Z B9)) (A2 A5 (A2 A5 A8))
   ·refine s0<|oB h fun x8 hx8 h=>qm Z<|A0 (I8 (rows:=Zd cI [a2]) Z Z (D9 (fun _=>rfl) _)) Z<|C3 (rs:=[.b x8]) Z Z (A3 Z (A3 Z (A3 Z C2))) ((E6 hx8).frz)<|qm Z<|es (ra4 Z Z Z Z)<|wi h Z (fun hc9 h=>?_) fun hc9 h=>?_
    ·refine s0<|qm Z<|qm Z<|es (ra2 Z Z)<|C7 ?_
     obtain rfl:=os h
     exact retq trivial (A7 Z (A7 Z C0)) (A4 Z (A4 Z B9)) (A2 A5 (A2 A5 A8))
    ·refine s0<|oB h fun x10 hx10 h=>qm Z<|A0 (C1 Z) Z<|A0 (B5 Z Z Z) Z<|qm Z<|A0 (H7 (f:=B2) Z Z hx10) Z<|A0 (A9y (ds:=(Z4t 7 (B2 x10))) Z Z) Z<|A0 (V8 Z Z) Z<|A0 (A3b Z Z) Z<|qm Z<|es (ra4 Z Z Z Z)<|wi h Z (fun hc11 h=>?_) fun hc11 h=>?_
     ·refine s0<|qm Z<|qm Z<|es (ra2 Z Z)<|C7 ?_
      obtain rfl:=os h
      exact retq trivial (A7 Z (A7 Z C0)) (A4 Z (A4 Z B9)) (A2 A5 (A2 A5 A8))
     ·refine C6<|s0<|oB h fun x12 hx12 h=>oB h fun x13 hx13 h=>A0 (C1 Z) Z<|A0 (B5 Z Z Z) Z<|qm Z<|A0 (H7 (f:=B2) Z Z hx12) Z<|A0 (I1 Z Z) Z<|A0 (R5 (cs:=A6 (PaFigure.mk (ByteArray.mk #[]) 0 0 0)) Z Z) Z<|qm Z<|C3 (rs:=[.i x13]) Z Z (A3 (E1 Z) (A3 (E1 Z) (A3 Z C2))) ((A7r hx13).frz)<|qm Z<|qm Z<|es (ra2 Z Z)<|C7 ?_
      obtain rfl:=os h
      exact retq trivial (A7 Z (A7 Z C0)) (A4 Z (A4 Z B9)) (A2 A5 (A2 A5 A8))
 ·rw[if_neg hc2]at h
  refine N9 (Q3 (rs:=[.lit (.pointer none),.i x1.1]) Z Z (A3 (E1 Z) C2) (A2k hx1 (by simpa using hc2)) Z) Z<|qm Z<|A0 (B4 Z Z) Z<|A0 (B4 Z Z) Z<|qm Z<|qm Z<|es (ra4 Z Z Z Z)<|C4<|C8<|s0<|qm Z<|A0 (Q9 Z Z) Z<|qm Z<|es (ra5 Z Z Z Z Z)<|O1 Z (nef hc2)<|s0<|qm Z<|qm Z<|qm Z<|es (ra2 Z Z)<|C7 ?_
  obtain rfl:=os h
  exact retq trivial (A7 Z (A7 Z C0)) (A4 Z (A4 Z B9)) (A2 A5 (A2 A5 A8))
def A1t (a0:PaShow) (a1:Int) (a2:Int):Option (Int×Int) :=
 (A1f a0).bind fun x1 =>
 if (x1.1==0)=true then
  (E2 0 (w64 ((Zh a0.Gowns:Int)-1)) [a1]).bind fun x4 =>
  (if x4=true then
  some true
  else
  (E2 0 (w64 ((Zh a0.Figures:Int)-1)) [a2]).bind fun x6 =>
  some x6).bind fun x7 =>
  if x7=true then
  some (0,4)
  else
  (idx a0.Gowns a1).bind fun x9 =>
  if (!x9.Pawn)=true then
   some (0,2)
  else
   (idx a0.Gowns a1).bind fun x11 =>
   (idx a0.Figures a2).bind fun x12 =>
   (A0l x11 x12 0).bind fun x13 =>
   if (!x13)=true then
   some (0,9)
   else
   (idx a0.Gowns a1).bind fun x15 =>
   (idx a0.Figures a2).bind fun x16 =>
   (A2u x15 x16 0).bind fun x17 =>
   some (x17,0)
 else
  some (0,x1.1)
theorem A8l {c:Sc} {H:A1} {a0:PaShow} {a1:Int} {a2:Int} {r:(Int×Int)} (h:A1t a0 a1 a2=some r) :
  E7 tab c H (.fn (.func 9) [] []) [(.agg (B6 a0)),.i a1,.i a2] [.i r.1,.i r.2]:= by
 unfold A1t at h
 refine cE Z Z<|sg 0 Z<|A0 (F6 (cs:=B6 a0) Z Z Z) Z<|qm Z<|qm Z<|es (ra3 Z Z Z)<|s0<|oB h fun x1 hx1 h=>A0 (E8 Z Z Z) Z ?_
 by_cases hc2:(x1.1==0)=true
 ·rw[if_pos hc2]at h
  obtain⟨X3,hX3⟩:=A1o hx1 hc2
  refine N9 (A28 hX3 Z Z (A3 (E1 Z) C2) Z) Z<|qm Z<|A0 (B4 Z Z) Z<|A0 (B4 Z Z) Z<|qm Z<|qm Z<|es (ra5 Z Z Z Z Z)<|C4<|C8<|s0<|qm Z<|A0 (T6 (v:=(.b false)) Z Z Z) Z<|qm Z<|es (ra6 Z Z Z Z Z Z)<|Q6 Z Z<|s0<|oB h fun x4 hx4 h=>oB h fun x7 hx7 h=>A0 (C1 Z) Z<|A0 (B5 Z Z Z) Z<|A0 (I0 (f:=B2) Z) Z<|A0 (A0s Z Z) Z<|qm Z<|A0 (I8 (rows:=Zd cI [a1]) Z Z (D9 (fun _=>rfl) _)) Z<|C3 (rs:=[.b x4]) Z Z (A3 Z (A3 Z (A3 Z C2))) ((E6 hx4).frz)<|qm Z<|gp 8 35 (.b x7) 27 Z Z (fun hg5=>?_) (fun hg5=>?_) ?_
  ·obtain rfl:=os (bt hx7 hg5)
   exact nF Z hg5 Z<|nF Z hg5 Z<|nF Z hg5 Z<|nF Z hg5 Z<|nF Z hg5 Z<|nF Z hg5 Z<|L7 (F4 Z (by rw[hg5];rfl)) Z<|A0 (D1 Z hg5 Z) Z<|ge 8 Z Z Z
  ·refine oB (bf hx7 hg5) fun x6 hx6 hx7=>?_
   obtain rfl:=os hx7
   exact gF Z hg5<|A0 (C1 Z) Z<|gF Z hg5<|A0 (B5 Z Z Z) Z<|gF Z hg5<|A0 (I0 (f:=A6) Z) Z<|gF Z hg5<|A0 (A0s Z Z) Z<|gF Z hg5<|qm Z<|gF Z hg5<|A0 (I8 (rows:=Zd cI [a2]) Z Z (D9 (fun _=>rfl) _)) Z<|gF Z hg5<|C3 (rs:=[.b x6]) Z Z (A3 Z (A3 Z (A3 Z C2))) ((E6 hx6).frz)<|A0 (D0 Z hg5 Z) Z<|ge 8 Z Z Z
  refine qm Z<|es (ra5 Z Z Z Z Z)<|wi h Z (fun hc8 h=>?_) fun hc8 h=>?_
  ·refine s0<|qm Z<|qm Z<|es (ra2 Z Z)<|C7 ?_
   obtain rfl:=os h
   exact retq trivial (A7 Z (A7 Z C0)) (A4 Z (A4 Z B9)) (A2 A5 (A2 A5 A8))
  ·refine s0<|oB h fun x9 hx9 h=>A0 (C1 Z) Z<|A0 (B5 Z Z Z) Z<|qm Z<|A0 (H7 (f:=B2) Z Z hx9) Z<|A0 (A9y (ds:=(Z4t 2 (B2 x9))) Z Z) Z<|A0 (V8 Z Z) Z<|A0 (Y9 Z) Z<|qm Z<|es (ra5 Z Z Z Z Z)<|wi h Z (fun hc10 h=>?_) fun hc10 h=>?_
   ·refine s0<|qm Z<|qm Z<|es (ra2 Z Z)<|C7 ?_
    obtain rfl:=os h
    exact retq trivial (A7 Z (A7 Z C0)) (A4 Z (A4 Z B9)) (A2 A5 (A2 A5 A8))
   ·refine s0<|oB h fun x11 hx11 h=>oB h fun x12 hx12 h=>oB h fun x13 hx13 h=>qm Z<|A0 (L3 Z Z) Z<|A0 (C1 Z) Z<|A0 (A9g Z Z (by decide)) Z<|A0 (C1 Z) Z<|A0 (B5 (x:=(.fn (.func 47) [] [])) Z Z Z) Z<|A0 (C1 Z) Z<|A0 (B5 Z Z Z) Z<|qm Z<|A0 (H7 (f:=B2) Z Z hx11) Z<|A0 (I1 Z Z) Z<|A0 (C1 Z) Z<|A0 (B5 Z Z Z) Z<|qm Z<|A0 (H7 (f:=A6) Z Z hx12) Z<|A0 (I1 Z Z) Z<|C3 (rs:=[.b x13]) Z Z (A3 (E1 Z) (A3 (E1 Z) (A3 Z C2))) ((A7q hx13).frz)<|A0 (Y9 Z) Z<|qm Z<|es (ra4 Z Z Z Z)<|wi h Z (fun hc14 h=>?_) fun hc14 h=>?_
    ·refine s0<|qm Z<|qm Z<|es (ra2 Z Z)<|C7 ?_
     obtain rfl:=os h
     exact retq trivial (A7 Z (A7 Z C0)) (A4 Z (A4 Z B9)) (A2 A5 (A2 A5 A8))
    ·refine C6<|s0<|oB h fun x15 hx15 h=>oB h fun x16 hx16 h=>oB h fun x17 hx17 h=>A0 (C1 Z) Z<|A0 (B5 Z Z Z) Z<|qm Z<|A0 (H7 (f:=B2) Z Z hx15) Z<|A0 (I1 Z Z) Z<|A0 (C1 Z) Z<|A0 (B5 Z Z Z) Z<|qm Z<|A0 (H7 (f:=A6) Z Z hx16) Z<|A0 (I1 Z Z) Z<|C3 (rs:=[.i x17]) Z Z (A3 (E1 Z) (A3 (E1 Z) (A3 Z C2))) ((A94 hx17).frz)<|qm Z<|qm Z<|es (ra2 Z Z)<|C7 ?_
     obtain rfl:=os h
     exact retq trivial (A7 Z (A7 Z C0)) (A4 Z (A4 Z B9)) (A2 A5 (A2 A5 A8))
 ·rw[if_neg hc2]at h
  refine N9 (Q3 (rs:=[.lit (.pointer none),.i x1.1]) Z Z (A3 (E1 Z) C2) (A2k hx1 (by simpa using hc2)) Z) Z<|qm Z<|A0 (B4 Z Z) Z<|A0 (B4 Z Z) Z<|qm Z<|qm Z<|es (ra5 Z Z Z Z Z)<|C4<|C8<|s0<|qm Z<|A0 (Q9 Z Z) Z<|qm Z<|es (ra6 Z Z Z Z Z Z)<|O1 Z (nef hc2)<|s0<|qm Z<|qm Z<|qm Z<|es (ra2 Z Z)<|C7 ?_
  obtain rfl:=os h
  exact retq trivial (A7 Z (A7 Z C0)) (A4 Z (A4 Z B9)) (A2 A5 (A2 A5 A8))
end Pw
end
section
namespace Pw
open Go Am
theorem B3g {α σ τ ρ:Type} [Inhabited α] {b:σ→Option (σ⊕ρ)} (l:List α) (f:τ→α→τ) (t0:τ) (mk:Nat→τ→σ) {r:ρ} (hn:l.length<9223372036854775808)
  (hs:∀i,i<l.length→b (mk i ((l.take i).foldl f t0))=some (.inl (mk (i+1) (f ((l.take i).foldl f t0) l[i]!)))) (he:b (mk l.length (l.foldl f t0))=some (.inr r)):loop b (mk 0 t0)=some r:= by
 have:=A58 (b:=b) (fun i=>mk i ((l.take i).foldl f t0)) l.length (r:=r) hn (fun i hi=>by
  rw[hs i hi,ZY hi,List.foldl_append,getElem!_pos l i hi];rfl) (by
  rw[Z1f];exact he)
 exact this
def sm:List Int→Int
 | []=>0
 | x::l=>x+sm l
theorem A6o:∀l m:List Int,sm (l++m)=sm l+sm m
 | [],m=>by simp[sm]
 | x::l,m=>by simp only[Z0d,sm,A6o l m];omega
theorem C8q {a b:Int}:∀{l:List Int},(∀ x∈l,a≤x∧x≤b)→a*l.length≤sm l∧sm l≤b*l.length
 | [],_=>by simp[sm]
 | x::l,h=>by
  have h1:=h x (ZC ..)
  have ih:=C8q (l:=l) fun y hy=>h y (ZB _ hy)
  simp only[sm,ZX,Int.natCast_add,Int.mul_add]
  omega
theorem B8f {α:Type} {f g:α→Int}:∀{l:List α},(∀ x∈l,f x≤g x)→sm (l.map f)≤sm (l.map g)
 | [],_=>ZR _
 | x::l,h=>by
  have h1:=h x (ZC ..)
  have ih:=B8f (l:=l) fun y hy=>h y (ZB _ hy)
  simp only[Zt,sm];omega
theorem C2o {α:Type} {f:α→Int} {l:List α} (h:∀x∈l,f x=0):sm (l.map f)=0:= by
 induction l with
 | nil=>rfl
 | cons x l ih =>
  simp only[Zt,sm,h x (ZC ..),ih fun y hy=>h y (ZB _ hy)];rfl
theorem B6s {α:Type} (f:α→Int):∀(l:List α) (t:Int),l.foldl (fun a x=>a+f x) t=t+sm (l.map f)
 | [],t=>by simp[sm]
 | x::l,t=>by simp only[Z11,Zt,sm,B6s f l];omega
def price (g:PaGown) (day:Int):Int:=g.Loan+g.Rate*(1+(g.Ago+day) / 30)
theorem C4q {g:PaGown} (h:GwOk g) {day:Int} (hd:0≤day∧day≤364):0≤price g day∧price g day≤20000∧0≤g.Rate*(1+(g.Ago+day) / 30)∧g.Rate*(1+(g.Ago+day) / 30)≤500*26:= by
 have h1:=h.loan
 have h2:=h.rate
 have h3:=h.ago
 have h4:0≤(g.Ago+day) / 30∧(g.Ago+day) / 30≤24:= by omega
 have h5:0≤g.Rate*(1+(g.Ago+day) / 30):=Z5g h2.1 (by omega)
 have h6:g.Rate*(1+(g.Ago+day) / 30)≤500*26:=Z5h h2.2 (by omega) (by omega) (by omega)
 unfold price
 omega
theorem B7e {g:PaGown} (h:GwOk g) (f:PaFigure) {day:Int} (hd:0≤day∧day≤364):A0m g f day=some (price g day):= by
 have h1:=h.loan
 have h3:=h.ago
 have h7:=C4q h hd
 have hq:Z5l (g.Ago+day) 30=(g.Ago+day) / 30:=Z2l (by omega)
 unfold A0m
 unfold price at h7 ⊢
 rw[F5 (n:=g.Ago+day) (by omega),hq,F5 (n:=(g.Ago+day) / 30) (by omega),F5 (n:=1+(g.Ago+day) / 30) (by omega),F5 (n:=g.Rate*(1+(g.Ago+day) / 30)) (by omega),F5 (by omega)]
def B81 (g:PaGown) (f:PaFigure):Int:=g.Fee*(f.Until-f.Day+1)
theorem D1e {g:PaGown} (h:GwOk g) {f:PaFigure} (hf:FgOk f):0≤B81 g f∧B81 g f≤40000:= by
 have h1:=h.fee
 have h2:=hf.day
 have h3:=hf.til
 have h5:0≤g.Fee*(f.Until-f.Day+1):=Z5g h1.1 (by omega)
 have h6:g.Fee*(f.Until-f.Day+1)≤100*365:=Z5h h1.2 (by omega) (by omega) (by omega)
 unfold B81
 omega
theorem C3h {g:PaGown} (h:GwOk g) {f:PaFigure} (hf:FgOk f) (d:Int):A2u g f d=some (B81 g f):= by
 have h2:=hf.day
 have h3:=hf.til
 have h4:=D1e h hf
 unfold A2u B81
 unfold B81 at h4
 rw[F5 (n:=f.Until-f.Day) (by omega),F5 (n:=f.Until-f.Day+1) (by omega),F5 (by omega)]
end Pw
end
section
set_option maxRecDepth 100000
set_option maxHeartbeats 0
namespace Am
open Go
theorem B5r {N:Nat} {L M:A1} (h:grL N L=true) (k:grL N M=true):grL N (L++M)=true:= by
 unfold grL at h k ⊢
 rw[List.all_append,h,k];rfl
theorem s0' {T:Tab} {s:A9} {H:A1} {c:Sc} {d:Bool} {live:List Nat} {ops:List AOper} {b:ACode} {Q:Ex→A9→A1→Prop} (h:L2 T c (H.length+0) ops s (H++[]) [] (RG live (C5j T b c Q))):WP T (.seq (.region d 0 [] ops live) b) s H c Q:=U7 (s0 h)
theorem B43 {T:Tab} {ac:ACode} {s:A9} {H H':A1} {c:Sc} {Q:Ex→A9→A1→Prop} (e:H=H') (h:WP T ac s H' c Q):WP T ac s H c Q:=e▸h
def B52 {α:Type} (T:Tab) (i:Nat) (fc:List AV) (sh:Nat→A1→α→AV→Prop) (pre:A1→Prop) (it:∀(σ ρ:Type),(α→σ→Option (σ⊕ρ))→σ→Option (σ⊕ρ)):Prop :=
 ∀ {σ ρ:Type} (Hm:σ⊕ρ→A1) (N:Nat),(∀ x,(Hm x).length=N)→(∀ x,pre (Hm x))→∀ (y:AV),y.bd N=true→y.cellsOf=[y]→∀ (body:α→σ→Option (σ⊕ρ)),
  (∀ {L:A1} {c:Sc} {x:α} {s:σ} {o:σ⊕ρ} {v:AV},S5 c (Hm (.inl s)++L)=true→grL N L=true→sh N L x v→body x s=some o→I6 T c (Hm (.inl s)++L) y [v] [.b o.isLeft] (Hm o++L)) →
  ∀ {s0:σ} {o:σ⊕ρ},it σ ρ body s0=some o→∀ {c:Sc},S5 c (Hm (.inl s0))=true→I6 T c (Hm (.inl s0)) (.fn (.func i) [] fc) [y] [] (Hm o)
section
variable {T:Tab} {s:A9} {H0:A1} {l:List AO} {c:Sc} {n0 N:Nat}
theorem A3y {H:A1} {a:Opd} {b o:Nat} {cs:List AV} {x:AV} (h:ev s a=some (.ptr b o)) (hl:hcells H b=some cs) (hd:(cs.drop o).head? = some x):One T c n0 s H (.load none a) x H :=
 ⟨0,by
  simp only[core,prim,h,E5,hl]
  cases hc:cs.drop o with
  | nil=>simp[hc]at hd
  | cons y t=>simp only[hc,Z2a,Za]at hd;subst hd;rfl⟩
theorem A6a {H:A1} {a:Opd} {b o k:Nat} {cs ds:List AV} (h:ev s a=some (.ptr b o)) (hl:hcells H b=some cs) (hk:ZG k (cs.drop o).length=true) (hd:(cs.drop o).take k=ds):One T c n0 s H (.load (some k) a) (.agg ds) H :=
 ⟨0,by simp only[core,prim,h,E5,hl,hk,if_true,hd]⟩
theorem C8d {α:Type} {f:α→List AV} {k j m:Nat} {p:Bool} {kk:IntKind} {x i:Opd} {e:List α} {n:Int} {a:α} (hN:H0.length=N) (h:ev s x=some (.asl (N+j) m)) (hi:ev s i=some (.lit (.int kk n))) (hl:l[j]? = some (.arr k p (e.map f))) (hm:e.length=m) (ha:idx e n=some a) :
  One T c n0 s (H0++l) (.idxS k x i) (.eptr (N+j) m n.toNat 0) (H0++l):= by subst hN;exact A1i h hi hl hm ha
theorem C0n {a x:Opd} {j n i o k kk:Nat} {rows:List (List AV)} {r ds:List AV} {v:AV} (hN:H0.length=N) (h:ev s a=some (.eptr (N+j) n i o)) (hv:ev s x=some v) (hp:v.cellsOf.all AV.plain=true) (hz:v.cellsOf.all AV.frz=true) (hl:l[j]? = some (.arr kk false rows)) (hn:rows.length=n) (hr:rows[i]? = some r)
  (hk:(Nat.beq v.cellsOf.length k&&ZG (o+k) r.length)=true) (hd:splice r o v.cellsOf=ds) :
  One T c n0 s (H0++l) (.store k a x) (.tup []) (H0++l.set j (.arr kk false (rows.set i ds))):= by subst hN;exact A6b h hv hp hz hl hn hr hk hd
end
end Am
namespace Pw
open Go Am Go.Proofs.Ytjpjdglddmhplaa.Cd
def plx (t:PaShow) (days:List Int) (n:Int):Option PaUse :=
 (C4v n (Zh days:Int)).bind fun q=>(C4v q 3).bind fun g=>(C4x q 3).bind fun h=>(C4x n (Zh days:Int)).bind fun r=>(idx days r).bind fun d=>some ⟨g,h,d⟩
def bare0:PaUse:=⟨-1,0,0⟩
section
variable {σ ρ:Type}
def B02 (t:PaShow) (days:List Int) (figure:Int) (rec:Int→List PaUse→σ→Option (List PaUse×(σ⊕ρ))) (x:Int×List PaUse×σ):Option ((Int×List PaUse×σ)⊕((List PaUse×ρ)⊕(List PaUse×σ))) :=
 if (decide (x.1<w64 (w64 ((Zh t.Gowns:Int)*3)*(Zh days:Int))))=true then
  (plx t days x.1).bind fun u =>
  (idx x.2.1 figure).bind fun _ =>
  (V2 (shw t days) figure u).bind fun e =>
  (if (e != 0)=true then some true else (A2v (P0 x.2.1 figure u) figure).bind fun z=>some z).bind fun g =>
  if g=true then some (.inl (w64 (x.1+1),P0 x.2.1 figure u,x.2.2))
  else (rec (w64 (figure+1)) (P0 x.2.1 figure u) x.2.2).bind fun y =>
   match y with
   | (p,.inl s')=>some (.inl (w64 (x.1+1),p,s'))
   | (p,.inr r)=>some (.inr (.inl (p,r)))
 else some (.inr (.inr (x.2.1,x.2.2)))
def A9x (t:PaShow) (days:List Int) (body:List PaUse→σ→Option (σ⊕ρ)):Nat→Int→List PaUse→σ→Option (List PaUse×(σ⊕ρ))
 | 0,_,_,_=>none
 | k+1,figure,p,s =>
  if (figure==(Zh p:Int))=true then (body p s).bind fun o=>some (p,o)
  else (loop (B02 t days figure (A9x t days body k)) (0,p,s)).bind fun o =>
   match o with
   | .inl (p,r)=>some (p,.inr r)
   | .inr (p,s)=>(Y3).bind fun b=>(idx p figure).bind fun _=>A9x t days body k (w64 (figure+1)) (P0 p figure b) s
end
def A9k (t:PaShow) (days:List Int) (σ ρ:Type) (body:List PaUse→σ→Option (σ⊕ρ)) (s:σ):Option (σ⊕ρ) :=
 (B7d 24 (Zh t.Figures:Int) (PaUse.mk 0 0 0)).bind fun p=>(A9x t days body 64 0 p s).bind fun y=>some y.2
def caps (N bS:Nat):List AV:=[.ptr (N+3) 0,.ptr (N+0) 0,.ptr bS 0,.ptr (N+4) 0]
def L0 (N bS:Nat) (y:AV) (p:List PaUse):List AO:=[.cells [y],.arr 3 false (p.map B3),.arr 3 false [],.cells [.asl (N+1) p.length],.cells [.fn (.func 78) [] (caps N bS)]]
def shP (N:Nat) (L:A1) (x:List PaUse) (v:AV):Prop:=∃ j,v=.asl (N+j) x.length∧L[j]? = some (.arr 3 false (x.map B3))
theorem C8n {l:List PaUse} {i:Int} {u:PaUse}:(l.map B3).set i.toNat (B3 u)=(P0 l i u).map B3:=A59 l i u
section
variable {σ ρ:Type} {t:PaShow} {days:List Int} {Hm:σ⊕ρ→A1} {N bS b:Nat} {y:AV} {body:List PaUse→σ→Option (σ⊕ρ)}
theorem C8b (hN:∀x,(Hm x).length=N) (h1:∀x,hcells (Hm x) bS=some [.ptr b 0]) (ht:∀x,hcells (Hm x) b=some (A2h t days))
  (hy:∀{L:A1} {c:Sc} {p:List PaUse} {s:σ} {o:σ⊕ρ} {v:AV},S5 c (Hm (.inl s)++L)=true→grL N L=true→shP N L p v→body p s=some o→I6 tab c (Hm (.inl s)++L) y [v] [.b o.isLeft] (Hm o++L)) :
  ∀ (k:Nat) (figure:Int) (p:List PaUse) (s:σ) (x:List PaUse×(σ⊕ρ)),A9x t days body k figure p s=some x→∀ (M:A1) (c:Sc),grL N M=true→S5 c (Hm (.inl s)++(L0 N bS y p++M))=true →
   I6 tab c (Hm (.inl s)++(L0 N bS y p++M)) (.fn (.func 78) [] (caps N bS)) [.i figure] [.b x.2.isLeft] (Hm x.2++(L0 N bS y x.1++M))
 | 0,_,_,_,_,h,_,_,_,_=>by cases h
 | k+1,figure,p,s,x,h,M,c,hgr,hsc=>by
  have ih:=C8b hN h1 ht hy k
  unfold A9x at h
  have hl5:∀z p,(Hm z++(L0 N bS y p++M)).length=N+(M.length+5):=fun z p=>by rw[Zp,hN,Zp];simp only[L0,ZX,Z3b];omega
  have hb1:∀z p,hcells (Hm z++(L0 N bS y p++M)) bS=some [.ptr b 0]:=fun z p=>D5 (h1 z) _
  have hbt:∀z p,hcells (Hm z++(L0 N bS y p++M)) b=some (A2h t days):=fun z p=>D5 (ht z) _
  have q0:∀z p,hcells (Hm z++(L0 N bS y p++M)) (N+0)=some [y]:=fun z p=>by rw[← hN z];exact D7 Z
  have q3:∀z p,hcells (Hm z++(L0 N bS y p++M)) (N+3)=some [.asl (N+1) p.length]:=fun z p=>by rw[← hN z];exact D7 Z
  have q4:∀z p,hcells (Hm z++(L0 N bS y p++M)) (N+4)=some [.fn (.func 78) [] (caps N bS)]:=fun z p=>by rw[← hN z];exact D7 Z
  have qa:∀z p,harr (Hm z++(L0 N bS y p++M)) (N+1)=some (3,false,p.map B3):=fun z p=>by rw[← hN z];exact N2 Z
  have hbdS:bS<N:= by have:=A3x (h1 (.inl s));rwa [hN]at this
  have htk:∀z p' Y,(Hm z++(L0 N bS y p'++M)++Y).take (Hm (.inl s)++(L0 N bS y p++M)).length=Hm z++(L0 N bS y p'++M):=fun z p' Y=>by rw[hl5,← hl5 z p'];exact Z07
  have hK:∀z p',(Hm z++(L0 N bS y p'++M)).length=(Hm (.inl s)++(L0 N bS y p++M)).length:=fun z p'=>by rw[hl5,hl5]
  refine Z3 (aq:=[.i figure,.ptr (N+3) 0,.ptr (N+0) 0,.ptr bS 0,.ptr (N+4) 0]) Z Z Z (U7 ?_)
  refine s0<|qm Z<|es (ra5 Z Z Z Z Z)<|C4<|s0<|qm Z<|A0 (F1 Z (q3 _ _) Z) Z<|A0 (B3l (SlV.asl _ _ _ (qa (.inl s) p)) Z) Z<|A0 (K0 Z Z) Z<|es (ra6 Z Z Z Z Z Z)<|wi h Z (fun hc h=>?_) fun hc h=>?_
  ·refine oB h fun o ho h=>?_
   cases h
   have hcall:I6 tab ⟨(Hm (.inl s)++(L0 N bS y p++M)).length,c.cur::c.outer⟩ (Hm (.inl s)++(L0 N bS y p++M)++[]) y [.asl (N+1) p.length] [.b o.isLeft] (Hm o++(L0 N bS y p++M)++[]):= by
    rw[ZZ,ZZ]
    exact hy (A8u hsc (Zn _) (Zn _)) (B5r Z hgr) ⟨1,Z,Z⟩ ho
   refine s0<|A0 (F1 Z (q0 _ _) Z) Z<|A0 (F1 Z (q3 _ _) Z) Z<|N9 (A1s Z Z hcall Z) Z<|qm Z<|es (ra1 Z)<|C7 ?_
   show A7t _ _ _ _ .ret _ _
   exact B79 trivial (A7 Z C0) (A4 (v:=.lit (.bool o.isLeft)) Z B9) (A2 A5 A8) (htk _ _ _)
  ·refine oB h fun o ho h=>?_
   have hKN:∀z p',(Hm z++(L0 N bS y p'++M)).length=N+(M.length+5):=hl5
   refine C6<|C4<|s0<|A0 (F1 Z (hb1 _ _) Z) Z<|A0 (L3 Z Z) Z<|A0 (C1 Z) Z<|A0 (C1 Z) Z<|A0 (F1 (x:=.seq 8 (Zd B2 t.Gowns)) Z (hbt _ _) Z) Z<|A0 (I0 (f:=B2) Z) Z<|A0 (C69 Z Z) Z<|A0 (F1 Z (hb1 _ _) Z) Z<|A0 (L3 Z Z) Z<|A0 (C1 Z) Z<|A0 (F1 (x:=.seq 1 (Zd cI days)) Z (hbt _ _) Z) Z<|A0 (I0 (f:=cI) Z) Z<|A0 (C69 Z Z) Z<|qm Z<|es (ra6 Z Z Z Z Z Z)<|C8 ?_
   refine A0r (B43 (ZZ _) (B8r (γ:=Unit) (live:=[0,1,3,4,28,29]) (body:=B02 t days figure (A9x t days body k)) (fun x=>[(0,.i figure),(1,.ptr (N+3) 0),(3,.ptr bS 0),(4,.ptr (N+4) 0),(28,.i (w64 (w64 ((Zh t.Gowns:Int)*3)*(Zh days:Int)))),(29,.i x.1)]) (fun _ x=>Hm (.inl x.2.2)++(L0 N bS y x.2.1++M)) (N+(M.length+5))
    (fun r e s' H'=>match r with
     | .inl r=>e=.ret∧s'=[(6,.b false)]∧H'.take (N+(M.length+5))=Hm (.inr r.2)++(L0 N bS y r.1++M)
     | .inr r=>e=.exit 0∧s'=[(0,.i figure),(1,.ptr (N+3) 0),(4,.ptr (N+4) 0)]∧H'=Hm (.inl r.2)++(L0 N bS y r.1++M)) (fun _ x=>hl5 _ _) (fun _=>rfl) (by decide) (fun x _=>?_) ?_ ho ())) ?_
   ·refine bdc A5 (bdc ?_ (bdc ?_ (bdc ?_ (bdc A5 (bdc A5 bdn)))))
    all_goals (simp only[AV.bd];exact Zk (by omega))
   ·intro _ x o' hb
    obtain⟨n,p1,s1⟩:=x
    unfold B02 at hb
    simp only at hb
    refine s0'<|A0 (L5 Z Z) Z<|es (ra7 Z Z Z Z Z Z Z)<|C4<|wi hb Z (fun hc hb=>?_) fun hc hb=>?_
    ·refine oB hb fun u hu hb=>oB hb fun w hw hb=>oB hb fun e he hb=>oB hb fun g hg hb=>?_
     refine oB hu fun q hq hu=>oB hu fun ug hug hu=>oB hu fun uh huh hu=>oB hu fun ur hur hu=>oB hu fun ud hud hu=>?_
     obtain rfl:=os hu
     have hKe:=hl5 (.inl s1) p1
     have hu8:∀z p',hcells (Hm z++(L0 N bS y p'++(M++[AO.cells (B3 ⟨ug,uh,ud⟩)]))) ((Hm (.inl s1)++(L0 N bS y p1++M)).length+(0+0))=some (B3 ⟨ug,uh,ud⟩):=fun z p'=>by
      rw[show Hm z++(L0 N bS y p'++(M++[AO.cells (B3 ⟨ug,uh,ud⟩)]))=(Hm z++(L0 N bS y p'++M))++[AO.cells (B3 ⟨ug,uh,ud⟩)] by simp only[Zz],hKe,← hl5 z p']
      exact D7 Z
     have hset1:∀z Y,Hm z++(L0 N bS y p1++Y).set 1 (.arr 3 false ((p1.map B3).set figure.toNat (B3 ⟨ug,uh,ud⟩)))=Hm z++(L0 N bS y (P0 p1 figure ⟨ug,uh,ud⟩)++Y):=fun z Y=>by
      rw[C8n]
      have:(P0 p1 figure (⟨ug,uh,ud⟩:PaUse)).length=p1.length:=S0 _ _ _
      simp only[L0,this];rfl
     have hb1':∀z p' Y,hcells (Hm z++(L0 N bS y p'++Y)) bS=some [.ptr b 0]:=fun z p' Y=>D5 (h1 z) _
     have hbt':∀z p' Y,hcells (Hm z++(L0 N bS y p'++Y)) b=some (A2h t days):=fun z p' Y=>D5 (ht z) _
     have q3':∀z p' Y,hcells (Hm z++(L0 N bS y p'++Y)) (N+3)=some [.asl (N+1) p'.length]:=fun z p' Y=>by rw[← hN z];exact D7 Z
     have q4':∀z p' Y,hcells (Hm z++(L0 N bS y p'++Y)) (N+4)=some [.fn (.func 78) [] (caps N bS)]:=fun z p' Y=>by rw[← hN z];exact D7 Z
     have qa':∀z p' Y,harr (Hm z++(L0 N bS y p'++Y)) (N+1)=some (3,false,p'.map B3):=fun z p' Y=>by rw[← hN z];exact N2 Z
     have htk2:∀z p' Y,(Hm z++(L0 N bS y p'++(M++Y))).take (N+(M.length+5))=Hm z++(L0 N bS y p'++M):=fun z p' Y=>by
      rw[show Hm z++(L0 N bS y p'++(M++Y))=(Hm z++(L0 N bS y p'++M))++Y by simp only[Zz],← hl5 z p']
      exact Z07
     refine C6<|C4<|C8<|s0<|qm Z<|qm Z<|es (ra7 Z Z Z Z Z Z Z)<|sg 0 Z<|qm Z<|K5 [0] (P7 [0] rfl F9 Z Z) (seen0 Z) (F1 Z (hb1 _ _) Z) Z<|A0 (L3 Z Z) Z<|A0 (C1 Z) Z<|K5 [0] (P7 [0] rfl F9 Z Z) (seen0 Z) (F1 (x:=.seq 1 (Zd cI days)) Z (hbt _ _) Z) Z<|K5 [0] (P7 [0] rfl F9 Z Z) (seen0 Z) (I0 (f:=cI) Z) Z<|A0 (D2q Z Z hq) Z<|A0 (D2q Z Z hug) Z<|qm Z<|K5 [0] (P7 [0] rfl F9 Z Z) (seen0 Z) (F1 Z (hb1 _ _) Z) Z<|A0 (L3 Z Z) Z<|A0 (C1 Z) Z<|K5 [0] (P7 [0] rfl F9 Z Z) (seen0 Z) (F1 (x:=.seq 1 (Zd cI days)) Z (hbt _ _) Z) Z<|K5 [0] (P7 [0] rfl F9 Z Z) (seen0 Z) (I0 (f:=cI) Z) Z<|A0 (D2q Z Z hq) Z<|A0 (D52 Z Z huh) Z<|K5 [0] (P7 [0] rfl F9 Z Z) (seen0 Z) (F1 Z (hb1 _ _) Z) Z<|A0 (L3 Z Z) Z<|A0 (C1 Z) Z<|K5 [0] (P7 [0] rfl F9 Z Z) (seen0 Z) (F1 (x:=.seq 1 (Zd cI days)) Z (hbt _ _) Z) Z<|qm Z<|K5 [0] (P7 [0] rfl F9 Z Z) (seen0 Z) (F1 Z (hb1 _ _) Z) Z<|A0 (L3 Z Z) Z<|A0 (C1 Z) Z<|K5 [0] (P7 [0] rfl F9 Z Z) (seen0 Z) (F1 (x:=.seq 1 (Zd cI days)) Z (hbt _ _) Z) Z<|K5 [0] (P7 [0] rfl F9 Z Z) (seen0 Z) (I0 (f:=cI) Z) Z<|A0 (D52 Z Z hur) Z<|K5 [0] (P7 [0] rfl F9 Z Z) (seen0 Z) (H7 (f:=cI) Z Z hud) Z<|K5 [0] (P7 [0] rfl F9 Z Z) (seen0 Z) (V8 (x:=.i ud) Z Z) Z<|A0 (R5 (cs:=B3 ⟨ug,uh,ud⟩) Z Z) Z<|A0 H8 Z<|K6 (D4 (ds:=B3 ⟨ug,uh,ud⟩) Z Z Z Z (E0 Z) Z) Z<|es (ra7 Z Z Z Z Z Z Z)<|B43 (show _=Hm (.inl s1)++(L0 N bS y p1++(M++[AO.cells (B3 ⟨ug,uh,ud⟩)])) by simp) ?_
     refine C4<|s0<|A0 (A3y (x:=.asl (N+1) p1.length) Z (q3' _ _ _) Z) Z<|qm Z<|A0 (A6a (ds:=B3 ⟨ug,uh,ud⟩) Z (hu8 _ _) Z Z) Z<|A0 (C8d (f:=B3) (j:=1) (hN _) Z Z Z Z hw) Z<|K6 (C0n (ds:=B3 ⟨ug,uh,ud⟩) (j:=1) (hN _) Z Z Z Z Z (Zi _) (A0t hw) Z Z) Z ?_
     rw[hset1]
     refine es (ra7 Z Z Z Z Z Z Z)<|s0<|A0 (A3y Z (hb1' _ _ _) Z) Z<|qm Z<|A0 (A6a (ds:=B3 ⟨ug,uh,ud⟩) Z (hu8 _ _) Z Z) Z<|C3 (rs:=[.i e]) Z Z (A3 Z (A3 Z (A3 (E1 Z) C2))) ((A2r (a0:=shw t days) (hbt' _ _ _) he).frz)<|A0 (Q9 Z Z) Z<|qm Z<|gp 4 75 (.b g) 71 Z Z (fun hc1=>?_) (fun hc1=>?_) ?_
     ·obtain rfl:=os (bt hg hc1)
      exact nF Z hc1 Z<|nF Z hc1 Z<|L7 (F4 Z (by rw[hc1];rfl)) Z<|A0 (D1 Z hc1 Z) Z<|ge 4 Z Z Z
     ·refine oB (bf hg hc1) fun z hz hg=>?_
      obtain rfl:=os hg
      exact gF Z hc1<|A0 (A3y (x:=.asl (N+1) (P0 p1 figure ⟨ug,uh,ud⟩).length) Z (q3' _ _ _) Z) Z<|gF Z hc1<|qm Z<|gF Z hc1<|N9 (V1 (rs:=[.b z]) Z Z ((A8n (SlV.asl _ _ _ (qa' _ _ _)) (fun _ _ _ _ hh=>by cases hh) rfl hz).frz)) rfl<|A0 (D0 rfl hc1 rfl) rfl<|ge 4 rfl rfl rfl
     ·refine es (ra7 Z Z Z Z Z Z Z)<|wi hb Z (fun hc2 hb=>?_) fun hc2 hb=>?_
      ·cases hb
       refine J1<|r0<|A0 (G1 Z Z) Z<|qm Z<|en (ra6 Z Z Z Z Z Z) ?_
       exact⟨Z,su6 Z Z Z Z Z Z,(),htk2 _ _ _⟩
      ·refine oB hb fun x1 hx1 hb=>?_
       have hnext:∀c',S5 c' (Hm (.inl s1)++(L0 N bS y (P0 p1 figure ⟨ug,uh,ud⟩)++(M++[AO.cells (B3 ⟨ug,uh,ud⟩)])))=true→I6 tab c' (Hm (.inl s1)++(L0 N bS y (P0 p1 figure ⟨ug,uh,ud⟩)++(M++[AO.cells (B3 ⟨ug,uh,ud⟩)]))) (.fn (.func 78) [] (caps N bS)) [.i (w64 (figure+1))] [.b x1.2.isLeft] (Hm x1.2++(L0 N bS y x1.1++(M++[AO.cells (B3 ⟨ug,uh,ud⟩)]))):=fun c' hc'=>ih _ _ _ _ hx1 (M++[AO.cells (B3 ⟨ug,uh,ud⟩)]) c' (B5r hgr Z) hc'
       have hlen6:(Hm (.inl s1)++(L0 N bS y (P0 p1 figure ⟨ug,uh,ud⟩)++(M++[AO.cells (B3 ⟨ug,uh,ud⟩)]))).length=N+(M.length+5)+1:= by
        rw[show Hm (.inl s1)++(L0 N bS y (P0 p1 figure ⟨ug,uh,ud⟩)++(M++[AO.cells (B3 ⟨ug,uh,ud⟩)]))=(Hm (.inl s1)++(L0 N bS y (P0 p1 figure ⟨ug,uh,ud⟩)++M))++[AO.cells (B3 ⟨ug,uh,ud⟩)] by simp only[Zz],Zp,hl5];rfl
       refine C6<|s0<|A0 (A3y Z (q4' _ _ _) Z) Z<|qm Z<|A0 (G1 Z Z) Z<|N9 (A1s Z Z (hnext _ ?_) Z) Z<|A0 (C4c Z Z) Z<|es (ra7 Z Z Z Z Z Z Z) ?_
       ·exact A8u (c:=⟨(Hm (.inl s)++(L0 N bS y p++M)).length,c.cur::c.outer⟩) (H:=Hm (.inl s)++(L0 N bS y p++M)) (A8u hsc (Zn _) (Zn _)) (by rw[hlen6,hl5];omega) (by rw[hlen6];omega)
       ·obtain⟨p2,x2⟩:=x1
        cases x2 with
        | inl s2 =>
         cases hb
         refine Q6 Z Z<|C6<|r0<|A0 (G1 Z Z) Z<|qm Z<|en (ra6 Z Z Z Z Z Z) ?_
         exact⟨Z,su6 Z Z Z Z Z Z,(),htk2 _ _ _⟩
        | inr r2 =>
         cases hb
         refine O1 Z Z<|s0<|qm Z<|es (ra1 Z)<|C7 ?_
         exact⟨Z,_,Sub.refl _,Z,Z,htk2 _ _ _⟩
    ·refine J1 ?_
     cases hb
     exact⟨Z,_,su3 Z Z Z,Z,Z,ZZ _⟩
   ·intro e s' H' q
    obtain⟨_,q⟩:=q
    rcases o with r|r
    ·obtain⟨p1,r⟩:=r
     obtain⟨rfl,rfl,q⟩:=q
     cases h
     show A7t _ _ _ _ .ret _ _
     exact B79 trivial (A7 Z C0) (A4 (v:=.lit (.bool false)) Z B9) (A2 A5 A8) (by rw[hl5];exact q)
    ·obtain⟨p1,s1⟩:=r
     obtain⟨rfl,rfl,rfl⟩:=q
     refine oB h fun bb hbb h=>oB h fun w hw h=>?_
     have hset1:Hm (.inl s1)++(L0 N bS y p1++M).set 1 (.arr 3 false ((p1.map B3).set figure.toNat (B3 bb)))=Hm (.inl s1)++(L0 N bS y (P0 p1 figure bb)++M):= by
      rw[C8n]
      have:(P0 p1 figure bb).length=p1.length:=S0 _ _ _
      simp only[L0,this];rfl
     have hnext:∀c',S5 c' (Hm (.inl s1)++(L0 N bS y (P0 p1 figure bb)++M))=true→I6 tab c' (Hm (.inl s1)++(L0 N bS y (P0 p1 figure bb)++M)) (.fn (.func 78) [] (caps N bS)) [.i (w64 (figure+1))] [.b x.2.isLeft] (Hm x.2++(L0 N bS y x.1++M)):=fun c' hc'=>ih _ _ _ _ h M c' hgr hc'
     refine s0<|A0 (A3y (x:=.asl (N+1) p1.length) Z (q3 _ _) Z) Z<|qm Z<|Z8 (rs:=[(.agg (B3 bb))]) Z Z A4v C2 ((A3z hbb).frz)<|A0 (C8d (f:=B3) (j:=1) (hN _) Z Z Z Z hw) Z<|K6 (C0n (ds:=B3 bb) (j:=1) (hN _) Z Z Z Z Z (Zi _) (A0t hw) Z Z) Z ?_
     rw[hset1]
     refine es (ra2 Z Z)<|s0<|A0 (A3y Z (q4 _ _) Z) Z<|qm Z<|A0 (G1 Z Z) Z<|N9 (A1s Z Z (hnext _ ?_) Z) Z<|qm Z<|es (ra1 Z)<|C7 ?_
     ·exact A8u hsc (by rw[hl5,hl5];exact Zn _) (by rw[hl5,hl5];exact Zn _)
     ·show A7t _ _ _ _ .ret _ _
      exact B79 trivial (A7 Z C0) (A4 (v:=.lit (.bool x.2.isLeft)) Z B9) (A2 A5 A8) (by rw[hl5,← hl5 x.2 x.1];exact Z1f)
end
theorem D3c {t:PaShow} {days:List Int} {bS b:Nat}:B52 tab 77 [.ptr bS 0] shP (fun H=>hcells H bS=some [.ptr b 0]∧hcells H b=some (A2h t days)) (A9k t days):= by
 intro σ ρ Hm N hN hpre y hyb hyc body hy a0 o ho c hc
 unfold A9k at ho
 refine oB ho fun p0 hp0 ho=>oB ho fun x0 hx0 ho=>?_
 obtain rfl:=os ho
 have h1:∀x,hcells (Hm x) bS=some [.ptr b 0]:=fun x=>(hpre x).1
 have ht:∀x,hcells (Hm x) b=some (A2h t days):=fun x=>(hpre x).2
 have e:=hN (.inl a0)
 have hl5:∀x p,(Hm x++L0 N bS y p).length=N+5:=fun x p=>by rw[Zp,hN];rfl
 have htk:∀x p,(Hm x++L0 N bS y p).take (Hm (.inl a0)).length=Hm x:=fun x p=>by rw[e,← hN x];exact Z07
 have hcall:∀c',S5 c' (Hm (.inl a0)++L0 N bS y p0)=true→I6 tab c' (Hm (.inl a0)++L0 N bS y p0) (.fn (.func 78) [] (caps N bS)) [.i 0] [.b x0.2.isLeft] (Hm x0.2++L0 N bS y x0.1):=fun c' hc'=>by
  have:=C8b hN h1 ht hy 64 0 p0 a0 x0 hx0 [] c' Z (by rw[ZZ];exact hc')
  rwa [ZZ,ZZ]at this
 have key:WP tab c77 [(0,y),(1,.ptr bS 0)] (Hm (.inl a0)++[]) ⟨(Hm (.inl a0)).length,c.cur::c.outer⟩ (A7t (Hm (.inl a0)) (Hm x0.2) [] []):= by
  subst e
  refine sg 0 Z<|A0 (F6 Z hyc Z) Z<|es (ra2 Z Z)<|sg 1 Z<|A0 (F1 Z (h1 _) Z) Z<|A0 (L3 Z Z) Z<|A0 (C1 Z) Z<|A0 (C1 Z) Z<|A0 (F1 (x:=.seq 4 (Zd A6 t.Figures)) Z (ht _) Z) Z<|A0 (I0 (f:=A6) Z) Z<|A0 (C0o (f:=B3) (zt:=PaUse.mk 0 0 0) Z Z Z hp0) Z<|A0 B7i Z<|K6 (D4 (ds:=[.asl ((Hm (.inl a0)).length+1) p0.length]) Z Z Z Z (M2 ?_) Z) Z<|es (ra3 Z Z Z)<|sg 4 Z<|A0 H8 Z<|es (ra4 Z Z Z Z)<|s0<|A0 (A2q Z Z) Z<|K6 (D4 (ds:=[.fn (.func 78) [] (caps (Hm (.inl a0)).length bS)]) Z Z Z Z (M2 ?_) Z) Z<|es (ra1 Z)<|r0<|A0 (B5 (x:=.fn (.func 78) [] (caps (Hm (.inl a0)).length bS)) Z Z Z) Z<|N9 (Q3 (rs:=[.b x0.2.isLeft]) Z Z (A3 Z C2) (hcall _ ?_) Z) Z<|en .n ?_
  ·exact Zx _ _
  ·exact Zx _ _
  ·exact A8u hc (by rw[hl5];omega) (by rw[hl5];omega)
  ·show A7t _ _ _ _ .normal _ _
   exact B79 trivial Z Z Z (htk _ _)
 rw[ZZ]at key
 exact Z3 (aq:=[y,.ptr bS 0]) Z Z Z key
end Pw
end
section
namespace Pw
open Go Am
def A23 (G:List PaGown) (y:PaFigure) (x:PaUse):Int :=
 if x.Gown = -1 then (if x.How=0∧x.Day=0 then 0 else 2) else
 if out 0 ((G.length:Int)-1) x.Gown then 4 else
 if A76 G[x.Gown.toNat]! x=false then 2 else
 if A9t G[x.Gown.toNat]! y x||!B4g G[x.Gown.toNat]! y then 9 else 0
theorem D3p (s:PaShow) (f:Int) (x:PaUse):D7t s f x=A23 s.Gowns s.Figures[f.toNat]! x:=rfl
structure Hu (G:List PaGown) (y:PaFigure) (x:PaUse):Prop where
 lo:0≤x.Gown
 hi:x.Gown<G.length
 form:A76 G[x.Gown.toNat]! x=true
 late:A9t G[x.Gown.toNat]! y x=false
 look:B4g G[x.Gown.toNat]! y=true
theorem U6 {G:List PaGown} {y:PaFigure} {x:PaUse}:A23 G y x=0↔x=bare0∨Hu G y x:= by
 obtain⟨g,how,day⟩:=x
 unfold A23 bare0
 simp only
 constructor
 ·intro h
  split at h
  ·next hg =>
   split at h
   ·next hh=>left;subst hg;rw[hh.1,hh.2]
   ·cases h
  ·next hg =>
   split at h
   ·cases h
   ·next ho =>
    split at h
    ·cases h
    ·next hf =>
     split at h
     ·cases h
     ·next hl =>
      have ho:=T2.mp (by simpa using ho)
      have hl:A9t G[g.toNat]! y ⟨g,how,day⟩=false∧B4g G[g.toNat]! y=true:= by simpa using hl
      exact .inr ⟨ho.1,by simp only;omega,by simpa using hf,hl.1,hl.2⟩
 ·rintro (h|h)
  ·cases h
   rfl
  ·have h1:=h.lo
   have h2:=h.hi
   have h3:=h.form
   have h4:=h.late
   have h5:=h.look
   simp only at h1 h2 h3 h4 h5
   rw[if_neg (by omega),if_neg (by rw[T2.mpr (by omega)];decide),if_neg (by rw[h3];decide),h4,h5]
   rfl
def A0n (G:List PaGown) (y:PaFigure) (x:PaUse):Int×Int :=
 if x.Gown = -1 then (0,0) else if x.How=1 then (price G[x.Gown.toNat]! x.Day,x.Day) else if x.How=2 then (B81 G[x.Gown.toNat]! y,y.Day) else (0,0)
theorem form1 {g:PaGown} {x:PaUse} (h:A76 g x=true):(g.Pawn=false∧x.How=0∧x.Day=0)∨(g.Pawn=true∧((x.How=2∧x.Day=0)∨(x.How=1∧0≤x.Day∧x.Day≤364))):= by
 unfold A76 at h
 cases hp:g.Pawn
 ·rw[hp]at h
  simp at h
  exact .inl ⟨Z,h⟩
 ·rw[hp]at h
  simp only[if_true,Z0q,Zc,beq_iff_eq,Z02,T2]at h
  exact .inr ⟨Z,h⟩
theorem D29 {G:List PaGown} (hG:∀g∈G,GwOk g) {y:PaFigure} (hy:FgOk y) {x:PaUse} (h:A23 G y x=0):(0≤(A0n G y x).1∧(A0n G y x).1≤100000)∧(0≤(A0n G y x).2∧(A0n G y x).2≤364):= by
 rcases U6.mp h with rfl|h
 ·exact⟨⟨ZR _,by show (0:Int)≤100000;decide⟩,ZR _,by show (0:Int)≤364;decide⟩
 ·have h1:=h.lo
  have h2:=h.hi
  have hg:=hG _ (K3 (l:=G) (i:=x.Gown.toNat) (by omega))
  have hf:=hy.day
  have ht:=hy.til
  unfold A0n
  rw[if_neg (by omega)]
  rcases form1 h.form with⟨_,hh,hd⟩|⟨_,⟨hh,hd⟩|⟨hh,hd⟩⟩
  ·rw[if_neg (by omega),if_neg (by omega)]
   exact⟨by decide,by decide⟩
  ·rw[if_neg (by omega),if_pos hh]
   have:=D1e hg hy
   exact⟨⟨this.1,by show B81 _ _≤100000;omega⟩,hf.1,by show y.Day≤364;omega⟩
  ·rw[if_pos hh]
   have:=C4q hg hd
   exact⟨⟨this.1,by show price _ _≤100000;omega⟩,hd⟩
theorem C2g {s:PaShow} (hs:ShOk s) (days:List Int) {f:Int} (hf:0≤f∧f<s.Figures.length) {x:PaUse} (h:A23 s.Gowns s.Figures[f.toNat]! x=0):T3 (shw s days) f x=some (A0n s.Gowns s.Figures[f.toNat]! x):= by
 have hy:=hs.figure _ (K3 (l:=s.Figures) (i:=f.toNat) (by omega))
 unfold T3 Y3
 simp only[Zg]
 rcases U6.mp h with rfl|h
 ·rfl
 ·have h1:=h.lo
  have h2:=h.hi
  have hg:=hs.gown _ (K3 (l:=s.Gowns) (i:=x.Gown.toNat) (by omega))
  have hfm:=h.form
  rw[if_neg (by simp only[Zc,beq_iff_eq];omega),show (shw s days).PaShow=s from Z,A65 (l:=s.Gowns) h1 h2,A65 (l:=s.Figures) hf.1 hf.2]
  unfold A0n
  rw[if_neg (by omega)]
  generalize s.Figures[f.toNat]! = y at hy
  generalize s.Gowns[x.Gown.toNat]! = g at hg hfm
  rcases form1 hfm with⟨_,hh,hd⟩|⟨_,⟨hh,hd⟩|⟨hh,hd⟩⟩
  ·rw[hh];rfl
  ·rw[hh]
   simp only[sel3,inR,Zg]
   rw[C3h hg hy]
   rfl
  ·rw[hh]
   simp only[sel3,inR,Zg]
   rw[B7e hg y hd]
   rfl
def Q8 (l:List (Int×Int)) (d:Int):Int:=sm (l.map fun x=>if x.2≤d then x.1 else 0)
def incs (s:PaShow):List (Int×Int):=s.Incomes.map fun x=>(x.Pence,x.Day)
def pays (s:PaShow) (p:List PaUse):List (Int×Int):=List.zipWith (A0n s.Gowns) s.Figures p
def O3 (s:PaShow) (p:List PaUse) (d:Int):Int:=s.Purse+Q8 (incs s) d-Q8 (pays s p) d
theorem A7k {l:List (Int×Int)} (h:∀x∈l,0≤x.1∧x.1≤100000) (d:Int):0≤Q8 l d∧Q8 l d≤100000*l.length:= by
 have:=C8q (a:=0) (b:=100000) (l:=l.map fun x=>if x.2≤d then x.1 else 0) (fun z hz=>by
  obtain⟨x,hx,rfl⟩:=ZJ.mp hz
  have:=h x hx
  split <;> omega)
 rw[Zi]at this
 unfold Q8
 omega
structure PlU (s:PaShow) (p:List PaUse):Prop where
 len:p.length=s.Figures.length
 use:∀i,i<p.length→A23 s.Gowns s.Figures[i]! p[i]! = 0
theorem P9 {s:PaShow} {p:List PaUse} (h:PlU s p):(pays s p).length=p.length:= by
 have:=h.len
 unfold pays
 rw[List.length_zipWith];omega
theorem A6h {s:PaShow} {p:List PaUse} (h:PlU s p) {i:Nat} (hi:i<p.length):(pays s p)[i]! = A0n s.Gowns s.Figures[i]! p[i]!:= by
 have:=h.len
 rw[getElem!_pos (pays s p) i (by rw[P9 h];exact hi)]
 unfold pays
 rw[List.getElem_zipWith,getElem!_pos p i hi,getElem!_pos s.Figures i (by omega)]
theorem A7d {s:PaShow} (hs:ShOk s) {p:List PaUse} (h:PlU s p):∀x∈pays s p,(0≤x.1∧x.1≤100000)∧(0≤x.2∧x.2≤364):= by
 intro x hx
 obtain⟨i,hi,rfl⟩:=A25 hx
 rw[P9 h]at hi
 have:=h.len
 rw[A6h h hi]
 exact D29 hs.gown (hs.figure _ (K3 (by omega))) (h.use i hi)
theorem A5f {s:PaShow} (hs:ShOk s):∀x∈incs s,(0≤x.1∧x.1≤100000)∧(0≤x.2∧x.2≤364):= by
 intro x hx
 obtain⟨y,hy,rfl⟩:=ZJ.mp hx
 have:=hs.income y hy
 have h1:=this.pence
 have h2:=this.day
 exact⟨⟨h1.1,by show y.Pence≤_;omega⟩,h2⟩
theorem A4n (s:PaShow):(incs s).length=s.Incomes.length:= by simp[incs]
theorem D1w {s:PaShow} {i:Nat} (hi:i<s.Incomes.length):(incs s)[i]! = (s.Incomes[i]!.Pence,s.Incomes[i]!.Day):= by
 rw[getElem!_pos (incs s) i (by rw[A4n];exact hi),getElem!_pos s.Incomes i hi]
 simp[incs]
theorem D0h (l:List (Int×Int)) (d:Int) (t:Int) (i:Nat):(l.take i).foldl (fun a (x:Int×Int)=>a+if x.2≤d then x.1 else 0) t=t+Q8 (l.take i) d:=B6s _ _ _
theorem C75 {s:PaShow} (hs:ShOk s) {p:List PaUse} (h:PlU s p) (d:Int):-300000≤O3 s p d∧O3 s p d≤310000:= by
 have h1:=A7k (fun x hx=>(A5f hs x hx).1) d
 have h2:=A7k (fun x hx=>(A7d hs h x hx).1) d
 rw[A4n]at h1
 rw[P9 h]at h2
 have:=hs.incomes
 have:=hs.figures
 have:=h.len
 have:=hs.purse
 unfold O3
 omega
theorem D4k {s:PaShow} (hs:ShOk s) (days:List Int) {p:List PaUse} (h:PlU s p) (d:Int):P8 (shw s days) p d=some (O3 s p d):= by
 have hin:=hs.incomes
 have hfl:=hs.figures
 have hlen:=h.len
 have hpu:=hs.purse
 have hb1:∀i,0≤Q8 ((incs s).take i) d∧Q8 ((incs s).take i) d≤300000:=fun i=>by
  have:=A7k (l:=(incs s).take i) (fun x hx=>(A5f hs x (Z05 hx)).1) d
  rw[ZE,A4n]at this
  omega
 have hb2:∀i,0≤Q8 ((pays s p).take i) d∧Q8 ((pays s p).take i) d≤300000:=fun i=>by
  have:=A7k (l:=(pays s p).take i) (fun x hx=>(A7d hs h x (Z05 hx)).1) d
  rw[ZE,P9 h]at this
  omega
 unfold P8
 rw[show (shw s days).PaShow=s from Z]
 have e1:loop (Q4 (shw s days) d) (s.Purse,0)=some (s.Purse+Q8 (incs s) d):= by
  refine B3g (incs s) (fun a (x:Int×Int)=>a+if x.2≤d then x.1 else 0) s.Purse (fun i t=>(t,(i:Int))) (by rw[A4n];omega) (fun i hi=>?_) ?_
  ·rw[A4n]at hi
   have hx:=(A5f hs _ (K3 (l:=incs s) (i:=i) (by rw[A4n];exact hi))).1
   rw[D1w hi]at hx ⊢
   rw[D0h]
   have:=hb1 i
   unfold Q4
   rw[show (shw s days).PaShow=s from Z,if_pos (by simpa using hi),M0 hi]
   simp only[Zg]
   rw[F5 (n:=(i:Int)+1) (by omega)]
   by_cases hd:s.Incomes[i]!.Day≤d
   ·rw[if_pos (decide_eq_true hd),if_pos hd,F5 (by omega)];rfl
   ·rw[if_neg (by simpa using hd),if_neg hd,Z4v];rfl
  ·rw[B6s,A4n]
   unfold Q4
   rw[show (shw s days).PaShow=s from Z,if_neg (by simp)]
   rfl
 rw[e1]
 simp only[Zg]
 have hI:=hb1 (incs s).length
 rw[Z1f]at hI
 have e2:loop (Q5 (shw s days) p d) (s.Purse+Q8 (incs s) d,0)=some (O3 s p d):= by
  refine B3g (pays s p) (fun a (x:Int×Int)=>a-if x.2≤d then x.1 else 0) (s.Purse+Q8 (incs s) d) (fun i t=>(t,(i:Int))) (by rw[P9 h];omega) (fun i hi=>?_) ?_
  ·rw[P9 h]at hi
   have hx:=(A7d hs h _ (K3 (l:=pays s p) (i:=i) (by rw[P9 h];exact hi))).1
   have hsub:∀(l:List (Int×Int)) (t:Int),l.foldl (fun a (x:Int×Int)=>a-if x.2≤d then x.1 else 0) t=t-Q8 l d:= by
    intro l
    induction l with
    | nil=>intro t;simp[Q8,sm]
    | cons x l ih=>intro t;rw[Z11,ih];simp only[Q8,Zt,sm];omega
   rw[hsub,A6h h hi]at *
   have:=hb2 i
   unfold Q5
   simp only[]
   rw[if_pos (by simpa using hi),M0 hi]
   simp only[Zg]
   rw[C2g hs days (f:=(i:Int)) (by omega) (by rw[ZL];exact h.use i hi),ZL]
   simp only[Zg]
   rw[F5 (n:=(i:Int)+1) (by omega)]
   generalize A0n s.Gowns s.Figures[i]! p[i]! = z at hx
   by_cases hd:z.2≤d
   ·rw[if_pos (decide_eq_true hd),if_pos hd,F5 (by omega)];rfl
   ·rw[if_neg (by simpa using hd),if_neg hd,Int.sub_zero];rfl
  ·unfold Q5
   simp only[]
   rw[P9 h,if_neg (by simp)]
   have hsub:∀(l:List (Int×Int)) (t:Int),l.foldl (fun a (x:Int×Int)=>a-if x.2≤d then x.1 else 0) t=t-Q8 l d:= by
    intro l
    induction l with
    | nil=>intro t;simp[Q8,sm]
    | cons x l ih=>intro t;rw[Z11,ih];simp only[Q8,Zt,sm];omega
   rw[hsub];rfl
 rw[e2];rfl
end Pw
end
section
set_option maxRecDepth 100000
set_option maxHeartbeats 0
namespace Pw
open Go Am Go.Proofs.Ytjpjdglddmhplaa.Cd
def A2w (t:PaShow) (days:List Int) (plan:List PaUse) (i:Int):Option (Int⊕(Int⊕Unit)) :=
 if (decide (i<(Zh plan:Int)))=true then
  (idx plan i).bind fun u=>(V2 (shw t days) i u).bind fun e =>
  (if (e != 4)=true then (A2v plan i).bind fun z=>some z else some false).bind fun g =>
  (if g=true then some 5 else some e).bind fun e' =>
  if (e' != 0)=true then some (.inr (.inl e')) else some (.inl (w64 (i+1)))
 else some (.inr (.inr ()))
def A2a (t:PaShow) (plan:List PaUse):Option (Int×List Int) :=
 (A1f t).bind fun x =>
 if (x.1==0)=true then
  if ((Zh plan:Int) != (Zh t.Figures:Int))=true then some (3,[])
  else (loop (A2w t x.2 plan) 0).bind fun o=>match o with
   | .inl e=>some (e,[])
   | .inr _=>some (0,x.2)
 else some (x.1,[])
def plB (t:PaShow) (X:AO) (days:List Int):List AO:=[.cells (B6 t),.cells (B6 t),X,.cells (A2h t days)]
def PlQ (H:A1) (t:PaShow) (X:AO) (x:Int×List Int) (e:Ex) (s:A9) (H1:A1):Prop :=
 e=.ret∧sget s 5=some (.i x.1)∧(((x.1 != 0)=true∧sget s 4=some (.lit (.pointer none))∧∃ L,H1=H++L)∨(x.1=0∧sget s 4=some (.ptr (H.length+3) 0)∧H1=H++plB t X x.2))
theorem B13 {c:Sc} {H:A1} {t:PaShow} {plan:List PaUse} {x y:Int×List Int} {X:AO} (hX:New tab (.fn (.func 23) [] []) [.agg (B6 t)] 2 [.cells (B6 t),X,.cells (A2h t y.2)])
  (h:(if ((Zh plan:Int) != (Zh t.Figures:Int))=true then some (3,[])
  else (loop (A2w t y.2 plan) 0).bind fun o=>match o with
   | .inl e=>some (e,[])
   | .inr _=>some (0,y.2))=some x) :
  WP tab c28 [(0,.agg (B6 t)),(1,.seq 3 (plan.map B3))] (H++[]) ⟨H.length,c.cur::c.outer⟩ (PlQ H t X x):= by
 refine sg 0 Z<|A0 (F6 (cs:=B6 t) Z Z Z) Z<|qm Z<|qm Z<|es (ra2 Z Z)<|s0<|A0 (E8 Z Z Z) Z<|N9 (A28 hX Z Z (A3 (E1 Z) C2) Z) Z<|qm Z<|A0 (B4 Z Z) Z<|A0 (B4 Z Z) Z<|qm Z<|qm Z<|es (ra4 Z Z Z Z)<|C4<|C8<|s0<|qm Z<|A0 (Q9 Z Z) Z<|qm Z<|es (ra5 Z Z Z Z Z)<|Q6 Z Z<|s0<|qm Z<|A0 (I0 (f:=B3) Z) Z<|A0 (C1 Z) Z<|A0 (B5 Z Z Z) Z<|A0 (I0 (f:=A6) Z) Z<|A0 (Q9 Z Z) Z<|qm Z<|es (ra3 Z Z Z)<|wi h Z (fun hc h=>?_) fun hc h=>?_
 ·refine s0<|qm Z<|qm Z<|es (ra2 Z Z)<|C7 ?_
  obtain rfl:=os h
  exact⟨Z,Z,.inl ⟨Z,Z,_,Z⟩⟩
 ·refine oB h fun o ho h=>?_
  have hsl:SlV H (.seq 3 (plan.map B3)) plan:=.seq plan
  refine C6<|C4<|s0<|qm Z<|A0 (I0 (f:=B3) Z) Z<|qm Z<|es (ra5 Z Z Z Z Z)<|C8<|wl (fun i=>[(1,.seq 3 (plan.map B3)),(6,.ptr (H.length+3) 0),(26,.seq 3 (plan.map B3)),(27,.i plan.length),(28,.i i)]) (fun (_:Unit) _=>plB t X y.2) 4 (fun r e s' H'=>match r with|.inl v=>e=.ret∧s'=[(4,.lit (.pointer none)),(5,.i v)]∧(v != 0)=true∧∃ L,H'=H++L|.inr _=>PX 1 [(6,.ptr (H.length+3) 0)] (H++plB t X y.2) e s' H') () ho Z Z (fun _ _=>rfl) (fun _=>rfl) Z (fun _=>bdc N7 (bdc (N6 Z) (bdc N7 (bdc A5 (bdc A5 bdn))))) (fun _ i o hs=>?_) ?_
  ·unfold A2w at hs
   refine s0<|A0 (L5 Z Z) Z<|es (ra6 Z Z Z Z Z Z)<|C4<|wi hs Z (fun hc hs=>?_) fun hc hs=>?_
   ·refine oB hs fun u hu hs=>oB hs fun e he hs=>oB hs fun g hg hs=>oB hs fun e' he' hs=>?_
    refine C6<|C4<|C8<|sg 4 Z<|qm Z<|A0 (H7 (f:=B3) Z Z hu) Z<|A0 (I1 Z Z) Z<|A0 H8 Z<|qm Z<|K6 (D4 (ds:=B3 u) Z Z Z Z (E0 Z) Z) Z<|es (ra7 Z Z Z Z Z Z Z)<|s0<|qm Z<|qm Z<|A0 (E8 Z Z Z) Z<|C3 (rs:=[.i e]) Z Z (A3 Z (A3 Z (A3 (E1 Z) C2))) ((A2r (a0:=shw t y.2) (D7 Z) he).frz)<|qm Z<|es (ra7 Z Z Z Z Z Z Z)<|C4<|s0<|qm Z<|A0 (Q9 Z Z) Z<|qm Z<|gp 4 43 (.b g) 39 Z Z (fun hb=>?_) (fun hb=>?_) ?_
    ·refine oB (bt hg hb) fun z hz hg=>?_
     obtain rfl:=os hg
     exact gT Z hb<|qm Z<|gT Z hb<|qm Z<|gT Z hb<|N9 (V1 (rs:=[.b z]) Z Z ((A8n hsl.app (fun _ _ _ _ hh=>by cases hh) rfl hz).frz)) rfl<|A0 (D1 rfl hb rfl) rfl<|ge 4 rfl rfl rfl
    ·obtain rfl:=os (bf hg hb)
     exact nT Z hb Z<|nT Z hb Z<|L7 (F4 Z (by rw[hb];rfl)) Z<|A0 (D0 Z hb Z) Z<|ge 4 Z Z Z
    ·refine es (ra7 Z Z Z Z Z Z Z) ?_
     have fin:∀{e'':Int},e''=e'→WP tab (.s 0 [M 0 44 7,B 1 45 .neq 44 (.i 0)] [1,6,7,26,27,28,45] (.cond 45 (.s 0 [M 0 46 7,M 1 4 (.c (.lit (.pointer none))),M 2 5 46] [4,5] .ret) .skip)) [(1,.seq 3 (plan.map B3)),(6,.ptr (H.length+3) 0),(7,.i e''),(26,.seq 3 (plan.map B3)),(27,.i plan.length),(28,.i i)] (H++(plB t X y.2++[.cells (B3 u)])) ⟨H.length+4,H.length::c.cur::c.outer⟩ (B51 2 (C5j tab (.g 0 [B 0 47 .add 28 (.i 1),M 1 28 47] [1,6,26,27,28]) ⟨H.length+4,H.length::c.cur::c.outer⟩ (C64 true (fun i=>[(1,.seq 3 (plan.map B3)),(6,.ptr (H.length+3) 0),(26,.seq 3 (plan.map B3)),(27,.i plan.length),(28,.i i)]) (fun (_:Unit) _=>H++plB t X y.2) (H.length+4) (fun r e s' H'=>match r with|.inl v=>e=.ret∧s'=[(4,.lit (.pointer none)),(5,.i v)]∧(v != 0)=true∧∃ L,H'=H++L|.inr _=>PX 1 [(6,.ptr (H.length+3) 0)] (H++plB t X y.2) e s' H') o))):=fun {e''} hee=>by
      subst hee
      refine s0<|qm Z<|A0 (Q9 Z Z) Z<|es (ra7 Z Z Z Z Z Z Z)<|wi hs Z (fun hc2 hs=>?_) fun hc2 hs=>?_
      ·refine s0<|qm Z<|qm Z<|qm Z<|es (ra2 Z Z)<|C7 ?_
       obtain rfl:=os hs
       exact lx Z ⟨Z,Z,hc2,_,Z⟩ (su2 Z Z)
      ·refine C6<|r0<|A0 (G1 Z Z) Z<|qm Z<|en (ra5 Z Z Z Z Z) ?_
       cases hs
       exact lnT () Z (su5 Z Z Z Z Z)
     cases g with
     | true =>
      obtain rfl:=os he'
      exact O1 Z Z<|r0<|qm Z<|en (ra6 Z Z Z Z Z Z) (fin Z)
     | false =>
      obtain rfl:=os he'
      exact Q6 Z Z<|C6<|D0n (su6 Z Z Z Z Z Z) (fin Z)
   ·refine J1 ?_
    obtain rfl:=os hs
    exact lx Z px (su1 Z)
  ·rcases o with v|v
   ·rintro e s' H'-⟨rfl,rfl,hv,L,rfl⟩
    obtain rfl:=os h
    exact⟨Z,Z,.inl ⟨hv,Z,L,Z⟩⟩
   ·rintro e s' H'-⟨rfl,rfl,rfl⟩
    obtain rfl:=os h
    refine s0<|qm Z<|qm Z<|qm Z<|es (ra2 Z Z)<|C7 ?_
    exact⟨Z,Z,.inr ⟨Z,Z,Z⟩⟩
theorem A8q {t:PaShow} {plan:List PaUse} {x:Int×List Int} (h:A2a t plan=some x) (hx:(x.1==0)=true):∃X,New tab (.fn (.func 28) [] []) [.agg (B6 t),.seq 3 (plan.map B3)] 3 [.cells (B6 t),.cells (B6 t),X,.cells (A2h t x.2)]:= by
 unfold A2a at h
 refine oB h fun y hy h=>?_
 split at h
 ·next hc =>
  obtain⟨X,hX⟩:=A1o hy hc
  refine⟨X,fun c H N hN=>?_⟩
  subst hN
  refine C29 (aq:=[.agg (B6 t),.seq 3 (plan.map B3)]) Z Z Z (U7 (A0r (B13 hX h) ?_))
  rintro e s' H' ⟨rfl,h5,⟨h6,_⟩|⟨h6,h4,rfl⟩⟩
  ·rw[show x.1=0 by simpa using hx]at h6;cases h6
  ·rw[h6]at h5
   refine⟨trivial,_,A7 h4 (A7 h5 C0),A4 Z (A4 Z B9),U1 ?_⟩
   exact A49 (N:=H.length) (B:=0) (j:=3) (o:=0) Z
 ·next hc=>cases h;exact absurd hx hc
theorem A8p {c:Sc} {H:A1} {t:PaShow} {plan:List PaUse} {x:Int×List Int} (h:A2a t plan=some x) (hx:(x.1==0)=false) :
  I6 tab c H (.fn (.func 28) [] []) [.agg (B6 t),.seq 3 (plan.map B3)] [.lit (.pointer none),.i x.1] H:= by
 unfold A2a at h
 refine oB h fun y hy h=>?_
 split at h
 ·next hc =>
  obtain⟨X,hX⟩:=A1o hy hc
  refine Z3 (aq:=[.agg (B6 t),.seq 3 (plan.map B3)]) Z Z Z (U7 (A0r (B13 hX h) ?_))
  rintro e s' H' ⟨rfl,h5,⟨h6,h4,L,rfl⟩|⟨h6,_⟩⟩
  ·exact⟨trivial,_,_,A7 h4 (A7 h5 C0),A4 Z (A4 Z B9),A2 A5 (A2 A5 A8),Z07⟩
  ·rw[h6]at hx;cases hx
 ·next hc =>
  obtain rfl:=os h
  refine Z3 (aq:=[.agg (B6 t),.seq 3 (plan.map B3)]) Z Z Z (U7 ?_)
  refine sg 0 Z<|A0 (F6 (cs:=B6 t) Z Z Z) Z<|qm Z<|qm Z<|es (ra2 Z Z)<|s0<|A0 (E8 Z Z Z) Z<|N9 (Q3 (rs:=[.lit (.pointer none),.i y.1]) Z Z (A3 (E1 Z) C2) (A2k hy (by simpa using hc)) Z) Z<|qm Z<|A0 (B4 Z Z) Z<|A0 (B4 Z Z) Z<|qm Z<|qm Z<|es (ra4 Z Z Z Z)<|C4<|C8<|s0<|qm Z<|A0 (Q9 Z Z) Z<|qm Z<|es (ra5 Z Z Z Z Z)<|O1 Z (nef hc)<|s0<|qm Z<|qm Z<|qm Z<|es (ra2 Z Z)<|C7 ?_
  exact⟨trivial,_,_,A7 Z (A7 Z C0),A4 Z (A4 Z B9),A2 A5 (A2 A5 A8),Z07⟩
end Pw
end
section
namespace Pw
open Go Am
theorem C1k (l:List PaUse) (g:PaUse→Option Bool) (p:PaUse→Bool) (hl:l.length<9223372036854775808) (hg:∀x∈l,g x=some (p x)):E4 l g=some (l.any p) :=
 A3u l g p (b:=I2 l g) hl hg (fun _=>rfl) Z
def twP (p:List PaUse) (i:Nat):Bool:=(p[i]!.Gown != -1)&&(p.take i).any fun x=>x.Gown==p[i]!.Gown
theorem C5a {p:List PaUse} {i:Nat} (hi:i<p.length) (hl:p.length≤100):A2v p (i:Int)=some (twP p i):= by
 unfold A2v twP
 rw[M0 hi]
 simp only[Zg]
 cases hg:p[i]!.Gown != -1
 ·rfl
 ·rw[if_pos Z,B5z (Z3x hi)]
  simp only[Zg]
  rw[C1k _ _ (fun x=>x.Gown==p[i]!.Gown) (by rw[ZE];omega) (fun x _=>by unfold X0;rw[M0 hi];rfl)]
  rfl
structure PlOk (s:PaShow) (p:List PaUse):Prop where
 u:PlU s p
 tw:∀i,i<p.length→twP p i=false
theorem C8p (F:Int→Int):∀(l:List (Int×Int)) (t:Int×Int),∀ r,r=l.foldl (fun (a:Int×Int) (x:Int×Int)=>if F x.2<0 then (A2e a.1 (0-F x.2),K9 a.2 x.2) else a) t →
  t.1≤r.1∧(∀ x∈l,F x.2<0→-F x.2≤r.1)∧(r.1=t.1∨∃ x∈l,F x.2<0∧-F x.2=r.1)∧r.2≤t.2∧(∀ x∈l,F x.2<0→r.2≤x.2)∧(r.2=t.2∨∃ x∈l,F x.2<0∧x.2=r.2)
 | [],t,r,h=>by subst h;exact⟨ZR _,by simp,.inl Z,ZR _,by simp,.inl Z⟩
 | x::l,t,r,h=>by
  rw[Z11]at h
  obtain⟨h1,h2,h3,h4,h5,h6⟩:=C8p F l _ r h
  by_cases hx:F x.2<0
  ·rw[if_pos hx]at h1 h3 h4 h6
   simp only at h1 h3 h4 h6
   have m1:t.1≤A2e t.1 (0-F x.2)∧-F x.2≤A2e t.1 (0-F x.2)∧(A2e t.1 (0-F x.2)=t.1∨A2e t.1 (0-F x.2) = -F x.2):= by unfold A2e;split <;> omega
   have m2:K9 t.2 x.2≤t.2∧K9 t.2 x.2≤x.2∧(K9 t.2 x.2=t.2∨K9 t.2 x.2=x.2):= by unfold K9;split <;> omega
   refine⟨by omega,?_,?_,by omega,?_,?_⟩
   ·intro y hy hf
    rcases Zv.mp hy with rfl|hy
    ·omega
    ·exact h2 y hy hf
   ·rcases h3 with h3|⟨y,hy,hf,e⟩
    ·rcases m1.2.2 with e|e
     ·left;omega
     ·exact .inr ⟨x,ZC ..,hx,by omega⟩
    ·exact .inr ⟨y,ZB _ hy,hf,e⟩
   ·intro y hy hf
    rcases Zv.mp hy with rfl|hy
    ·omega
    ·exact h5 y hy hf
   ·rcases h6 with h6|⟨y,hy,hf,e⟩
    ·rcases m2.2.2 with e|e
     ·left;omega
     ·exact .inr ⟨x,ZC ..,hx,by omega⟩
    ·exact .inr ⟨y,ZB _ hy,hf,e⟩
  ·rw[if_neg hx]at h1 h3 h4 h6
   refine⟨h1,?_,?_,h4,?_,?_⟩
   ·intro y hy hf
    rcases Zv.mp hy with rfl|hy
    ·exact absurd hf hx
    ·exact h2 y hy hf
   ·rcases h3 with h3|⟨y,hy,hf,e⟩
    ·exact .inl h3
    ·exact .inr ⟨y,ZB _ hy,hf,e⟩
   ·intro y hy hf
    rcases Zv.mp hy with rfl|hy
    ·exact absurd hf hx
    ·exact h5 y hy hf
   ·rcases h6 with h6|⟨y,hy,hf,e⟩
    ·exact .inl h6
    ·exact .inr ⟨y,ZB _ hy,hf,e⟩
def M7 (s:PaShow) (p:List PaUse):Int×Int:=(pays s p).foldl (fun (a:Int×Int) (x:Int×Int)=>if O3 s p x.2<0 then (A2e a.1 (0-O3 s p x.2),K9 a.2 x.2) else a) (0,365)
theorem D3h {s:PaShow} (hs:ShOk s) (days:List Int) {p:List PaUse} (h:PlU s p):O5 (shw s days) p=some (M7 s p):= by
 have hfl:=hs.figures
 have hlen:=h.len
 unfold O5
 have e1:loop (O9 (shw s days) p) (0,365,0)=some (M7 s p):= by
  refine B3g (pays s p) (fun (a:Int×Int) (x:Int×Int)=>if O3 s p x.2<0 then (A2e a.1 (0-O3 s p x.2),K9 a.2 x.2) else a) (0,365) (fun i t=>(t.1,t.2,(i:Int))) (by rw[P9 h];omega) (fun i hi=>?_) ?_
  ·rw[P9 h]at hi
   rw[A6h h hi]
   unfold O9
   simp only[]
   rw[if_pos (by simpa using hi),M0 hi]
   simp only[Zg]
   rw[C2g hs days (f:=(i:Int)) (by omega) (by rw[ZL];exact h.use i hi),ZL]
   simp only[Zg]
   rw[D4k hs days h]
   simp only[Zg]
   have:=C75 hs h (A0n s.Gowns s.Figures[i]! p[i]!).2
   rw[F5 (n:=(i:Int)+1) (by omega),F5 (by omega)]
   by_cases hd:O3 s p (A0n s.Gowns s.Figures[i]! p[i]!).2<0
   ·rw[if_pos (decide_eq_true hd),if_pos hd];rfl
   ·rw[if_neg (by simpa using hd),if_neg hd];rfl
  ·rw[P9 h]
   unfold O9
   simp only[]
   rw[if_neg (by simp)]
   rfl
 rw[e1];rfl
theorem A7j (s:PaShow) (p:List PaUse):0≤(M7 s p).1∧(∀ x∈pays s p,O3 s p x.2<0→-O3 s p x.2≤(M7 s p).1)∧((M7 s p).1=0∨∃ x∈pays s p,O3 s p x.2<0∧-O3 s p x.2=(M7 s p).1)∧(M7 s p).2≤365∧(∀ x∈pays s p,O3 s p x.2<0→(M7 s p).2≤x.2)∧((M7 s p).2=365∨∃ x∈pays s p,O3 s p x.2<0∧x.2=(M7 s p).2) :=
 C8p (O3 s p) (pays s p) (0,365) _ Z
end Pw
end
section
set_option maxRecDepth 100000
namespace Am
open Go
theorem C2n {c:Sc} {H H':A1} (h:S5 c H=true) (hl:H.length≤H'.length):S5 c H'=true:= by
 unfold S5 at h ⊢
 rw[Zq]at h ⊢
 intro B hB
 have:=Zo (h B hB)
 exact Zk (by omega)
theorem C3s {M N:Nat} {L:A1} (hMN:N≤M) (h:grL M L=true):grL N L=true:= by
 unfold grL at h ⊢
 rw[Zq]at h ⊢
 intro o ho
 have:=h o ho
 rw[Zq]at this ⊢
 intro b hb
 have:=Zo (this b hb)
 exact Zk (by omega)
theorem A55 {N:Nat} {o:AO} {L:A1} (ho:o.anc=[]) (h:grL N L=true):grL N (o::L)=true:= by
 unfold grL at h ⊢
 rw[List.all_cons,h,ho];rfl
theorem D0i {H:A1} {n K:Nat} {o:AO}:(hset H K o).take n=hset (H.take n) K o:= by unfold hset;rw[Z2x]
section
variable {T:Tab} {s:A9} {H:A1} {c:Sc} {Q:Ex→A9→A1→Prop}
def E1j {σ ρ:Type} (Hs:σ→A1) (Hx:ρ→A1) (K:Nat) (ex:ρ→Ex) (b:AO) (L:A1) (o:σ⊕ρ) (e:Ex) (_s:A9) (H2:A1):Prop :=
 match o with
  | .inl s'=>e=.normal∧H2.take (K+1+L.length)=Hs s'++b::L
  | .inr r=>e=ex r∧H2.take (K+1+L.length)=Hx r++b::L
def E1i (T:Tab) (G:A1) (b0 b1:AO) (bd:ACode) (c:Sc) (Q:Ex→A9→A1→Prop) (e:Ex) (s1:A9) (H1:A1):Prop :=
 e=.normal∧∃ L1,H1=G++b0::L1∧WP T bd s1 (G++b1::L1) c Q
theorem B2m {σ ρ α:Type} {f:Opd} {p i K:Nat} {live:List Nat} {aq bd:ACode} {fc:List AV} {sh:Nat→A1→α→AV→Prop} {pre:A1→Prop} {it:∀(σ ρ:Type),(α→σ→Option (σ⊕ρ))→σ→Option (σ⊕ρ)} {s0:σ} {o:σ⊕ρ} {body:α→σ→Option (σ⊕ρ)}
  (hit:B52 T i fc sh pre it) (sl:A9) (Hs:σ→A1) (Hx:ρ→A1) (ex:ρ→Ex) (h:it σ ρ body s0=some o) (hex:∀r,(ex r).out=true)
  (hf:ev s f=some (.fn (.func i) [] fc)) (hs:∀S,Sub s S→restrict S live=sl) (hH:Hs s0=H) (hk:∀x,(Hs x).length=K) (hkx:∀x,(Hx x).length=K)
  (hpre:(∀ x b,pre (Hs x++[b]))∧∀ x b,pre (Hx x++[b])) (hc:S5 c H=true)
  (hb:∀c x s o L v,S5 ⟨K+1+L.length,c⟩ (Hs s++.dead::L)=true→grL (K+1) L=true→sh (K+1) L x v→body x s=some o→∀ y0 y1:AO,y0.anc=[]→y1.anc=[]→WP T aq ((p,v)::sl) (Hs s++y0::L) ⟨K+1+L.length,c⟩ (E1i T (Hs s) y0 y1 bd ⟨K+1+L.length,c⟩ (E1j Hs Hx K ex y1 L o)))
  (kont:match o with|.inl s'=>Q .normal s (Hs s'++[.dead])|.inr r=>Q (ex r) s (Hx r++[.dead])):WP T (.rangeFunc f [p] live aq bd) s H c Q:= by
 subst hH
 intro S hS
 let Hm:σ⊕ρ→A1:=fun o=>match o with
  | .inl x=>Hs x++[.loop 0 sl [p] aq bd false none]
  | .inr r=>Hx r++[.loop 0 sl [p] aq bd false (some (ex r))]
 have hN:∀x,(Hm x).length=K+1:= by
  intro x
  cases x with
  | inl x=>simp[Hm,hk]
  | inr x=>simp[Hm,hkx]
 have hap:∀(A:List AO) (b:AO) (L:A1),A++[b]++L=A++b::L:=fun A b L=>by simp
 have gat:∀(A:A1) (b:AO) (L:A1),A.length=K→hget (A++b::L) K=some b:=fun A b L hA=>by
  unfold hget;rw[← hA,List.getElem?_append_right (Zn _),Z2e];rfl
 have sat:∀(A:A1) (b b':AO) (L:A1),A.length=K→hset (A++b::L) K b'=A++b'::L:=fun A b b' L hA=>by
  unfold hset;rw[← hA,Z0i _ _ (Zn _),Z2e];rfl
 have hy:∀{L:A1} {c:Sc} {x:α} {s:σ} {o:σ⊕ρ} {v:AV},S5 c (Hm (.inl s)++L)=true→grL (K+1) L=true→sh (K+1) L x v→body x s=some o→I6 T c (Hm (.inl s)++L) (.fn (.yield K) [] []) [v] [.b o.isLeft] (Hm o++L):= by
  intro L c x s o v hsc hgr hsh hbo
  have hml:∀b,(Hs s++b::L).length=K+1+L.length:=fun b=>by simp[hk];omega
  have hm:Hm (.inl s)++L=Hs s++.loop 0 sl [p] aq bd false none::L:=hap _ _ _
  have hsc2:S5 ⟨K+1+L.length,c.cur::c.outer⟩ (Hs s++.dead::L)=true:= by
   rw[hm]at hsc
   exact A8u (c:=c) hsc (by rw[hml,hml];exact Zn _) (by rw[hml];exact Zn _)
  obtain⟨e1,S1,s1,H1,r1,q1,rfl,L1,rfl,hw⟩:=hb (c.cur::c.outer) x s o L v hsc2 hgr hsh hbo (.loop 0 sl [p] aq bd false none) (.loop 0 sl [p] aq bd true none) Z Z _ (Sub.refl _)
  obtain⟨e2,S2,s2,H2,r2,q2,hb2⟩:=hw S1 q1
  rw[hm]
  have fin:∀(B:A1) (er:Ex),B.length=K→H2.take (K+1+L.length)=B++.loop 0 sl [p] aq bd true none::L→e2=er→I6 T c (Hs s++.loop 0 sl [p] aq bd false none::L) (.fn (.yield K) [] []) [v] [.b (!er.out)] (B++.loop 0 sl [p] aq bd false (match er with|.normal=>none|e=>some e)::L):= by
   intro B er hB tk he
   subst he
   have g2:hget H2 K=some (.loop 0 sl [p] aq bd true none):= by
    have:hget (H2.take (K+1+L.length)) K=hget H2 K:= by unfold hget;exact ZM (by omega)
    rw[← this,tk];exact gat _ _ _ hB
   refine I6.yield (ps:=[p]) (st0:=⟨(p,v)::sl,Hs s++.loop 0 sl [p] aq bd false none::L,⟨K+1+L.length,c.cur::c.outer⟩⟩) (st1:=⟨S1,Hs s++.loop 0 sl [p] aq bd false none::L1,⟨K+1+L.length,c.cur::c.outer⟩⟩)
    (st2:=⟨S2,H2,⟨K+1+L.length,c.cur::c.outer⟩⟩) (e:=e2) Z (gat _ _ _ (hk s)) Z (by rw[hml];rfl) r1 (gat _ _ _ (hk s)) (by rw[sat _ _ _ _ (hk s)]) r2 g2 Z ?_
   rw[hml]
   simp only[trunc,bdL,if_true]
   rw[D0i,tk,sat _ _ _ _ hB]
   cases e2 <;> rfl
  cases o with
  | inl s' =>
   have:=fin (Hs s') .normal (hk s') hb2.2 hb2.1
   have hm2:Hm (.inl s')++L=Hs s'++.loop 0 sl [p] aq bd false none::L:=hap _ _ _
   rw[hm2];exact this
  | inr r =>
   have:=fin (Hx r) (ex r) (hkx r) hb2.2 hb2.1
   have he:(match ex r with|.normal=>none|e=>some e)=some (ex r):= by
    have:=hex r
    cases hq:ex r <;> rw[hq]at this <;> first|rfl|cases this
   rw[he,hex r]at this
   have hm2:Hm (.inr r)++L=Hx r++.loop 0 sl [p] aq bd false (some (ex r))::L:=hap _ _ _
   rw[hm2];exact this
 have hcall:=hit Hm (K+1) hN (by
  intro x
  cases x with
  | inl x=>exact hpre.1 x _
  | inr x=>exact hpre.2 x _) (.fn (.yield K) [] []) (by simp only[AV.bd,bdL,Z2y];exact Zk (by omega)) Z body hy h (c:=c) (by
  have hq:=hN (.inl s0)
  exact C2n hc (by rw[hq,hk];omega))
 have hres:=hs S hS
 have g:∀o:σ⊕ρ,hget (Hm o) K=some (.loop 0 sl [p] aq bd false (C2h ex o)):= by
  intro o
  cases o with
  | inl x=>exact gat _ _ [] (hk x)
  | inr x=>exact gat _ _ [] (hkx x)
 have hr:=G3.rangeFunc (T:=T) (ac:=.rangeFunc f [p] live aq bd) (st:=⟨S,Hs s0,c⟩) (l:=K) (H0:=Hm (.inl s0)) (H':=Hm o) (pend:=C2h ex o) (e:=D8y ex o)
  (st':=⟨S,hset (Hm o) K .dead,c⟩) Z (A09 hS hf) (hk s0).symm (by simp only[hres,Hm]) hcall (g o) (by cases o <;> rfl) Z
 refine⟨_,S,s,_,hr,hS,?_⟩
 cases o with
 | inl x =>
  have:hset (Hm (.inl x)) K .dead=Hs x++[.dead]:=sat _ _ _ [] (hk x)
  show Q .normal s (hset (Hm (.inl x)) K .dead)
  rw[this];exact kont
 | inr r =>
  have:hset (Hm (.inr r)) K .dead=Hx r++[.dead]:=sat _ _ _ [] (hkx r)
  show Q (ex r) s (hset (Hm (.inr r)) K .dead)
  rw[this];exact kont
end
end Am
end
section
set_option maxRecDepth 100000
set_option maxHeartbeats 0
namespace Pw
open Go Am Go.Proofs.Ytjpjdglddmhplaa.Cd
theorem B0q {c:Sc} {H:A1} {a0:pawn_show} {b0:Nat} (hb0:hcells H b0=some [(.seq 8 (Zd B2 a0.PaShow.Gowns)),(.seq 4 (Zd A6 a0.PaShow.Figures)),.i a0.PaShow.Purse,(.seq 2 (Zd B1 a0.PaShow.Incomes)),(.fn (.func 41) [] []),(.fn (.func 42) [] []),(.fn (.func 43) [] []),(.fn (.func 25) [] []),(.fn (.func 44) [] []),(.fn (.func 45) [] []),(.fn (.func 26) [] []),(.fn (.func 46) [] []),(.fn (.func 47) [] []),(.seq 1 (Zd cI a0.days_))]) {a1:(List PaUse)} {v:AV} (hv:SlV H v a1) {a2:Int} {r:Int} (h:P8 a0 a1 a2=some r) :
  E7 tab c H (.fn (.func 29) [] []) [.ptr b0 0,v,.i a2] [.i r]:= by
 unfold P8 at h
 refine cE Z Z<|s0<|qm Z<|es (ra3 Z Z Z)<|s0<|qm Z<|A0 (L3 Z Z) Z<|A0 (C1 Z) Z<|A0 (C1 Z) Z<|A0 (F1 (x:=(.i a0.PaShow.Purse)) Z hb0 Z) Z<|qm Z<|es (ra4 Z Z Z Z)<|C4<|s0<|qm Z<|A0 (L3 Z Z) Z<|A0 (C1 Z) Z<|A0 (C1 Z) Z<|A0 (F1 (x:=(.seq 2 (Zd B1 a0.PaShow.Incomes))) Z hb0 Z) Z<|A0 (I0 (f:=B1) Z) Z<|qm Z<|es (ra7 Z Z Z Z Z Z Z)<|C8<|oB h fun o6 ho6 h=>wl (fun s1=>[(0,.ptr b0 0),(1,v),(2,.i a2),(7,.i s1.1),(23,(.seq 2 (Zd B1 a0.PaShow.Incomes))),(24,(.i (Zh a0.PaShow.Incomes:Int))),(25,.i s1.2)]) (fun (q2:Unit) s1=>[]) 0 (fun r e s' H'=>PX 0 [(0,.ptr b0 0),(1,v),(2,.i a2),(7,.i r)] (H++[]) e s' H') () ho6 Z Z (fun _ _=>rfl) (fun _=>rfl) Z (fun s1=>(bdc (A48 hb0) (bdc hv.bd (bdc A5 (bdc A5 (bdc N7 (bdc A5 (bdc A5 bdn)))))))) (fun q2 s1 ys1 hs1=>?_) ?_
 ·unfold Q4 at hs1
  refine s0<|A0 (L5 Z Z) Z<|es (ra8 Z Z Z Z Z Z Z Z)<|C4<|wi hs1 Z (fun hc3 hs1=>?_) fun hc3 hs1=>?_
  ·refine C6<|C4<|C8<|sg 0 Z<|oB hs1 fun x4 hx4 hs1=>A0 (H7 (f:=B1) Z Z hx4) Z<|A0 (I1 Z Z) Z<|A0 H8 Z<|K6 (D4 (ds:=(B1 x4)) Z Z Z Z (E0 Z) Z) Z<|es (ra8 Z Z Z Z Z Z Z Z)<|s0<|A0 (C1 Z) Z<|A0 (B5 Z Z Z) Z<|qm Z<|A0 (A4f Z Z) Z<|es (ra9 Z Z Z Z Z Z Z Z Z)<|wi hs1 Z (fun hc5 hs1=>?_) fun hc5 hs1=>?_
   ·refine r0<|qm Z<|A0 (C1 Z) Z<|A0 (B5 Z Z Z) Z<|A0 (G1 Z Z) Z<|qm Z<|en (ra7 Z Z Z Z Z Z Z)<|r0<|A0 (G1 Z Z) Z<|qm Z<|en (ra7 Z Z Z Z Z Z Z) ?_
    cases hs1
    exact lnT () Z (su7 Z Z Z Z Z Z Z)
   ·refine C6<|r0<|A0 (G1 Z Z) Z<|qm Z<|en (ra7 Z Z Z Z Z Z Z) ?_
    cases hs1
    exact lnT () Z (su7 Z Z Z Z Z Z Z)
  ·refine J1 ?_
   obtain rfl:=os hs1
   exact lx Z px (su4 Z Z Z Z)
 ·rintro e s' H'-⟨rfl,rfl,rfl⟩
  refine C4<|s0<|qm Z<|A0 (B3l hv Z) Z<|qm Z<|es (ra6 Z Z Z Z Z Z)<|C8<|oB h fun o13 ho13 h=>wl (fun s7=>[(0,.ptr b0 0),(2,.i a2),(7,.i s7.1),(38,v),(39,(.i (Zh a1:Int))),(40,.i s7.2)]) (fun (q8:Unit) s7=>[]) 0 (fun r e s' H'=>PX 2 [(7,.i r)] (H++[]) e s' H') () ho13 Z Z (fun _ _=>rfl) (fun _=>rfl) Z (fun s7=>(bdc (A48 hb0) (bdc A5 (bdc A5 (bdc hv.bd (bdc A5 (bdc A5 bdn))))))) (fun q8 s7 ys7 hs7=>?_) ?_
  ·unfold Q5 at hs7
   refine s0<|A0 (L5 Z Z) Z<|es (ra7 Z Z Z Z Z Z Z)<|C4<|wi hs7 Z (fun hc9 hs7=>?_) fun hc9 hs7=>?_
   ·refine C6<|C4<|C8<|sg 0 Z<|oB hs7 fun x10 hx10 hs7=>qm Z<|A0 (B3j hv hx10 Z Z) Z<|A0 (B5w hv hx10 Z) Z<|A0 H8 Z<|qm Z<|K6 (D4 (ds:=(B3 x10)) Z Z Z Z (E0 Z) Z) Z<|es (ra8 Z Z Z Z Z Z Z Z)<|s0<|oB hs7 fun x11 hx11 hs7=>qm Z<|qm Z<|A0 (E8 Z Z Z) Z<|C3 (rs:=[.i x11.1,.i x11.2]) Z Z (A3 Z (A3 Z (A3 (E1 Z) C2))) ((U3 (D5 hb0 _) hx11).frz)<|qm Z<|A0 (B4 Z Z) Z<|A0 (B4 Z Z) Z<|qm Z<|qm Z<|es (ra8 Z Z Z Z Z Z Z Z)<|s0<|qm Z<|qm Z<|A0 (A4f Z Z) Z<|es (ra8 Z Z Z Z Z Z Z Z)<|wi hs7 Z (fun hc12 hs7=>?_) fun hc12 hs7=>?_
    ·refine r0<|qm Z<|qm Z<|A0 (A0s Z Z) Z<|qm Z<|en (ra6 Z Z Z Z Z Z)<|r0<|A0 (G1 Z Z) Z<|qm Z<|en (ra6 Z Z Z Z Z Z) ?_
     cases hs7
     exact lnT () Z (su6 Z Z Z Z Z Z)
    ·refine C6<|r0<|A0 (G1 Z Z) Z<|qm Z<|en (ra6 Z Z Z Z Z Z) ?_
     cases hs7
     exact lnT () Z (su6 Z Z Z Z Z Z)
   ·refine J1 ?_
    obtain rfl:=os hs7
    exact lx Z px (su1 Z)
  ·rintro e s' H'-⟨rfl,rfl,rfl⟩
   refine s0<|qm Z<|qm Z<|es (ra1 Z)<|C7 ?_
   obtain rfl:=os h
   exact retq trivial (A7 Z C0) (A4 Z B9) (A2 A5 A8)
theorem A9p {c:Sc} {H:A1} {a0:pawn_show} {b0:Nat} (hb0:hcells H b0=some [(.seq 8 (Zd B2 a0.PaShow.Gowns)),(.seq 4 (Zd A6 a0.PaShow.Figures)),.i a0.PaShow.Purse,(.seq 2 (Zd B1 a0.PaShow.Incomes)),(.fn (.func 41) [] []),(.fn (.func 42) [] []),(.fn (.func 43) [] []),(.fn (.func 25) [] []),(.fn (.func 44) [] []),(.fn (.func 45) [] []),(.fn (.func 26) [] []),(.fn (.func 46) [] []),(.fn (.func 47) [] []),(.seq 1 (Zd cI a0.days_))]) {a1:(List PaUse)} {v:AV} (hv:SlV H v a1) {r:(Int×Int)} (h:O5 a0 a1=some r) :
  E7 tab c H (.fn (.func 56) [] []) [.ptr b0 0,v] [.i r.1,.i r.2]:= by
 unfold O5 at h
 refine cE Z Z<|s0<|qm Z<|qm Z<|es (ra3 Z Z Z)<|s0<|qm Z<|es (ra4 Z Z Z Z)<|C4<|s0<|qm Z<|A0 (B3l hv Z) Z<|qm Z<|es (ra7 Z Z Z Z Z Z Z)<|C8<|oB h fun o8 ho8 h=>wl (fun s1=>[(0,.ptr b0 0),(1,v),(4,.i s1.1),(5,.i s1.2.1),(11,v),(12,(.i (Zh a1:Int))),(13,.i s1.2.2)]) (fun (q2:Unit) s1=>[]) 0 (fun r e s' H'=>PX 0 [(4,.i r.1),(5,.i r.2)] (H++[]) e s' H') () ho8 Z Z (fun _ _=>rfl) (fun _=>rfl) Z (fun s1=>(bdc (A48 hb0) (bdc hv.bd (bdc A5 (bdc A5 (bdc hv.bd (bdc A5 (bdc A5 bdn)))))))) (fun q2 s1 ys1 hs1=>?_) ?_
 ·unfold O9 at hs1
  refine s0<|A0 (L5 Z Z) Z<|es (ra8 Z Z Z Z Z Z Z Z)<|C4<|wi hs1 Z (fun hc3 hs1=>?_) fun hc3 hs1=>?_
  ·refine C6<|C4<|C8<|sg 0 Z<|oB hs1 fun x4 hx4 hs1=>qm Z<|A0 (B3j hv hx4 Z Z) Z<|A0 (B5w hv hx4 Z) Z<|A0 H8 Z<|qm Z<|K6 (D4 (ds:=(B3 x4)) Z Z Z Z (E0 Z) Z) Z<|es (ra9 Z Z Z Z Z Z Z Z Z)<|s0<|oB hs1 fun x5 hx5 hs1=>qm Z<|qm Z<|A0 (E8 Z Z Z) Z<|C3 (rs:=[.i x5.1,.i x5.2]) Z Z (A3 Z (A3 Z (A3 (E1 Z) C2))) ((U3 (D5 hb0 _) hx5).frz)<|qm Z<|A0 (B4 Z Z) Z<|A0 (B4 Z Z) Z<|qm Z<|qm Z<|es (ra8 Z Z Z Z Z Z Z Z)<|s0<|oB hs1 fun x6 hx6 hs1=>qm Z<|qm Z<|qm Z<|N9 (V1 (rs:=[.i x6]) Z Z ((B0q (D5 hb0 _) hv.app hx6).frz)) Z<|qm Z<|es (ra9 Z Z Z Z Z Z Z Z Z)<|s0<|qm Z<|A0 (L5 Z Z) Z<|es (ra10 Z Z Z Z Z Z Z Z Z Z)<|wi hs1 Z (fun hc7 hs1=>?_) fun hc7 hs1=>?_
   ·refine r0<|qm Z<|qm Z<|A0 (C4c Z Z) Z<|A0 (C18 Z Z) Z<|qm Z<|qm Z<|A0 (C18 Z Z) Z<|qm Z<|qm Z<|en (ra7 Z Z Z Z Z Z Z)<|r0<|A0 (G1 Z Z) Z<|qm Z<|en (ra7 Z Z Z Z Z Z Z) ?_
    cases hs1
    exact lnT () Z (su7 Z Z Z Z Z Z Z)
   ·refine C6<|r0<|A0 (G1 Z Z) Z<|qm Z<|en (ra7 Z Z Z Z Z Z Z) ?_
    cases hs1
    exact lnT () Z (su7 Z Z Z Z Z Z Z)
  ·refine J1 ?_
   obtain rfl:=os hs1
   exact lx Z px (su2 Z Z)
 ·rintro e s' H'-⟨rfl,rfl,rfl⟩
  refine s0<|qm Z<|qm Z<|qm Z<|qm Z<|es (ra2 Z Z)<|C7 ?_
  obtain rfl:=os h
  exact retq trivial (A7 Z (A7 Z C0)) (A4 Z (A4 Z B9)) (A2 A5 (A2 A5 A8))
structure Fd where
 w:Int
 c:Int
 h:Ar3 Int
def A86 (t:PaShow) (days:List Int) (p:List PaUse) (x:Fd×Int):Option ((Fd×Int)⊕Fd) :=
 if (decide (x.2<(Zh p:Int)))=true then
  (idx p x.2).bind fun u=>(T3 (shw t days) x.2 u).bind fun y=>(idx x.1.h.l x.2).bind fun _=>(Y3).bind fun bb =>
  if ((u.Gown==bb.Gown)&&((u.How==bb.How)&&((u.Day==bb.Day)&&true)))=true then
   some (.inl (⟨w64 (x.1.w+1),w64 (x.1.c+y.1),x.1.h.set x.2 (w64 (u.Gown+1))⟩,w64 (x.2+1)))
  else some (.inl (⟨x.1.w,w64 (x.1.c+y.1),x.1.h.set x.2 (w64 (u.Gown+1))⟩,w64 (x.2+1)))
 else some (.inr x.1)
def B1g (t:PaShow) (days:List Int) (p:List PaUse):Option pawn_found :=
 (B7d 24 (Zh p:Int) (PaUse.mk 0 0 0)).bind fun _ =>
 (loop (A86 t days p) (⟨0,0,⟨0,0,0⟩⟩,0)).bind fun x =>
 (O5 (shw t days) p).bind fun y=>some ⟨p,x.w,x.c,y.1,x.h⟩
def B55 (t:PaShow) (days:List Int) (σ ρ:Type) (body:pawn_found→σ→Option (σ⊕ρ)) (s:σ):Option (σ⊕ρ) :=
 A9k t days σ ρ (fun p s=>(B1g t days p).bind fun x=>body x s) s
def shF (_:Nat) (_:A1) (x:pawn_found) (v:AV):Prop:=v=.agg (B8 x)
theorem D6g {α:Type} {d m:List α} (h:d.length=m.length):cpy d m=m:= by
 unfold cpy;rw[h,Z5k,Z1f,Z2b (by omega),ZZ]
theorem D7q {H:A1} {b:Nat} {p:Bool} {l:List PaUse} (h:harr H b=some (3,p,l.map B3)):rd H (.asl b l.length) 3 (l.map B3):=⟨by simp only[W2,h,Zi,Z0x,if_true],by simp only[kOf,h]⟩
def fnC (q:AV) (x:Fd) (s:Int):List AV:=[q,.i x.w,.i x.c,.i s,.i x.h.x0,.i x.h.x1,.i x.h.x2]
section
variable {σ ρ:Type} {t:PaShow} {days:List Int} {b bS:Nat}
theorem D0t {G:A1} {c:Sc} {v:AV} {bY:Nat} {y:AV} {p:List PaUse} {x:pawn_found} {ok:Bool} {GE:A1} (hv:∃bp pb,v=.asl bp p.length∧harr G bp=some (3,pb,p.map B3)) (h1:hcells G bS=some [.ptr b 0]) (h2:hcells G b=some (A2h t days)) (hY:hcells G bY=some [y]) (hc:c.cur≤G.length)
  (hx:B1g t days p=some x) (hcall:∀(c':Sc) (l:List AO),(∀ o∈l,o.anc=[])→S5 c (G++l)=true→c'=c→I6 tab c' (G++l) y [.agg (B8 x)] [.b ok] (GE++l)) (hsc:S5 c G=true) :
  WP tab (.block 1 (.s 3 [M 0 12 3,LE 1 13 12,q 2 14 (.mkslice 3 24 [.lit (.int .i64 0),.lit (.int .i64 0),.lit (.int .i64 0)] 13 13 0),q 3 15 (.build [.seq 3 [],.lit (.int .i64 0),.lit (.int .i64 0),.lit (.int .i64 0),.lit (.int .i64 0),.lit (.int .i64 0),.lit (.int .i64 0)] [(0,1,14)]),q 4 4 (.alloc [.nils 3,.lit (.int .i64 0),.lit (.int .i64 0),.lit (.int .i64 0),.lit (.int .i64 0),.lit (.int .i64 0),.lit (.int .i64 0)] [(0,1,3)] 2),ST 5 7 4 15] [1,2,3,4] (.s 0 [FA 0 16 0 4,L 1 17 16,M 2 18 3,q 3 19 (.copy 3 17 18)] [1,2,3,4] (.seq (.s 0 [M 0 20 3,LE 1 21 20,M 2 22 (.i 0)] [1,2,3,4,20,21,22] (.block 2 (.loop true [1,2,3,4,20,21,22] (.s 0 [B 0 23 .lss 22 21] [1,2,3,4,20,21,22,23] (.seq (.cond 23 .skip (.exit 2)) (.seq (.block 3 (.s 1 [M 0 24 22,IX 1 25 3 20 22,LK 2 26 3 25,q 3 6 (.alloc [.lit (.int .i64 0),.lit (.int .i64 0),.lit (.int .i64 0)] [] 0),M 4 5 24,ST 5 3 6 26] [1,2,3,4,5,6,20,21,22] (.s 0 [L 0 28 1,M 1 29 5,LK 2 30 3 6,CL 3 31 54 [28,29,30],M 4 27 31,EX 5 32 27 0,EX 6 33 27 1,M 7 7 32,M 8 8 33] [1,2,3,4,5,6,7,20,21,22] (.s 0 [FA 0 34 2 4,L 1 35 34,M 2 36 7,B 3 37 .add 35 36,FA 4 38 2 4,ST 5 1 38 37] [1,2,3,4,5,6,20,21,22] (.s 0 [M 0 39 5,FA 1 40 0 6,L 2 41 40,B 3 42 .add 41 (.i 1),FA 4 43 4 4,q 5 44 (.idxA 1 3 43 39),ST 6 1 44 42] [1,2,3,4,6,20,21,22] (.sd 0 [LK 0 45 3 6,CP 1 46 52 [],q 2 47 (.cmp false [0,0,0] 45 46)]
 [1,2,3,4,20,21,22,47] (.cond 47 (.g 0 [FA 0 48 1 4,L 1 49 48,B 2 50 .add 49 (.i 1),FA 3 51 1 4,ST 4 1 51 50] [1,2,3,4,20,21,22]) .skip))))))) (.g 0 [B 0 52 .add 22 (.i 1),M 1 22 52] [1,2,3,4,20,21,22]))))))) (.s 0 [L 0 54 1,M 1 55 3,q 2 56 (.call (.f 56) [54,55] [[],[],[],[],[],[],[],[],[]] false),M 3 53 56,EX 4 57 53 0,EX 5 58 53 1,FA 6 59 3 4,ST 7 1 59 57] [2,4] (.s 0 [L 0 60 2,LK 1 61 7 4,q 2 62 (.call 60 [61] [] false),q 3 63 (.un .not 62)] [63] (.cond 63 .ret .skip)))))))
   [(1,.ptr bS 0),(2,.ptr bY 0),(3,v)] G c (fun e _ H'=>e=(if ok then .normal else .ret)∧∃ l,H'=GE++l):= by
 obtain⟨bp,pb,rfl,hbp⟩:=hv
 have hGv:SlV G (.asl bp p.length) p:=.asl bp pb p hbp
 unfold B1g at hx
 refine oB hx fun p0 hp0 hx=>oB hx fun z hz hx=>oB hx fun sh hsh hx=>?_
 obtain rfl:=os hx
 have hlp:p0.length=p.length:= by obtain⟨_,rfl⟩:=C0l hp0;simp
 have hcp:=D6g hlp
 refine U7<|C8<|sg 0 Z<|qm Z<|A0 (B3l hGv Z) Z<|A0 (C0o (f:=B3) (zt:=PaUse.mk 0 0 0) Z Z Z hp0) Z<|A0 (R5 (cs:=[.asl (G.length+0) p0.length,.i 0,.i 0,.i 0,.i 0,.i 0,.i 0]) Z Z) Z<|A0 B7i Z<|K6 (D4 (ds:=fnC (.asl (G.length+0) p0.length) ⟨0,0,⟨0,0,0⟩⟩ 0) Z Z Z Z (M2 (Nat.le_trans hc (Zx _ _))) Z) Z<|es (ra4 Z Z Z Z)<|s0<|A0 (C1 Z) Z<|A0 (B5 (x:=.asl (G.length+0) p0.length) Z Z Z) Z<|qm Z<|N9 (D4w (f:=B3) (d:=p0) (m:=p) Z Z Z Z (D7q (Z5 hbp)) (fun _=>rfl)) Z ?_
 rw[hcp]
 refine es (ra4 Z Z Z Z)<|C4<|s0<|qm Z<|A0 (B3l hGv Z) Z<|qm Z<|es (ra7 Z Z Z Z Z Z Z)<|C8<|wl (fun x=>[(1,.ptr bS 0),(2,.ptr bY 0),(3,.asl bp p.length),(4,.ptr (G.length+2) 0),(20,.asl bp p.length),(21,.i p.length),(22,.i x.2)]) (fun (_:Unit) x=>[.arr 3 false (p.map B3),.arr 3 false [],.cells (fnC (.asl (G.length+0) p0.length) x.1 0)]) 3 (fun r e s' H'=>PX 2 [(1,.ptr bS 0),(2,.ptr bY 0),(3,.asl bp p.length),(4,.ptr (G.length+2) 0)] (G++[.arr 3 false (p.map B3),.arr 3 false [],.cells (fnC (.asl (G.length+0) p0.length) r 0)]) e s' H') () hz Z Z (fun _ _=>rfl) (fun _=>rfl) Z (fun _=>bdc (A48 h1) (bdc (A48 hY) (bdc hGv.bd (bdc (N6 Z) (bdc hGv.bd (bdc A5 (bdc A5 bdn))))))) (fun _ x o hs=>?_) ?_
 ·obtain⟨⟨w,cc,hd⟩,i⟩:=x
  unfold A86 at hs
  refine s0<|A0 (L5 Z Z) Z<|es (ra8 Z Z Z Z Z Z Z Z)<|C4<|wi hs Z (fun hc1 hs=>?_) fun hc1 hs=>?_
  ·refine oB hs fun u hu hs=>oB hs fun pd hpd hs=>oB hs fun ow how hs=>oB hs fun bb hbb hs=>?_
   refine C6<|C4<|C8<|sg 3 Z<|qm Z<|A0 (B3j hGv hu Z Z) Z<|A0 (B5w hGv hu Z) Z<|A0 H8 Z<|qm Z<|K6 (D4 (ds:=B3 u) Z Z Z Z (E0 Z) Z) Z<|es (ra9 Z Z Z Z Z Z Z Z Z)<|s0<|A0 (F1 Z h1 Z) Z<|qm Z<|A0 (E8 Z Z Z) Z<|C3 (rs:=[.i pd.1,.i pd.2]) Z Z (A3 Z (A3 Z (A3 (E1 Z) C2))) ((U3 (a0:=shw t days) (D5 h2 _) hpd).frz)<|qm Z<|A0 (B4 Z Z) Z<|A0 (B4 Z Z) Z<|qm Z<|qm Z<|es (ra10 Z Z Z Z Z Z Z Z Z Z)<|s0<|A0 (C1 Z) Z<|A0 (B5 (x:=.i cc) Z Z Z) Z<|qm Z<|A0 (G1 Z Z) Z<|A0 (C1 Z) Z<|K6 (D4 (ds:=fnC (.asl (G.length+0) p0.length) ⟨w,w64 (cc+pd.1),hd⟩ 0) Z Z Z Z (E0 Z) Z) Z<|es (ra9 Z Z Z Z Z Z Z Z Z)<|s0<|qm Z<|A0 (C1 Z) Z<|A0 (B5 (x:=.i u.Gown) Z Z Z) Z<|A0 (G1 Z Z) Z<|A0 (C1 Z) Z<|A0 (D2m (e:=Ar3.l hd) Z Z Z how) Z<|K6 (D2t (f:=cI) (e:=Ar3.l hd) (e2:=Ar3.l (hd.set i (w64 (u.Gown+1)))) (z:=w64 (u.Gown+1)) (ds:=fnC (.asl (G.length+0) p0.length) ⟨w,w64 (cc+pd.1),hd.set i (w64 (u.Gown+1))⟩ 0) Z Z Z Z Z Z (fun _=>rfl) how (Ar3.set_l how) Z (E0 Z)) Z<|es (ra8 Z Z Z Z Z Z Z Z)<|s0<|A0 (E8 Z Z Z) Z<|Z8 (rs:=[(.agg (B3 bb))]) Z Z A4v C2 ((A3z hbb).frz)<|A0 (C6d (a:=B3 u) (b:=B3 bb) Z Z Z Z (V7 (V7 (V7 B1c)))) Z<|es (ra8 Z Z Z Z Z Z Z Z)<|wi hs Z (fun hc2 hs=>?_) fun hc2 hs=>?_
   ·refine r0<|A0 (C1 Z) Z<|A0 (B5 (x:=.i w) Z Z Z) Z<|A0 (G1 Z Z) Z<|A0 (C1 Z) Z<|K6 (D4 (ds:=fnC (.asl (G.length+0) p0.length) ⟨w64 (w+1),w64 (cc+pd.1),hd.set i (w64 (u.Gown+1))⟩ 0) Z Z Z Z (E0 Z) Z) Z<|en (ra7 Z Z Z Z Z Z Z)<|r0<|A0 (G1 Z Z) Z<|qm Z<|en (ra7 Z Z Z Z Z Z Z) ?_
    cases hs
    exact lnT () Z (su7 Z Z Z Z Z Z Z)
   ·refine C6<|r0<|A0 (G1 Z Z) Z<|qm Z<|en (ra7 Z Z Z Z Z Z Z) ?_
    cases hs
    exact lnT () Z (su7 Z Z Z Z Z Z Z)
  ·refine J1 ?_
   obtain rfl:=os hs
   exact lx Z px (su4 Z Z Z Z)
 ·rintro e s' H'-⟨rfl,rfl,rfl⟩
  have hcl:=hcall c [.arr 3 true (p.map B3),.arr 3 false [],.cells (fnC (.asl (G.length+0) p0.length) z sh.1)] (by intro o ho;simp at ho;rcases ho with rfl|rfl|rfl <;> rfl) (C2n hsc (by simp)) Z
  refine s0<|A0 (F1 Z h1 Z) Z<|qm Z<|N9 (V1 (rs:=[.i sh.1,.i sh.2]) Z Z ((A9p (a0:=shw t days) (D5 h2 _) hGv.app hsh).frz)) Z<|qm Z<|A0 (B4 Z Z) Z<|A0 (B4 Z Z) Z<|A0 (C1 Z) Z<|K6 (D4 (ds:=fnC (.asl (G.length+0) p0.length) z sh.1) Z Z Z Z (E0 Z) Z) Z<|es (ra2 Z Z)<|s0<|A0 (F1 Z hY Z) Z<|A0 (J2 (ds:=fnC (.asl (G.length+0) p0.length) z sh.1) Z Z Z Z) Z<|N9 (Q3 (rs:=[.b ok]) Z Z (A3 (B5k (R4 (C1t Z (by rw[Zi];exact hlp.symm)) (R4 Z (R4 Z (R4 Z (R4 Z (R4 Z (R4 Z C1p)))))))) C2) hcl Z) Z<|A0 (C4c Z Z) Z<|es (ra1 Z) ?_
  cases ok with
  | true=>exact Q6 Z Z<|C6 ⟨Z,_,Z⟩
  | false=>exact O1 Z Z<|C7 ⟨Z,_,Z⟩
end
theorem D38 {N:Nat} {l:A1} (h:∀o∈l,o.anc=[]):grL N l=true:= by
 unfold grL
 rw[Zq]
 intro o ho
 rw[h o ho];rfl
def B3x (t:PaShow) (days:List Int) (bS b:Nat) (H:A1):Prop:=hcells H bS=some [.ptr b 0]∧hcells H b=some (A2h t days)
theorem B3x.app {t:PaShow} {days:List Int} {bS b:Nat} {H L:A1} (h:B3x t days bS b H):B3x t days bS b (H++L):=⟨D5 h.1 _,D5 h.2 _⟩
theorem D0u {t:PaShow} {days:List Int} {bS b:Nat}:B52 tab 62 [.ptr bS 0] shF (B3x t days bS b) (B55 t days):= by
 intro σ ρ Hm N hN hpre y hyb hyc body hy a0 o ho c hc
 unfold B55 at ho
 have h1:∀x,hcells (Hm x) bS=some [.ptr b 0]:=fun x=>(hpre x).1
 have ht:∀x,hcells (Hm x) b=some (A2h t days):=fun x=>(hpre x).2
 have e:=hN (.inl a0)
 have q0:∀z L,hcells (Hm z++(AO.cells [y]::L)) (N+0)=some [y]:=fun z L=>by rw[← hN z];exact D7 Z
 have q1:∀z L,hcells (Hm z++(AO.cells [y]::.cells [.ptr b 0]::L)) (N+1)=some [.ptr b 0]:=fun z L=>by rw[← hN z];exact D7 Z
 have htk:∀z L,(Hm z++L).take N=Hm z:=fun z L=>by rw[← hN z];exact Z07
 have hl2:∀z,(Hm z++[AO.cells [y],.cells [.ptr b 0]]).length=N+2:=fun z=>by rw[Zp,hN];rfl
 have key:WP tab c62 [(0,y),(1,.ptr bS 0)] (Hm (.inl a0)++[]) ⟨(Hm (.inl a0)).length,c.cur::c.outer⟩ (A7t (Hm (.inl a0)) (Hm o) [] []):= by
  refine sg 0 Z<|A0 (F6 Z hyc Z) Z<|es (ra2 Z Z)<|s0<|A0 (F1 Z (h1 _) Z) Z<|A4a (as2:=[.ptr b 0]) (H1:=Hm (.inl a0)++[.cells [y]]) Z Z (A3 Z C2) Z Z Z (A9c Z)<|sg 1 Z<|A0 (F6 (cs:=[.ptr b 0]) Z Z Z) Z<|qm Z<|es (ra1 Z)<|s0<|A0 (A2q Z Z) Z<|qm Z<|es (ra1 Z)<|C7<|InlQ.mk trivial ⟨_,_,_,[(.fn (.func 77) [] [(.ptr ((Hm (.inl a0)).length+1) 0)])],_,(A7 Z C0),(A4 Z B9),(A9a (U1 (B2t (U1 (A49 Z)))) (A89 Z B23)),?_⟩
  refine es (ra3 Z Z Z)<|C8 ?_
  refine B2m (it:=A9k t days) (sh:=shP) (pre:=B3x t days ((Hm (.inl a0)).length+1) b) (D3c (t:=t) (days:=days) (bS:=(Hm (.inl a0)).length+1) (b:=b)) (K:=N+2) [(1,.ptr bS 0),(2,.ptr ((Hm (.inl a0)).length+0) 0)] (fun z=>Hm (.inl z)++[.cells [y],.cells [.ptr b 0]]) (fun r=>Hm (.inr r)++[.cells [y],.cells [.ptr b 0]]) (fun _=>.ret) ho (fun _=>rfl) Z (fun S hS=>O0 (live:=[1,2]) Z (by decide) (Sub.trans (su2 Z Z) hS)) Z (fun x=>hl2 _) (fun x=>hl2 _) ?_ ?_ ?_ ?_
  ·rw[e]
   exact⟨fun x z=>⟨D5 (q1 _ _) _,D5 (D5 (ht _) _) _⟩,fun x z=>⟨D5 (q1 _ _) _,D5 (D5 (ht _) _) _⟩⟩
  ·exact A8u hc (by simp) (by simp)
  ·intro c' p s o' L v hsc hgr hv hbo y0 y1 hy0 hy1
   obtain⟨j,rfl,hj⟩:=hv
   refine oB hbo fun x hx hbo=>?_
   have hGl:(Hm (.inl s)++[AO.cells [y],.cells [.ptr b 0]]++y1::L).length=N+2+1+L.length:= by rw[Zp,hl2];simp;omega
   have e4:∀z (l:List AO),Hm z++[AO.cells [y],.cells [.ptr b 0]]++y1::L++l=Hm z++(AO.cells [y]::.cells [.ptr b 0]::y1::(L++l)):=fun z l=>by simp
   refine r0<|qm Z<|en (ra3 Z Z Z) ⟨Z,L,Z,?_⟩
   have hharr:harr (Hm (.inl s)++[AO.cells [y],.cells [.ptr b 0]]++y1::L) (N+2+1+j)=some (3,false,p.map B3):= by
    have h3:(Hm (.inl s)++[AO.cells [y],.cells [.ptr b 0]]++[y1]).length=N+2+1:= by rw[Zp,hl2];rfl
    rw[show Hm (.inl s)++[AO.cells [y],.cells [.ptr b 0]]++y1::L=(Hm (.inl s)++[AO.cells [y],.cells [.ptr b 0]]++[y1])++L by simp,← h3]
    exact N2 hj
   refine A0r (D0t (t:=t) (days:=days) (x:=x) (ok:=o'.isLeft) (GE:=Hm o'++[AO.cells [y],.cells [.ptr b 0]]++y1::L) (y:=y) ⟨_,_,Z,hharr⟩ (D5 (D5 (h1 _) _) _) (D5 (D5 (ht _) _) _) (by rw[e];exact D5 (q0 _ _) _) (by rw[hGl];exact Zn _) hx (fun c2 l hl hs2 hc2=>?_) (C2n hsc (by rw[hGl];simp[hN];omega))) ?_
   ·have hsc3:S5 c2 (Hm (.inl s)++(AO.cells [y]::.cells [.ptr b 0]::y1::(L++l)))=true:= by rw[hc2,← e4];exact hs2
    rw[e4,e4]
    exact hy hsc3 (A55 Z (A55 Z (A55 hy1 (B5r (C3s (by omega) hgr) (D38 hl))))) Z hbo
   ·rintro e1 s1 H1 ⟨he,l,rfl⟩
    have htk2:∀z,(Hm z++[AO.cells [y],.cells [.ptr b 0]]++y1::L++l).take (N+2+1+L.length)=Hm z++[AO.cells [y],.cells [.ptr b 0]]++y1::L:=fun z=>by
     have:(Hm z++[AO.cells [y],.cells [.ptr b 0]]++y1::L).length=N+2+1+L.length:= by rw[Zp,hl2];simp;omega
     rw[← this];exact Z07
    cases o' with
    | inl s'=>exact⟨he,htk2 _⟩
    | inr r=>exact⟨he,htk2 _⟩
  ·rw[e]
   cases o with
   | inl s' =>
    show A7t _ _ _ _ .normal _ _
    refine B79 trivial Z Z Z ?_
    rw[Zz,e];exact htk _ _
   | inr r =>
    show A7t _ _ _ _ .ret _ _
    refine B79 trivial Z Z Z ?_
    rw[Zz,e];exact htk _ _
 rw[ZZ]at key
 exact Z3 (aq:=[y,.ptr bS 0]) Z Z Z key
def B4r (t:PaShow) (days:List Int) (σ ρ:Type) (body:pawn_found→σ→Option (σ⊕ρ)) (s:σ):Option (σ⊕ρ) :=
 B55 t days σ ρ (fun x s=>if (decide (x.short_>0))=true then some (.inl s) else body x s) s
theorem C6j {t:PaShow} {days:List Int} {bS b:Nat}:B52 tab 55 [.ptr bS 0] shF (B3x t days bS b) (B4r t days):= by
 intro σ ρ Hm N hN hpre y hyb hyc body hy a0 o ho c hc
 unfold B4r at ho
 have h1:∀x,hcells (Hm x) bS=some [.ptr b 0]:=fun x=>(hpre x).1
 have ht:∀x,hcells (Hm x) b=some (A2h t days):=fun x=>(hpre x).2
 have e:=hN (.inl a0)
 have q0:∀z L,hcells (Hm z++(AO.cells [y]::L)) (N+0)=some [y]:=fun z L=>by rw[← hN z];exact D7 Z
 have q1:∀z L,hcells (Hm z++(AO.cells [y]::.cells [.ptr b 0]::L)) (N+1)=some [.ptr b 0]:=fun z L=>by rw[← hN z];exact D7 Z
 have htk:∀z L,(Hm z++L).take N=Hm z:=fun z L=>by rw[← hN z];exact Z07
 have hl2:∀z,(Hm z++[AO.cells [y],.cells [.ptr b 0]]).length=N+2:=fun z=>by rw[Zp,hN];rfl
 have key:WP tab c55 [(0,y),(1,.ptr bS 0)] (Hm (.inl a0)++[]) ⟨(Hm (.inl a0)).length,c.cur::c.outer⟩ (A7t (Hm (.inl a0)) (Hm o) [] []):= by
  refine sg 0 Z<|A0 (F6 Z hyc Z) Z<|es (ra2 Z Z)<|C8u<|C4<|C6<|s0<|A0 (F1 Z (h1 _) Z) Z<|A4a (as2:=[.ptr b 0]) (H1:=Hm (.inl a0)++[.cells [y]]) Z Z (A3 Z C2) Z Z Z (A9c Z)<|sg 1 Z<|A0 (F6 (cs:=[.ptr b 0]) Z Z Z) Z<|qm Z<|es (ra1 Z)<|s0<|A0 (A2q Z Z) Z<|qm Z<|es (ra1 Z)<|C7<|InlQ.mk trivial ⟨_,_,_,[(.fn (.func 62) [] [(.ptr ((Hm (.inl a0)).length+1) 0)])],_,(A7 Z C0),(A4 Z B9),(A9a (U1 (B2t (U1 (A49 Z)))) (A89 Z B23)),?_⟩
  refine es (ra2 Z Z)<|C8 ?_
  refine B2m (it:=B55 t days) (sh:=shF) (pre:=B3x t days ((Hm (.inl a0)).length+1) b) (D0u (t:=t) (days:=days) (bS:=(Hm (.inl a0)).length+1) (b:=b)) (K:=N+2) [(2,.ptr ((Hm (.inl a0)).length+0) 0)] (fun z=>Hm (.inl z)++[.cells [y],.cells [.ptr b 0]]) (fun r=>Hm (.inr r)++[.cells [y],.cells [.ptr b 0]]) (fun _=>.ret) ho (fun _=>rfl) Z (fun S hS=>O0 (live:=[2]) Z (by decide) (Sub.trans (su1 Z) hS)) Z (fun x=>hl2 _) (fun x=>hl2 _) ?_ ?_ ?_ ?_
  ·rw[e]
   exact⟨fun x z=>⟨D5 (q1 _ _) _,D5 (D5 (ht _) _) _⟩,fun x z=>⟨D5 (q1 _ _) _,D5 (D5 (ht _) _) _⟩⟩
  ·exact A8u hc (by simp) (by simp)
  ·intro c' x s o' L v hsc hgr hv hbo y0 y1 hy0 hy1
   obtain rfl:v=.agg (B8 x):=hv
   have hGl:∀z z1,(Hm z++[AO.cells [y],.cells [.ptr b 0]]++z1::L).length=N+2+1+L.length:=fun z z1=>by rw[Zp,hl2];simp;omega
   have e4:∀z (l:List AO),Hm z++[AO.cells [y],.cells [.ptr b 0]]++y1::L++l=Hm z++(AO.cells [y]::.cells [.ptr b 0]::y1::(L++l)):=fun z l=>by simp
   have htk2:∀z l,(Hm z++[AO.cells [y],.cells [.ptr b 0]]++y1::L++l).take (N+2+1+L.length)=Hm z++[AO.cells [y],.cells [.ptr b 0]]++y1::L:=fun z l=>by
    rw[← hGl z y1];exact Z07
   refine U7<|rg 0 Z<|A0 H8 Z<|K6 (D4 (ds:=B8 x) Z Z Z Z (M2 (by rw[hGl];exact Zx _ _)) Z) Z<|en (ra2 Z Z) ⟨Z,L++[.cells (B8 x)],by simp,?_⟩
   refine B43 (show _=(Hm (.inl s)++[AO.cells [y],.cells [.ptr b 0]]++y1::L)++[.cells (B8 x)] by simp) ?_
   have q8:ev [(2,AV.ptr ((Hm (.inl a0)).length+0) 0),(3,.ptr ((Hm (.inl s)++[AO.cells [y],.cells [.ptr b 0]]++y0::L).length+(0+0)) 0)] (.t 3)=some (.ptr ((Hm (.inl s)++[AO.cells [y],.cells [.ptr b 0]]++y1::L).length+0) 0):= by
    show some _=some _
    rw[hGl,hGl]
   rw[show (AV.ptr ((Hm (.inl s)++[AO.cells [y],.cells [.ptr b 0]]++y0::L).length+(0+0)) 0)=.ptr ((Hm (.inl s)++[AO.cells [y],.cells [.ptr b 0]]++y1::L).length+0) 0 by rw[hGl,hGl]]
   refine C8<|C4<|s0<|A0 (C1 Z) Z<|A0 (B5 (x:=.i x.short_) Z Z Z) Z<|A0 (A3b Z Z) Z<|es (ra3 Z Z Z)<|wi hbo Z (fun hc2 hbo=>?_) fun hc2 hbo=>?_
   ·cases hbo
    exact J1 ⟨Z,htk2 _ _⟩
   ·have hcl:I6 tab ⟨N+2+1+L.length,c'⟩ (Hm (.inl s)++[AO.cells [y],.cells [.ptr b 0]]++y1::L++[.cells (B8 x)]) y [.agg (B8 x)] [.b o'.isLeft] (Hm o'++[AO.cells [y],.cells [.ptr b 0]]++y1::L++[.cells (B8 x)]):= by
     have hsc3:S5 ⟨N+2+1+L.length,c'⟩ (Hm (.inl s)++(AO.cells [y]::.cells [.ptr b 0]::y1::(L++[.cells (B8 x)])))=true:= by
      rw[← e4]
      exact C2n hsc (by simp only[Zp,ZX,Z3b];omega)
     rw[e4,e4]
     exact hy hsc3 (A55 Z (A55 Z (A55 hy1 (B5r (C3s (by omega) hgr) Z)))) Z hbo
    refine C6<|s0<|A0 (F1 (x:=y) Z (by rw[e];exact D5 (q0 _ _) _) Z) Z<|A0 (E8 Z Z Z) Z<|N9 (Q3 (rs:=[.b o'.isLeft]) Z Z (A3 (E1 Z) C2) hcl Z) Z<|A0 (C4c Z Z) Z<|es (ra1 Z) ?_
    cases o' with
    | inl s'=>exact Q6 Z Z<|C6 ⟨Z,htk2 _ _⟩
    | inr r=>exact O1 Z Z<|C7 ⟨Z,htk2 _ _⟩
  ·rw[e]
   cases o with
   | inl s' =>
    show A7t _ _ _ _ .normal _ _
    refine B79 trivial Z Z Z ?_
    rw[Zz,e];exact htk _ _
   | inr r =>
    show A7t _ _ _ _ .ret _ _
    refine B79 trivial Z Z Z ?_
    rw[Zz,e];exact htk _ _
 rw[ZZ]at key
 exact Z3 (aq:=[y,.ptr bS 0]) Z Z Z key
end Pw
end
section
namespace Pw
open Go Am
section
variable {α β σ ρ:Type}
def T5 (f:α→σ→Option (σ⊕ρ)):List α→σ→Option (σ⊕ρ)
 | [],s=>some (.inl s)
 | a::l,s=>(f a s).bind fun x=>match x with
  | .inl s'=>T5 f l s'
  | .inr r=>some (.inr r)
theorem A60 (f:α→σ→Option (σ⊕ρ)) (m:List α):∀(l:List α) (s:σ),T5 f (l++m) s=(T5 f l s).bind fun x=>match x with
  | .inl s'=>T5 f m s'
  | .inr r=>some (.inr r)
 | [],s=>rfl
 | a::l,s=>by
  show (f a s).bind _=((f a s).bind _).bind _
  cases f a s with
  | none=>rfl
  | some x=>cases x with
   | inl s'=>exact A60 f m l s'
   | inr r=>rfl
theorem B6q (f:α→σ→Option (σ⊕ρ)) (h:β→List α):∀(l:List β) (s:σ),T5 f (l.flatMap h) s=T5 (fun b s=>T5 f (h b) s) l s
 | [],s=>rfl
 | b::l,s=>by
  rw[List.flatMap_cons,A60]
  show _=(T5 f (h b) s).bind _
  cases T5 f (h b) s with
  | none=>rfl
  | some x=>cases x with
   | inl s'=>exact B6q f h l s'
   | inr r=>rfl
theorem A3v (f:α→σ→Option (σ⊕ρ)) (p:α→Bool):∀(l:List α) (s:σ),T5 f (l.filter p) s=T5 (fun a s=>if p a then f a s else some (.inl s)) l s
 | [],s=>rfl
 | a::l,s=>by
  rw[List.filter_cons]
  cases h:p a with
  | false =>
   rw[if_neg (by decide),A3v f p l s]
   show _=(if p a then f a s else some (.inl s)).bind _
   rw[h];rfl
  | true =>
   rw[if_pos Z]
   show (f a s).bind _=(if p a then f a s else some (.inl s)).bind _
   rw[h,if_pos Z]
   cases f a s with
   | none=>rfl
   | some x=>cases x with
    | inl s'=>exact A3v f p l s'
    | inr r=>rfl
theorem A75 {f g:α→σ→Option (σ⊕ρ)}:∀{l:List α} {s:σ},(∀ a∈l,∀ s,f a s=g a s)→T5 f l s=T5 g l s
 | [],s,_=>rfl
 | a::l,s,h=>by
  show (f a s).bind _=(g a s).bind _
  rw[h a (ZC ..) s]
  cases g a s with
  | none=>rfl
  | some x=>cases x with
   | inl s'=>exact A75 fun b hb s=>h b (ZB _ hb) s
   | inr r=>rfl
end
theorem B9z {α β σ ρ:Type} (f:α→σ→Option (σ⊕ρ)) (g:β→α):∀(l:List β) (s:σ),T5 f (l.map g) s=T5 (fun b s=>f (g b) s) l s
 | [],s=>rfl
 | b::l,s=>by
  show (f (g b) s).bind _=(f (g b) s).bind _
  cases f (g b) s with
  | none=>rfl
  | some x=>cases x with
   | inl s'=>exact B9z f g l s'
   | inr r=>rfl
def S3 (D:List Int) (n:Nat):PaUse:=⟨((n / D.length / 3:Nat):Int),((n / D.length % 3:Nat):Int),D[n % D.length]!⟩
def D18 (q:List PaUse) (u:PaUse):Bool:=(u.Gown != -1)&&q.any fun x=>x.Gown==u.Gown
def okU (s:PaShow) (q:List PaUse) (u:PaUse):Bool:=A23 s.Gowns s.Figures[q.length]! u==0&&!D18 q u
def nU (s:PaShow) (D:List Int):Nat:=s.Gowns.length*3*D.length
def cand (s:PaShow) (D:List Int) (q:List PaUse):List PaUse:=((Z09 (nU s D)).map (S3 D)).filter (okU s q)
def PL (s:PaShow) (D:List Int):Nat→List PaUse→List (List PaUse)
 | 0,q=>[q]
 | d+1,q=>(cand s D q).flatMap (fun u=>PL s D d (q++[u]))++PL s D d (q++[bare0])
theorem D7m (s:PaShow) {D:List Int} (h0:0<D.length) (hD:D.length≤365) {n:Nat} (hn:n<100000):plx s D (n:Int)=some (S3 D n):= by
 have hD0:(0:Int)≤n:=Z0t n
 have e1:C4v (n:Int) (D.length:Int)=some ((n / D.length:Nat):Int):= by
  unfold C4v
  rw[if_neg (by omega),Z2l hD0,← Int.natCast_ediv]
  have:n / D.length≤n:=Z5c _ _
  generalize n / D.length=k at this
  rw[F5 (by omega)]
 have e2:C4v ((n / D.length:Nat):Int) 3=some ((n / D.length / 3:Nat):Int):= by
  have:n / D.length≤n:=Z5c _ _
  generalize n / D.length=k at this
  unfold C4v
  rw[if_neg (by omega),Z2l (Z0t _),F5 (by omega)]
  rfl
 have e3:C4x ((n / D.length:Nat):Int) 3=some ((n / D.length % 3:Nat):Int):= by
  unfold C4x
  rw[if_neg (by omega),Z3n (Z0t _)]
  rfl
 have e4:C4x (n:Int) (D.length:Int)=some ((n % D.length:Nat):Int):= by
  unfold C4x
  rw[if_neg (by omega),Z3n hD0,← Int.natCast_emod]
 unfold plx
 rw[e1]
 simp only[Zg]
 rw[e2,e3,e4]
 simp only[Zg]
 rw[M0 (Nat.mod_lt _ h0)]
 rfl
theorem B8e {p:List PaUse} {k:Nat} (hk:k<p.length) (u:PaUse):(P0 p (k:Int) u).take (k+1)=p.take k++[u]∧(P0 p (k:Int) u).length=p.length∧(P0 p (k:Int) u)[k]! = u∧(P0 p (k:Int) u).take k=p.take k:= by
 unfold P0
 rw[ZL]
 refine⟨?_,Z0p,?_,?_⟩
 ·rw[ZY (by rw[Z0p];exact hk),Z4h]
  congr 1
  rw[Z2x]
  exact Z1j (by rw[ZE];omega)
 ·rw[getElem!_pos _ k (by rw[Z0p];exact hk),Z4h]
 ·rw[Z2x]
  exact Z1j (by rw[ZE];omega)
section
variable {σ ρ:Type}
theorem D3m {s:PaShow} (hs:ShOk s) {D:List Int} (h0:0<D.length) (hD:D.length≤365) {q p:List PaUse} (hp:p.length=s.Figures.length) (hq:p.take q.length=q) (hk:q.length<p.length) (rec:Int→List PaUse→σ→Option (List PaUse×(σ⊕ρ))) {n:Nat} (hn:n<nU s D) (st:σ) :
  B02 s D (q.length:Int) rec ((n:Int),p,st)=if okU s q (S3 D n) then (rec ((q.length+1:Nat):Int) (P0 p (q.length:Int) (S3 D n)) st).bind fun y=>match y with
    | (p,.inl s')=>some (.inl (((n+1:Nat):Int),p,s'))
    | (p,.inr r)=>some (.inr (.inl (p,r)))
   else some (.inl (((n+1:Nat):Int),P0 p (q.length:Int) (S3 D n),st)):= by
 have hG:=hs.gowns
 have hF:=hs.figures
 have hN:nU s D≤6000:= by
  unfold nU
  have:s.Gowns.length*3*D.length≤15*365:=Z2u (by omega) hD
  omega
 have hw:w64 (w64 ((s.Gowns.length:Int)*3)*(D.length:Int))=(nU s D:Int):= by
  rw[F5 (n:=(s.Gowns.length:Int)*3) (by omega)]
  have e:(s.Gowns.length:Int)*3*(D.length:Int)=(nU s D:Int):= by unfold nU;simp
  rw[e,F5 (by omega)]
 obtain⟨g1,g2,g3,g4⟩:=B8e hk (S3 D n)
 unfold B02
 simp only[]
 rw[hw,if_pos (by simpa using hn),D7m s h0 hD (by omega)]
 simp only[Zg]
 rw[M0 hk,D3q hs D (f:=(q.length:Int)) (by omega),D3p,ZL]
 simp only[Zg]
 rw[C5a (by rw[g2];exact hk) (by rw[g2];omega),F5 (n:=(n:Int)+1) (by omega),F5 (n:=(q.length:Int)+1) (by omega)]
 have ht:twP (P0 p (q.length:Int) (S3 D n)) q.length=D18 q (S3 D n):= by
  unfold twP D18
  rw[g3,g4,hq]
 rw[ht]
 unfold okU
 by_cases hu:A23 s.Gowns s.Figures[q.length]! (S3 D n)=0
 ·have e1:(A23 s.Gowns s.Figures[q.length]! (S3 D n) != 0)=false:= by rw[hu];rfl
  have e2:(A23 s.Gowns s.Figures[q.length]! (S3 D n)==0)=true:= by rw[hu];rfl
  rw[e1,e2]
  cases D18 q (S3 D n) <;> rfl
 ·have e1:(A23 s.Gowns s.Figures[q.length]! (S3 D n) != 0)=true:=bne_iff_ne.mpr hu
  have e2:(A23 s.Gowns s.Figures[q.length]! (S3 D n)==0)=false:=beq_eq_false_iff_ne.mpr hu
  rw[e1,e2];rfl
def D8w (p:List PaUse):σ⊕ρ→(List PaUse×ρ)⊕(List PaUse×σ)
 | .inl s=>.inr (p,s)
 | .inr r=>.inl (p,r)
theorem D2a {s:PaShow} (hs:ShOk s) {D:List Int} (h0:0<D.length) (hD:D.length≤365) (body:List PaUse→σ→Option (σ⊕ρ)) :
  ∀ (d:Nat) (q p:List PaUse) (st:σ) (X:σ⊕ρ) (m:Nat),p.length=s.Figures.length→p.take q.length=q→q.length+d=p.length→d<m →
   T5 body (PL s D d q) st=some X→∃ p',A9x s D body m (q.length:Int) p st=some (p',X)∧p'.length=p.length∧p'.take q.length=q:= by
 have hG:=hs.gowns
 have hF:=hs.figures
 have hN:nU s D≤6000:= by
  unfold nU
  have:s.Gowns.length*3*D.length≤15*365:=Z2u (by omega) hD
  omega
 intro d
 induction d with
 | zero =>
  intro q p st X m hp hq hd hm hf
  obtain⟨m',rfl⟩:∃m',m=m'+1:=⟨m-1,by omega⟩
  have hpq:p=q:= by rw[← hq,ZP (by omega)]
  subst hpq
  refine⟨p,?_,Z,hq⟩
  unfold A9x
  rw[if_pos (by simp)]
  unfold PL T5 at hf
  cases hb:body p st with
  | none=>rw[hb]at hf;cases hf
  | some x=>rw[hb]at hf;cases x <;> cases hf <;> rfl
 | succ d ih =>
  intro q p st X m hp hq hd hm hf
  obtain⟨m',rfl⟩:∃m',m=m'+1:=⟨m-1,by omega⟩
  unfold PL cand at hf
  rw[A60,B6q,A3v,B9z]at hf
  have key:∀(j i m2:Nat) (p:List PaUse) (st:σ) (Y:σ⊕ρ),p.length=s.Figures.length→p.take q.length=q→q.length+(d+1)=p.length→i+j=nU s D→j<m2 →
    T5 (fun n st=>if okU s q (S3 D n) then T5 body (PL s D d (q++[S3 D n])) st else some (.inl st)) ((Z09 (nU s D)).drop i) st=some Y →
    ∃ p',A5h (B02 s D (q.length:Int) (A9x s D body m')) m2 ((i:Int),p,st)=some (D8w p' Y)∧p'.length=p.length∧p'.take q.length=q:= by
   intro j
   induction j with
   | zero =>
    intro i m2 p st Y hp hq hd hi hm2 h
    obtain⟨m3,rfl⟩:∃m3,m2=m3+1:=⟨m2-1,by omega⟩
    rw[Z2b (by simp;omega)]at h
    cases h
    refine⟨p,?_,Z,hq⟩
    rw[J7]
    unfold B02
    simp only[]
    have hw:w64 (w64 ((s.Gowns.length:Int)*3)*(D.length:Int))=(nU s D:Int):= by
     rw[F5 (n:=(s.Gowns.length:Int)*3) (by omega)]
     have e:(s.Gowns.length:Int)*3*(D.length:Int)=(nU s D:Int):= by unfold nU;simp
     rw[e,F5 (by omega)]
    rw[hw,if_neg (by simp;omega)];rfl
   | succ j ihj =>
    intro i m2 p st Y hp hq hd hi hm2 h
    obtain⟨m3,rfl⟩:∃m3,m2=m3+1:=⟨m2-1,by omega⟩
    have hi2:i<(Z09 (nU s D)).length:= by simp;omega
    rw[List.drop_eq_getElem_cons hi2,List.getElem_range]at h
    unfold T5 at h
    obtain⟨g1,g2,g3,g4⟩:=B8e (p:=p) (k:=q.length) (by omega) (S3 D i)
    rw[J7,D3m hs h0 hD hp hq (by omega) _ (by omega) st]
    cases hc:okU s q (S3 D i) with
    | false =>
     rw[hc]at h
     obtain⟨p',e1,e2,e3⟩:=ihj (i+1) m3 (P0 p (q.length:Int) (S3 D i)) st Y (by rw[g2];exact hp) (by rw[g4];exact hq) (by rw[g2];exact hd) (by omega) (by omega) h
     exact⟨p',e1,by rw[e2,g2],e3⟩
    | true =>
     rw[hc]at h
     simp only[if_true]at h
     cases hX:T5 body (PL s D d (q++[S3 D i])) st with
     | none=>rw[hX]at h;cases h
     | some Zr =>
      rw[hX]at h
      have hql:(q++[S3 D i]).length=q.length+1:= by simp
      obtain⟨p1,r1,r2,r3⟩:=ih (q++[S3 D i]) (P0 p (q.length:Int) (S3 D i)) st Zr m' (by rw[g2];exact hp) (by rw[hql,g1,hq]) (by rw[hql,g2];omega) (by omega) hX
      rw[hql]at r1 r3
      have r4:p1.take q.length=q:= by
       have:=congrArg (List.take q.length) r3
       rwa [Z3i,Z1a (Z5p _),Z07]at this
      rw[if_pos Z,r1]
      cases Zr with
      | inl s' =>
       obtain⟨p',e1,e2,e3⟩:=ihj (i+1) m3 p1 s' Y (by rw[r2,g2];exact hp) r4 (by rw[r2,g2];exact hd) (by omega) (by omega) h
       exact⟨p',e1,by rw[e2,r2,g2],e3⟩
      | inr x =>
       cases h
       exact⟨p1,Z,by rw[r2,g2],r4⟩
  cases hY:T5 (fun n st=>if okU s q (S3 D n) then T5 body (PL s D d (q++[S3 D n])) st else some (.inl st)) (Z09 (nU s D)) st with
  | none=>rw[hY]at hf;cases hf
  | some Y =>
   rw[hY]at hf
   obtain⟨p',e1,e2,e3⟩:=key (nU s D) 0 9223372036854775808 p st Y hp hq hd (by omega) (by omega) hY
   unfold A9x
   rw[if_neg (by simp;omega)]
   unfold loop
   rw[show ((0:Int),p,st)=(((0:Nat):Int),p,st) from Z,e1]
   cases Y with
   | inr r=>cases hf;exact⟨p',Z,e2,e3⟩
   | inl s' =>
    simp only[Zg]at hf
    obtain⟨g1,g2,g3,g4⟩:=B8e (p:=p') (k:=q.length) (by omega) bare0
    have hql:(q++[bare0]).length=q.length+1:= by simp
    obtain⟨p1,r1,r2,r3⟩:=ih (q++[bare0]) (P0 p' (q.length:Int) bare0) s' X m' (by rw[g2,e2];exact hp) (by rw[hql,g1,e3]) (by rw[hql,g2,e2];omega) (by omega) hf
    rw[hql]at r1 r3
    refine⟨p1,?_,by rw[r2,g2,e2],?_⟩
    ·unfold D8w Y3
     simp only[Zg]
     rw[M0 (by omega),F5 (n:=(q.length:Int)+1) (by omega)]
     exact r1
    ·have:=congrArg (List.take q.length) r3
     rwa [Z3i,Z1a (Z5p _),Z07]at this
theorem C6l {s:PaShow} (hs:ShOk s) {D:List Int} (h0:0<D.length) (hD:D.length≤365) (body:List PaUse→σ→Option (σ⊕ρ)) {st:σ} {X:σ⊕ρ} (h:T5 body (PL s D s.Figures.length []) st=some X):A9k s D σ ρ body st=some X:= by
 have hF:=hs.figures
 unfold A9k B7d
 rw[if_pos ⟨by omega,by omega,by omega⟩]
 simp only[Zg,ZL]
 obtain⟨p',e1,_,_⟩:=D2a hs h0 hD body s.Figures.length [] (Zu s.Figures.length (PaUse.mk 0 0 0)) st X 64 (by simp) Z (by simp) (by omega) h
 rw[show ((([]:List PaUse).length:Nat):Int)=0 from Z]at e1
 rw[e1];rfl
end
theorem B1a {s:PaShow}:0<(M9 s).length∧(M9 s).length≤365:= by
 unfold M9
 have:=List.length_filter_le (fun d=>s.Incomes.any fun x=>x.Day==d) ((Z09 364).map fun (i:Nat)=>(i:Int)+1)
 rw[Zi,List.length_range]at this
 rw[ZX]
 omega
end Pw
end
section
set_option maxRecDepth 100000
set_option maxHeartbeats 0
namespace Pw
open Go Am Go.Proofs.Ytjpjdglddmhplaa.Cd
def fnd0:pawn_found:=⟨[],0,0,0,⟨0,0,0⟩⟩
def B9m (g:pawn_found→pawn_found→Option Int) (x:pawn_found) (s:pawn_found×Bool):Option ((pawn_found×Bool)⊕Unit) :=
 (if (!s.2)=true then some true else (g x s.1).bind fun r=>some (decide (r<0))).bind fun z =>
 if z=true then some (.inl (x,true)) else some (.inl s)
abbrev It:=∀ (σ ρ:Type),(pawn_found→σ→Option (σ⊕ρ))→σ→Option (σ⊕ρ)
def B6b (it:It) (g:pawn_found→pawn_found→Option Int):Option (pawn_found×Bool) :=
 (it (pawn_found×Bool) Unit (B9m g) (fnd0,false)).bind fun o=>match o with
  | .inl s=>some s
  | .inr _=>none
def bM (ig:Nat) (s:pawn_found×Bool):List AO:=[.cells [.fn (.func ig) [] []],.cells (B8 s.1),.cells [.b s.2]]
theorem C1f {c:Sc} {H:A1} {i ig bS b:Nat} {t:PaShow} {days:List Int} {it:It} {g:pawn_found→pawn_found→Option Int} {r:pawn_found×Bool} (hit:B52 tab i [.ptr bS 0] shF (B3x t days bS b) it)
  (hg:∀{c:Sc} {H:A1} {x y:pawn_found} {r:Int},g x y=some r→X5 tab c H (.fn (.func ig) [] []) [.agg (B8 x),.agg (B8 y)] [.i r]) (hpre:B3x t days bS b H) (hscv:S5 c H=true) (h:B6b it g=some r) :
  X5 tab c H (.fn (.func 30) [] []) [.fn (.func i) [] [.ptr bS 0],.fn (.func ig) [] []] [.agg (B8 r.1),.b r.2]:= by
 unfold B6b at h
 refine oB h fun o ho h=>?_
 have hl3:∀s,(H++bM ig s).length=H.length+3:=fun s=>by rw[Zp];rfl
 refine cF Z Z<|sg 0 Z<|A0 (F6 (cs:=[.fn (.func ig) [] []]) Z Z Z) Z<|A0 H8 Z<|A0 H8 Z<|es (ra4 Z Z Z Z)<|C4<|s0<|qm Z<|es (ra4 Z Z Z Z)<|C8 ?_
 refine B2m (it:=it) (sh:=shF) (pre:=B3x t days bS b) hit (K:=H.length+3) [(3,.ptr (H.length+0) 0),(4,.ptr (H.length+1) 0),(5,.ptr (H.length+2) 0)] (fun s=>H++bM ig s) (fun (_:Unit)=>H++bM ig (fnd0,false)) (fun _=>.ret) ho (fun _=>rfl) Z (fun S hS=>O0 (live:=[3,4,5]) Z (by decide) (Sub.trans (su3 Z Z Z) hS)) Z (fun _=>hl3 _) (fun _=>hl3 _) ⟨fun _ _=>by rw[Zz];exact hpre.app,fun _ _=>by rw[Zz];exact hpre.app⟩ (B2g hscv) (fun c' x s o' L v hsc hgr hv hbo y0 y1 hy0 hy1=>?_) ?_
 ·obtain rfl:v=.agg (B8 x):=hv
  have hGl:∀s z,(H++bM ig s++z::L).length=H.length+3+1+L.length:=fun s z=>by rw[Zp,hl3];simp;omega
  refine U7<|rg 0 Z<|A0 H8 Z<|K6 (D4 (ds:=B8 x) Z Z Z Z (M2 (by rw[hGl];exact Zx _ _)) Z) Z<|en (ra4 Z Z Z Z) ⟨Z,L++[.cells (B8 x)],by simp,?_⟩
  refine B43 (show _=H++(.cells [.fn (.func ig) [] []]::.cells (B8 s.1)::.cells [.b s.2]::y1::(L++[AO.cells (B8 x)])) by simp[bM]) ?_
  rw[show (AV.ptr ((H++bM ig s++y0::L).length+(0+0)) 0)=.ptr (H.length+3+1+L.length) 0 by rw[hGl];rfl]
  have q6:∀s':pawn_found×Bool,hcells (H++(.cells [.fn (.func ig) [] []]::.cells (B8 s'.1)::.cells [.b s'.2]::y1::(L++[AO.cells (B8 x)]))) (H.length+3+1+L.length)=some (B8 x):=fun s'=>by
   rw[show H++(.cells [.fn (.func ig) [] []]::.cells (B8 s'.1)::.cells [.b s'.2]::y1::(L++[AO.cells (B8 x)]))=(H++bM ig s'++y1::L)++[AO.cells (B8 x)] by simp[bM],← hGl s' y1]
   exact D7 (j:=0) Z
  have htk:∀(s':pawn_found×Bool),(H++(.cells [.fn (.func ig) [] []]::.cells (B8 s'.1)::.cells [.b s'.2]::y1::(L++[AO.cells (B8 x)]))).take (H.length+3+1+L.length)=H++bM ig s'++y1::L:=fun s'=>by
   rw[show H++(.cells [.fn (.func ig) [] []]::.cells (B8 s'.1)::.cells [.b s'.2]::y1::(L++[AO.cells (B8 x)]))=(H++bM ig s'++y1::L)++[AO.cells (B8 x)] by simp[bM],← hGl s' y1]
   exact Z07
  unfold B9m at hbo
  refine oB hbo fun z hz hbo=>?_
  refine C8<|s0<|A0 (B5 (x:=.b s.2) Z Z Z) Z<|A0 (C4c Z Z) Z<|qm Z<|gp 6 17 (.b z) 11 Z Z (fun hc1=>?_) (fun hc1=>?_) ?_
  ·obtain rfl:=os (bt hz hc1)
   exact nF Z hc1 Z<|nF Z hc1 Z<|nF Z hc1 Z<|L7 (F4 Z (by rw[hc1];rfl)) Z<|nF Z hc1 Z<|A0 (D1 Z hc1 Z) Z<|ge 6 Z Z Z
  ·refine oB (bf hz hc1) fun q hq hz=>?_
   obtain rfl:=os hz
   exact gF Z hc1<|A0 (B5 (x:=.fn (.func ig) [] []) Z Z Z) Z<|gF Z hc1<|A0 (A6a (ds:=B8 x) Z (q6 s) Z Z) Z<|gF Z hc1<|A0 (J2 (ds:=B8 s.1) Z Z Z Z) Z<|gF Z hc1<|C3 (rs:=[.i q]) Z Z (A3 (E1 Z) (A3 (E1 Z) C2)) (hg hq)<|gF Z hc1<|A0 (L5 Z Z) Z<|A0 (D0 Z hc1 Z) Z<|ge 6 Z Z Z
  ·refine es (ra4 Z Z Z Z)<|wi hbo Z (fun hc2 hbo=>?_) fun hc2 hbo=>?_
   ·cases hbo
    refine r0<|A0 (A6a (ds:=B8 x) Z (q6 s) Z Z) Z<|K6 (D4 (j:=1) (ds:=B8 x) Z Z Z Z (E0 Z) Z) Z<|K6 (D4 (j:=2) (ds:=[.b true]) Z Z Z Z (E0 Z) Z) Z<|en .n ⟨Z,htk (x,true)⟩
   ·cases hbo
    exact C6 ⟨Z,htk s⟩
 ·rcases o with s|s
  ·obtain rfl:=os h
   refine B43 (show _=H++[.cells [.fn (.func ig) [] []],.cells (B8 s.1),.cells [.b s.2],.dead] by simp[bM]) ?_
   refine s0<|A0 (J2 (ds:=B8 s.1) Z Z Z Z) Z<|A9i [2] [.cells [.fn (.func ig) [] []],.cells (B8 s.1),.cells [.b s.2],.dead] (P7 [] rfl (A4d Z A2m F9) Z Z) (seen0 Z) (D4 (j:=1) (ds:=B8 s.1) Z Z Z Z (E0 Z) Z) Z Z Z<|K5 [] (P7 [] rfl F9 Z Z) (A9n (b:=H.length+2) Z (A4c (A0f _ Z) A6m)) (B5 (x:=.b s.2) Z Z Z) Z<|K6 (D4 (j:=2) (ds:=[.b s.2]) Z Z Z Z (E0 Z) Z) Z<|es (ra2 Z Z)<|C7 ?_
   exact⟨_,retq trivial (A2d (J2 (ds:=B8 s.1) Z Z Z Z) (A2d (B5 (x:=.b s.2) Z Z Z) C0)) (A4 (B3r Z) (A4 Z B9)) (A2 (A4g Z) (A2 A5 A8)),Z⟩
  ·cases h
end Pw
namespace Am
open Go
theorem B52.it {α:Type} {T:Tab} {i:Nat} {fc:List AV} {ea:α→AV} {pre:A1→Prop} {it:∀(σ ρ:Type),(α→σ→Option (σ⊕ρ))→σ→Option (σ⊕ρ)} (h:B52 T i fc (fun _ _ x v=>v=ea x) pre it):D8j T i fc ea pre it :=
 fun Hm N h1 h2 y hb hc body hy _ _ ho _ hs=>h Hm N h1 h2 y hb hc body (fun a b d e=>by subst d;exact hy a b e) ho hs
end Am
end
section
set_option maxRecDepth 100000
set_option maxHeartbeats 0
namespace Pw
open Go Am Go.Proofs.Ytjpjdglddmhplaa.Cd
def A0v (a0:(List Int)) (s1:Int):Option (Int⊕(Int⊕Unit)) :=
 if (decide (s1<(Zh a0:Int)))=true then
  (idx a0 s1).bind fun x4 =>
  if (x4 != 0)=true then
  some (.inr (.inl x4))
  else
  some (.inl (w64 (s1+1)))
 else
  some (.inr (.inr ()))
def A2j (a0:(List Int)):Option Int :=
 (loop (A0v a0) 0).bind fun (o6:(Int⊕Unit)) =>
 match o6 with
 | (.inl vo6_0) =>
  some vo6_0
 | (.inr vo6_1) =>
  some 0
theorem A9z {c:Sc} {H:A1} {a0:(List Int)} {r:Int} (h:A2j a0=some r) :
  E7 tab c H (.fn (.func 33) [] []) [(.seq 1 (Zd cI a0))] [.i r]:= by
 unfold A2j at h
 refine cE Z Z<|s0<|qm Z<|es (ra1 Z)<|s0<|qm Z<|es (ra2 Z Z)<|C4<|s0<|qm Z<|A0 (I0 (f:=cI) Z) Z<|qm Z<|es (ra4 Z Z Z Z)<|C8<|oB h fun o6 ho6 h=>wl (fun s1=>[(3,.i 0),(6,(.seq 1 (Zd cI a0))),(7,(.i (Zh a0:Int))),(8,.i s1)]) (fun (q2:Unit) s1=>[]) 0 (fun r e s' H'=>(match r with|(.inl v)=>e=.ret∧RetQ H [.tmp 2] [.i v] e s' H' | (.inr v)=>PX 0 [(3,.i 0)] (H++[]) e s' H':Prop)) () ho6 Z Z (fun _ _=>rfl) (fun _=>rfl) Z (fun s1=>(bdc A5 (bdc N7 (bdc A5 (bdc A5 bdn))))) (fun q2 s1 ys1 hs1=>?_) ?_
 ·unfold A0v at hs1
  refine s0<|A0 (L5 Z Z) Z<|es (ra5 Z Z Z Z Z)<|C4<|wi hs1 Z (fun hc3 hs1=>?_) fun hc3 hs1=>?_
  ·refine C6<|C4<|C8<|s0<|oB hs1 fun x4 hx4 hs1=>A0 (H7 (f:=cI) Z Z hx4) Z<|A0 (V8 Z Z) Z<|qm Z<|es (ra5 Z Z Z Z Z)<|s0<|qm Z<|qm Z<|A0 (Q9 Z Z) Z<|es (ra6 Z Z Z Z Z Z)<|wi hs1 Z (fun hc5 hs1=>?_) fun hc5 hs1=>?_
   ·refine s0<|qm Z<|qm Z<|es (ra1 Z)<|C7 ?_
    obtain rfl:=os hs1
    exact lx Z (ZO Z (retq trivial (A7 Z C0) (A4 Z B9) (A2 A5 A8))) (Sub.refl _)
   ·refine C6<|r0<|A0 (G1 Z Z) Z<|qm Z<|en (ra4 Z Z Z Z) ?_
    cases hs1
    exact lnT () Z (su4 Z Z Z Z)
  ·refine J1 ?_
   obtain rfl:=os hs1
   exact lx Z px (su1 Z)
 ·rcases o6 with vo6_0|vo6_1
  ·rintro e s' H'-⟨rfl,hret⟩
   cases h
   exact hret
  ·rintro e s' H'-⟨rfl,rfl,rfl⟩
   refine s0<|qm Z<|qm Z<|es (ra1 Z)<|C7 ?_
   obtain rfl:=os h
   exact retq trivial (A7 Z C0) (A4 Z B9) (A2 A5 A8)
def A3f (a0:pawn_found) (a1:pawn_found):Option Int :=
 (A2j [(w64 (a0.without_-a1.without_)),(w64 (a0.cost_-a1.cost_))]).bind fun x1 =>
 some x1
theorem B7o {c:Sc} {H:A1} {a0:pawn_found} {a1:pawn_found} {r:Int} (h:A3f a0 a1=some r) :
  E7 tab c H (.fn (.func 32) [] []) [(.agg (B8 a0)),(.agg (B8 a1))] [.i r]:= by
 unfold A3f at h
 refine cE Z Z<|sg 0 Z<|A0 (F6 (cs:=B8 a0) Z Z Z) Z<|A0 (F6 (cs:=B8 a1) Z Z Z) Z<|qm Z<|es (ra2 Z Z)<|s0<|oB h fun x1 hx1 h=>A0 (C1 Z) Z<|A0 (B5 Z Z Z) Z<|A0 (C1 Z) Z<|A0 (B5 Z Z Z) Z<|A0 (A0s Z Z) Z<|A0 (C1 Z) Z<|A0 (B5 Z Z Z) Z<|A0 (C1 Z) Z<|A0 (B5 Z Z Z) Z<|A0 (A0s Z Z) Z<|A0 (I8 (rows:=Zd cI [(w64 (a0.without_-a1.without_)),(w64 (a0.cost_-a1.cost_))]) Z Z (D9 (fun _=>rfl) _)) Z<|C3 (rs:=[.i x1]) Z Z (A3 Z C2) ((A9z hx1).frz)<|qm Z<|es (ra1 Z)<|C7 ?_
 obtain rfl:=os h
 exact retq trivial (A7 Z C0) (A4 Z B9) (A2 A5 A8)
def Y2 (a0:PaShow):Option ((List PaUse)×Int×Int×Int) :=
 (A1f a0).bind fun x1 =>
 if (x1.1==0)=true then
  (B6b (B4r a0 x1.2) A3f).bind fun x4 =>
  some (x4.1.plan_,x4.1.without_,x4.1.cost_,0)
 else
  some (([]:List PaUse),0,0,x1.1)
theorem A19 {c:Sc} {H:A1} (hscv:S5 c H=true) {a0:PaShow} {r:((List PaUse)×Int×Int×Int)} (h:Y2 a0=some r) :
  E7 tab c H (.fn (.func 13) [] []) [(.agg (B6 a0))] [(.seq 3 (Zd B3 r.1)),.i r.2.1,.i r.2.2.1,.i r.2.2.2]:= by
 unfold Y2 at h
 refine cE Z Z<|sg 0 Z<|A0 (F6 (cs:=B6 a0) Z Z Z) Z<|qm Z<|qm Z<|qm Z<|qm Z<|es (ra1 Z)<|s0<|oB h fun x1 hx1 h=>A0 (E8 Z Z Z) Z ?_
 by_cases hc2:(x1.1==0)=true
 ·rw[if_pos hc2]at h
  obtain⟨X3,hX3⟩:=A1o hx1 hc2
  refine N9 (A28 hX3 Z Z (A3 (E1 Z) C2) Z) Z<|qm Z<|A0 (B4 Z Z) Z<|A0 (B4 Z Z) Z<|qm Z<|qm Z<|es (ra2 Z Z)<|C4<|s0<|qm Z<|A0 (T6 (v:=(.b false)) Z Z Z) Z<|es (ra3 Z Z Z)<|Q6 Z Z<|C6<|sg 4 Z<|qm Z<|A4a (as2:=[(.ptr (H.length+3) 0)]) (H1:=(H++[(.cells (B6 a0)),(.cells (B6 a0)),X3,(.cells [(.seq 8 (Zd B2 a0.Gowns)),(.seq 4 (Zd A6 a0.Figures)),.i a0.Purse,(.seq 2 (Zd B1 a0.Incomes)),(.fn (.func 41) [] []),(.fn (.func 42) [] []),(.fn (.func 43) [] []),(.fn (.func 25) [] []),(.fn (.func 44) [] []),(.fn (.func 45) [] []),(.fn (.func 26) [] []),(.fn (.func 46) [] []),(.fn (.func 47) [] []),(.seq 1 (Zd cI x1.2))]),.dead])) Z Z (A3 Z C2) Z Z Z (A9c Z)<|sg 5 Z<|A0 (F6 (cs:=[(.ptr (H.length+3) 0)]) Z Z Z) Z<|qm Z<|es (ra1 Z)<|s0<|A0 (A2q Z Z) Z<|qm Z<|es (ra1 Z)<|C7<|InlQ.mk trivial ⟨_,_,_,[(.fn (.func 55) [] [(.ptr (H.length+5) 0)])],_,(A7 Z C0),(A4 Z B9),(A9a (U1 (B2t (U1 (A49 Z)))) (A89 Z B23)),?_⟩
  refine oB h fun x4 hx4 h=>C3 (rs:=[(.agg (B8 x4.1)),.b x4.2]) Z Z (A3 Z (A3 Z C2)) (C1f (C6j (t:=a0) (days:=x1.2) (bS:=H.length+5) (b:=H.length+3)) (fun h=>(B7o h).frz) (ZO (D7 Z) (D7 Z)) (B2g hscv) hx4)<|qm Z<|A0 (B4 Z Z) Z<|A0 (B4 Z Z) Z<|A0 H8 Z<|K6 (D4 (ds:=(B8 x4.1)) Z Z Z Z (E0 Z) Z) Z<|qm Z<|es (ra1 Z)<|s0<|A0 (C1 Z) Z<|A0 (B5 Z Z Z) Z<|A0 (C1 Z) Z<|A0 (B5 Z Z Z) Z<|A0 (C1 Z) Z<|A0 (B5 Z Z Z) Z<|qm Z<|qm Z<|qm Z<|qm Z<|es (ra4 Z Z Z Z)<|C7 ?_
  obtain rfl:=os h
  exact retq trivial (A7 Z (A7 Z (A7 Z (A7 Z C0)))) (A4 Z (A4 Z (A4 Z (A4 Z B9)))) (A2 N7 (A2 A5 (A2 A5 (A2 A5 A8))))
 ·rw[if_neg hc2]at h
  refine N9 (Q3 (rs:=[.lit (.pointer none),.i x1.1]) Z Z (A3 (E1 Z) C2) (A2k hx1 (by simpa using hc2)) Z) Z<|qm Z<|A0 (B4 Z Z) Z<|A0 (B4 Z Z) Z<|qm Z<|qm Z<|es (ra2 Z Z)<|C4<|s0<|qm Z<|A0 (Q9 Z Z) Z<|es (ra3 Z Z Z)<|O1 Z (nef hc2)<|s0<|qm Z<|qm Z<|qm Z<|qm Z<|qm Z<|es (ra4 Z Z Z Z)<|C7 ?_
  obtain rfl:=os h
  exact retq trivial (A7 Z (A7 Z (A7 Z (A7 Z C0)))) (A4 Z (A4 Z (A4 Z (A4 Z B9)))) (A2 N7 (A2 A5 (A2 A5 (A2 A5 A8))))
def A5k (a0:pawn_found) (a1:pawn_found):Option Int :=
 (A2j [(w64 (a0.without_-a1.without_)),(w64 (a0.short_-a1.short_))]).bind fun x1 =>
 some x1
theorem B7p {c:Sc} {H:A1} {a0:pawn_found} {a1:pawn_found} {r:Int} (h:A5k a0 a1=some r) :
  E7 tab c H (.fn (.func 39) [] []) [(.agg (B8 a0)),(.agg (B8 a1))] [.i r]:= by
 unfold A5k at h
 refine cE Z Z<|sg 0 Z<|A0 (F6 (cs:=B8 a0) Z Z Z) Z<|A0 (F6 (cs:=B8 a1) Z Z Z) Z<|qm Z<|es (ra2 Z Z)<|s0<|oB h fun x1 hx1 h=>A0 (C1 Z) Z<|A0 (B5 Z Z Z) Z<|A0 (C1 Z) Z<|A0 (B5 Z Z Z) Z<|A0 (A0s Z Z) Z<|A0 (C1 Z) Z<|A0 (B5 Z Z Z) Z<|A0 (C1 Z) Z<|A0 (B5 Z Z Z) Z<|A0 (A0s Z Z) Z<|A0 (I8 (rows:=Zd cI [(w64 (a0.without_-a1.without_)),(w64 (a0.short_-a1.short_))]) Z Z (D9 (fun _=>rfl) _)) Z<|C3 (rs:=[.i x1]) Z Z (A3 Z C2) ((A9z hx1).frz)<|qm Z<|es (ra1 Z)<|C7 ?_
 obtain rfl:=os h
 exact retq trivial (A7 Z C0) (A4 Z B9) (A2 A5 A8)
def A6g (a0:PaShow):Option (Int×Int) :=
 (A1f a0).bind fun x1 =>
 if (x1.1==0)=true then
  (B6b (B55 a0 x1.2) A5k).bind fun x4 =>
  if (((!x4.2)||(decide (x4.1.without_>0)))||(decide (x4.1.short_>10000)))=true then
  some (0,9)
  else
  if (x4.1.short_==0)=true then
   some (0,4)
  else
   some (x4.1.short_,0)
 else
  some (0,x1.1)
theorem C2e {c:Sc} {H:A1} (hscv:S5 c H=true) {a0:PaShow} {r:(Int×Int)} (h:A6g a0=some r) :
  E7 tab c H (.fn (.func 22) [] []) [(.agg (B6 a0))] [.i r.1,.i r.2]:= by
 unfold A6g at h
 refine cE Z Z<|sg 0 Z<|A0 (F6 (cs:=B6 a0) Z Z Z) Z<|qm Z<|qm Z<|es (ra1 Z)<|s0<|oB h fun x1 hx1 h=>A0 (E8 Z Z Z) Z ?_
 by_cases hc2:(x1.1==0)=true
 ·rw[if_pos hc2]at h
  obtain⟨X3,hX3⟩:=A1o hx1 hc2
  refine N9 (A28 hX3 Z Z (A3 (E1 Z) C2) Z) Z<|qm Z<|A0 (B4 Z Z) Z<|A0 (B4 Z Z) Z<|qm Z<|qm Z<|es (ra2 Z Z)<|C4<|s0<|qm Z<|A0 (T6 (v:=(.b false)) Z Z Z) Z<|es (ra3 Z Z Z)<|Q6 Z Z<|C6<|sg 4 Z<|qm Z<|A4a (as2:=[(.ptr (H.length+3) 0)]) (H1:=(H++[(.cells (B6 a0)),(.cells (B6 a0)),X3,(.cells [(.seq 8 (Zd B2 a0.Gowns)),(.seq 4 (Zd A6 a0.Figures)),.i a0.Purse,(.seq 2 (Zd B1 a0.Incomes)),(.fn (.func 41) [] []),(.fn (.func 42) [] []),(.fn (.func 43) [] []),(.fn (.func 25) [] []),(.fn (.func 44) [] []),(.fn (.func 45) [] []),(.fn (.func 26) [] []),(.fn (.func 46) [] []),(.fn (.func 47) [] []),(.seq 1 (Zd cI x1.2))]),.dead])) Z Z (A3 Z C2) Z Z Z (A9c Z)<|sg 5 Z<|A0 (F6 (cs:=[(.ptr (H.length+3) 0)]) Z Z Z) Z<|qm Z<|es (ra1 Z)<|s0<|A0 (A2q Z Z) Z<|qm Z<|es (ra1 Z)<|C7<|InlQ.mk trivial ⟨_,_,_,[(.fn (.func 62) [] [(.ptr (H.length+5) 0)])],_,(A7 Z C0),(A4 Z B9),(A9a (U1 (B2t (U1 (A49 Z)))) (A89 Z B23)),?_⟩
  refine oB h fun x4 hx4 h=>C3 (rs:=[(.agg (B8 x4.1)),.b x4.2]) Z Z (A3 Z (A3 Z C2)) (C1f (D0u (t:=a0) (days:=x1.2) (bS:=H.length+5) (b:=H.length+3)) (fun h=>(B7p h).frz) (ZO (D7 Z) (D7 Z)) (B2g hscv) hx4)<|qm Z<|A0 (B4 Z Z) Z<|A0 (B4 Z Z) Z<|A0 H8 Z<|K6 (D4 (ds:=(B8 x4.1)) Z Z Z Z (E0 Z) Z) Z<|qm Z<|es (ra2 Z Z)<|C4<|C8<|s0<|qm Z<|A0 (Y9 Z) Z<|qm Z<|gp 4 29 (.b ((!x4.2)||(decide (x4.1.without_>0)))) 25 Z Z (fun hg5=>?_) (fun hg5=>?_) ?_
  ·exact nF Z hg5 Z<|nF Z hg5 Z<|nF Z hg5 Z<|A0 (D1 Z hg5 Z) Z<|ge 4 (by rw[hg5];rfl) Z Z
  ·exact gF Z hg5<|A0 (C1 Z) Z<|gF Z hg5<|A0 (B5 Z Z Z) Z<|gF Z hg5<|A0 (A3b Z Z) Z<|A0 (D0 Z hg5 Z) Z<|ge 4 (by rw[hg5];rfl) Z Z
  refine qm Z<|gp 4 34 (.b (((!x4.2)||(decide (x4.1.without_>0)))||(decide (x4.1.short_>10000)))) 30 Z Z (fun hg6=>?_) (fun hg6=>?_) ?_
  ·exact nF Z hg6 Z<|nF Z hg6 Z<|nF Z hg6 Z<|A0 (D1 Z hg6 Z) Z<|ge 4 (by rw[hg6];rfl) Z Z
  ·exact gF Z hg6<|A0 (C1 Z) Z<|gF Z hg6<|A0 (B5 Z Z Z) Z<|gF Z hg6<|A0 (A3b Z Z) Z<|A0 (D0 Z hg6 Z) Z<|ge 4 (by rw[hg6];rfl) Z Z
  refine qm Z<|es (ra2 Z Z)<|wi h Z (fun hc7 h=>?_) fun hc7 h=>?_
  ·refine s0<|qm Z<|qm Z<|es (ra2 Z Z)<|C7 ?_
   obtain rfl:=os h
   exact retq trivial (A7 Z (A7 Z C0)) (A4 Z (A4 Z B9)) (A2 A5 (A2 A5 A8))
  ·refine s0<|A0 (C1 Z) Z<|A0 (B5 Z Z Z) Z<|A0 (K0 Z Z) Z<|qm Z<|es (ra2 Z Z)<|wi h Z (fun hc8 h=>?_) fun hc8 h=>?_
   ·refine s0<|qm Z<|qm Z<|es (ra2 Z Z)<|C7 ?_
    obtain rfl:=os h
    exact retq trivial (A7 Z (A7 Z C0)) (A4 Z (A4 Z B9)) (A2 A5 (A2 A5 A8))
   ·refine C6<|s0<|A0 (C1 Z) Z<|A0 (B5 Z Z Z) Z<|qm Z<|qm Z<|es (ra2 Z Z)<|C7 ?_
    obtain rfl:=os h
    exact retq trivial (A7 Z (A7 Z C0)) (A4 Z (A4 Z B9)) (A2 A5 (A2 A5 A8))
 ·rw[if_neg hc2]at h
  refine N9 (Q3 (rs:=[.lit (.pointer none),.i x1.1]) Z Z (A3 (E1 Z) C2) (A2k hx1 (by simpa using hc2)) Z) Z<|qm Z<|A0 (B4 Z Z) Z<|A0 (B4 Z Z) Z<|qm Z<|qm Z<|es (ra2 Z Z)<|C4<|s0<|qm Z<|A0 (Q9 Z Z) Z<|es (ra3 Z Z Z)<|O1 Z (nef hc2)<|s0<|qm Z<|qm Z<|qm Z<|es (ra2 Z Z)<|C7 ?_
  obtain rfl:=os h
  exact retq trivial (A7 Z (A7 Z C0)) (A4 Z (A4 Z B9)) (A2 A5 (A2 A5 A8))
def A5j (a0:pawn_found) (a1:pawn_found):Option Int :=
 some (w64 (a0.without_-a1.without_))
theorem B7n {c:Sc} {H:A1} {a0:pawn_found} {a1:pawn_found} {r:Int} (h:A5j a0 a1=some r) :
  E7 tab c H (.fn (.func 37) [] []) [(.agg (B8 a0)),(.agg (B8 a1))] [.i r]:= by
 unfold A5j at h
 refine cE Z Z<|sg 0 Z<|A0 (F6 (cs:=B8 a0) Z Z Z) Z<|A0 (F6 (cs:=B8 a1) Z Z Z) Z<|qm Z<|es (ra2 Z Z)<|s0<|A0 (C1 Z) Z<|A0 (B5 Z Z Z) Z<|A0 (C1 Z) Z<|A0 (B5 Z Z Z) Z<|A0 (A0s Z Z) Z<|qm Z<|es (ra1 Z)<|C7 ?_
 obtain rfl:=os h
 exact retq trivial (A7 Z C0) (A4 Z B9) (A2 A5 A8)
end Pw
end
section
namespace Pw
open Go Am
def V9 (s:PaShow) (p:List PaUse):Int:=sm ((pays s p).map Z33)
theorem C7d {s:PaShow} (hs:ShOk s) {p:List PaUse} (h:PlU s p) (i:Nat):0≤sm (((pays s p).take i).map Z33)∧sm (((pays s p).take i).map Z33)≤300000:= by
 have:=C8q (a:=0) (b:=100000) (l:=((pays s p).take i).map Z33) (fun z hz=>by
  obtain⟨x,hx,rfl⟩:=ZJ.mp hz
  exact(A7d hs h x (Z05 hx)).1)
 rw[Zi,ZE,P9 h]at this
 have:=hs.figures
 have:=h.len
 omega
theorem C8t {l:List (Int×Int)} (h:∀x∈l,0≤x.1) {d e:Int} (hde:d≤e):Q8 l d≤Q8 l e:= by
 unfold Q8
 refine B8f fun x hx=>?_
 have:=h x hx
 split <;> split <;> omega
theorem C31 {l:List (Int×Int)} {d:Int}:(∃ x∈l,x.2≤d)→∃ x∈l,x.2≤d∧∀ y∈l,y.2≤d→y.2≤x.2:= by
 induction l with
 | nil=>rintro⟨x,hx,_⟩;cases hx
 | cons a l ih =>
  intro hx
  by_cases hl:∃x∈l,x.2≤d
  ·obtain⟨x,hx,hd,hm⟩:=ih hl
   by_cases ha:a.2≤d∧x.2<a.2
   ·refine⟨a,ZC ..,ha.1,fun y hy hyd=>?_⟩
    rcases Zv.mp hy with rfl|hy
    ·exact ZR _
    ·have:=hm y hy hyd;omega
   ·refine⟨x,ZB _ hx,hd,fun y hy hyd=>?_⟩
    rcases Zv.mp hy with rfl|hy
    ·omega
    ·exact hm y hy hyd
  ·obtain⟨x,hx,hd⟩:=hx
   rcases Zv.mp hx with rfl|hx
   ·refine⟨x,ZC ..,hd,fun y hy hyd=>?_⟩
    rcases Zv.mp hy with rfl|hy
    ·exact ZR _
    ·exact absurd ⟨y,hy,hyd⟩ hl
   ·exact absurd ⟨x,hx,hd⟩ hl
theorem D4u {s:PaShow} (hs:ShOk s) {p:List PaUse} (h:PlU s p) {d:Int} (hn:O3 s p d<0):∃x∈pays s p,x.2≤d∧O3 s p x.2<0:= by
 have hi0:∀x∈incs s,0≤x.1:=fun x hx=>(A5f hs x hx).1.1
 have hpu:=hs.purse
 by_cases he:∃x∈pays s p,x.2≤d
 ·obtain⟨x,hx,hd,hm⟩:=C31 he
  refine⟨x,hx,hd,?_⟩
  have e:Q8 (pays s p) d=Q8 (pays s p) x.2:= by
   unfold Q8
   refine congrArg sm (List.map_congr_left fun y hy=>?_)
   by_cases hy2:y.2≤d
   ·rw[if_pos hy2,if_pos (hm y hy hy2)]
   ·rw[if_neg hy2,if_neg (by omega)]
  have:=C8t hi0 hd
  unfold O3 at hn ⊢
  omega
 ·have e:Q8 (pays s p) d=0:= by
   unfold Q8
   exact C2o fun x hx=>if_neg fun hc=>he ⟨x,hx,hc⟩
  have:=(A7k (fun x hx=>(A5f hs x hx).1) d).1
  unfold O3 at hn
  omega
def fm {α:Type} (k:α→Int):List α→Option α
 | []=>none
 | x::l=>match fm k l with
  | none=>some x
  | some y=>if k y<k x then some y else some x
section
variable {α:Type} {k:α→Int}
theorem C7l:∀{l:List α},fm k l=none↔l=[]
 | []=>⟨fun _=>rfl,fun _=>rfl⟩
 | x::l=>by
  refine⟨fun h=>?_,fun h=>by cases h⟩
  unfold fm at h
  split at h
  ·cases h
  ·split at h <;> cases h
theorem B5m:∀{l:List α} {b:α},fm k l=some b→(∀ y∈l,k b≤k y)∧∃ A B,l=A++b::B∧∀ a∈A,k b<k a
 | [],b,h=>by cases h
 | x::l,b,h=>by
  unfold fm at h
  cases hf:fm k l with
  | none =>
   rw[hf]at h;cases h
   rw[C7l.mp hf]
   exact⟨by simp,[],[],Z,by simp⟩
  | some y =>
   rw[hf]at h
   obtain⟨h1,A,B,rfl,h3⟩:=B5m hf
   simp only at h
   split at h
   ·next c =>
    cases h
    refine⟨fun z hz=>?_,x::A,B,Z,fun a ha=>?_⟩
    ·rcases Zv.mp hz with rfl|hz
     ·omega
     ·exact h1 z hz
    ·rcases Zv.mp ha with rfl|ha
     ·exact c
     ·exact h3 a ha
   ·next c =>
    cases h
    refine⟨fun z hz=>?_,[],A++y::B,Z,by simp⟩
    rcases Zv.mp hz with rfl|hz
    ·exact ZR _
    ·have:=h1 z hz;omega
theorem B6p {l:List α} {b:α} (h:fm k l=some b):b∈l:= by
 obtain⟨_,A,B,rfl,_⟩:=B5m h
 simp
theorem C7k {l:List α} {b:α} (h:fm k l=some b) {y:α} (hy:y∈l):k b≤k y:=(B5m h).1 y hy
theorem C1q {l:List α} {x:α} (h:x∈l):∃b,fm k l=some b:= by
 cases hf:fm k l with
 | none=>rw[C7l.mp hf]at h;cases h
 | some b=>exact⟨b,Z⟩
theorem C7m (y:α):∀(l:List α),fm k (l++[y])=match fm k l with
  | none=>some y
  | some b=>if k y<k b then some y else some b
 | []=>rfl
 | x::l=>by
  show (match fm k (l++[y]) with|none=>some x|some z=>if k z<k x then some z else some x)=match (match fm k l with|none=>some x|some z=>if k z<k x then some z else some x) with|none=>some y|some b=>if k y<k b then some y else some b
  rw[C7m y l]
  cases fm k l with
  | none=>rfl
  | some b =>
   simp only
   by_cases c1:k b<k x <;> by_cases c2:k y<k b <;> by_cases c3:k y<k x <;> simp only[c1,c2,c3,if_true,if_false] <;> omega
end
def G0 (p:List PaUse):Int:=sm (p.map fun x=>if x.Gown = -1 then 1 else 0)
theorem A7l (p:List PaUse):0≤G0 p∧G0 p≤p.length:= by
 have:=C8q (a:=0) (b:=1) (l:=p.map fun x=>if x.Gown = -1 then 1 else 0) (fun z hz=>by
  obtain⟨x,_,rfl⟩:=ZJ.mp hz
  split <;> omega)
 rw[Zi]at this
 unfold G0
 omega
def gv (p:List PaUse) (k:Nat):Int:=if k<p.length then p[k]!.Gown+1 else 0
def A47 (p:List PaUse):Ar3 Int:=⟨gv p 0,gv p 1,gv p 2⟩
def fdP (s:PaShow) (p:List PaUse):pawn_found:=⟨p,G0 p,V9 s p,(M7 s p).1,A47 p⟩
theorem C1w {p:List PaUse} {u:PaUse} (k:Nat):gv (p++[u]) k=if k=p.length then u.Gown+1 else gv p k:= by
 unfold gv
 rw[Zp,List.length_singleton]
 by_cases h:k=p.length
 ·subst h
  rw[if_pos (by omega),if_pos Z,getElem!_pos _ _ (by simp)];simp
 ·rw[if_neg h]
  by_cases h2:k<p.length
  ·rw[if_pos (by omega),if_pos h2,getElem!_pos _ k (by simp;omega),getElem!_pos p k h2,List.getElem_append_left h2]
  ·rw[if_neg (by omega),if_neg h2]
theorem D1p {p:List PaUse} {u:PaUse}:(A47 p).set (p.length:Int) (u.Gown+1)=A47 (p++[u]):= by
 unfold A47 Ar3.set
 rw[C1w,C1w,C1w]
 have e0:((p.length:Int)=0)=(0=p.length):= by rw[eq_iff_iff];omega
 have e1:((p.length:Int)=1)=(1=p.length):= by rw[eq_iff_iff];omega
 have e2:((p.length:Int)=2)=(2=p.length):= by rw[eq_iff_iff];omega
 simp only[e0,e1,e2]
theorem D1g {s:PaShow} (hs:ShOk s) (D:List Int) {p:List PaUse} (h:PlU s p):B1g s D p=some (fdP s p):= by
 have hF:=hs.figures
 have hG:=hs.gowns
 have hlen:=h.len
 unfold B1g B7d
 rw[if_pos ⟨by omega,by omega,by omega⟩]
 simp only[Zg]
 have e1:loop (A86 s D p) (⟨0,0,⟨0,0,0⟩⟩,0)=some ⟨G0 p,V9 s p,A47 p⟩:= by
  have hc:∀i,i≤p.length→(pays s p).take i=(pays s p).take i:=fun _ _=>rfl
  have:=A58 (b:=A86 s D p) (fun i=>((⟨G0 (p.take i),sm (((pays s p).take i).map Z33),A47 (p.take i)⟩:Fd),(i:Int))) p.length (r:=⟨G0 p,V9 s p,A47 p⟩) (by omega) (fun i hi=>by
   have hx:=(A7d hs h _ (K3 (l:=pays s p) (i:=i) (by rw[P9 h];exact hi))).1
   have hcb:=C7d hs h i
   have hwb:=A7l (p.take i)
   have htl:(p.take i).length=i:= by rw[ZE];omega
   rw[A6h h hi]at hx
   have hu:=h.use i hi
   have hgb:-1≤p[i]!.Gown∧p[i]!.Gown≤5:= by
    rcases U6.mp hu with e|e
    ·rw[e];exact⟨by decide,by decide⟩
    ·have:=e.lo;have:=e.hi;omega
   have ec:sm (((pays s p).take (i+1)).map Z33)=sm (((pays s p).take i).map Z33)+(A0n s.Gowns s.Figures[i]! p[i]!).1:= by
    rw[ZY (by rw[P9 h];exact hi),Z01,A6o,← A6h h hi,getElem!_pos _ i (by rw[P9 h];exact hi)]
    simp[sm]
   have et:p.take (i+1)=p.take i++[p[i]!]:= by
    rw[ZY hi,getElem!_pos p i hi]
   have ew:G0 (p.take (i+1))=G0 (p.take i)+if p[i]!.Gown = -1 then 1 else 0:= by
    rw[et];unfold G0;rw[Z01,A6o];simp[sm]
   have eh:(A47 (p.take i)).set (i:Int) (p[i]!.Gown+1)=A47 (p.take (i+1)):= by
    rw[et,← D1p,htl]
   have hi3:∃v,idx (A47 (p.take i)).l (i:Int)=some v:= by
    unfold Ar3.l
    exact⟨_,M0 (by simp;omega)⟩
   obtain⟨v,hv⟩:=hi3
   unfold A86 Y3
   simp only[]
   rw[if_pos (by simpa using hi),M0 hi]
   simp only[Zg]
   rw[C2g hs D (f:=(i:Int)) (by omega) (by rw[ZL];exact hu),ZL,hv]
   simp only[Zg]
   rw[F5 (n:=p[i]!.Gown+1) (by omega),F5 (n:=(i:Int)+1) (by omega),F5 (n:=G0 (p.take i)+1) (by omega),F5 (n:=sm (((pays s p).take i).map Z33)+_) (by omega),eh,ew,ec]
   by_cases hb:p[i]!.Gown = -1
   ·have:p[i]! = bare0:= by
     rcases U6.mp hu with e|e
     ·exact e
     ·have:=e.lo;omega
    rw[if_pos (by rw[this];rfl),if_pos hb];rfl
   ·rw[if_neg (by simp only[Zc,beq_iff_eq];exact fun q=>hb q.1),if_neg hb,Z4v];rfl) (by
   rw[ZP (Zn _),ZP (by rw[P9 h];omega)]
   unfold A86
   simp only[]
   rw[if_neg (by simp)];rfl)
  exact this
 rw[e1]
 simp only[Zg]
 rw[D3h hs D h]
 rfl
section
variable {σ ρ:Type}
theorem C23 {s:PaShow} (hs:ShOk s) (hP:∀p∈PL s (M9 s) s.Figures.length [],PlU s p) (body:pawn_found→σ→Option (σ⊕ρ)) {st:σ} {X:σ⊕ρ} (h:T5 (fun p st=>body (fdP s p) st) (PL s (M9 s) s.Figures.length []) st=some X):B55 s (M9 s) σ ρ body st=some X:= by
 unfold B55
 refine C6l hs B1a.1 B1a.2 _ ?_
 rw[← h]
 exact A75 fun p hp st=>by rw[D1g hs _ (hP p hp)];rfl
def D5d (s:PaShow) (p:List PaUse):Bool:=!decide ((M7 s p).1>0)
def PA (s:PaShow):List (List PaUse):=(PL s (M9 s) s.Figures.length []).filter (D5d s)
theorem B7z {s:PaShow} (hs:ShOk s) (hP:∀p∈PL s (M9 s) s.Figures.length [],PlU s p) (body:pawn_found→σ→Option (σ⊕ρ)) {st:σ} {X:σ⊕ρ} (h:T5 (fun p st=>body (fdP s p) st) (PA s) st=some X):B4r s (M9 s) σ ρ body st=some X:= by
 unfold B4r
 refine C23 hs hP _ ?_
 rw[← h]
 unfold PA
 rw[A3v]
 refine A75 fun p hp st=>?_
 show (if decide ((M7 s p).1>0)=true then some (.inl st) else body (fdP s p) st)=_
 unfold D5d
 cases decide ((M7 s p).1>0) <;> rfl
end
section
variable {α:Type} {k:α→Int}
def upd (k:α→Int) (o:Option α) (a:α):Option α:=match o with|none=>some a|some b=>if k a<k b then some a else some b
theorem C7j:∀(m l:List α),m.foldl (upd k) (fm k l)=fm k (l++m)
 | [],l=>by simp
 | a::m,l=>by
  rw[Z11]
  have:upd k (fm k l) a=fm k (l++[a]):= by rw[C7m];rfl
  rw[this,C7j m,Zz];rfl
def stO (F:α→pawn_found):Option α→pawn_found×Bool
 | none=>(fnd0,false)
 | some b=>(F b,true)
theorem C1e {it:It} {L:List α} {F:α→pawn_found} {g:pawn_found→pawn_found→Option Int} (hit:∀(σ ρ:Type) (body:pawn_found→σ→Option (σ⊕ρ)) (st:σ) (X:σ⊕ρ),T5 (fun a st=>body (F a) st) L st=some X→it σ ρ body st=some X)
  (hg:∀a∈L,∀ b∈L,∃ r,g (F a) (F b)=some r∧(r<0↔k a<k b)):B6b it g=some (stO F (fm k L)):= by
 have key:∀(m:List α) (o:Option α),(∀ a∈m,a∈L)→(∀ b,o=some b→b∈L)→T5 (fun a st=>B9m g (F a) st) m (stO F o)=(some (.inl (stO F (m.foldl (upd k) o))):Option ((pawn_found×Bool)⊕Unit)):= by
  intro m
  induction m with
  | nil=>intro o _ _;rfl
  | cons a m ih =>
   intro o hm ho
   have hb:B9m g (F a) (stO F o)=some (.inl (stO F (upd k o a))):= by
    unfold B9m
    cases o with
    | none=>rfl
    | some b =>
     obtain⟨r,h1,h2⟩:=hg a (hm a (ZC ..)) b (ho b Z)
     show (if (!true)=true then _ else (g (F a) (F b)).bind _:Option Bool).bind _=_
     rw[h1]
     unfold upd
     by_cases c:k a<k b
     ·simp only[if_pos c]
      have:decide (r<0)=true:=decide_eq_true (h2.mpr c)
      simp[this,stO]
     ·simp only[if_neg c]
      have:decide (r<0)=false:=decide_eq_false fun q=>c (h2.mp q)
      simp only[Z1e,Zj,if_false,Zg,this,stO]
   show (B9m g (F a) (stO F o)).bind _=_
   rw[hb]
   refine ih (upd k o a) (fun b hb=>hm b (ZB _ hb)) fun b hb=>?_
   unfold upd at hb
   cases o with
   | none=>cases hb;exact hm a (ZC ..)
   | some c =>
    simp only at hb
    split at hb
    ·cases hb;exact hm a (ZC ..)
    ·cases hb;exact ho _ Z
 unfold B6b
 rw[hit _ _ _ (fnd0,false) (.inl (stO F (fm k L))) (by
  have:=key L none (fun _ h=>h) (fun b h=>by cases h)
  rw[show (none:Option α)=fm k ([]:List α) from Z,C7j,List.nil_append]at this
  exact this)]
 rfl
end
def A3w (s:PaShow) (p:List PaUse):Int:=G0 p*1000000+V9 s p
theorem or2 (a b:Int):A2j [a,b]=some (if a=0 then b else a):= by
 unfold A2j
 rw[B5u (b:=A0v [a,b]) 2 (fun i=>if ([a,b][i]!:Int)=0 then none else some (.inl [a,b][i]!)) (.inr ()) (by omega) (fun i hi _=>by
  unfold A0v
  rw[if_pos (by simp;omega),M0 (by simp;omega)]
  simp only[Zg]
  by_cases h:([a,b][i]!:Int)=0
  ·rw[if_neg (by rw[h];decide),if_pos h]
  ·rw[if_pos (bne_iff_ne.mpr h),if_neg h]) (by
  unfold A0v
  rw[if_neg (by simp)])]
 simp only[first]
 rw[show ([a,b][0]!:Int)=a from Z,show ([a,b][1]!:Int)=b from Z]
 by_cases ha:a=0
 ·by_cases hb:b=0
  ·simp[ha,hb]
  ·simp[ha,hb]
 ·simp[ha]
end Pw
end
