/- Texts that the claim stands on, one behind another. -/
import Derived.Test.YtjjmechghfjbmaaA11
import Derived.Laws.RangeAny
set_option linter.unusedVariables false
set_option linter.unusedSimpArgs false
set_option linter.unnecessarySimpa false
section
namespace Vn
open Go Am
instance:Inhabited Span:=⟨⟨0,0⟩⟩
instance:Inhabited VaVan:=⟨⟨ByteArray.empty,0,0,[]⟩⟩
instance:Inhabited VaCrate:=⟨⟨ByteArray.empty,0,0,0⟩⟩
instance:Inhabited VaPair:=⟨⟨0,0⟩⟩
def badAt (s:ByteArray) (i:Nat):Bool :=
 !(decide (97≤s[i]!.toNat) && decide (s[i]!.toNat≤122)) && (i == 0 || !((decide (48≤s[i]!.toNat) && decide (s[i]!.toNat≤57)) || s[i]!.toNat == 46))
def bad (s:ByteArray) (i:Nat):Option Unit:=if badAt s i then some () else none
def nameOk (s:ByteArray):Bool:=(!(s.size == 0) && decide (s.size≤16)) && (first (bad s) s.size).isNone
theorem nd97 {x:Nat}:decide ((97:Int)≤(x:Int))=decide (97≤x):=decide_eq_decide.mpr (by omega)
theorem nd122 {x:Nat}:decide ((x:Int)≤122)=decide (x≤122):=decide_eq_decide.mpr (by omega)
theorem nd48 {x:Nat}:decide ((48:Int)≤(x:Int))=decide (48≤x):=decide_eq_decide.mpr (by omega)
theorem nd57 {x:Nat}:decide ((x:Int)≤57)=decide (x≤57):=decide_eq_decide.mpr (by omega)
theorem nl48 {x:Nat}:decide ((x:Int) < 48) = !decide (48≤x):= by rw [Bool.eq_iff_iff]; simp; omega
theorem nl57 {x:Nat}:decide ((57:Int) < (x:Int)) = !decide (x≤57):= by rw [Bool.eq_iff_iff]; simp; omega
theorem nz0 {x:Nat}:((x:Int) == 0)=(x == 0):= by rw [Bool.eq_iff_iff]; simp
theorem n46 {x:Nat}:((x:Int) == 46)=(x == 46):= by rw [Bool.eq_iff_iff]; simp; omega
theorem n46' {x:Nat}:((x:Int) == 46)=(x == 46):=n46
theorem strAt_get {s:ByteArray} {i:Nat} (h:i < s.size):strAt s (i:Int)=some (s[i]!.toNat:Int):= by
 unfold strAt
 rw [if_pos (Int.natCast_nonneg i),Int.toNat_natCast,getElem?_pos s i h,getElem!_pos s i h]; rfl
theorem ref01_Name_eq (s:ByteArray):ref01_Name s=some (nameOk s):= by
 unfold ref01_Name nameOk
 by_cases h0:s.size=0
 ·rw [if_pos (by simp [h0])]; simp [h0]
 by_cases h1:s.size > 16
 ·rw [if_pos (by simp; omega)]
  have:decide (s.size≤16)=false:= by simp; omega
  rw [this]; simp
 rw [if_neg (by simp only [Bool.or_eq_true,beq_iff_eq,decide_eq_true_eq]; omega)]
 have hl:loop (ref01_Name_L1 s) 0=some ((first (fun i=>(bad s i).map fun _=>(Sum.inl false:Bool⊕Unit)) s.size).getD (.inr ())):= by
  refine loop_ix s.size _ _ (by omega) ?_ ?_
  ·intro i hi _
   unfold ref01_Name_L1
   rw [if_pos (by simpa using hi),strAt_get hi]
   have hb:s[i]!.toNat < 256:=s[i]!.toNat_lt
   generalize hx:s[i]!.toNat=x at hb
   simp only [Option.bind_some,ref01_within,w64_id (n:=(x:Int)) (by omega),ge_iff_le,nd97,nd122,nd48,nd57,nz0,n46]
   unfold bad badAt
   rw [hx]
   generalize decide (97≤x)=b1
   generalize decide (x≤122)=b2
   generalize decide (48≤x)=b3
   generalize decide (x≤57)=b4
   generalize (x == 46)=b5
   generalize (i == 0)=b6
   cases b1 <;> cases b2 <;> cases b3 <;> cases b4 <;> cases b5 <;> cases b6 <;> rfl
  ·unfold ref01_Name_L1
   rw [if_neg (by simp)]
 rw [hl]
 cases hf:first (bad s) s.size with
 | none =>
  have:=first_none.mp hf
  rw [first_none.mpr fun i hi=>by rw [this i hi]; rfl]
  have e1:(s.size == 0)=false:= by rw [beq_eq_false_iff_ne]; exact h0
  have e2:decide (s.size≤16)=true:=decide_eq_true (by omega)
  rw [e1,e2]; rfl
 | some u =>
  obtain ⟨i,hi,h2,h3⟩:=first_some hf
  rw [first_eq (r:=.inl false) hi (by rw [h2]; rfl) fun j hj=>by rw [h3 j hj]; rfl]
  simp
theorem mould_Name_eq (s:ByteArray) (hs:s.size < 9223372036854775808):mould_Name s=some (nameOk s):= by
 unfold mould_Name nameOk
 have hl:loop (mould_Name_L1 s) (0:Nat)=some ((first (fun i=>(bad s i).map fun _=>(Sum.inl false:Bool⊕Nat)) s.size).getD (.inr s.size)):= by
  refine loop_find (fun i=>i) s.size _ _ hs ?_ ?_
  ·intro i hi _
   unfold mould_Name_L1
   rw [if_pos (by simpa using hi)]
   unfold bad badAt
   rw [getElem!_pos s i hi]
   by_cases ha:(s[i]'hi).toNat < 128
   ·rw [decode_ascii s i hi ha]
    generalize (s[i]'hi).toNat=x at ha ⊢
    simp only [nd97,nd122,gt_iff_lt,nl48,nl57,nz0,n46',bne]
    generalize decide (97≤x)=b1
    generalize decide (x≤122)=b2
    generalize decide (48≤x)=b3
    generalize decide (x≤57)=b4
    generalize (x == 46)=b5
    generalize (i == 0)=b6
    cases b1 <;> cases b2 <;> cases b3 <;> cases b4 <;> cases b5 <;> cases b6 <;> rfl
   ·have hd:=(decode_high s i hi (by omega)).1
    generalize (Utf8.decode s i).1=y at hd ⊢
    generalize (s[i]'hi).toNat=x at ha ⊢
    rw [if_pos (by simp; omega)]
    have e1:decide (x≤122)=false:= by simp; omega
    have e2:decide (x≤57)=false:= by simp; omega
    have e3:(x == 46)=false:= by simp; omega
    simp [e1,e2,e3]
  ·intro _
   unfold mould_Name_L1
   rw [if_neg (by simp)]
 rw [hl]
 have he:eqS s (ByteArray.mk #[])=(s.size == 0):= by
  unfold eqS
  cases hz:s.data.toList with
  | nil =>
   have:s.size=0:= by show s.data.size=0; rw [← Array.length_toList,hz]; rfl
   rw [this]; rfl
  | cons a t =>
   have:s.size=t.length+1:= by show s.data.size=_; rw [← Array.length_toList,hz]; rfl
   rw [this]; rfl
 cases hf:first (bad s) s.size with
 | none =>
  have:=first_none.mp hf
  rw [first_none.mpr fun i hi=>by rw [this i hi]; rfl]
  have e2:decide ((s.size:Int)≤16)=decide (s.size≤16):=decide_eq_decide.mpr (by omega)
  simp [he,e2]
 | some u =>
  obtain ⟨i,hi,h2,h3⟩:=first_some hf
  rw [first_eq (r:=.inl false) hi (by rw [h2]; rfl) fun j hj=>by rw [h3 j hj]; rfl]
  simp
theorem any_first {α:Type} [Inhabited α] (l:List α) (p:α→Bool):(first (fun i=>if p l[i]! then some (i:Int) else none) l.length).isSome=l.any p:= by
 cases hf:first (fun i=>if p l[i]! then some (i:Int) else none) l.length with
 | none =>
  have h0:=first_none.mp hf
  cases ha:l.any p with
  | false=>rfl
  | true =>
   rw [List.any_eq_true] at ha
   obtain ⟨x,hx,hp⟩:=ha
   obtain ⟨i,hi,e⟩:=List.mem_iff_getElem.mp hx
   have:=h0 i hi
   rw [getElem!_pos l i hi,e,hp] at this
   exact absurd this (by simp)
 | some r =>
  obtain ⟨i,hi,h1,_⟩:=first_some hf
  rw [getElem!_pos l i hi] at h1
  cases hp:p l[i] with
  | false=>rw [hp] at h1; exact absurd h1 (by simp)
  | true=>exact (List.any_eq_true.mpr ⟨l[i],List.getElem_mem hi,hp⟩).symm
theorem find_loop {α:Type} [Inhabited α] (l:List α) (p:α→Bool) {b:Int→Option (Int⊕(Int⊕Unit))} (hl:l.length < 9223372036854775808)
  (hb:∀i:Nat,i < l.length→b i=some (if p l[i]! then .inr (.inl (i:Int)) else .inl (w64 ((i:Int)+1)))) (he:b l.length=some (.inr (.inr ()))) :
  ∃ o,loop b 0=some o∧(match o with | .inl i=>0≤i∧l.any p=true | .inr _=>l.any p=false):= by
 have h:=loop_ix (b:=b) l.length (fun i=>if p l[i]! then some (.inl (i:Int)) else none) (.inr ()) hl (fun i hi _=>by
  rw [hb i hi]; cases p l[i]! <;> rfl) he
 refine ⟨_,h,?_⟩
 have ha:=any_first l p
 cases hf:first (fun i=>if p l[i]! then some (Sum.inl (i:Int):Int⊕Unit) else none) l.length with
 | none =>
  have h0:=first_none.mp hf
  rw [first_none.mpr fun i hi=>by
   have:=h0 i hi
   cases hp:p l[i]! with
   | false=>rfl
   | true=>rw [hp] at this; exact absurd this (by simp)] at ha
  simpa using ha.symm
 | some r =>
  obtain ⟨i,hi,h1,h2⟩:=first_some hf
  cases hp:p l[i]! with
  | false=>rw [hp] at h1; exact absurd h1 (by simp)
  | true =>
   rw [hp] at h1
   have h1:some (Sum.inl (i:Int))=some r:=h1
   obtain rfl:=Option.some.inj h1
   refine ⟨Int.natCast_nonneg i,?_⟩
   rw [first_eq (r:=(i:Int)) hi (by rw [hp]; rfl) fun j hj=>by
    have:=h2 j hj
    cases hq:p l[j]! with
    | false=>rfl
    | true=>rw [hq] at this; exact absurd this (by simp)] at ha
   exact ha.symm
theorem contains_gen {α:Type} [Inhabited α] (l:List α) (g:α→Option Bool) (p:α→Bool) {b:Int→Option (Int⊕(Int⊕Unit))} {F:Option Bool} (hl:l.length < 9223372036854775808) (hg:∀x ∈ l,g x=some (p x))
  (hb:∀i:Int,b i=if decide (i < l.length)=true then (idx l i).bind fun x=>(g x).bind fun y=>if y=true then some (.inr (.inl i)) else some (.inl (w64 (i+1))) else some (.inr (.inr ())))
  (hF:F=((loop b 0).bind fun o=>match o with | .inl v=>some v | .inr _=>some (-1)).bind fun x=>some (decide (x ≥ 0))):F=some (l.any p):= by
 obtain ⟨o,ho,hc⟩:=find_loop l p (b:=b) hl (fun i hi=>by
  rw [hb,if_pos (by simpa using hi),idx_get hi]
  simp only [Option.bind_some]
  rw [hg _ (by rw [getElem!_pos l i hi]; exact List.getElem_mem hi)]
  simp only [Option.bind_some]
  cases p l[i]! <;> rfl) (by
  rw [hb,if_neg (by simp)])
 rw [hF,ho]
 rcases o with i | u
 ·simp only [Option.bind_some]
  rw [hc.2,decide_eq_true hc.1]
 ·simp only [Option.bind_some]
  rw [hc]; rfl
theorem contains_int (l:List Int) (g:Int→Option Bool) (p:Int→Bool) (hl:l.length < 9223372036854775808) (hg:∀x ∈ l,g x=some (p x)):slices_ContainsFunc_int_int l g=some (l.any p) :=
 contains_gen l g p (b:=slices_IndexFunc_int_int_L1 l g) hl hg (fun _=>rfl) rfl
theorem contains_VaCrate (l:List VaCrate) (g:VaCrate→Option Bool) (p:VaCrate→Bool) (hl:l.length < 9223372036854775808) (hg:∀x ∈ l,g x=some (p x)):slices_ContainsFunc_api_VaCrate_api_VaCrate l g=some (l.any p) :=
 contains_gen l g p (b:=slices_IndexFunc_api_VaCrate_api_VaCrate_L1 l g) hl hg (fun _=>rfl) rfl
theorem contains_VaVan (l:List VaVan) (g:VaVan→Option Bool) (p:VaVan→Bool) (hl:l.length < 9223372036854775808) (hg:∀x ∈ l,g x=some (p x)):slices_ContainsFunc_api_VaVan_api_VaVan l g=some (l.any p) :=
 contains_gen l g p (b:=slices_IndexFunc_api_VaVan_api_VaVan_L1 l g) hl hg (fun _=>rfl) rfl
theorem contains_VaPair (l:List VaPair) (g:VaPair→Option Bool) (p:VaPair→Bool) (hl:l.length < 9223372036854775808) (hg:∀x ∈ l,g x=some (p x)):slices_ContainsFunc_api_VaPair_api_VaPair l g=some (l.any p) :=
 contains_gen l g p (b:=slices_IndexFunc_api_VaPair_api_VaPair_L1 l g) hl hg (fun _=>rfl) rfl
def out (lo hi x:Int):Bool:=decide (x < lo) || decide (x > hi)
theorem outside_eq (lo hi:Int) (l:List Int) (hl:l.length < 9223372036854775808):van_outside lo hi l=some (l.any (out lo hi)):= by
 unfold van_outside
 exact (congrArg (Option.bind · some) (contains_int l (fun y=>van_outside_1 y lo hi) (out lo hi) hl fun x _=>rfl)).trans rfl
theorem outside1 (lo hi x:Int):van_outside lo hi [x]=some (out lo hi x):= by
 rw [outside_eq lo hi [x] (by simp)]; simp
theorem outside2 (lo hi x y:Int):van_outside lo hi [x,y]=some (out lo hi x || out lo hi y):= by
 rw [outside_eq lo hi [x,y] (by simp)]; simp
theorem in_out (lo hi x:Int):ref06_in x lo hi=some (!out lo hi x):= by
 unfold ref06_in out
 rw [Option.some_inj,Bool.eq_iff_iff]; simp
theorem within_out (lo hi x:Int):ref01_within x lo hi=some (!out lo hi x):=in_out lo hi x
def newCode (s:ByteArray) (l:List ByteArray):Int:=if nameOk s then (if l.any (fun y=>eqS y s) then 5 else 0) else 6
instance:Inhabited ByteArray:=⟨ByteArray.empty⟩
theorem ref01_New_eq (s:ByteArray) (l:List ByteArray) (hl:l.length < 9223372036854775808):ref01_New s l=some (newCode s l):= by
 unfold ref01_New newCode
 rw [ref01_Name_eq]
 cases nameOk s
 ·rfl
 ·simp only [Option.bind_some]
  unfold ref01_Index
  obtain ⟨o,ho,hc⟩:=find_loop l (fun y=>eqS y s) (b:=ref01_Index_L1 l s) hl (fun i hi=>by
   unfold ref01_Index_L1
   rw [if_pos (by simpa using hi),idx_get hi]
   simp only [Option.bind_some]
   cases eqS l[i]! s <;> rfl) (by
   unfold ref01_Index_L1
   rw [if_neg (by simp)])
  rw [ho]
  rcases o with i | u
  ·simp only [Option.bind_some]
   rw [hc.2,decide_eq_true hc.1]; rfl
  ·simp only [Option.bind_some]
   rw [hc]; rfl
def legCode (g:Span):Option Int:=if out 0 600 g.Lo || out 0 600 g.Hi then some 7 else if g.Lo > g.Hi then some 2 else none
def vanRest (t:VaTrain) (v:VaVan):Int :=
 if out 0 20 v.Room || out 0 5000 v.Leave then 7 else
 if (v.Legs.length:Int) != t.Stops then 3 else (first (fun j=>legCode v.Legs[j]!) v.Legs.length).getD 0
def vanName (t:VaTrain) (i:Nat):Int:=newCode t.Vans[i]!.Name ((t.Vans.take i).map (·.Name))
def vanCode (t:VaTrain) (i:Nat):Int:=if vanName t i == 0 then vanRest t t.Vans[i]! else vanName t i
def crateName (t:VaTrain) (i:Nat):Int:=newCode t.Crates[i]!.Name ((t.Crates.take i).map (·.Name))
def crateCode (t:VaTrain) (i:Nat):Int :=
 if crateName t i == 0 then (if out 1 9 t.Crates[i]!.Size || out 0 (t.Stops - 1) t.Crates[i]!.Stop || out 0 5000 t.Crates[i]!.By then 7 else 0) else crateName t i
def pairCode (t:VaTrain) (i:Nat):Int :=
 if out 0 (t.Crates.length - 1) t.Apart[i]!.A || out 0 (t.Crates.length - 1) t.Apart[i]!.B then 4 else
 if t.Apart[i]!.A ≥ t.Apart[i]!.B then 2 else 0
def wrong (f:Nat→Int) (n:Nat):Option (Int×Int):=first (fun i=>if f i == 0 then none else some ((i:Int),f i)) n
def check (t:VaTrain):Int×Int×Int :=
 if out 1 3 t.Stops || out 0 60 t.Handle then (1,0,7) else
 if out 1 3 t.Vans.length then (2,0,3) else
 match wrong (vanCode t) t.Vans.length with
 | some x=>(2,x)
 | none =>
 if t.Crates.length > 6 then (3,0,3) else
 match wrong (crateCode t) t.Crates.length with
 | some x=>(3,x)
 | none =>
 if t.Apart.length > 4 then (4,0,3) else
 match wrong (pairCode t) t.Apart.length with
 | some x=>(4,x)
 | none=>(0,0,0)
theorem wrong_some {f:Nat→Int} {n:Nat} {x:Int×Int} (h:wrong f n=some x):(x.2 != 0)=true:= by
 obtain ⟨i,_,h1,_⟩:=first_some h
 cases hb:f i == 0 with
 | true=>rw [hb] at h1; exact absurd h1 (by simp)
 | false =>
  rw [hb] at h1
  have h1:some ((i:Int),f i)=some x:=h1
  rw [← Option.some.inj h1]
  show (f i != 0)=true
  rw [bne,hb]; rfl
theorem out_in {lo hi x:Int}:out lo hi x=false↔lo≤x∧x≤hi:= by
 unfold out
 rw [Bool.or_eq_false_iff,decide_eq_false_iff_not,decide_eq_false_iff_not]
 omega
theorem loop_wrong {ρ:Type} {b:Int→Option (Int⊕ρ)} (n:Nat) (f:Nat→Int) (k:Int×Int→ρ) (z:ρ) (hn:n < 9223372036854775808)
  (hs:∀i:Nat,i < n→b (i:Int)=some (if f i == 0 then .inl (w64 ((i:Int)+1)) else .inr (k ((i:Int),f i))))
  (he:b (n:Int)=some (.inr z)) :
  loop b 0=some (match wrong f n with | some x=>k x | none=>z):= by
 rw [loop_ix n (fun i=>if f i == 0 then none else some (k ((i:Int),f i))) z hn (fun i hi _=>by rw [hs i hi]; cases f i == 0 <;> rfl) he]
 unfold wrong
 cases hf:first (fun i=>if f i == 0 then none else some ((i:Int),f i)) n with
 | none =>
  have h0:=first_none.mp hf
  rw [first_none.mpr fun i hi=>by
   have:=h0 i hi
   cases hb:f i == 0 with
   | true=>rfl
   | false=>rw [hb] at this; exact absurd this (by simp)]
  rfl
 | some x =>
  obtain ⟨i,hi,h1,h2⟩:=first_some hf
  rw [first_eq (r:=k x) hi (by
   cases hb:f i == 0 with
   | true=>rw [hb] at h1; exact absurd h1 (by simp)
   | false =>
    rw [hb] at h1
    have h1:some ((i:Int),f i)=some x:=h1
    rw [← Option.some.inj h1]; rfl) fun j hj=>by
   have:=h2 j hj
   cases hb:f j == 0 with
   | true=>rfl
   | false=>rw [hb] at this; exact absurd this (by simp)]
  rfl
def NB (t:VaTrain):Prop:=(∀ v ∈ t.Vans,v.Name.size < 9223372036854775808)∧(∀ v ∈ t.Crates,v.Name.size < 9223372036854775808)
theorem get_mem {α:Type} [Inhabited α] {l:List α} {i:Nat} (h:i < l.length):l[i]! ∈ l:= by
 rw [getElem!_pos l i h]; exact List.getElem_mem h
theorem named_VaCrate (l:List VaCrate) (i:Nat) (hi:i < l.length) (hl:l.length < 9223372036854775808) (hn:l[i]!.Name.size < 9223372036854775808) :
  van_named_api_VaCrate l (i:Int) (fun y=>van_train_crate_1 y)=some (newCode l[i]!.Name ((l.take i).map (·.Name))):= by
 unfold van_named_api_VaCrate van_train_crate_1
 rw [idx_get hi]
 simp only [Option.bind_some]
 rw [mould_Name_eq _ hn]
 unfold newCode
 cases nameOk l[i]!.Name
 ·rfl
 ·simp only [Option.bind_some]
  rw [slc_pre (Nat.le_of_lt hi)]
  simp only [Option.bind_some]
  rw [contains_VaCrate _ _ (fun y=>eqS y.Name l[i]!.Name) (by rw [List.length_take]; omega) (fun x _=>by
   unfold van_named_api_VaCrate_1
   rw [idx_get hi]; rfl),List.any_map]
  rw [show ((fun y=>eqS y l[i]!.Name)∘fun (x:VaCrate)=>x.Name)=(fun (y:VaCrate)=>eqS y.Name l[i]!.Name) from rfl]
  generalize (l.take i).any (fun (y:VaCrate)=>eqS y.Name l[i]!.Name)=q
  cases q <;> rfl
theorem named_VaVan (l:List VaVan) (i:Nat) (hi:i < l.length) (hl:l.length < 9223372036854775808) (hn:l[i]!.Name.size < 9223372036854775808) :
  van_named_api_VaVan l (i:Int) (fun y=>van_train_van_1 y)=some (newCode l[i]!.Name ((l.take i).map (·.Name))):= by
 unfold van_named_api_VaVan van_train_van_1
 rw [idx_get hi]
 simp only [Option.bind_some]
 rw [mould_Name_eq _ hn]
 unfold newCode
 cases nameOk l[i]!.Name
 ·rfl
 ·simp only [Option.bind_some]
  rw [slc_pre (Nat.le_of_lt hi)]
  simp only [Option.bind_some]
  rw [contains_VaVan _ _ (fun y=>eqS y.Name l[i]!.Name) (by rw [List.length_take]; omega) (fun x _=>by
   unfold van_named_api_VaVan_1
   rw [idx_get hi]; rfl),List.any_map]
  rw [show ((fun y=>eqS y l[i]!.Name)∘fun (x:VaVan)=>x.Name)=(fun (y:VaVan)=>eqS y.Name l[i]!.Name) from rfl]
  generalize (l.take i).any (fun (y:VaVan)=>eqS y.Name l[i]!.Name)=q
  cases q <;> rfl
theorem legs_eq (t:VaTrain) (v:VaVan) (hl:v.Legs.length < 9223372036854775808) :
  loop (van_train_van_L1 v) 0=some (((first (fun j=>legCode v.Legs[j]!) v.Legs.length).map Sum.inl).getD (Sum.inr ():Int⊕Unit)):= by
 rw [loop_ix v.Legs.length (fun j=>(legCode v.Legs[j]!).map Sum.inl) (Sum.inr ():Int⊕Unit) hl (fun i hi _=>by
  unfold van_train_van_L1
  rw [if_pos (by simpa using hi),idx_get hi]
  simp only [Option.bind_some,outside2]
  unfold legCode
  generalize v.Legs[i]! = g
  cases out 0 600 g.Lo || out 0 600 g.Hi
  ·by_cases h:g.Lo > g.Hi <;> simp [h]
  ·rfl) (by
  unfold van_train_van_L1
  rw [if_neg (by simp)])]
 congr 2
 generalize v.Legs.length=n
 induction n with
 | zero=>rfl
 | succ n ih =>
  unfold first
  rw [ih]
  cases first (fun j=>legCode v.Legs[j]!) n <;> rfl
theorem first_map {α β:Type} (k:α→β) (f:Nat→Option α):∀n,first (fun i=>(f i).map k) n=(first f n).map k
 | 0=>rfl
 | n+1=>by
  unfold first
  rw [first_map k f n]
  cases first f n <;> rfl
theorem train_van_eq (t:VaTrain) (h:NB t) (hv:t.Vans.length < 9223372036854775808) (hs:0≤t.Stops∧t.Stops≤3) (i:Nat) (hi:i < t.Vans.length):van_train_van ⟨t⟩ (i:Int)=some (vanCode t i):= by
 unfold van_train_van vanCode vanName
 simp only []
 rw [idx_get hi,named_VaVan t.Vans i hi hv (h.1 _ (get_mem hi))]
 simp only [Option.bind_some]
 generalize newCode t.Vans[i]!.Name ((t.Vans.take i).map (·.Name))=k
 cases hk:k == 0 with
 | false=>rw [if_pos (by rw [bne,hk]; rfl)]; rfl
 | true =>
  rw [if_neg (by rw [bne,hk]; simp)]
  rw [outside1,outside1]
  unfold vanRest
  simp only [Option.bind_some]
  cases out 0 20 t.Vans[i]!.Room
  ·cases out 0 5000 t.Vans[i]!.Leave
   ·by_cases hL:(t.Vans[i]!.Legs.length:Int) = t.Stops
    ·have e1:((t.Vans[i]!.Legs.length:Int) != t.Stops) = false:= by rw [hL]; exact bne_self_eq_false _
     rw [e1,legs_eq t _ (by omega)]
     cases first (fun j=>legCode t.Vans[i]!.Legs[j]!) t.Vans[i]!.Legs.length <;> rfl
    ·have e1:((t.Vans[i]!.Legs.length:Int) != t.Stops) = true:=bne_iff_ne.mpr hL
     rw [e1]; rfl
   ·rfl
  ·rfl
theorem train_crate_eq (t:VaTrain) (h:NB t) (hv:t.Crates.length < 9223372036854775808) (hs:0≤t.Stops∧t.Stops≤3) (i:Nat) (hi:i < t.Crates.length):van_train_crate ⟨t⟩ (i:Int)=some (crateCode t i):= by
 unfold van_train_crate crateCode crateName
 simp only []
 rw [idx_get hi,named_VaCrate t.Crates i hi hv (h.2 _ (get_mem hi))]
 simp only [Option.bind_some]
 generalize newCode t.Crates[i]!.Name ((t.Crates.take i).map (·.Name))=k
 cases hk:k == 0 with
 | false=>rfl
 | true =>
  rw [outside1,outside1,outside1,w64_id (by omega)]
  have:k=0:= by simpa using hk
  subst this
  cases out 1 9 t.Crates[i]!.Size <;> cases out 0 (t.Stops - 1) t.Crates[i]!.Stop <;> cases out 0 5000 t.Crates[i]!.By <;> rfl
theorem train_pair_eq (t:VaTrain) (hc:t.Crates.length < 9223372036854775808) (i:Nat) (hi:i < t.Apart.length):van_train_pair ⟨t⟩ (i:Int)=some (pairCode t i):= by
 unfold van_train_pair pairCode
 simp only []
 rw [idx_get hi]
 simp only [Option.bind_some]
 rw [outside2,w64_id (by omega)]
 simp only [Option.bind_some]
 generalize t.Apart[i]! = g
 cases out 0 (↑t.Crates.length - 1) g.A || out 0 (↑t.Crates.length - 1) g.B
 ·by_cases h:g.A ≥ g.B <;> simp [h]
 ·rfl
theorem ite_wrong {α:Type} (x:Int) (a b:α):(if (x != 0)=true then some a else some b)=some (if (x == 0)=true then b else a):= by
 by_cases c:x=0
 ·subst c; rfl
 ·simp [c]
theorem ite_find {α β:Type} (x:Int) (i:Int) (k:Int×Int→α) (b:β):(if (x != 0)=true then some (Sum.inr (k (i,x))) else some (Sum.inl b))=some (match ((if (x == 0)=true then none else some (i,x)).map k) with | some r=>Sum.inr r | none=>Sum.inl b):= by
 by_cases c:x=0
 ·subst c; rfl
 ·simp [c]
theorem van_Check_eq (t:VaTrain) (h:NB t):van_Check t=some (check t):= by
 unfold van_Check check
 rw [outside1,outside1,outside1,outside1,outside1]
 simp only [Option.bind_some]
 cases h1:out 1 3 t.Stops with
 | true=>rfl
 | false =>
 cases h2:out 0 60 t.Handle with
 | true=>rfl
 | false =>
 cases h3:out 1 3 (t.Vans.length:Int) with
 | true=>rfl
 | false =>
 have b1:=out_in.mp h1
 have b3:=out_in.mp h3
 have l1:=loop_wrong (b:=van_Check_L1 t) t.Vans.length (vanCode t) (fun x=>.inl (2,x)) (.inr ()) (by omega) (fun i hi=>by
   unfold van_Check_L1
   rw [if_pos (by simpa using hi),train_van_eq t h (by omega) (by omega) i hi]
   exact ite_wrong _ _ _) (by
   unfold van_Check_L1
   rw [if_neg (by simp)])
 rw [l1]
 cases wrong (vanCode t) t.Vans.length with
 | some x=>rfl
 | none =>
 simp only [Option.bind_some]
 cases h4:out 0 6 (t.Crates.length:Int) with
 | true =>
  have:t.Crates.length > 6:= by
   by_cases c:t.Crates.length > 6
   ·exact c
   ·exact absurd (out_in.mpr (show 0≤(t.Crates.length:Int)∧(t.Crates.length:Int)≤6 by omega)) (by rw [h4]; simp)
  simp [this]
 | false =>
 have b4:=out_in.mp h4
 have l2:=loop_wrong (b:=van_Check_L2 t) t.Crates.length (crateCode t) (fun x=>.inl (3,x)) (.inr ()) (by omega) (fun i hi=>by
   unfold van_Check_L2
   rw [if_pos (by simpa using hi),train_crate_eq t h (by omega) (by omega) i hi]
   exact ite_wrong _ _ _) (by
   unfold van_Check_L2
   rw [if_neg (by simp)])
 rw [l2]
 have g4:¬ t.Crates.length > 6:= by omega
 simp only [g4]
 cases wrong (crateCode t) t.Crates.length with
 | some x=>rfl
 | none =>
 simp only [Option.bind_some]
 cases h5:out 0 4 (t.Apart.length:Int) with
 | true =>
  have:t.Apart.length > 4:= by
   by_cases c:t.Apart.length > 4
   ·exact c
   ·exact absurd (out_in.mpr (show 0≤(t.Apart.length:Int)∧(t.Apart.length:Int)≤4 by omega)) (by rw [h5]; simp)
  simp [this]
 | false =>
 have b5:=out_in.mp h5
 have l3:=loop_wrong (b:=van_Check_L3 t) t.Apart.length (pairCode t) (fun x=>.inl (4,x)) (.inr ()) (by omega) (fun i hi=>by
   unfold van_Check_L3
   rw [if_pos (by simpa using hi),train_pair_eq t (by omega) i hi]
   exact ite_wrong _ _ _) (by
   unfold van_Check_L3
   rw [if_neg (by simp)])
 rw [l3]
 have g5:¬ t.Apart.length > 4:= by omega
 simp only [g5]
 cases wrong (pairCode t) t.Apart.length with
 | some x=>rfl
 | none=>rfl
theorem ends_eq (g:Span):ref01_Ends g 0 600=some ((legCode g).getD 0):= by
 unfold ref01_Ends legCode
 rw [within_out,within_out]
 simp only [Option.bind_some]
 cases out 0 600 g.Lo
 ·cases out 0 600 g.Hi
  ·by_cases h:g.Lo > g.Hi <;> simp [h]
  ·rfl
 ·rfl
theorem legCode_ne {g:Span} {r:Int} (h:legCode g=some r):(r != 0)=true:= by
 unfold legCode at h
 split at h
 ·rw [← Option.some.inj h]; rfl
 ·split at h
  ·rw [← Option.some.inj h]; rfl
  ·exact absurd h (by simp)
theorem rlegs_eq (v:VaVan) (hl:v.Legs.length < 9223372036854775808) :
  loop (ref06_van_L1 v) 0=some (((first (fun j=>legCode v.Legs[j]!) v.Legs.length).map Sum.inl).getD (Sum.inr ():Int⊕Unit)):= by
 rw [loop_ix v.Legs.length (fun j=>(legCode v.Legs[j]!).map Sum.inl) (Sum.inr ():Int⊕Unit) hl (fun i hi _=>by
  unfold ref06_van_L1
  rw [if_pos (by simpa using hi),idx_get hi]
  simp only [Option.bind_some,ends_eq]
  generalize v.Legs[i]! = g
  cases hg:legCode g with
  | none=>rfl
  | some r =>
   rw [show ((some r).getD 0 != 0)=true from legCode_ne hg]; rfl) (by
  unfold ref06_van_L1
  rw [if_neg (by simp)]),first_map]
theorem ref06_van_eq (t:VaTrain) (v:VaVan) (hs:0≤t.Stops∧t.Stops≤3):ref06_van t v=some (vanRest t v):= by
 unfold ref06_van vanRest
 rw [in_out,in_out]
 simp only [Option.bind_some]
 cases out 0 20 v.Room
 ·cases out 0 5000 v.Leave
  ·by_cases hL:(v.Legs.length:Int) = t.Stops
   ·have e1:((v.Legs.length:Int) != t.Stops) = false:= by rw [hL]; exact bne_self_eq_false _
    rw [e1,rlegs_eq _ (by omega)]
    cases first (fun j=>legCode v.Legs[j]!) v.Legs.length <;> rfl
   ·have e1:((v.Legs.length:Int) != t.Stops) = true:=bne_iff_ne.mpr hL
    rw [e1]; rfl
  ·rfl
 ·rfl
theorem take_snoc {α β:Type} [Inhabited α] (k:α→β) {l:List α} {i:Nat} (h:i < l.length):(l.take i).map k++[k l[i]!]=(l.take (i+1)).map k:= by
 rw [List.take_succ_eq_append_getElem h,getElem!_pos l i h,List.map_append]; rfl
theorem ref06_vans_eq (t:VaTrain) (hs:0≤t.Stops∧t.Stops≤3):ref06_vans t=some (if out 1 3 (t.Vans.length:Int) then (0,3) else (wrong (vanCode t) t.Vans.length).getD (0,0)):= by
 unfold ref06_vans
 rw [in_out]
 simp only [Option.bind_some]
 cases h3:out 1 3 (t.Vans.length:Int) with
 | true=>rfl
 | false =>
 have b3:=out_in.mp h3
 have l1:=loop_find (b:=ref06_vans_L1 t) (fun i=>((i:Int),(t.Vans.take i).map (·.Name))) t.Vans.length
  (fun i=>(if vanCode t i == 0 then none else some ((i:Int),vanCode t i)).map Sum.inl) (.inr (t.Vans.map (·.Name))) (by omega)
  (fun i hi _=>by
   unfold ref06_vans_L1
   simp only []
   rw [if_pos (by simpa using hi),idx_get hi]
   simp only [Option.bind_some]
   rw [ref01_New_eq _ _ (by rw [List.length_map,List.length_take]; omega),app_ok (by omega) (by rw [List.length_map,List.length_take]; simp; omega),take_snoc (fun (x:VaVan)=>x.Name) hi]
   simp only [Option.bind_some]
   unfold vanCode vanName
   rw [ref06_van_eq t _ hs,w64_id (by omega)]
   generalize newCode t.Vans[i]!.Name ((t.Vans.take i).map (·.Name))=k
   by_cases hk:k=0
   ·subst hk
    exact ite_find (vanRest t t.Vans[i]!) (i:Int) Sum.inl _
   ·have e:(k == 0) = false:=beq_eq_false_iff_ne.mpr hk
    rw [e]
    exact ite_find k (i:Int) Sum.inl _)
  (fun _=>by
   unfold ref06_vans_L1
   simp only []
   rw [if_neg (by simp),List.take_length])
 rw [show ((0:Int),([]:List ByteArray))=(((0:Nat):Int),(t.Vans.take 0).map (·.Name)) from rfl,l1,first_map]
 unfold wrong
 cases first (fun i=>if vanCode t i == 0 then none else some ((i:Int),vanCode t i)) t.Vans.length <;> rfl
theorem ref06_crates_eq (t:VaTrain) (hs:0≤t.Stops∧t.Stops≤3):ref06_crates t=some (if t.Crates.length > 6 then (0,3) else (wrong (crateCode t) t.Crates.length).getD (0,0)):= by
 unfold ref06_crates
 by_cases h6:t.Crates.length > 6
 ·rw [if_pos (by rw [decide_eq_true_eq]; omega),if_pos h6]
 rw [if_neg (by rw [decide_eq_true_eq]; omega),if_neg h6]
 have l1:=loop_find (b:=ref06_crates_L1 t) (fun i=>((i:Int),(t.Crates.take i).map (·.Name))) t.Crates.length
  (fun i=>(if crateCode t i == 0 then none else some ((i:Int),crateCode t i)).map Sum.inl) (.inr (t.Crates.map (·.Name))) (by omega)
  (fun i hi _=>by
   unfold ref06_crates_L1
   simp only []
   rw [if_pos (by simpa using hi),idx_get hi]
   simp only [Option.bind_some]
   rw [ref01_New_eq _ _ (by rw [List.length_map,List.length_take]; omega),app_ok (by omega) (by rw [List.length_map,List.length_take]; simp; omega),take_snoc (fun (x:VaCrate)=>x.Name) hi]
   simp only [Option.bind_some]
   unfold crateCode crateName
   rw [in_out,in_out,in_out,w64_id (n:=t.Stops - 1) (by omega),w64_id (by omega)]
   generalize newCode t.Crates[i]!.Name ((t.Crates.take i).map (·.Name))=k
   by_cases hk:k=0
   ·subst hk
    cases out 1 9 t.Crates[i]!.Size <;> cases out 0 (t.Stops - 1) t.Crates[i]!.Stop <;> cases out 0 5000 t.Crates[i]!.By <;> rfl
   ·have e:(k == 0) = false:=beq_eq_false_iff_ne.mpr hk
    rw [e]
    exact ite_find k (i:Int) Sum.inl _)
  (fun _=>by
   unfold ref06_crates_L1
   simp only []
   rw [if_neg (by simp),List.take_length])
 rw [show ((0:Int),([]:List ByteArray))=(((0:Nat):Int),(t.Crates.take 0).map (·.Name)) from rfl,l1,first_map]
 unfold wrong
 cases first (fun i=>if crateCode t i == 0 then none else some ((i:Int),crateCode t i)) t.Crates.length <;> rfl
theorem ref06_pairs_eq (t:VaTrain) (hc:t.Crates.length≤6):ref06_pairs t=some (if t.Apart.length > 4 then (0,3) else (wrong (pairCode t) t.Apart.length).getD (0,0)):= by
 unfold ref06_pairs
 by_cases h6:t.Apart.length > 4
 ·rw [if_pos (by rw [decide_eq_true_eq]; omega),if_pos h6]
 rw [if_neg (by rw [decide_eq_true_eq]; omega),if_neg h6]
 have l1:=loop_wrong (b:=ref06_pairs_L1 t) t.Apart.length (pairCode t) (fun x=>.inl x) (.inr ()) (by omega)
  (fun i hi=>by
   unfold ref06_pairs_L1
   rw [if_pos (by simpa using hi),idx_get hi]
   simp only [Option.bind_some]
   rw [in_out,in_out,w64_id (n:=(t.Crates.length:Int) - 1) (by omega)]
   unfold pairCode
   generalize t.Apart[i]! = g
   cases out 0 (↑t.Crates.length - 1) g.A
   ·cases out 0 (↑t.Crates.length - 1) g.B
    ·by_cases h:g.A ≥ g.B <;> simp [h]
    ·rfl
   ·rfl)
  (by
   unfold ref06_pairs_L1
   rw [if_neg (by simp)])
 rw [l1]
 cases wrong (pairCode t) t.Apart.length <;> rfl
theorem ref06_Check_eq (t:VaTrain):ref06_Check t=some (check t):= by
 unfold ref06_Check check
 rw [in_out,in_out]
 simp only [Option.bind_some]
 cases h1:out 1 3 t.Stops with
 | true=>rfl
 | false =>
 cases h2:out 0 60 t.Handle with
 | true=>rfl
 | false =>
 have b1:=out_in.mp h1
 rw [ref06_vans_eq t (by omega),ref06_crates_eq t (by omega)]
 cases h3:out 1 3 (t.Vans.length:Int) with
 | true=>rfl
 | false =>
 cases hw:wrong (vanCode t) t.Vans.length with
 | some x =>
  show (if (x.2 != 0)=true then some ((2:Int),x.1,x.2) else _)=some (2,x)
  rw [if_pos (wrong_some hw)]
 | none =>
 by_cases h6:t.Crates.length > 6
 ·simp [h6]
 rw [ref06_pairs_eq t (by omega)]
 simp only [h6]
 cases hw2:wrong (crateCode t) t.Crates.length with
 | some x =>
  show (if (x.2 != 0)=true then some ((3:Int),x.1,x.2) else _)=some (3,x)
  rw [if_pos (wrong_some hw2)]
 | none =>
 by_cases h4:t.Apart.length > 4
 ·simp [h4]
 simp only [h4]
 cases hw3:wrong (pairCode t) t.Apart.length with
 | some x =>
  show (if (x.2 != 0)=true then some ((4:Int),x.1,x.2) else _)=some (4,x)
  rw [if_pos (wrong_some hw3)]
 | none=>rfl
structure LegOk (g:Span):Prop where
 lo0:0≤g.Lo
 lh:g.Lo≤g.Hi
 hi:g.Hi≤600
structure VanOk (t:VaTrain) (v:VaVan):Prop where
 room0:0≤v.Room
 room:v.Room≤20
 leave0:0≤v.Leave
 leave:v.Leave≤5000
 legs:(v.Legs.length:Int)=t.Stops
 leg:∀i,i < v.Legs.length→LegOk v.Legs[i]!
structure CrateOk (t:VaTrain) (c:VaCrate):Prop where
 size1:1≤c.Size
 size:c.Size≤9
 stop0:0≤c.Stop
 stop:c.Stop < t.Stops
 by0:0≤c.By
 byl:c.By≤5000
structure PairOk (t:VaTrain) (p:VaPair):Prop where
 a0:0≤p.A
 ab:p.A < p.B
 b:p.B < t.Crates.length
structure TOk (t:VaTrain):Prop where
 stops1:1≤t.Stops
 stops:t.Stops≤3
 handle0:0≤t.Handle
 handle:t.Handle≤60
 vans1:1≤t.Vans.length
 vans:t.Vans.length≤3
 crates:t.Crates.length≤6
 apart:t.Apart.length≤4
 van:∀i,i < t.Vans.length→VanOk t t.Vans[i]!
 crate:∀i,i < t.Crates.length→CrateOk t t.Crates[i]!
 pair:∀i,i < t.Apart.length→PairOk t t.Apart[i]!
theorem wrong_none {f:Nat→Int} {n:Nat} (h:wrong f n=none):∀i,i < n→f i=0:= by
 intro i hi
 have:=first_none.mp h i hi
 by_cases c:f i=0
 ·exact c
 ·have e:(f i == 0) = false:=beq_eq_false_iff_ne.mpr c
  rw [e] at this; exact absurd this (by simp)
theorem newCode_ne (s:ByteArray) (l:List ByteArray):newCode s l=0∨newCode s l=5∨newCode s l=6:= by
 unfold newCode
 cases nameOk s
 ·exact .inr (.inr rfl)
 ·cases l.any (fun y=>eqS y s)
  ·exact .inl rfl
  ·exact .inr (.inl rfl)
theorem leg_ok {g:Span} (h:legCode g=none):LegOk g:= by
 unfold legCode at h
 split at h
 ·exact absurd h (by simp)
 ·rename_i h1
  have h1:(out 0 600 g.Lo || out 0 600 g.Hi)=false:= by simpa using h1
  rw [Bool.or_eq_false_iff,out_in,out_in] at h1
  split at h
  ·exact absurd h (by simp)
  ·exact ⟨h1.1.1,by omega,h1.2.2⟩
theorem vanRest_ok {t:VaTrain} {v:VaVan} (h:vanRest t v=0):VanOk t v:= by
 unfold vanRest at h
 split at h
 ·exact absurd h (by decide)
 ·rename_i h1
  have h1:(out 0 20 v.Room || out 0 5000 v.Leave)=false:= by simpa using h1
  rw [Bool.or_eq_false_iff,out_in,out_in] at h1
  split at h
  ·exact absurd h (by decide)
  ·rename_i h2
   have h2:(v.Legs.length:Int)=t.Stops:= by simpa using h2
   refine ⟨h1.1.1,h1.1.2,h1.2.1,h1.2.2,h2,?_⟩
   cases hf:first (fun j=>legCode v.Legs[j]!) v.Legs.length with
   | none=>exact fun i hi=>leg_ok (first_none.mp hf i hi)
   | some r =>
    obtain ⟨i,hi,h3,_⟩:=first_some hf
    have:=legCode_ne h3
    rw [hf] at h
    have h:r=0:=h
    rw [h] at this; exact absurd this (by decide)
theorem check_ok {t:VaTrain} (h:(check t).2.2=0):TOk t:= by
 unfold check at h
 cases h1:out 1 3 t.Stops || out 0 60 t.Handle with
 | true=>rw [h1] at h; exact absurd (show (7:Int)=0 from h) (by decide)
 | false =>
 rw [h1] at h
 rw [Bool.or_eq_false_iff,out_in,out_in] at h1
 cases h2:out 1 3 (t.Vans.length:Int) with
 | true=>rw [h2] at h; exact absurd (show (3:Int)=0 from h) (by decide)
 | false =>
 rw [h2] at h
 rw [out_in] at h2
 cases h3:wrong (vanCode t) t.Vans.length with
 | some x =>
  rw [h3] at h
  have h:x.2=0:=h
  have:=wrong_some h3
  rw [h] at this; exact absurd this (by decide)
 | none =>
 rw [h3] at h
 by_cases h4:t.Crates.length > 6
 ·simp only [h4] at h; exact absurd h (by simp)
 simp only [h4] at h
 cases h5:wrong (crateCode t) t.Crates.length with
 | some x =>
  rw [h5] at h
  have h:x.2=0:=h
  have:=wrong_some h5
  rw [h] at this; exact absurd this (by decide)
 | none =>
 rw [h5] at h
 by_cases h6:t.Apart.length > 4
 ·simp only [h6] at h; exact absurd h (by simp)
 simp only [h6] at h
 cases h7:wrong (pairCode t) t.Apart.length with
 | some x =>
  rw [h7] at h
  have h:x.2=0:=h
  have:=wrong_some h7
  rw [h] at this; exact absurd this (by decide)
 | none =>
 refine ⟨h1.1.1,h1.1.2,h1.2.1,h1.2.2,by omega,by omega,by omega,by omega,?_,?_,?_⟩
 ·intro i hi
  have:=wrong_none h3 i hi
  unfold vanCode at this
  rcases newCode_ne t.Vans[i]!.Name ((t.Vans.take i).map (·.Name)) with e | e | e <;> (unfold vanName at this; rw [e] at this)
  ·exact vanRest_ok this
  ·exact absurd (show (5:Int) = 0 from this) (by decide)
  ·exact absurd (show (6:Int) = 0 from this) (by decide)
 ·intro i hi
  have:=wrong_none h5 i hi
  unfold crateCode at this
  rcases newCode_ne t.Crates[i]!.Name ((t.Crates.take i).map (·.Name)) with e | e | e <;> (unfold crateName at this; rw [e] at this)
  ·cases q:out 1 9 t.Crates[i]!.Size || out 0 (t.Stops - 1) t.Crates[i]!.Stop || out 0 5000 t.Crates[i]!.By with
   | true=>rw [q] at this; exact absurd this (by decide)
   | false =>
    rw [Bool.or_eq_false_iff,Bool.or_eq_false_iff,out_in,out_in,out_in] at q
    exact ⟨q.1.1.1,q.1.1.2,q.1.2.1,by omega,q.2.1,q.2.2⟩
  ·exact absurd (show (5:Int) = 0 from this) (by decide)
  ·exact absurd (show (6:Int) = 0 from this) (by decide)
 ·intro i hi
  have:=wrong_none h7 i hi
  unfold pairCode at this
  cases q:out 0 (t.Crates.length - 1) t.Apart[i]!.A || out 0 (t.Crates.length - 1) t.Apart[i]!.B with
  | true=>rw [q] at this; exact absurd (show (4:Int)=0 from this) (by decide)
  | false =>
   rw [q] at this
   rw [Bool.or_eq_false_iff,out_in,out_in] at q
   by_cases c:t.Apart[i]!.A ≥ t.Apart[i]!.B
   ·rw [if_pos c] at this; exact absurd this (by decide)
   ·exact ⟨q.1.1,by omega,by omega⟩
def sizeTo (t:VaTrain) (p:List Int) (v:Int) (n:Nat):Int:=iter (fun i s=>if p[i]! == v then s+t.Crates[i]!.Size else s) n 0
theorem sizeTo_bd {t:VaTrain} (h:TOk t) (p:List Int) (v:Int):∀n,n≤t.Crates.length→0≤sizeTo t p v n∧sizeTo t p v n≤9 * n
 | 0,_=>⟨Int.le_refl 0,Int.le_refl 0⟩
 | n+1,hn=>by
  have ih:=sizeTo_bd h p v n (by omega)
  have hc:=h.crate n (by omega)
  have:=hc.size1; have:=hc.size
  show 0≤(if p[n]! == v then sizeTo t p v n+t.Crates[n]!.Size else sizeTo t p v n)∧(if p[n]! == v then sizeTo t p v n+t.Crates[n]!.Size else sizeTo t p v n)≤9 * ((n+1:Nat):Int)
  generalize t.Crates[n]!.Size=z at *
  generalize sizeTo t p v n=y at *
  cases p[n]! == v
  ·simp only [Bool.false_eq_true,if_false]; omega
  ·simp only [if_true]; omega
def overV (t:VaTrain) (p:List Int) (v:Nat):Option Bool:=if sizeTo t p v p.length > t.Vans[v]!.Room then some false else none
def clash (t:VaTrain) (p:List Int) (i:Nat):Option Bool:=if p[t.Apart[i]!.A.toNat]! == p[t.Apart[i]!.B.toNat]! && p[t.Apart[i]!.A.toNat]! != -1 then some false else none
def good (t:VaTrain) (p:List Int):Bool:=(first (overV t p) t.Vans.length).getD ((first (clash t p) t.Apart.length).getD true)
def planCode (t:VaTrain) (p:List Int):Int :=
 if (p.length:Int) != t.Crates.length then 3 else if p.any (out (-1) (t.Vans.length - 1)) then 4 else if good t p then 0 else 9
def arrOf (p:List Int):IArr 6:=⟨(p.map (fun x=>w64 (x+1))++List.replicate 6 0).take 6,by simp⟩
theorem arr_len (p:List Int):(arrOf p).l.length=6:=(arrOf p).h
theorem arr_get {p:List Int} {i:Nat} (hi:i < p.length) (h6:i < 6):(arrOf p).l[i]? = some (w64 (p[i]! + 1)):= by
 unfold arrOf
 rw [List.getElem?_take_of_lt h6,List.getElem?_append_left (by simpa using hi),List.getElem?_map,List.getElem?_eq_getElem hi,getElem!_pos p i hi]; rfl
theorem arr_get0 {p:List Int} {i:Nat} (hi:p.length≤i) (h6:i < 6):(arrOf p).l[i]? = some 0:= by
 unfold arrOf
 rw [List.getElem?_take_of_lt h6,List.getElem?_append_right (by simpa using hi),List.getElem?_replicate,if_pos (by simp; omega)]
theorem arr_set {p:List Int} {i:Nat} (hi:i < p.length) (h6:p.length≤6):(arrOf (p.take i)).set (i:Int) (w64 (p[i]! + 1))=arrOf (p.take (i+1)):= by
 apply IArr.ext
 apply List.ext_getElem?
 intro j
 show ((arrOf (p.take i)).l.set (i:Int).toNat _)[j]? = _
 rw [Int.toNat_natCast,List.getElem?_set]
 by_cases hj:j < 6
 ·by_cases e:i = j
  ·subst e
   rw [if_pos rfl,if_pos (by rw [arr_len]; exact hj),arr_get (by rw [List.length_take]; omega) hj]
   rw [getElem!_pos p i hi,getElem!_pos (p.take (i+1)) i (by rw [List.length_take]; omega),List.getElem_take]
  ·rw [if_neg e]
   by_cases hlt:j < i
   ·rw [arr_get (by rw [List.length_take]; omega) hj,arr_get (by rw [List.length_take]; omega) hj]
    rw [getElem!_pos (p.take i) j (by rw [List.length_take]; omega),getElem!_pos (p.take (i+1)) j (by rw [List.length_take]; omega),List.getElem_take,List.getElem_take]
   ·rw [arr_get0 (by rw [List.length_take]; omega) hj,arr_get0 (by rw [List.length_take]; omega) hj]
 ·rw [if_neg (by omega),List.getElem?_eq_none (by rw [arr_len]; omega),List.getElem?_eq_none (by rw [arr_len]; omega)]
theorem idxN_get {n:Nat} {l:List Int} {i:Nat} {x:Int} (h:l[i]? = some x) (hi:i < n):idxN n l (i:Int)=some x:= by
 unfold idxN
 rw [if_pos ⟨Int.natCast_nonneg i,by omega⟩,Int.toNat_natCast,h]
theorem arr_idx {p:List Int} (h6:p.length≤6) {i:Nat} (hi:i < p.length):idxN 6 (arrOf p).l (i:Int)=some (w64 (p[i]! + 1)) :=
 idxN_get (arr_get hi (by omega)) (by omega)
theorem arr_loop (p:List Int) (h6:p.length≤6) {b:(Int×IArr 6)→Option ((Int×IArr 6)⊕IArr 6)}
  (hb:∀s,b s=if decide (s.1 < p.length)=true then (idx p s.1).bind fun x13=>(idxN 6 (IArr.l s.2) s.1).bind fun _=>some (.inl ((w64 (s.1+1)),(IArr.set s.2 s.1 (w64 (x13+1))))) else some (.inr s.2)) :
  loop b (0,IArr.zero 6)=some (arrOf p):= by
 have:=loop_seq (b:=b) (fun i=>((i:Int),arrOf (p.take i))) p.length (r:=arrOf p) (by omega) (fun i hi=>by
  rw [hb]
  simp only []
  rw [if_pos (by simpa using hi),idx_get hi,idxN_get (arr_get0 (by rw [List.length_take]; omega) (by omega)) (by omega)]
  simp only [Option.bind_some]
  rw [arr_set hi h6,w64_id (by omega)]; rfl) (by
  rw [hb]
  simp only []
  rw [if_neg (by simp),List.take_length])
 exact this
def pairIn (t:VaTrain) (i k:Nat):Bool:=t.Apart.any fun y=>(y.A == (i:Int) && y.B == (k:Int))
def inRange (t:VaTrain) (p:List Int):Prop:=∀ i,i < p.length→-1≤p[i]!∧p[i]! < t.Vans.length
def allowedAt (t:VaTrain) (p:List Int) (k:Nat):Bool :=
 p[k]! == -1 || (first (fun i=>if p[i]! == p[k]! && pairIn t i k then some false else none) (k+1)).getD (decide (sizeTo t p p[k]! (k+1)≤t.Vans[p[k]!.toNat]!.Room))
theorem w64_inj {a b:Int} (ha:-1≤a∧a≤3) (hb:-1≤b∧b≤3):(w64 (a+1) != w64 (b+1)) = !(a == b):= by
 rw [w64_id (by omega),w64_id (by omega),bne]
 congr 1
 rw [Bool.eq_iff_iff,beq_iff_eq,beq_iff_eq]; omega
theorem train_allowed_eq {t:VaTrain} (h:TOk t) (p:List Int) (hp:p.length=t.Crates.length) (hr:inRange t p) (k:Nat) (hk:k < p.length) :
  van_train_allowed ⟨t⟩ (arrOf p) (k:Int)=some (allowedAt t p k):= by
 have hl:=h.crates
 have hv:=h.vans
 have ha:=h.apart
 have r:=hr k hk
 unfold van_train_allowed allowedAt
 rw [arr_idx (by omega) hk]
 simp only [Option.bind_some]
 by_cases c:p[k]! = -1
 ·rw [c]; rfl
 have e0:(w64 (p[k]! + 1) == 0)=false:= by rw [w64_id (by omega),beq_eq_false_iff_ne]; omega
 have e1:(p[k]! == -1)=false:=beq_eq_false_iff_ne.mpr c
 rw [e0,e1]
 have l1:=loop_find (b:=van_train_allowed_L1 ⟨t⟩ (arrOf p) (k:Int) (w64 (p[k]! + 1))) (fun i=>(sizeTo t p p[k]! i,(i:Int))) (k+1)
  (fun i=>(if p[i]! == p[k]! && pairIn t i k then some false else none).map Sum.inl) (.inr (sizeTo t p p[k]! (k+1))) (by omega)
  (fun i hi _=>by
   unfold van_train_allowed_L1
   simp only []
   have hi2:i < p.length:= by omega
   have r2:=hr i hi2
   rw [if_pos (by rw [w64_id (by omega),decide_eq_true_eq]; omega),arr_idx (by omega) hi2,idx_get (show i < t.Crates.length by omega)]
   simp only [Option.bind_some]
   rw [w64_inj (by omega) (by omega),w64_id (n:=(i:Int)+1) (by omega)]
   rw [contains_VaPair t.Apart _ (fun y=>(y.A == (i:Int) && (y.B == (k:Int)))) (by omega) (fun x _=>by
    unfold van_train_allowed_1; simp)]
   have hb:=sizeTo_bd h p p[k]! i (by omega)
   have hc:=h.crate i (by omega)
   have:=hc.size1; have:=hc.size
   have es:sizeTo t p p[k]! (i+1)=if p[i]! == p[k]! then sizeTo t p p[k]! i+t.Crates[i]!.Size else sizeTo t p p[k]! i:=rfl
   rw [es,w64_id (n:=sizeTo t p p[k]! i+t.Crates[i]!.Size) (by omega)]
   unfold pairIn
   generalize (t.Apart.any fun y=>(y.A == (i:Int) && (y.B == (k:Int))))=q
   cases p[i]! == p[k]! <;> cases q <;> rfl)
  (fun _=>by
   unfold van_train_allowed_L1
   simp only []
   rw [if_neg (by rw [w64_id (by omega),decide_eq_true_eq]; omega)])
 rw [if_neg (by simp),show ((0:Int),(0:Int))=(sizeTo t p p[k]! 0,((0:Nat):Int)) from rfl,l1,first_map]
 cases first (fun i=>if p[i]! == p[k]! && pairIn t i k then some false else none) (k+1) with
 | some x=>rfl
 | none =>
  simp only [Option.map_none,Option.getD_none,Option.bind_some,Bool.false_or]
  rw [w64_id (n:=p[k]! + 1) (by omega),w64_id (by omega),idx_int (by omega) (by omega)]
  simp only [Option.bind_some]
  rw [show p[k]! + 1 - 1=p[k]! by omega]
theorem sizeTo_succ (t:VaTrain) (p:List Int) (v:Int) (n:Nat):sizeTo t p v (n+1)=if p[n]! == v then sizeTo t p v n+t.Crates[n]!.Size else sizeTo t p v n:=rfl
theorem sizeTo_mono {t:VaTrain} (h:TOk t) (p:List Int) (v:Int) (m:Nat):∀d,m+d≤t.Crates.length→sizeTo t p v m≤sizeTo t p v (m+d)
 | 0,_=>Int.le_refl _
 | d+1,hd=>by
  have ih:=sizeTo_mono h p v m d (by omega)
  have hc:=(h.crate (m+d) (by omega)).size1
  rw [show m+(d+1)=(m+d)+1 from rfl,sizeTo_succ]
  cases p[m+d]! == v
  ·simpa using ih
  ·rw [if_pos rfl]; omega
theorem sizeTo_last {t:VaTrain} (p:List Int) (v R:Int) (hR:0≤R):∀n,sizeTo t p v n > R→∃ k,k < n∧p[k]! = v∧sizeTo t p v (k+1) > R
 | 0,h=>absurd h (by show ¬ (0:Int) > R; omega)
 | n+1,h=>by
  cases e:p[n]! == v with
  | true=>exact ⟨n,Nat.lt_succ_self n,by simpa using e,h⟩
  | false =>
   rw [sizeTo_succ,e] at h
   obtain ⟨k,h1,h2,h3⟩:=sizeTo_last p v R hR n h
   exact ⟨k,by omega,h2,h3⟩
def Good (t:VaTrain) (p:List Int):Prop :=
 (∀ v:Nat,v < t.Vans.length→sizeTo t p v p.length≤t.Vans[v]!.Room) ∧
 (∀ i,i < t.Apart.length→¬ (p[t.Apart[i]!.A.toNat]! = p[t.Apart[i]!.B.toNat]!∧p[t.Apart[i]!.A.toNat]! ≠ -1))
theorem good_iff (t:VaTrain) (p:List Int):good t p=true↔Good t p:= by
 unfold good Good
 constructor
 ·intro h
  cases h1:first (overV t p) t.Vans.length with
  | some x =>
   obtain ⟨i,_,h2,_⟩:=first_some h1
   rw [h1] at h
   have h:x=true:=h
   unfold overV at h2
   split at h2
   ·rw [← Option.some.inj h2] at h; exact absurd h (by decide)
   ·exact absurd h2 (by simp)
  | none =>
  rw [h1] at h
  cases h2:first (clash t p) t.Apart.length with
  | some x =>
   obtain ⟨i,_,h3,_⟩:=first_some h2
   rw [h2] at h
   have h:x=true:=h
   unfold clash at h3
   split at h3
   ·rw [← Option.some.inj h3] at h; exact absurd h (by decide)
   ·exact absurd h3 (by simp)
  | none =>
  refine ⟨fun v hv=>?_,fun i hi hc=>?_⟩
  ·have:=first_none.mp h1 v hv
   unfold overV at this
   split at this
   ·exact absurd this (by simp)
   ·omega
  ·have:=first_none.mp h2 i hi
   unfold clash at this
   rw [if_pos (by rw [Bool.and_eq_true,beq_iff_eq,bne_iff_ne]; exact hc)] at this
   exact absurd this (by simp)
 ·intro h
  rw [first_none.mpr fun v hv=>by
   unfold overV
   have:=h.1 v hv
   rw [if_neg (by omega)],first_none.mpr fun i hi=>by
   unfold clash
   rw [if_neg (by rw [Bool.and_eq_true,beq_iff_eq,bne_iff_ne]; exact h.2 i hi)]]
  rfl
theorem pairIn_iff (t:VaTrain) (i k:Nat):pairIn t i k=true↔∃ j,j < t.Apart.length∧t.Apart[j]!.A=i∧t.Apart[j]!.B=k:= by
 unfold pairIn
 rw [List.any_eq_true]
 constructor
 ·rintro ⟨x,hx,hq⟩
  obtain ⟨j,hj,e⟩:=List.mem_iff_getElem.mp hx
  rw [Bool.and_eq_true,beq_iff_eq,beq_iff_eq] at hq
  refine ⟨j,hj,?_⟩
  rw [getElem!_pos t.Apart j hj,e]; exact hq
 ·rintro ⟨j,hj,hq⟩
  refine ⟨t.Apart[j]!,get_mem hj,?_⟩
  rw [Bool.and_eq_true,beq_iff_eq,beq_iff_eq]; exact hq
theorem allowedAt_iff {t:VaTrain} (p:List Int) (k:Nat):allowedAt t p k=true↔(p[k]! = -1∨((∀ i,i≤k→¬ (p[i]! = p[k]!∧pairIn t i k=true))∧sizeTo t p p[k]! (k+1)≤t.Vans[p[k]!.toNat]!.Room)):= by
 unfold allowedAt
 rw [Bool.or_eq_true,beq_iff_eq]
 constructor
 ·rintro (h | h)
  ·exact .inl h
  ·refine .inr ?_
   cases hf:first (fun i=>if p[i]! == p[k]! && pairIn t i k then some false else none) (k+1) with
   | some x =>
    obtain ⟨i,_,h2,_⟩:=first_some hf
    rw [hf] at h
    have h:x=true:=h
    split at h2
    ·rw [← Option.some.inj h2] at h; exact absurd h (by decide)
    ·exact absurd h2 (by simp)
   | none =>
    rw [hf] at h
    refine ⟨fun i hi hc=>?_,of_decide_eq_true h⟩
    have:=first_none.mp hf i (by omega)
    rw [if_pos (by rw [Bool.and_eq_true,beq_iff_eq]; exact hc)] at this
    exact absurd this (by simp)
 ·rintro (h | h)
  ·exact .inl h
  ·refine .inr ?_
   rw [first_none.mpr fun i hi=>by rw [if_neg (by rw [Bool.and_eq_true,beq_iff_eq]; exact h.1 i (by omega))]]
   exact decide_eq_true h.2
theorem good_all {t:VaTrain} (h:TOk t) (p:List Int) (hp:p.length=t.Crates.length) (hr:inRange t p):good t p=true↔∀ k,k < p.length→allowedAt t p k=true:= by
 rw [good_iff]
 constructor
 ·intro g k hk
  rw [allowedAt_iff]
  by_cases c:p[k]! = -1
  ·exact .inl c
  ·refine .inr ⟨fun i hi hc=>?_,?_⟩
   ·obtain ⟨j,hj,ea,eb⟩:=(pairIn_iff t i k).mp hc.2
    refine g.2 j hj ?_
    rw [ea,eb,Int.toNat_natCast,Int.toNat_natCast]
    exact ⟨hc.1,by rw [hc.1]; exact c⟩
   ·have r:=hr k hk
    have:=g.1 p[k]!.toNat (by omega)
    rw [show ((p[k]!.toNat:Nat):Int)=p[k]! by omega] at this
    have m:=sizeTo_mono h p p[k]! (k+1) (p.length - (k+1)) (by omega)
    rw [show k+1+(p.length - (k+1))=p.length by omega] at m
    omega
 ·intro g
  refine ⟨fun v hv=>?_,fun i hi hc=>?_⟩
  ·by_cases c:sizeTo t p v p.length > t.Vans[v]!.Room
   ·obtain ⟨k,hk,e,hs⟩:=sizeTo_last p v _ (h.van v hv).room0 p.length c
    have:=(allowedAt_iff p k).mp (g k hk)
    rw [e] at this
    rcases this with q | q
    ·omega
    ·have:=q.2
     rw [Int.toNat_natCast] at this
     omega
   ·omega
  ·have hq:=h.pair i hi
   have h1:=hq.a0; have h2:=hq.ab; have h3:=hq.b
   have:=(allowedAt_iff p t.Apart[i]!.B.toNat).mp (g _ (by omega))
   rcases this with q | q
   ·rw [← hc.1] at q; exact hc.2 q
   ·refine q.1 t.Apart[i]!.A.toNat (by omega) ⟨hc.1,?_⟩
    rw [pairIn_iff]
    exact ⟨i,hi,by omega,by omega⟩
def badAtP (t:VaTrain) (p:List Int) (k:Nat):Option Unit:=if allowedAt t p k then none else some ()
theorem good_first {t:VaTrain} (h:TOk t) (p:List Int) (hp:p.length=t.Crates.length) (hr:inRange t p):good t p=(first (badAtP t p) p.length).isNone:= by
 rw [Bool.eq_iff_iff,good_all h p hp hr,Option.isNone_iff_eq_none,first_none]
 constructor
 ·intro g i hi; unfold badAtP; rw [g i hi]; rfl
 ·intro g i hi
  have:=g i hi
  unfold badAtP at this
  cases q:allowedAt t p i with
  | true=>rfl
  | false=>rw [q] at this; exact absurd this (by simp)
theorem allowed_loop {t:VaTrain} (h:TOk t) (p:List Int) (hp:p.length=t.Crates.length) (hr:inRange t p) {b:Int→Option (Int⊕(Unit⊕Unit))}
  (hb:∀s,b s=if decide (s < p.length)=true then (van_train_allowed ⟨t⟩ (arrOf p) s).bind fun x=>if (!x)=true then some (.inr (.inr ())) else some (.inl (w64 (s+1))) else some (.inr (.inl ()))) :
  loop b 0=some (if good t p then .inl () else .inr ()):= by
 have hl:=h.crates
 rw [loop_ix (b:=b) p.length (fun k=>(badAtP t p k).map Sum.inr) (.inl ()) (by omega) (fun i hi _=>by
  rw [hb,if_pos (by simpa using hi),train_allowed_eq h p hp hr i hi]
  simp only [Option.bind_some]
  unfold badAtP
  cases allowedAt t p i <;> rfl) (by
  rw [hb,if_neg (by simp)]),first_map,good_first h p hp hr]
 cases first (badAtP t p) p.length <;> rfl
def anyTo (t:VaTrain) (p:List Int) (v s:Int) (e:Nat):Bool:=iter (fun j b=>b || (p[j]! == v && t.Crates[j]!.Stop == s)) e false
theorem anyTo_succ (t:VaTrain) (p:List Int) (v s:Int) (e:Nat):anyTo t p v s (e+1)=(anyTo t p v s e || (p[e]! == v && t.Crates[e]!.Stop == s)):=rfl
def handledAt (t:VaTrain) (p:List Int) (v s:Int) (i:Nat):Bool:=p[i]! == v && decide (s < t.Crates[i]!.Stop) && anyTo t p v s i
def handled (t:VaTrain) (p:List Int) (v s:Int) (n:Nat):Int:=iter (fun i c=>if handledAt t p v s i then c+1 else c) n 0
theorem handled_succ (t:VaTrain) (p:List Int) (v s:Int) (n:Nat):handled t p v s (n+1)=if handledAt t p v s n then handled t p v s n+1 else handled t p v s n:=rfl
theorem handled_bd (t:VaTrain) (p:List Int) (v s:Int):∀n:Nat,0≤handled t p v s n∧handled t p v s n≤n
 | 0=>⟨Int.le_refl 0,Int.le_refl 0⟩
 | n+1=>by
  have ih:=handled_bd t p v s n
  rw [handled_succ]
  cases handledAt t p v s n
  ·rw [if_neg (by simp)]; omega
  ·rw [if_pos rfl]; omega
theorem ref06_Handled_eq {t:VaTrain} (h:TOk t) (p:List Int) (hp:p.length=t.Crates.length) (v s:Int):ref06_Handled t p v s=some (handled t p v s p.length):= by
 have hl:=h.crates
 unfold ref06_Handled
 rw [show ((0:Int),(0:Int)) = (handled t p v s 0,((0:Nat):Int)) from rfl,loop_seq (b:=ref06_Handled_L2 t p v s) (fun i=>(handled t p v s i,(i:Int))) p.length (r:=handled t p v s p.length) (by omega) (fun i hi=>by
  have hb:=handled_bd t p v s i
  unfold ref06_Handled_L2
  simp only []
  rw [if_pos (by simpa using hi),idx_get hi,idx_get (show i < t.Crates.length by omega)]
  simp only [Option.bind_some]
  rw [show ((false:Bool),(0:Int)) = (anyTo t p v s 0,((0:Nat):Int)) from rfl,loop_seq (b:=ref06_Handled_L1 t p v s (handled t p v s i,(i:Int))) (fun e=>(anyTo t p v s e,(e:Int))) i (r:=anyTo t p v s i) (by omega) (fun e he=>by
   unfold ref06_Handled_L1
   simp only []
   rw [if_pos (by simpa using he),idx_get (show e < p.length by omega),idx_get (show e < t.Crates.length by omega),anyTo_succ,w64_id (by omega)]
   simp only [Option.bind_some]
   cases anyTo t p v s e <;> cases p[e]! == v <;> rfl) (by
   unfold ref06_Handled_L1
   simp only []
   rw [if_neg (by simp)])]
  rw [handled_succ,w64_id (n:=(i:Int)+1) (by omega),w64_id (by omega)]
  unfold handledAt
  simp only [Option.bind_some]
  rw [show decide (t.Crates[i]!.Stop≤s) = !decide (s < t.Crates[i]!.Stop) by rw [Bool.eq_iff_iff]; simp,bne]
  cases p[i]! == v <;> cases decide (s < t.Crates[i]!.Stop) <;> cases anyTo t p v s i <;> rfl) (by
  unfold ref06_Handled_L2
  simp only []
  rw [if_neg (by simp)])]
 rfl
def tw (t:VaTrain) (p:List Int) (v:Int):List Int:=(List.range t.Stops.toNat).map fun (s:Nat)=>handled t p v s p.length
theorem range_snoc {α:Type} (f:Nat→α) (n:Nat):(List.range n).map f++[f n]=(List.range (n+1)).map f:= by
 rw [List.range_succ,List.map_append]; rfl
def bits (a b c:Bool):Int:=(if a then 1 else 0)+(if b then 2 else 0)+(if c then 4 else 0)
def nth3 (a b c:Bool):Nat→Bool
 | 0=>a
 | 1=>b
 | _=>c
theorem bits_get (a b c:Bool) (s:Nat) (h:s < 3):(shrI .i64 (bits a b c) (s:Int)).bind (fun x=>some ((andI x 1) == 0))=some (!nth3 a b c s):= by
 rcases s with _ | _ | _ | s
 ·revert a b c; decide
 ·revert a b c; decide
 ·revert a b c; decide
 ·omega
theorem bits_set (a b c:Bool) (s:Nat) (h:s < 3):(shlI .i64 1 (s:Int)).map (fun x=>orI (bits a b c) x)=some (bits (a || s == 0) (b || s == 1) (c || s == 2)):= by
 rcases s with _ | _ | _ | s
 ·revert a b c; decide
 ·revert a b c; decide
 ·revert a b c; decide
 ·omega
theorem map_range_set {α:Type} (f g:Nat→α) (n k:Nat) (y:α) (hy:g k=y) (hg:∀s,s ≠ k→g s=f s):((List.range n).map f).set k y=(List.range n).map g:= by
 apply List.ext_getElem?
 intro j
 rw [List.getElem?_set]
 by_cases e:k=j
 ·subst e
  rw [if_pos rfl]
  by_cases c:k < n
  ·rw [if_pos (by simpa using c),List.getElem?_map,List.getElem?_range c,← hy]; rfl
  ·rw [if_neg (by simpa using c),List.getElem?_eq_none (by simp; omega)]
 ·rw [if_neg e]
  by_cases c:j < n
  ·rw [List.getElem?_map,List.getElem?_map,List.getElem?_range c]
   show some (f j)=some (g j)
   rw [hg j (fun h=>e h.symm)]
  ·rw [List.getElem?_eq_none (by simp; omega),List.getElem?_eq_none (by simp; omega)]
theorem idx_range {α:Type} (f:Nat→α) {n s:Nat} (h:s < n):idx ((List.range n).map f) (s:Int)=some (f s):= by
 unfold idx
 rw [if_pos (Int.natCast_nonneg s),Int.toNat_natCast,List.getElem?_map,List.getElem?_range h]; rfl
def seenAt (t:VaTrain) (p:List Int) (v:Int) (i:Nat) (e s:Nat):Bool:=decide ((s:Int) < t.Crates[i]!.Stop) && anyTo t p v s e
def twL (t:VaTrain) (p:List Int) (v:Int) (i e:Nat):List Int:=(List.range t.Stops.toNat).map fun (s:Nat)=>if seenAt t p v i e s then handled t p v s i+1 else handled t p v s i
def twTo (t:VaTrain) (p:List Int) (v:Int) (i:Nat):List Int:=(List.range t.Stops.toNat).map fun (s:Nat)=>handled t p v s i
def seenB (t:VaTrain) (p:List Int) (v:Int) (i e:Nat):Int:=bits (seenAt t p v i e 0) (seenAt t p v i e 1) (seenAt t p v i e 2)
theorem seen_succ (t:VaTrain) (p:List Int) (v:Int) (i e s:Nat):seenAt t p v i (e+1) s=(seenAt t p v i e s || (p[e]! == v && decide (t.Crates[e]!.Stop < t.Crates[i]!.Stop) && t.Crates[e]!.Stop == (s:Int))):= by
 unfold seenAt
 rw [anyTo_succ]
 by_cases c:t.Crates[e]!.Stop=(s:Int)
 ·rw [c]
  cases decide ((s:Int) < t.Crates[i]!.Stop) <;> cases anyTo t p v s e <;> cases p[e]! == v <;> simp
 ·have e1:(t.Crates[e]!.Stop == (s:Int)) = false:=beq_eq_false_iff_ne.mpr c
  rw [e1]; simp
theorem map_range_congr {α:Type} {f g:Nat→α} {n:Nat} (h:∀s,s < n→f s=g s):(List.range n).map f=(List.range n).map g :=
 List.map_congr_left fun s hs=>h s (List.mem_range.mp hs)
theorem twice_inner {t:VaTrain} (h:TOk t) (p:List Int) (hp:p.length=t.Crates.length) (hr:inRange t p) (v:Nat) (hv:v < t.Vans.length) (i:Nat) (hi:i < p.length) :
  loop (van_train_twice_L1 (arrOf p) (v:Int) t.Crates[i]! (t.Crates.take i)) (0,0,twTo t p v i)=some (twL t p v i i):= by
 have hl:=h.crates
 have hvs:=h.vans
 have hs1:=h.stops1; have hs2:=h.stops
 have hlen:(t.Crates.take i).length=i:= by rw [List.length_take]; omega
 have e0:((0:Int),(0:Int),twTo t p v i)=(seenB t p v i 0,((0:Nat):Int),twL t p v i 0):= by
  have z:∀s,seenAt t p v i 0 s=false:=fun s=>by unfold seenAt; exact Bool.and_false _
  have e1:seenB t p v i 0=0:= by unfold seenB; rw [z,z,z]; rfl
  have e2:twL t p v i 0=twTo t p v i:=map_range_congr fun s _=>by rw [z]; rfl
  rw [e1,e2]; rfl
 rw [e0,loop_seq (b:=van_train_twice_L1 (arrOf p) (v:Int) t.Crates[i]! (t.Crates.take i)) (fun e=>(seenB t p v i e,(e:Int),twL t p v i e)) i (r:=twL t p v i i) (by omega) (fun e he=>by
  have hc:=h.crate e (by omega)
  have c0:=hc.stop0; have c1:=hc.stop
  have r:=hr e (by omega)
  unfold van_train_twice_L1
  simp only []
  rw [if_pos (by rw [hlen,decide_eq_true_eq]; omega),idx_get (by omega),arr_idx (by omega) (show e < p.length by omega)]
  simp only [Option.bind_some]
  rw [getElem!_pos (t.Crates.take i) e (by omega),List.getElem_take,← getElem!_pos t.Crates e (by omega)]
  have ew:(w64 (p[e]! + 1) == w64 ((v:Int)+1))=(p[e]! == (v:Int)):= by
   rw [w64_id (by omega),w64_id (by omega),Bool.eq_iff_iff,beq_iff_eq,beq_iff_eq]; omega
  rw [ew,w64_id (n:=(e:Int)+1) (by omega)]
  obtain ⟨S,hS,eS⟩:∃S:Nat,S < t.Stops.toNat∧t.Crates[e]!.Stop=(S:Int):=⟨t.Crates[e]!.Stop.toNat,by omega,by omega⟩
  have hS3:S < 3:= by omega
  cases q:(p[e]! == (v:Int)) && decide (t.Crates[e]!.Stop < t.Crates[i]!.Stop) with
  | false =>
   have z:∀s,seenAt t p v i (e+1) s=seenAt t p v i e s:=fun s=>by rw [seen_succ,q]; simp
   have e1:seenB t p v i (e+1)=seenB t p v i e:= by unfold seenB; rw [z,z,z]
   have e2:twL t p v i (e+1)=twL t p v i e:=map_range_congr fun s _=>by rw [z]
   rw [e1,e2]; rfl
  | true =>
   rw [if_pos rfl,eS]
   have bg:=bits_get (seenAt t p v i e 0) (seenAt t p v i e 1) (seenAt t p v i e 2) S hS3
   have bs:=bits_set (seenAt t p v i e 0) (seenAt t p v i e 1) (seenAt t p v i e 2) S hS3
   have zz:∀s,seenAt t p v i (e+1) s=(seenAt t p v i e s || S == s):=fun s=>by
    rw [seen_succ,q,eS,Bool.true_and]
    congr 1
    rw [Bool.eq_iff_iff,beq_iff_eq,beq_iff_eq]; omega
   have n3:nth3 (seenAt t p v i e 0) (seenAt t p v i e 1) (seenAt t p v i e 2) S=seenAt t p v i e S:= by
    rcases S with _ | _ | _ | S
    ·rfl
    ·rfl
    ·rfl
    ·omega
   have e1:seenB t p v i (e+1)=bits (seenAt t p v i e 0 || S == 0) (seenAt t p v i e 1 || S == 1) (seenAt t p v i e 2 || S == 2):= by
    unfold seenB; rw [zz,zz,zz]
   rw [n3] at bg
   show ((shrI .i64 (seenB t p v i e) (S:Int)).bind fun x16=>some ((andI x16 1) == 0)).bind _=_
   rw [show seenB t p v i e=bits (seenAt t p v i e 0) (seenAt t p v i e 1) (seenAt t p v i e 2) from rfl,bg]
   simp only [Option.bind_some]
   cases hse:seenAt t p v i e S with
   | true =>
    have z:∀s,seenAt t p v i (e+1) s=seenAt t p v i e s:=fun s=>by
     rw [zz]
     by_cases c:S=s
     ·subst c; rw [hse]; rfl
     ·have:(S == s) = false:=beq_eq_false_iff_ne.mpr c
      rw [this,Bool.or_false]
    have e1:seenB t p v i (e+1)=seenB t p v i e:= by unfold seenB; rw [z,z,z]
    have e2:twL t p v i (e+1)=twL t p v i e:=map_range_congr fun s _=>by rw [z]
    rw [e1,e2]; rfl
   | false =>
    rw [if_pos (show (!false)=true from rfl)]
    cases hsh:shlI .i64 1 (S:Int) with
    | none=>rw [hsh] at bs; exact absurd bs (by simp)
    | some y =>
    rw [hsh] at bs
    have bs:orI (bits (seenAt t p v i e 0) (seenAt t p v i e 1) (seenAt t p v i e 2)) y=bits (seenAt t p v i e 0 || S == 0) (seenAt t p v i e 1 || S == 1) (seenAt t p v i e 2 || S == 2):=Option.some.inj bs
    simp only [Option.bind_some]
    have hb:=handled_bd t p v (S:Int) i
    rw [show idx (twL t p v i e) (S:Int)=some (handled t p v S i) by
     unfold twL
     rw [idx_range _ hS,hse]; rfl]
    simp only [Option.bind_some]
    rw [bs,e1]
    have e2:setI (twL t p v i e) (S:Int) (w64 (handled t p v S i+1))=twL t p v i (e+1):= by
     unfold setI twL
     rw [Int.toNat_natCast]
     refine map_range_set _ _ _ _ _ ?_ ?_
     ·rw [zz,beq_self_eq_true,Bool.or_true,w64_id (by omega)]; rfl
     ·intro s hs
      have:(S == s)=false:=beq_eq_false_iff_ne.mpr fun c=>hs c.symm
      rw [zz,this,Bool.or_false]
    rw [e2]; rfl) (by
  unfold van_train_twice_L1
  simp only []
  rw [if_neg (by rw [hlen]; simp)])]
theorem train_twice_eq {t:VaTrain} (h:TOk t) (p:List Int) (hp:p.length=t.Crates.length) (hr:inRange t p) (v:Nat) (hv:v < t.Vans.length) :
  van_train_twice ⟨t⟩ (arrOf p) (v:Int)=some (tw t p v):= by
 have hl:=h.crates
 have hvs:=h.vans
 have hs1:=h.stops1; have hs2:=h.stops
 unfold van_train_twice
 have em:mkLen 8 t.Stops (0:Int)=some (twTo t p v 0):= by
  unfold mkLen
  rw [if_pos ⟨by omega,by omega,by omega⟩]
  congr 1
  have:twTo t p v 0=(List.range t.Stops.toNat).map (fun _=>(0:Int)):=rfl
  rw [this,List.map_const',List.length_range]
 simp only []
 rw [em]
 simp only [Option.bind_some]
 rw [show ((0:Int),twTo t p v 0) = (((0:Nat):Int),twTo t p v 0) from rfl,loop_seq (b:=van_train_twice_L2 ⟨t⟩ (arrOf p) (v:Int)) (fun i=>((i:Int),twTo t p v i)) t.Crates.length (r:=twTo t p v p.length) (by omega) (fun i hi=>by
  have r:=hr i (by omega)
  unfold van_train_twice_L2
  simp only []
  rw [if_pos (by simpa using hi),idx_get hi,arr_idx (by omega) (show i < p.length by omega)]
  simp only [Option.bind_some]
  have ew:(w64 (p[i]! + 1) != w64 ((v:Int)+1)) = !(p[i]! == (v:Int)):= by
   rw [w64_id (by omega),w64_id (by omega),bne]
   congr 1
   rw [Bool.eq_iff_iff,beq_iff_eq,beq_iff_eq]; omega
  rw [ew,w64_id (n:=(i:Int)+1) (by omega),slc_pre (by omega)]
  simp only [Option.bind_some]
  rw [twice_inner h p hp hr v hv i (by omega)]
  simp only [Option.bind_some]
  cases q:p[i]! == (v:Int) with
  | false =>
   have:twTo t p v (i+1)=twTo t p v i:=map_range_congr fun s _=>by
    rw [handled_succ]; unfold handledAt; rw [q]; rfl
   rw [this]; rfl
  | true =>
   have:twTo t p v (i+1)=twL t p v i i:=map_range_congr fun s _=>by
    rw [handled_succ]; unfold handledAt seenAt; rw [q,Bool.true_and]
   rw [this]; rfl) (by
  unfold van_train_twice_L2
  simp only []
  rw [if_neg (by simp),hp])]
 rfl
def late (t:VaTrain) (p:List Int) (v:Int) (s:Nat):Int:=iter (fun j a=>a+t.Handle * handled t p v (j:Int) p.length) s 0
def roadLo (t:VaTrain) (v s:Nat):Int:=iter (fun j a=>a+(t.Vans[v]!.Legs[j]!).Lo) s 0
def roadHi (t:VaTrain) (v s:Nat):Int:=iter (fun j a=>a+(t.Vans[v]!.Legs[j]!).Hi) s 0
def timeAt (t:VaTrain) (p:List Int) (v s:Nat):Span:=⟨t.Vans[v]!.Leave+late t p v s+roadLo t v (s+1),t.Vans[v]!.Leave+late t p v s+roadHi t v (s+1)⟩
def tms (t:VaTrain) (p:List Int) (v:Nat):List Span:=(List.range t.Stops.toNat).map fun (s:Nat)=>timeAt t p v s
theorem mul_bd {a b A B:Int} (ha:0≤a∧a≤A) (hb:0≤b∧b≤B):0≤a * b∧a * b≤A * B :=
 ⟨Int.mul_nonneg ha.1 hb.1,Int.mul_le_mul ha.2 hb.2 hb.1 (Int.le_trans ha.1 ha.2)⟩
theorem late_succ (t:VaTrain) (p:List Int) (v:Int) (s:Nat):late t p v (s+1)=late t p v s+t.Handle * handled t p v (s:Int) p.length:=rfl
theorem roadLo_succ (t:VaTrain) (v s:Nat):roadLo t v (s+1)=roadLo t v s+(t.Vans[v]!.Legs[s]!).Lo:=rfl
theorem roadHi_succ (t:VaTrain) (v s:Nat):roadHi t v (s+1)=roadHi t v s+(t.Vans[v]!.Legs[s]!).Hi:=rfl
theorem step_bd {t:VaTrain} (h:TOk t) (p:List Int) (hp:p.length=t.Crates.length) (v s:Int):0≤t.Handle * handled t p v s p.length∧t.Handle * handled t p v s p.length≤360:= by
 have hl:=h.crates
 have hb:=handled_bd t p v s p.length
 exact mul_bd (A:=60) (B:=6) ⟨h.handle0,h.handle⟩ ⟨hb.1,by omega⟩
theorem late_bd {t:VaTrain} (h:TOk t) (p:List Int) (hp:p.length=t.Crates.length) (v:Int):∀s:Nat,0≤late t p v s∧late t p v s≤360 * s
 | 0=>⟨Int.le_refl 0,Int.le_refl 0⟩
 | s+1=>by
  have ih:=late_bd h p hp v s
  have:=step_bd h p hp v (s:Int)
  rw [late_succ]; omega
theorem road_bd {t:VaTrain} (h:TOk t) (v:Nat) (hv:v < t.Vans.length):∀s:Nat,(s:Int)≤t.Stops→(0≤roadLo t v s∧roadLo t v s≤600 * s)∧(0≤roadHi t v s∧roadHi t v s≤600 * s)
 | 0,_=>⟨⟨Int.le_refl 0,Int.le_refl 0⟩,⟨Int.le_refl 0,Int.le_refl 0⟩⟩
 | s+1,hs=>by
  have ih:=road_bd h v hv s (by omega)
  have hw:=h.van v hv
  have hL:=hw.legs
  have hg:=hw.leg s (by omega)
  have:=hg.lo0; have:=hg.lh; have:=hg.hi
  rw [roadLo_succ,roadHi_succ]; omega
theorem train_times_eq {t:VaTrain} (h:TOk t) (p:List Int) (hp:p.length=t.Crates.length) (hr:inRange t p) (v:Nat) (hv:v < t.Vans.length):van_train_times ⟨t⟩ (arrOf p) (v:Int)=some (tms t p v):= by
 have h1:=h.stops1; have h2:=h.stops
 have hw:=h.van v hv
 have hL:=hw.legs
 have:=hw.leave0; have:=hw.leave
 have htl:(tw t p v).length=t.Stops.toNat:= by unfold tw; rw [List.length_map,List.length_range]
 unfold van_train_times
 simp only []
 rw [idx_get hv,train_twice_eq h p hp hr v hv]
 simp only [Option.bind_some]
 rw [show ((0:Int),Span.mk t.Vans[v]!.Leave t.Vans[v]!.Leave,([]:List Span))=(((0:Nat):Int),Span.mk (t.Vans[v]!.Leave+late t p v 0+roadLo t v 0) (t.Vans[v]!.Leave+late t p v 0+roadHi t v 0),(List.range 0).map fun (s:Nat)=>timeAt t p v s) by
  show _=(_,Span.mk (t.Vans[v]!.Leave+0+0) (t.Vans[v]!.Leave+0+0),_)
  rw [Int.add_zero,Int.add_zero]; rfl]
 rw [loop_seq (b:=van_train_times_L1 ⟨t⟩ (v:Int) (tw t p v)) (fun i=>((i:Int),Span.mk (t.Vans[v]!.Leave + late t p v i + roadLo t v i) (t.Vans[v]!.Leave + late t p v i + roadHi t v i),(List.range i).map fun (s:Nat)=>timeAt t p v s)) t.Stops.toNat (r:=(Span.mk (t.Vans[v]!.Leave + late t p v t.Stops.toNat + roadLo t v t.Stops.toNat) (t.Vans[v]!.Leave + late t p v t.Stops.toNat + roadHi t v t.Stops.toNat),tms t p v)) (by omega) (fun i hi=>by
  unfold van_train_times_L1
  simp only []
  have hb:=road_bd h v hv i (by omega)
  have hg:=hw.leg i (by omega)
  have:=hg.lo0; have:=hg.lh; have:=hg.hi
  have hq:=late_bd h p hp v i
  have hst:=step_bd h p hp v (i:Int)
  rw [if_pos (by rw [htl,decide_eq_true_eq]; omega),idx_get hv]
  rw [show idx (tw t p v) (i:Int)=some (handled t p v i p.length) by unfold tw; rw [idx_range _ hi]]
  simp only [Option.bind_some]
  rw [idx_get (show i < t.Vans[v]!.Legs.length by omega)]
  simp only [Option.bind_some]
  rw [Int.mul_comm (handled t p v i p.length) t.Handle]
  have r1:=roadLo_succ t v i
  have r2:=roadHi_succ t v i
  have r3:=late_succ t p v i
  rw [w64_id (n:=t.Handle * handled t p v i p.length) (by omega),w64_id (n:=t.Vans[v]!.Leave+late t p v i+roadLo t v i+t.Vans[v]!.Legs[i]!.Lo) (by omega),w64_id (n:=t.Vans[v]!.Leave+late t p v i+roadHi t v i+t.Vans[v]!.Legs[i]!.Hi) (by omega),w64_id (n:=(i:Int)+1) (by omega),w64_id (by omega),w64_id (by omega)]
  have ea:Span.mk (t.Vans[v]!.Leave+late t p v i+roadLo t v i+t.Vans[v]!.Legs[i]!.Lo) (t.Vans[v]!.Leave+late t p v i+roadHi t v i+t.Vans[v]!.Legs[i]!.Hi)=timeAt t p v i:= by
   unfold timeAt
   rw [r1,r2]
   congr 1 <;> omega
  rw [ea,app_ok (by omega) (by simp; omega),range_snoc (fun (s:Nat)=>timeAt t p v s)]
  simp only [Option.bind_some]
  rw [r1,r2,r3]
  rw [show t.Vans[v]!.Leave+late t p v i+roadLo t v i+t.Vans[v]!.Legs[i]!.Lo+t.Handle * handled t p v i p.length=t.Vans[v]!.Leave+(late t p v i+t.Handle * handled t p v i p.length)+(roadLo t v i+t.Vans[v]!.Legs[i]!.Lo) by omega,show t.Vans[v]!.Leave+late t p v i+roadHi t v i+t.Vans[v]!.Legs[i]!.Hi+t.Handle * handled t p v i p.length=t.Vans[v]!.Leave+(late t p v i+t.Handle * handled t p v i p.length)+(roadHi t v i+t.Vans[v]!.Legs[i]!.Hi) by omega]
  rfl) (by
  unfold van_train_times_L1
  simp only []
  rw [if_neg (by rw [htl,decide_eq_true_eq]; omega)]; rfl)]
 rfl
def pcode (t:VaTrain) (p:List Int) (a:Int) (n:Nat):Int :=
 if (check t).2.2 == 0 then (if planCode t p == 0 then (if out 0 (n - 1) a then 4 else 0) else planCode t p) else (check t).2.2
theorem pcode_ok {t:VaTrain} {p:List Int} {a:Int} {n:Nat} (h:pcode t p a n=0):TOk t∧p.length=t.Crates.length∧inRange t p∧good t p=true∧0≤a∧a < n:= by
 unfold pcode at h
 by_cases c:(check t).2.2=0
 ·rw [c] at h
  have hk:=check_ok c
  cases hq:planCode t p == 0 with
  | false =>
   rw [hq] at h
   exact absurd (show planCode t p=0 from h) (beq_eq_false_iff_ne.mp hq)
  | true =>
   rw [hq] at h
   have ho:out 0 (n - 1) a=false:= by
    cases q:out 0 ((n:Int) - 1) a with
    | false=>rfl
    | true=>rw [q] at h; exact absurd (show (4:Int)=0 from h) (by decide)
   have hq:planCode t p=0:= by simpa using hq
   unfold planCode at hq
   split at hq
   ·exact absurd hq (by decide)
   ·rename_i h1
    have h1:(p.length:Int)=t.Crates.length:= by simpa using h1
    split at hq
    ·exact absurd hq (by decide)
    ·rename_i h2
     split at hq
     ·rename_i h3
      refine ⟨hk,by omega,?_,h3,(out_in.mp ho).1,by have:=(out_in.mp ho).2; omega⟩
      intro i hi
      have:out (-1) (t.Vans.length - 1) p[i]! = false:= by
       cases q:out (-1) (t.Vans.length - 1) p[i]! with
       | false=>rfl
       | true=>exact absurd (List.any_eq_true.mpr ⟨_,get_mem hi,q⟩) h2
      rw [out_in] at this
      omega
     ·exact absurd hq (by decide)
 ·have e:((check t).2.2 == 0) = false:=beq_eq_false_iff_ne.mpr c
  rw [e] at h
  exact absurd (show (check t).2.2=0 from h) c
theorem planned_shape {α:Type} {t:VaTrain} (hN:NB t) (p:List Int) (a:Int) (n:Nat) (hn:n < 9223372036854775808) (z:Int→α) (b1:(Int×IArr 6)→Option ((Int×IArr 6)⊕IArr 6)) (b2:IArr 6→Int→Option (Int⊕(Unit⊕Unit))) (w:Option α)
  (hb1:∀s,b1 s=if decide (s.1 < p.length)=true then (idx p s.1).bind fun x13=>(idxN 6 (IArr.l s.2) s.1).bind fun _=>some (.inl ((w64 (s.1+1)),(IArr.set s.2 s.1 (w64 (x13+1))))) else some (.inr s.2))
  (hb2:∀o s,b2 o s=if decide (s < p.length)=true then (van_train_allowed ⟨t⟩ o s).bind fun x=>if (!x)=true then some (.inr (.inr ())) else some (.inl (w64 (s+1))) else some (.inr (.inl ())))
  (k:IArr 6→Option α) (hk:pcode t p a n=0→k (arrOf p)=w) :
  ((van_Check t).bind fun x1=>if (x1.2.2 != 0)=true then some (z x1.2.2) else
   if ((p.length:Int) != (t.Crates.length:Int))=true then some (z 3) else
   (van_outside (-1) (w64 ((t.Vans.length:Int) - 1)) p).bind fun x23=>if x23=true then some (z 4) else
   (loop b1 (0,IArr.zero 6)).bind fun o30=>(loop (b2 o30) 0).bind fun o36 =>
   match o36 with
   | .inl _=>(van_outside 0 (w64 ((n:Int) - 1)) [a]).bind fun x37=>if x37=true then some (z 4) else k o30
   | .inr _=>some (z 9))=if pcode t p a n == 0 then w else some (z (pcode t p a n)):= by
 rw [van_Check_eq t hN]
 simp only [Option.bind_some]
 unfold pcode at hk ⊢
 by_cases c:(check t).2.2=0
 ·have hT:=check_ok c
  have hl:=hT.crates; have hv:=hT.vans
  rw [c] at hk ⊢
  rw [if_neg (by decide)]
  unfold planCode at hk ⊢
  by_cases hp:p.length=t.Crates.length
  ·have e1:((p.length:Int) != (t.Crates.length:Int)) = false:= by rw [hp]; exact bne_self_eq_false _
   rw [e1] at hk ⊢
   rw [w64_id (by omega),outside_eq _ _ _ (by omega)]
   simp only [Option.bind_some]
   cases h4:p.any (out (-1) ((t.Vans.length:Int) - 1)) with
   | true=>rfl
   | false =>
   rw [h4] at hk
   have hr:inRange t p:=fun i hi=>by
    have:out (-1) (t.Vans.length - 1) p[i]! = false:= by
     cases q:out (-1) (t.Vans.length - 1) p[i]! with
     | false=>rfl
     | true=>rw [List.any_eq_true.mpr ⟨_,get_mem hi,q⟩] at h4; exact absurd h4 (by simp)
    rw [out_in] at this
    omega
   rw [arr_loop p (by omega) hb1]
   simp only [Option.bind_some]
   rw [allowed_loop hT p hp hr (hb2 (arrOf p))]
   cases hg:good t p with
   | false=>rfl
   | true =>
   rw [hg] at hk
   rw [w64_id (by omega),outside1]
   cases ho:out 0 ((n:Int) - 1) a with
   | true=>rfl
   | false =>
    rw [ho] at hk
    exact hk rfl
  ·have e1:((p.length:Int) != (t.Crates.length:Int)) = true:=bne_iff_ne.mpr (by omega)
   rw [e1]; rfl
 ·have e:((check t).2.2 == 0) = false:=beq_eq_false_iff_ne.mpr c
  have e2:((check t).2.2 != 0)=true:=bne_iff_ne.mpr c
  rw [e,if_pos e2]
  rw [if_neg (by rw [if_neg (by simp),e]; simp)]; rfl
theorem van_Times_eq {t:VaTrain} (hN:NB t) (p:List Int) (a:Int):van_Times t p a=some (if pcode t p a t.Vans.length == 0 then (tms t p a.toNat,0) else ([],pcode t p a t.Vans.length)):= by
 by_cases hv:t.Vans.length < 9223372036854775808
 ·unfold van_Times
  refine Eq.trans (planned_shape hN p a t.Vans.length hv (fun k=>(([]:List Span),k)) (van_Times_L1 p) (van_Times_L2 t p) (some (tms t p a.toNat,0)) (fun _=>rfl) (fun _ _=>rfl) (fun o30=>(van_train_times (van_train.mk t) o30 a).bind fun x39=>some (x39,0)) (fun hk=>by
   obtain ⟨hT,hp,hr,_,h0,h1⟩:=pcode_ok hk
   have e:van_train_times ⟨t⟩ (arrOf p) a=van_train_times ⟨t⟩ (arrOf p) ((a.toNat:Nat):Int):= by rw [show ((a.toNat:Nat):Int)=a by omega]
   rw [e,train_times_eq hT p hp hr a.toNat (by omega)]; rfl)) ?_
  cases pcode t p a t.Vans.length == 0 <;> rfl
 ·have hc:(check t).2.2 ≠ 0:=fun c=>hv (by have:=(check_ok c).vans; omega)
  have e:((check t).2.2 == 0)=false:=beq_eq_false_iff_ne.mpr hc
  have e2:((check t).2.2 != 0)=true:=bne_iff_ne.mpr hc
  unfold van_Times pcode
  rw [van_Check_eq t hN]
  simp only [Option.bind_some]
  rw [e,if_pos e2]
  rw [if_neg (by rw [if_neg (by simp),e]; simp)]; rfl
theorem idx_tms {t:VaTrain} (p:List Int) (v:Nat) {s:Int} (h0:0≤s) (h:s < t.Stops):idx (tms t p v) s=some (timeAt t p v s.toNat):= by
 have e:s=((s.toNat:Nat):Int):= by omega
 unfold tms
 rw [e,idx_range _ (by omega)]; rfl
theorem sat_rows {α:Type} {l:List Sh} {c:α→List AV} {Q:α→Prop} (h:∀r,SatL l r→∃ x,r=c x∧Q x):∀rows:List (List AV),(∀ r ∈ rows,SatL l r)→∃ xs:List α,rows=xs.map c∧xs.length=rows.length∧∀ x ∈ xs,Q x
 | [],_=>⟨[],rfl,rfl,by simp⟩
 | r :: rows,hr=>by
  obtain ⟨x,hx,hq⟩:=h r (hr r (List.mem_cons_self ..))
  obtain ⟨xs,hxs,hlen,hqs⟩:=sat_rows h rows fun r' h'=>hr r' (List.mem_cons_of_mem _ h')
  refine ⟨x :: xs,by rw [hx,hxs]; rfl,by rw [List.length_cons,List.length_cons,hlen],?_⟩
  intro y hy
  rcases List.mem_cons.mp hy with rfl | hy
  ·exact hq
  ·exact hqs y hy
theorem of_Span (r:List AV) (h:SatL [.int .i64,.int .i64] r):∃x:Span,r=c_Span x∧True:= by
 simp only [SatL,Sat] at h
 obtain ⟨x1,q1,rfl,⟨n1,rfl,_⟩,x2,q2,rfl,⟨n2,rfl,_⟩,rfl⟩:=h
 exact ⟨⟨n1,n2⟩,rfl,trivial⟩
theorem of_VaPair (r:List AV) (h:SatL [.int .i64,.int .i64] r):∃x:VaPair,r=c_VaPair x∧True:= by
 simp only [SatL,Sat] at h
 obtain ⟨x1,q1,rfl,⟨n1,rfl,_⟩,x2,q2,rfl,⟨n2,rfl,_⟩,rfl⟩:=h
 exact ⟨⟨n1,n2⟩,rfl,trivial⟩
theorem of_VaCrate (r:List AV) (h:SatL [.str,.int .i64,.int .i64,.int .i64] r):∃x:VaCrate,r=c_VaCrate x∧x.Name.size≤maxLen:= by
 simp only [SatL,Sat] at h
 obtain ⟨x0,q0,rfl,⟨s,rfl,hs⟩,x1,q1,rfl,⟨n1,rfl,_⟩,x2,q2,rfl,⟨n2,rfl,_⟩,x3,q3,rfl,⟨n3,rfl,_⟩,rfl⟩:=h
 exact ⟨⟨s,n1,n2,n3⟩,rfl,hs⟩
theorem of_VaVan (r:List AV) (h:SatL [.str,.int .i64,.int .i64,.seq 2 [.int .i64,.int .i64]] r):∃x:VaVan,r=c_VaVan x∧x.Name.size≤maxLen:= by
 rw [SatL] at h; obtain ⟨x0,q0,rfl,h0,h⟩:=h
 rw [SatL] at h; obtain ⟨x1,q1,rfl,h1,h⟩:=h
 rw [SatL] at h; obtain ⟨x2,q2,rfl,h2,h⟩:=h
 rw [SatL] at h; obtain ⟨x3,q3,rfl,h3,h⟩:=h
 rw [SatL] at h; subst h
 simp only [Sat] at h0 h1 h2 h3
 obtain ⟨s,rfl,hs⟩:=h0
 obtain ⟨n1,rfl,_⟩:=h1
 obtain ⟨n2,rfl,_⟩:=h2
 obtain ⟨rows,rfl,_,hr⟩:=h3
 obtain ⟨xs,rfl,_,_⟩:=sat_rows of_Span rows hr
 exact ⟨⟨s,n1,n2,xs⟩,rfl,hs⟩
def shTrain:List Sh:=[.seq 4 [.str,.int .i64,.int .i64,.seq 2 [.int .i64,.int .i64]],.int .i64,.int .i64,.seq 4 [.str,.int .i64,.int .i64,.int .i64],.seq 2 [.int .i64,.int .i64]]
theorem of_VaTrain (r:List AV) (h:SatL shTrain r):∃x:VaTrain,r=c_VaTrain x∧NB x:= by
 unfold shTrain at h
 rw [SatL] at h; obtain ⟨x0,q0,rfl,h0,h⟩:=h
 rw [SatL] at h; obtain ⟨x1,q1,rfl,h1,h⟩:=h
 rw [SatL] at h; obtain ⟨x2,q2,rfl,h2,h⟩:=h
 rw [SatL] at h; obtain ⟨x3,q3,rfl,h3,h⟩:=h
 rw [SatL] at h; obtain ⟨x4,q4,rfl,h4,h⟩:=h
 rw [SatL] at h; subst h
 simp only [Sat] at h0 h1 h2 h3 h4
 obtain ⟨rows0,rfl,_,hr0⟩:=h0
 obtain ⟨n1,rfl,_⟩:=h1
 obtain ⟨n2,rfl,_⟩:=h2
 obtain ⟨rows3,rfl,_,hr3⟩:=h3
 obtain ⟨rows4,rfl,_,hr4⟩:=h4
 obtain ⟨xs,rfl,_,hq0⟩:=sat_rows of_VaVan rows0 hr0
 obtain ⟨ys,rfl,_,hq3⟩:=sat_rows of_VaCrate rows3 hr3
 obtain ⟨zs,rfl,_,_⟩:=sat_rows of_VaPair rows4 hr4
 refine ⟨⟨xs,n1,n2,ys,zs⟩,rfl,fun v hv=>?_,fun v hv=>?_⟩
 ·have:=hq0 v hv; simp only [maxLen] at this; omega
 ·have:=hq3 v hv; simp only [maxLen] at this; omega
theorem V_cells {g:Ghost} {cs:List Value} {r:List AV} (hr:r.length=cs.length) (h:∀(j:Nat) (x:AV),r[j]? = some x→∃ v,cs[j]? = some v∧Den g.Φ x v∧v.oneCell'=true):V g (.agg r) (.agg cs.toArray):= by
 refine .agg r cs.toArray (by simpa using hr.symm) ?_ ?_
 ·intro j x hx
  obtain ⟨v,hv,hd,_⟩:=h j x hx
  rw [List.getElem?_toArray,hv]; exact .den _ _ hd
 ·intro j x hx
  obtain ⟨v,hv,_,h1⟩:=h j x hx
  rw [List.getElem?_toArray,hv]; exact h1
end Vn
end
section
set_option maxRecDepth 100000
set_option maxHeartbeats 0
namespace Vn
open Go Am Go.Proofs.Ytjjmechghfjbmaa.Cd
def ref01_Inside (a0:Int) (a1:Span):Option Bool :=
 (ref01_within a0 a1.Lo a1.Hi).bind fun x1 =>
 some x1
theorem ok_ref01_Inside {c:Sc} {H:AHeap} {a0:Int} {a1:Span} {r:Bool} (h:ref01_Inside a0 a1=some r) :
  CallE tab c H (.fn (.func 44) [] []) [.i a0,(.agg (c_Span a1))] [.b r]:= by
 unfold ref01_Inside at h
 refine cE rfl rfl<|sg 0 rfl<|ow_q (o_box (cs:=c_Span a1) rfl rfl rfl) rfl<|qm rfl<|es (ra2 rfl rfl)<|s0<|oB h fun x1 hx1 h=>qm rfl<|ow_q (o_faP rfl) rfl<|ow_q (o_load rfl rfl rfl) rfl<|ow_q (o_faP rfl) rfl<|ow_q (o_load rfl rfl rfl) rfl<|ow_call (rs:=[.b x1]) rfl rfl (fa_cons rfl (fa_cons rfl (fa_cons rfl fa_nil))) ((ok_ref01_within hx1).frz)<|qm rfl<|es (ra1 rfl)<|w_ret ?_
 obtain rfl:=os h
 exact retq trivial (rs_tmp rfl rs_nil) (ov_cons rfl ov_nil) (bdL_cons bd_lit bdL_nil)
def van_Told_L1 (a1:(List Int)) (s6:(Int×(IArr 6))):Option ((Int×(IArr 6))⊕(IArr 6)) :=
 if (decide (s6.1 < (List.length a1:Int)))=true then
  (idx a1 s6.1).bind fun x9 =>
  (idxN 6 (IArr.l s6.2) s6.1).bind fun x10 =>
  some (.inl ((w64 (s6.1+1)),(IArr.set s6.2 s6.1 (w64 (x9+1)))))
 else
  some (.inr s6.2)
def van_Told_L2 (a0:VaTrain) (a1:(List Int)) (o11:(IArr 6)) (s12:Int):Option (Int⊕(Unit⊕Unit)) :=
 if (decide (s12 < (List.length a1:Int)))=true then
  (van_train_allowed (van_train.mk a0) o11 s12).bind fun x15 =>
  if (!x15)=true then
  some (.inr (.inr ()))
  else
  some (.inl (w64 (s12+1)))
 else
  some (.inr (.inl ()))
def van_Told_L3 (a0:VaTrain) (x29:(List Int)) (x30:VaVan) (s31:(Int×(List Span))):Option ((Int×(List Span))⊕(List Span)) :=
 if (decide (s31.1 < a0.Stops))=true then
  (idx x29 (w64 (s31.1 - 1))).bind fun x34 =>
  (idx s31.2 (w64 (s31.1 - 1))).bind fun x35 =>
  (idx x30.Legs s31.1).bind fun x36 =>
  (idx s31.2 (w64 (s31.1 - 1))).bind fun x37 =>
  (idx x30.Legs s31.1).bind fun x38 =>
  (idx s31.2 s31.1).bind fun x39 =>
  some (.inl ((w64 (s31.1+1)),(setI s31.2 s31.1 (Span.mk (w64 ((w64 (x35.Lo+(w64 (x34 * a0.Handle))))+x36.Lo)) (w64 ((w64 (x37.Hi+(w64 (x34 * a0.Handle))))+x38.Hi))))))
 else
  some (.inr s31.2)
def van_Told_L4 (a0:VaTrain) (x29:(List Int)) (x30:VaVan) (s41:(Int×(List Span))):Option ((Int×(List Span))⊕(List Span)) :=
 if (decide (s41.1 ≥ 0))=true then
  (idx x29 s41.1).bind fun x44 =>
  (idx s41.2 s41.1).bind fun x45 =>
  (idx s41.2 (w64 (s41.1+1))).bind fun x46 =>
  (idx x30.Legs (w64 (s41.1+1))).bind fun x47 =>
  (idx s41.2 s41.1).bind fun x48 =>
  (idx s41.2 (w64 (s41.1+1))).bind fun x49 =>
  (idx x30.Legs (w64 (s41.1+1))).bind fun x50 =>
  (idx s41.2 s41.1).bind fun x51 =>
  some (.inl ((w64 (s41.1 - 1)),(setI s41.2 s41.1 (Span.mk (maxI x45.Lo (w64 ((w64 (x46.Lo - (w64 (x44 * a0.Handle)))) - x47.Hi))) (minI x48.Hi (w64 ((w64 (x49.Hi - (w64 (x44 * a0.Handle)))) - x50.Lo)))))))
 else
  some (.inr s41.2)
def van_Told (a0:VaTrain) (a1:(List Int)) (a2:Int) (a3:Int) (a4:Int):Option ((List Span)×Int) :=
 (van_Check a0).bind fun x1 =>
 if (x1.2.2 != 0)=true then
  some (([]:List Span),x1.2.2)
 else
  if ((List.length a1:Int) != (List.length a0.Crates:Int))=true then
  some (([]:List Span),3)
  else
  (van_outside (-1) (w64 ((List.length a0.Vans:Int) - 1)) a1).bind fun x4 =>
  if x4=true then
   some (([]:List Span),4)
  else
   (loop (van_Told_L1 a1) (0,(IArr.zero 6))).bind fun (o11:(IArr 6)) =>
   (loop (van_Told_L2 a0 a1 o11) 0).bind fun (o17:(Unit⊕Unit)) =>
   match o17 with
   | (.inl vo17_0) =>
   (van_outside 0 (w64 ((List.length a0.Vans:Int) - 1)) [a2]).bind fun x18 =>
   (if x18=true then
    some true
   else
    (van_outside 0 (w64 (a0.Stops - 1)) [a3]).bind fun x20 =>
    some x20).bind fun x21 =>
   if x21=true then
    some (([]:List Span),4)
   else
    (van_train_times (van_train.mk a0) o11 a2).bind fun x23 =>
    (idx x23 a3).bind fun x24 =>
    (idx x23 a3).bind fun x25 =>
    (van_outside x24.Lo x25.Hi [a4]).bind fun x26 =>
    if x26=true then
    some (([]:List Span),8)
    else
    (idx x23 a3).bind fun x28 =>
    (van_train_twice (van_train.mk a0) o11 a2).bind fun x29 =>
    (idx a0.Vans a2).bind fun x30 =>
    (loop (van_Told_L3 a0 x29 x30) ((w64 (a3+1)),(setI x23 a3 (Span.mk a4 a4)))).bind fun (o40:(List Span)) =>
    (loop (van_Told_L4 a0 x29 x30) ((w64 (a3 - 1)),o40)).bind fun (o52:(List Span)) =>
    some (o52,0)
   | (.inr vo17_1) =>
   some (([]:List Span),9)
theorem ok_van_Told {c:Sc} {H:AHeap} {a0:VaTrain} {a1:(List Int)} {a2:Int} {a3:Int} {a4:Int} {r:((List Span)×Int)} (h:van_Told a0 a1 a2 a3 a4=some r) :
  CallF tab c H (.fn (.func 27) [] []) [(.agg (c_VaTrain a0)),(.seq 1 (List.map cI a1)),.i a2,.i a3,.i a4] [(.seq 2 (List.map c_Span r.1)),.i r.2]:= by
 unfold van_Told at h
 refine cF rfl rfl<|sg 0 rfl<|ow_q (o_box (cs:=c_VaTrain a0) rfl rfl rfl) rfl<|qm rfl<|qm rfl<|es (ra5 rfl rfl rfl rfl rfl)<|sg 1 rfl<|ow_q (o_loadW rfl rfl rfl) rfl<|qm rfl<|og_inline (as2:=[(.agg (c_VaTrain a0)),(.seq 1 (List.map cI a1))]) (H1:=(H++[(.cells (c_VaTrain a0)),.dead])) rfl rfl (fa_cons (fa_agg rfl) (fa_cons rfl fa_nil)) rfl rfl rfl (len_loc rfl)<|sg 2 rfl<|ow_q (o_box (cs:=c_VaTrain a0) rfl rfl rfl) rfl<|qm rfl<|ow_q (o_alloc (zs:=(cA .i64) (IArr.zero 6))) rfl<|qm rfl<|es (ra3 rfl rfl rfl)<|s0<|ow_q (o_loadW rfl rfl rfl) rfl<|og_inline (as2:=[(.agg (c_VaTrain a0))]) (H1:=(H++[(.cells (c_VaTrain a0)),.dead,(.cells (c_VaTrain a0)),(.cells ((cA .i64) (IArr.zero 6)))])) rfl rfl (fa_cons (fa_agg rfl) fa_nil) rfl rfl rfl (len_loc rfl)<|sg 4 rfl<|ow_q (o_box (cs:=c_VaTrain a0) rfl rfl rfl) rfl<|qm rfl<|qm rfl<|es (ra1 rfl)<|w_seq<|s0<|oB h fun x1 hx1 h=>ow_q (o_loadW rfl rfl rfl) rfl<|ow_call (rs:=[.i x1.1,.i x1.2.1,.i x1.2.2]) rfl rfl (fa_cons (fa_agg rfl) fa_nil) ((ok_van_Check hx1).frz)<|qm rfl<|ow_q (o_extract rfl rfl) rfl<|ow_q (o_extract rfl rfl) rfl<|ow_q (o_extract rfl rfl) rfl<|qm rfl<|qm rfl<|qm rfl<|es (ra2 rfl rfl)<|s0<|qm rfl<|ow_q (b_neq rfl rfl) rfl<|es (ra3 rfl rfl rfl)<|wi h rfl (fun hc2 h=>?_) fun hc2 h=>?_
 ·refine s0<|qm rfl<|qm rfl<|qm rfl<|es (ra2 rfl rfl)<|w_ret<|InlQ.mk trivial ⟨_,_,_,[(.lit (.pointer none)),.i x1.2.2],_,(rs_tmp rfl (rs_tmp rfl rs_nil)),(ov_cons rfl (ov_cons rfl ov_nil)),(in_cut (bdL_cons bd_lit (bdL_cons bd_lit bdL_nil)) (fz_cons rfl (fz_cons rfl fz_nil)) (take_loc _ _ _)),?_⟩
  refine qm rfl<|ow_q (o_extract rfl rfl) rfl<|ow_q (o_extract rfl rfl) rfl<|qm rfl<|qm rfl<|es (ra5 rfl rfl rfl rfl rfl)<|w_seq<|w_block<|s0<|qm rfl<|ow_q (b_neq rfl rfl) rfl<|qm rfl<|es (ra6 rfl rfl rfl rfl rfl rfl)<|w_condT rfl hc2<|s0<|ow_q (o_loadA (kk:=.i64) (v:=(IArr.zero 6)) rfl rfl) rfl<|qm rfl<|ow_r (o_storeA (kk:=.i64) (u:=(IArr.zero 6)) (v:=(IArr.zero 6)) rfl rfl rfl) rfl<|qm rfl<|qm rfl<|es (ra3 rfl rfl rfl)<|w_ret<|InlQ.mk trivial ⟨_,_,_,[(.lit (.pointer none)),(.agg ((cA .i64) (IArr.zero 6))),.i x1.2.2],_,(rs_tmp rfl (rs_cell (o_loadA (kk:=.i64) rfl rfl) (rs_tmp rfl rs_nil))),(ov_cons rfl (ov_cons ov_arr (ov_cons rfl ov_nil))),(in_cut (bdL_cons bd_lit (bdL_cons bd_arr (bdL_cons bd_lit bdL_nil))) (fz_cons rfl (fz_cons fz_arr (fz_cons rfl fz_nil))) (take_loc _ _ _)),?_⟩
  refine qm rfl<|ow_q (o_extract rfl rfl) rfl<|ow_q (o_extract rfl rfl) rfl<|ow_q (o_extract rfl rfl) rfl<|ow_q (o_alloc (zs:=(cA .i64) (IArr.zero 6))) rfl<|qm rfl<|ow_r (o_storeA (kk:=.i64) (u:=(IArr.zero 6)) (v:=(IArr.zero 6)) rfl rfl rfl) rfl<|qm rfl<|es (ra7 rfl rfl rfl rfl rfl rfl rfl)<|w_seq<|w_block<|s0<|qm rfl<|ow_q (b_neq rfl rfl) rfl<|qm rfl<|es (ra8 rfl rfl rfl rfl rfl rfl rfl rfl)<|w_condT rfl hc2<|s0<|qm rfl<|qm rfl<|qm rfl<|es (ra2 rfl rfl)<|w_ret ?_
  obtain rfl:=os h
  refine Exists.intro [(.seq 2 (List.map c_Span ([]:List Span))),.i x1.2.2] (And.intro ?_ rfl)
  exact retq trivial (rs_tmp rfl (rs_tmp rfl rs_nil)) (ov_cons rfl (ov_cons rfl ov_nil)) (bdL_cons bd_seq (bdL_cons bd_lit bdL_nil))
 ·refine w_skip<|sg 5 rfl<|ow_q (o_loadW rfl rfl rfl) rfl<|ow_q o_mkmap rfl<|ow_q (o_build (cs:=[(.seq 4 (List.map c_VaVan a0.Vans)),.i a0.Stops,.i a0.Handle,(.seq 4 (List.map c_VaCrate a0.Crates)),(.seq 2 (List.map c_VaPair a0.Apart)),(.mp (H.length + 5))]) rfl rfl) rfl<|ow_q (o_box (cs:=[(.seq 4 (List.map c_VaVan a0.Vans)),.i a0.Stops,.i a0.Handle,(.seq 4 (List.map c_VaCrate a0.Crates)),(.seq 2 (List.map c_VaPair a0.Apart)),(.mp (H.length + 5))]) rfl rfl rfl) rfl<|qm rfl<|qm rfl<|es (ra2 rfl rfl)<|w_ret<|InlQ.mk trivial ⟨_,_,_,[(.ptr (H.length + 6) 0),.i 0],_,(rs_tmp rfl (rs_tmp rfl rs_nil)),(ov_cons rfl (ov_cons rfl ov_nil)),(in_keep (bdf_here (bdf_ptr rfl)) (fz_cons rfl (fz_cons rfl fz_nil))),?_⟩
  refine qm rfl<|ow_q (o_extract rfl rfl) rfl<|ow_q (o_extract rfl rfl) rfl<|qm rfl<|qm rfl<|es (ra5 rfl rfl rfl rfl rfl)<|w_seq<|w_block<|s0<|qm rfl<|ow_q (o_bin (v:=(.b false)) rfl rfl rfl) rfl<|qm rfl<|es (ra6 rfl rfl rfl rfl rfl rfl)<|w_condF rfl rfl<|s0<|qm rfl<|ow_q (o_lenL (f:=cI) rfl) rfl<|ow_q (o_faP rfl) rfl<|ow_q (o_load rfl rfl rfl) rfl<|ow_q (o_lenL (f:=c_VaCrate) rfl) rfl<|ow_q (b_neq rfl rfl) rfl<|qm rfl<|es (ra5 rfl rfl rfl rfl rfl)<|wi h rfl (fun hc3 h=>?_) fun hc3 h=>?_
  ·refine s0<|ow_q (o_loadA (kk:=.i64) (v:=(IArr.zero 6)) rfl rfl) rfl<|qm rfl<|ow_r (o_storeA (kk:=.i64) (u:=(IArr.zero 6)) (v:=(IArr.zero 6)) rfl rfl rfl) rfl<|qm rfl<|es (ra3 rfl rfl rfl)<|w_ret<|InlQ.mk trivial ⟨_,_,_,[(.lit (.pointer none)),(.agg ((cA .i64) (IArr.zero 6))),.i 3],_,(rs_tmp rfl (rs_cell (o_loadA (kk:=.i64) rfl rfl) (rs_tmp rfl rs_nil))),(ov_cons rfl (ov_cons ov_arr (ov_cons rfl ov_nil))),(in_cut (bdL_cons bd_lit (bdL_cons bd_arr (bdL_cons bd_lit bdL_nil))) (fz_cons rfl (fz_cons fz_arr (fz_cons rfl fz_nil))) (take_loc _ _ _)),?_⟩
   refine qm rfl<|ow_q (o_extract rfl rfl) rfl<|ow_q (o_extract rfl rfl) rfl<|ow_q (o_extract rfl rfl) rfl<|ow_q (o_alloc (zs:=(cA .i64) (IArr.zero 6))) rfl<|qm rfl<|ow_r (o_storeA (kk:=.i64) (u:=(IArr.zero 6)) (v:=(IArr.zero 6)) rfl rfl rfl) rfl<|qm rfl<|es (ra7 rfl rfl rfl rfl rfl rfl rfl)<|w_seq<|w_block<|s0<|qm rfl<|ow_q (o_bin (v:=(.b true)) rfl rfl rfl) rfl<|qm rfl<|es (ra8 rfl rfl rfl rfl rfl rfl rfl rfl)<|w_condT rfl rfl<|s0<|qm rfl<|qm rfl<|qm rfl<|es (ra2 rfl rfl)<|w_ret ?_
   obtain rfl:=os h
   refine Exists.intro [(.seq 2 (List.map c_Span ([]:List Span))),.i 3] (And.intro ?_ rfl)
   exact retq trivial (rs_tmp rfl (rs_tmp rfl rs_nil)) (ov_cons rfl (ov_cons rfl ov_nil)) (bdL_cons bd_seq (bdL_cons bd_lit bdL_nil))
  ·refine s0<|oB h fun x4 hx4 h=>ow_q (o_faP rfl) rfl<|ow_q (o_load rfl rfl rfl) rfl<|ow_q (o_lenL (f:=c_VaVan) rfl) rfl<|ow_q (b_sub rfl rfl) rfl<|qm rfl<|ow_call (rs:=[.b x4]) rfl rfl (fa_cons rfl (fa_cons rfl (fa_cons rfl fa_nil))) ((ok_van_outside hx4).frz)<|qm rfl<|es (ra4 rfl rfl rfl rfl)<|wi h rfl (fun hc5 h=>?_) fun hc5 h=>?_
   ·refine s0<|ow_q (o_loadA (kk:=.i64) (v:=(IArr.zero 6)) rfl rfl) rfl<|qm rfl<|ow_r (o_storeA (kk:=.i64) (u:=(IArr.zero 6)) (v:=(IArr.zero 6)) rfl rfl rfl) rfl<|qm rfl<|es (ra3 rfl rfl rfl)<|w_ret<|InlQ.mk trivial ⟨_,_,_,[(.lit (.pointer none)),(.agg ((cA .i64) (IArr.zero 6))),.i 4],_,(rs_tmp rfl (rs_cell (o_loadA (kk:=.i64) rfl rfl) (rs_tmp rfl rs_nil))),(ov_cons rfl (ov_cons ov_arr (ov_cons rfl ov_nil))),(in_cut (bdL_cons bd_lit (bdL_cons bd_arr (bdL_cons bd_lit bdL_nil))) (fz_cons rfl (fz_cons fz_arr (fz_cons rfl fz_nil))) (take_loc _ _ _)),?_⟩
    refine qm rfl<|ow_q (o_extract rfl rfl) rfl<|ow_q (o_extract rfl rfl) rfl<|ow_q (o_extract rfl rfl) rfl<|ow_q (o_alloc (zs:=(cA .i64) (IArr.zero 6))) rfl<|qm rfl<|ow_r (o_storeA (kk:=.i64) (u:=(IArr.zero 6)) (v:=(IArr.zero 6)) rfl rfl rfl) rfl<|qm rfl<|es (ra7 rfl rfl rfl rfl rfl rfl rfl)<|w_seq<|w_block<|s0<|qm rfl<|ow_q (o_bin (v:=(.b true)) rfl rfl rfl) rfl<|qm rfl<|es (ra8 rfl rfl rfl rfl rfl rfl rfl rfl)<|w_condT rfl rfl<|s0<|qm rfl<|qm rfl<|qm rfl<|es (ra2 rfl rfl)<|w_ret ?_
    obtain rfl:=os h
    refine Exists.intro [(.seq 2 (List.map c_Span ([]:List Span))),.i 4] (And.intro ?_ rfl)
    exact retq trivial (rs_tmp rfl (rs_tmp rfl rs_nil)) (ov_cons rfl (ov_cons rfl ov_nil)) (bdL_cons bd_seq (bdL_cons bd_lit bdL_nil))
   ·refine w_skip<|w_seq<|s0<|qm rfl<|ow_q (o_lenL (f:=cI) rfl) rfl<|qm rfl<|es (ra6 rfl rfl rfl rfl rfl rfl)<|w_block<|oB h fun o11 ho11 h=>wl (fun s6=>[(1,(.seq 1 (List.map cI a1))),(4,(.ptr (H.length + 6) 0)),(5,(.ptr (H.length + 3) 0)),(36,(.seq 1 (List.map cI a1))),(37,(.i (List.length a1:Int))),(38,.i s6.1)]) (fun (q7:Unit) s6=>[(.cells (c_VaTrain a0)),.dead,(.cells (c_VaTrain a0)),(.cells ((cA .i64) s6.2)),(.cells (c_VaTrain a0)),(.map []),(.cells [(.seq 4 (List.map c_VaVan a0.Vans)),.i a0.Stops,.i a0.Handle,(.seq 4 (List.map c_VaCrate a0.Crates)),(.seq 2 (List.map c_VaPair a0.Apart)),(.mp (H.length + 5))])]) 7 (fun r e s' H'=>PX 1 [(1,(.seq 1 (List.map cI a1))),(4,(.ptr (H.length + 6) 0)),(5,(.ptr (H.length + 3) 0))] (H++[(.cells (c_VaTrain a0)),.dead,(.cells (c_VaTrain a0)),(.cells ((cA .i64) r)),(.cells (c_VaTrain a0)),(.map []),(.cells [(.seq 4 (List.map c_VaVan a0.Vans)),.i a0.Stops,.i a0.Handle,(.seq 4 (List.map c_VaCrate a0.Crates)),(.seq 2 (List.map c_VaPair a0.Apart)),(.mp (H.length + 5))])]) e s' H') () ho11 rfl rfl (fun _ _=>rfl) (fun _=>rfl) rfl (fun s6=>(bdc bd_seq (bdc (bd_ptr rfl) (bdc (bd_ptr rfl) (bdc bd_seq (bdc bd_lit (bdc bd_lit bdn))))))) (fun q7 s6 ys6 hs6=>?_) ?_
    ·unfold van_Told_L1 at hs6
     refine s0<|ow_q (b_lss rfl rfl) rfl<|es (ra7 rfl rfl rfl rfl rfl rfl rfl)<|w_seq<|wi hs6 rfl (fun hc8 hs6=>?_) fun hc8 hs6=>?_
     ·refine w_skip<|w_seq<|w_block<|s0<|oB hs6 fun x9 hx9 hs6=>qm rfl<|ow_q (o_idxS (f:=cI) rfl rfl hx9) rfl<|ow_q (o_loadC rfl rfl) rfl<|qm rfl<|qm rfl<|es (ra8 rfl rfl rfl rfl rfl rfl rfl rfl)<|r0<|oB hs6 fun x10 hx10 hs6=>qm rfl<|qm rfl<|ow_q (b_add rfl rfl) rfl<|ow_q (o_idxPA rfl rfl hx10) rfl<|ow_r (o_storePA rfl rfl rfl hx10) rfl<|en (ra6 rfl rfl rfl rfl rfl rfl)<|r0<|ow_q (b_add rfl rfl) rfl<|qm rfl<|en (ra6 rfl rfl rfl rfl rfl rfl) ?_
      cases hs6
      exact lnT () rfl (su6 rfl rfl rfl rfl rfl rfl)
     ·refine w_exit ?_
      obtain rfl:=os hs6
      exact lx rfl px (su3 rfl rfl rfl)
    ·rintro e s' H' - ⟨rfl,rfl,rfl⟩
     refine w_seq<|s0<|qm rfl<|ow_q (o_lenL (f:=cI) rfl) rfl<|qm rfl<|es (ra4 rfl rfl rfl rfl)<|w_block<|oB h fun o17 ho17 h=>wl (fun s12=>[(4,(.ptr (H.length+6) 0)),(5,(.ptr (H.length+3) 0)),(49,(.i (List.length a1:Int))),(50,.i s12)]) (fun (q13:Unit) s12=>[(.cells (c_VaTrain a0)),.dead,(.cells (c_VaTrain a0)),(.cells ((cA .i64) o11)),(.cells (c_VaTrain a0)),(.map []),(.cells [(.seq 4 (List.map c_VaVan a0.Vans)),.i a0.Stops,.i a0.Handle,(.seq 4 (List.map c_VaCrate a0.Crates)),(.seq 2 (List.map c_VaPair a0.Apart)),(.mp (H.length+5))])]) 7 (fun r e s' H'=>(match r with | (.inl v)=>PX 3 [(4,(.ptr (H.length+6) 0)),(5,(.ptr (H.length+3) 0))] (H++[(.cells (c_VaTrain a0)),.dead,(.cells (c_VaTrain a0)),(.cells ((cA .i64) o11)),(.cells (c_VaTrain a0)),(.map []),(.cells [(.seq 4 (List.map c_VaVan a0.Vans)),.i a0.Stops,.i a0.Handle,(.seq 4 (List.map c_VaCrate a0.Crates)),(.seq 2 (List.map c_VaPair a0.Apart)),(.mp (H.length+5))])]) e s' H' | (.inr v)=>e = .ret∧s'=[(4,(.lit (.pointer none))),(5,(.ptr (H.length+3) 0)),(6,.i 9)]∧H'=(H++[(.cells (c_VaTrain a0)),.dead,(.cells (c_VaTrain a0)),(.cells ((cA .i64) o11)),(.cells (c_VaTrain a0)),(.map []),(.cells [(.seq 4 (List.map c_VaVan a0.Vans)),.i a0.Stops,.i a0.Handle,(.seq 4 (List.map c_VaCrate a0.Crates)),(.seq 2 (List.map c_VaPair a0.Apart)),(.mp (H.length+5))])]):Prop)) () ho17 rfl rfl (fun _ _=>rfl) (fun _=>rfl) rfl (fun s12=>(bdc (bd_ptr rfl) (bdc (bd_ptr rfl) (bdc bd_lit (bdc bd_lit bdn))))) (fun q13 s12 ys12 hs12=>?_) ?_
     ·unfold van_Told_L2 at hs12
      refine s0<|ow_q (b_lss rfl rfl) rfl<|es (ra5 rfl rfl rfl rfl rfl)<|w_seq<|wi hs12 rfl (fun hc14 hs12=>?_) fun hc14 hs12=>?_
      ·refine w_skip<|w_seq<|w_block<|s0<|qm rfl<|qm rfl<|es (ra5 rfl rfl rfl rfl rfl)<|s0<|oB hs12 fun x15 hx15 hs12=>qm rfl<|ow_q (o_loadA (kk:=.i64) (v:=o11) rfl rfl) rfl<|qm rfl<|ow_call (rs:=[.b x15]) rfl rfl (fa_cons rfl (fa_cons fa_arr (fa_cons rfl fa_nil))) ((ok_van_train_allowed (hcells_loc rfl) hx15).frz)<|ow_q (u_not rfl) rfl<|es (ra5 rfl rfl rfl rfl rfl)<|wi hs12 rfl (fun hc16 hs12=>?_) fun hc16 hs12=>?_
       ·refine s0<|ow_q (o_loadA (kk:=.i64) (v:=o11) rfl rfl) rfl<|qm rfl<|ow_r (o_storeA (kk:=.i64) (u:=o11) (v:=o11) rfl rfl rfl) rfl<|qm rfl<|es (ra3 rfl rfl rfl)<|w_ret ?_
        obtain rfl:=os hs12
        exact lx rfl (And.intro rfl (And.intro rfl rfl)) (su3 rfl rfl rfl)
       ·refine w_skip<|r0<|ow_q (b_add rfl rfl) rfl<|qm rfl<|en (ra4 rfl rfl rfl rfl) ?_
        cases hs12
        exact lnT () rfl (su4 rfl rfl rfl rfl)
      ·refine w_exit ?_
       obtain rfl:=os hs12
       exact lx rfl px (su2 rfl rfl)
     ·rcases o17 with vo17_0 | vo17_1
      ·rintro e s' H' - ⟨rfl,rfl,rfl⟩
       refine s0<|qm rfl<|ow_q (o_loadA (kk:=.i64) (v:=o11) rfl rfl) rfl<|qm rfl<|ow_r (o_storeA (kk:=.i64) (u:=o11) (v:=o11) rfl rfl rfl) rfl<|qm rfl<|es (ra3 rfl rfl rfl)<|w_ret<|InlQ.mk trivial ⟨_,_,_,[(.ptr (H.length+6) 0),(.agg ((cA .i64) o11)),.i 0],_,(rs_tmp rfl (rs_cell (o_loadA (kk:=.i64) rfl rfl) (rs_tmp rfl rs_nil))),(ov_cons rfl (ov_cons ov_arr (ov_cons rfl ov_nil))),(in_keep (bdf_here (bdf_ptr rfl)) (fz_cons rfl (fz_cons fz_arr (fz_cons rfl fz_nil)))),?_⟩
       refine qm rfl<|ow_q (o_extract rfl rfl) rfl<|ow_q (o_extract rfl rfl) rfl<|ow_q (o_extract rfl rfl) rfl<|ow_q (o_alloc (zs:=(cA .i64) (IArr.zero 6))) rfl<|qm rfl<|ow_r (o_storeA (kk:=.i64) (u:=(IArr.zero 6)) (v:=o11) rfl rfl rfl) rfl<|qm rfl<|es (ra7 rfl rfl rfl rfl rfl rfl rfl)<|w_seq<|w_block<|s0<|qm rfl<|ow_q (o_bin (v:=(.b false)) rfl rfl rfl) rfl<|qm rfl<|es (ra8 rfl rfl rfl rfl rfl rfl rfl rfl)<|w_condF rfl rfl<|s0<|oB h fun x18 hx18 h=>oB h fun x21 hx21 h=>ow_q (o_faP rfl) rfl<|ow_q (o_load rfl rfl rfl) rfl<|ow_q (o_lenL (f:=c_VaVan) rfl) rfl<|ow_q (b_sub rfl rfl) rfl<|qm rfl<|ow_q (o_lits (rows:=List.map cI [a2]) rfl rfl (frzR_map (fun _=>rfl) _)) rfl<|ow_call (rs:=[.b x18]) rfl rfl (fa_cons rfl (fa_cons rfl (fa_cons rfl fa_nil))) ((ok_van_outside hx18).frz)<|qm rfl<|gp 7 48 (.b x21) 41 rfl rfl (fun hg19=>?_) (fun hg19=>?_) ?_
       ·obtain rfl:=os (bt hx21 hg19)
        exact nF rfl hg19 rfl<|nF rfl hg19 rfl<|nF rfl hg19 rfl<|nF rfl hg19 rfl<|nF rfl hg19 rfl<|ow_noW (wanted_no rfl (by rw [hg19]; rfl)) rfl<|ow_q (o_pickT rfl hg19 rfl) rfl<|ge 7 rfl rfl rfl
       ·refine oB (bf hx21 hg19) fun x20 hx20 hx21=>?_
        obtain rfl:=os hx21
        exact gF rfl hg19<|ow_q (o_faP rfl) rfl<|gF rfl hg19<|ow_q (o_load rfl rfl rfl) rfl<|gF rfl hg19<|ow_q (b_sub rfl rfl) rfl<|gF rfl hg19<|qm rfl<|gF rfl hg19<|ow_q (o_lits (rows:=List.map cI [a3]) rfl rfl (frzR_map (fun _=>rfl) _)) rfl<|gF rfl hg19<|ow_call (rs:=[.b x20]) rfl rfl (fa_cons rfl (fa_cons rfl (fa_cons rfl fa_nil))) ((ok_van_outside hx20).frz)<|ow_q (o_pickF rfl hg19 rfl) rfl<|ge 7 rfl rfl rfl
       refine qm rfl<|es (ra7 rfl rfl rfl rfl rfl rfl rfl)<|wi h rfl (fun hc22 h=>?_) fun hc22 h=>?_
       ·refine s0<|qm rfl<|qm rfl<|es (ra2 rfl rfl)<|w_ret ?_
        obtain rfl:=os h
        refine Exists.intro [(.seq 2 (List.map c_Span ([]:List Span))),.i 4] (And.intro ?_ rfl)
        exact retq trivial (rs_tmp rfl (rs_tmp rfl rs_nil)) (ov_cons rfl (ov_cons rfl ov_nil)) (bdL_cons bd_seq (bdL_cons bd_lit bdL_nil))
       ·refine w_skip<|sg 7 rfl<|oB h fun x23 hx23 h=>qm rfl<|ow_q (o_loadA (kk:=.i64) (v:=o11) rfl rfl) rfl<|qm rfl<|ow_callO (vs:=[(.asl (H.length + 7) (List.length x23))]) rfl rfl (fa_cons rfl (fa_cons fa_arr (fa_cons rfl fa_nil))) (ok_van_train_times (hcells_loc rfl) hx23) (inVs_own0' (List.length_map _) rfl)<|qm rfl<|es (ra7 rfl rfl rfl rfl rfl rfl rfl)<|w_seq<|s0<|oB h fun x24 hx24 h=>oB h fun x25 hx25 h=>oB h fun x26 hx26 h=>qm rfl<|qm rfl<|ow_q (o_idxO (f:=c_Span) rfl rfl rfl rfl hx24) rfl<|ow_q (o_faE rfl) rfl<|ow_q (o_loadE (x:=(.i x24.Lo)) rfl rfl (List.length_map _) (row_of hx24) rfl) rfl<|qm rfl<|qm rfl<|ow_q (o_idxO (f:=c_Span) rfl rfl rfl rfl hx25) rfl<|ow_q (o_faE rfl) rfl<|ow_q (o_loadE (x:=(.i x25.Hi)) rfl rfl (List.length_map _) (row_of hx25) rfl) rfl<|qm rfl<|ow_q (o_lits (rows:=List.map cI [a4]) rfl rfl (frzR_map (fun _=>rfl) _)) rfl<|ow_call (rs:=[.b x26]) rfl rfl (fa_cons rfl (fa_cons rfl (fa_cons rfl fa_nil))) ((ok_van_outside hx26).frz)<|es (ra8 rfl rfl rfl rfl rfl rfl rfl rfl)<|wi h rfl (fun hc27 h=>?_) fun hc27 h=>?_
        ·refine s0<|qm rfl<|qm rfl<|es (ra2 rfl rfl)<|w_ret ?_
         obtain rfl:=os h
         refine Exists.intro [(.seq 2 (List.map c_Span ([]:List Span))),.i 8] (And.intro ?_ rfl)
         exact retq trivial (rs_tmp rfl (rs_tmp rfl rs_nil)) (ov_cons rfl (ov_cons rfl ov_nil)) (bdL_cons bd_seq (bdL_cons bd_lit bdL_nil))
        ·refine w_skip<|s0<|oB h fun x28 hx28 h=>qm rfl<|qm rfl<|qm rfl<|qm rfl<|ow_q (o_build (cs:=c_Span (Span.mk a4 a4)) rfl rfl) rfl<|ow_q (o_idxO (f:=c_Span) rfl rfl rfl rfl hx28) rfl<|ow_r (o_storeE (ds:=c_Span (Span.mk a4 a4)) rfl rfl rfl rfl rfl (List.length_map _) (row_of hx28) rfl rfl) rfl ?_
         rw [map_setI]
         rw [show List.length x23=List.length (setI x23 a3 (Span.mk a4 a4)) from (setI_length _ _ _).symm]
         refine es (ra6 rfl rfl rfl rfl rfl rfl)<|s0<|oB h fun x29 hx29 h=>oB h fun x30 hx30 h=>qm rfl<|ow_q (o_loadA (kk:=.i64) (v:=o11) rfl rfl) rfl<|qm rfl<|ow_callP (rs:=[(.seq 1 (List.map cI x29))]) rfl rfl (pa_cons rfl (pa_cons pa_arr (pa_cons rfl pa_nil))) (fa_cons rfl (fa_cons fa_arr (fa_cons rfl fa_nil))) ((ok_van_train_twice (hcells_locR rfl) hx29).frz)<|qm rfl<|ow_q (o_nilck rfl rfl) rfl<|ow_q (o_faP rfl) rfl<|ow_q (o_faP rfl) rfl<|ow_q (o_load (x:=(.seq 4 (List.map c_VaVan a0.Vans))) rfl rfl rfl) rfl<|qm rfl<|ow_q (o_idxS (f:=c_VaVan) rfl rfl hx30) rfl<|ow_q (o_faC (ds:=(List.drop 3 (c_VaVan x30))) rfl rfl) rfl<|ow_q (o_loadC rfl rfl) rfl<|qm rfl<|qm rfl<|es (ra5 rfl rfl rfl rfl rfl)<|w_seq<|s0<|qm rfl<|ow_q (b_add rfl rfl) rfl<|qm rfl<|es (ra6 rfl rfl rfl rfl rfl rfl)<|w_block<|oB h fun o40 ho40 h=>wl (fun s31=>[(3,.i a3),(5,(.ptr (H.length+0) 0)),(15,(.asl (H.length+7) (List.length s31.2))),(16,(.seq 1 (List.map cI x29))),(17,(.seq 2 (List.map c_Span x30.Legs))),(18,.i s31.1)]) (fun (q32:Unit) s31=>[(.cells (c_VaTrain a0)),(.cells ((cA .i64) o11)),(.cells (c_VaTrain a0)),(.cells ((cA .i64) o11)),(.cells (c_VaTrain a0)),(.map []),(.cells [(.seq 4 (List.map c_VaVan a0.Vans)),.i a0.Stops,.i a0.Handle,(.seq 4 (List.map c_VaCrate a0.Crates)),(.seq 2 (List.map c_VaPair a0.Apart)),(.mp (H.length+5))]),(.arr 2 false (List.map c_Span s31.2))]) 8 (fun r e s' H'=>PX 1 [(3,.i a3),(5,(.ptr (H.length+0) 0)),(15,(.asl (H.length+7) (List.length r))),(16,(.seq 1 (List.map cI x29))),(17,(.seq 2 (List.map c_Span x30.Legs)))] (H++[(.cells (c_VaTrain a0)),(.cells ((cA .i64) o11)),(.cells (c_VaTrain a0)),(.cells ((cA .i64) o11)),(.cells (c_VaTrain a0)),(.map []),(.cells [(.seq 4 (List.map c_VaVan a0.Vans)),.i a0.Stops,.i a0.Handle,(.seq 4 (List.map c_VaCrate a0.Crates)),(.seq 2 (List.map c_VaPair a0.Apart)),(.mp (H.length+5))]),(.arr 2 false (List.map c_Span r))]) e s' H') () ho40 rfl rfl (fun _ _=>rfl) (fun _=>rfl) rfl (fun s31=>(bdc bd_lit (bdc (bd_ptr rfl) (bdc (bd_asl rfl) (bdc bd_seq (bdc bd_seq (bdc bd_lit bdn))))))) (fun q32 s31 ys31 hs31=>?_) ?_
         ·unfold van_Told_L3 at hs31
          refine w_seq<|s0<|qm rfl<|ow_q (o_faP rfl) rfl<|ow_q (o_load rfl rfl rfl) rfl<|ow_q (b_lss rfl rfl) rfl<|es (ra7 rfl rfl rfl rfl rfl rfl rfl)<|wi hs31 rfl (fun hc33 hs31=>?_) fun hc33 hs31=>?_
          ·refine w_skip<|w_seq<|w_block<|s0<|oB hs31 fun x34 hx34 hs31=>qm rfl<|qm rfl<|ow_q (b_sub rfl rfl) rfl<|ow_q (o_idxS (f:=cI) rfl rfl hx34) rfl<|ow_q (o_loadC rfl rfl) rfl<|ow_q (o_faP rfl) rfl<|ow_q (o_load rfl rfl rfl) rfl<|ow_q (b_mul rfl rfl) rfl<|qm rfl<|es (ra7 rfl rfl rfl rfl rfl rfl rfl)<|r0<|oB hs31 fun x35 hx35 hs31=>oB hs31 fun x36 hx36 hs31=>oB hs31 fun x37 hx37 hs31=>oB hs31 fun x38 hx38 hs31=>oB hs31 fun x39 hx39 hs31=>qm rfl<|qm rfl<|qm rfl<|qm rfl<|ow_q (b_sub rfl rfl) rfl<|ow_q (o_idxO (f:=c_Span) rfl rfl rfl rfl hx35) rfl<|ow_q (o_faE rfl) rfl<|ow_q (o_loadE (x:=(.i x35.Lo)) rfl rfl (List.length_map _) (row_of hx35) rfl) rfl<|qm rfl<|ow_q (b_add rfl rfl) rfl<|qm rfl<|qm rfl<|ow_q (o_idxS (f:=c_Span) rfl rfl hx36) rfl<|ow_q (o_faC (ds:=(c_Span x36)) rfl rfl) rfl<|ow_q (o_loadC rfl rfl) rfl<|ow_q (b_add rfl rfl) rfl<|qm rfl<|qm rfl<|ow_q (b_sub rfl rfl) rfl<|ow_q (o_idxO (f:=c_Span) rfl rfl rfl rfl hx37) rfl<|ow_q (o_faE rfl) rfl<|ow_q (o_loadE (x:=(.i x37.Hi)) rfl rfl (List.length_map _) (row_of hx37) rfl) rfl<|qm rfl<|ow_q (b_add rfl rfl) rfl<|qm rfl<|qm rfl<|ow_q (o_idxS (f:=c_Span) rfl rfl hx38) rfl<|ow_q (o_faC (ds:=(List.drop 1 (c_Span x38))) rfl rfl) rfl<|ow_q (o_loadC rfl rfl) rfl<|ow_q (b_add rfl rfl) rfl<|ow_q (o_build (cs:=c_Span (Span.mk (w64 ((w64 (x35.Lo + (w64 (x34 * a0.Handle)))) + x36.Lo)) (w64 ((w64 (x37.Hi + (w64 (x34 * a0.Handle)))) + x38.Hi)))) rfl rfl) rfl<|ow_q (o_idxO (f:=c_Span) rfl rfl rfl rfl hx39) rfl<|ow_r (o_storeE (ds:=c_Span (Span.mk (w64 ((w64 (x35.Lo + (w64 (x34 * a0.Handle)))) + x36.Lo)) (w64 ((w64 (x37.Hi + (w64 (x34 * a0.Handle)))) + x38.Hi)))) rfl rfl rfl rfl rfl (List.length_map _) (row_of hx39) rfl rfl) rfl ?_
           rw [map_setI]
           rw [show List.length s31.2=List.length (setI s31.2 s31.1 (Span.mk (w64 ((w64 (x35.Lo+(w64 (x34 * a0.Handle))))+x36.Lo)) (w64 ((w64 (x37.Hi+(w64 (x34 * a0.Handle))))+x38.Hi)))) from (setI_length _ _ _).symm]
           refine en (ra6 rfl rfl rfl rfl rfl rfl)<|r0<|qm rfl<|ow_q (b_add rfl rfl) rfl<|qm rfl<|en (ra6 rfl rfl rfl rfl rfl rfl) ?_
           cases hs31
           exact lnT () rfl (su6 rfl rfl rfl rfl rfl rfl)
          ·refine w_exit ?_
           obtain rfl:=os hs31
           exact lx rfl px (su5 rfl rfl rfl rfl rfl)
         ·rintro e s' H' - ⟨rfl,rfl,rfl⟩
          refine w_seq<|s0<|qm rfl<|ow_q (b_sub rfl rfl) rfl<|qm rfl<|es (ra5 rfl rfl rfl rfl rfl)<|w_block<|oB h fun o52 ho52 h=>wl (fun s41=>[(5,(.ptr (H.length+0) 0)),(15,(.asl (H.length+7) (List.length s41.2))),(16,(.seq 1 (List.map cI x29))),(17,(.seq 2 (List.map c_Span x30.Legs))),(20,.i s41.1)]) (fun (q42:Unit) s41=>[(.cells (c_VaTrain a0)),(.cells ((cA .i64) o11)),(.cells (c_VaTrain a0)),(.cells ((cA .i64) o11)),(.cells (c_VaTrain a0)),(.map []),(.cells [(.seq 4 (List.map c_VaVan a0.Vans)),.i a0.Stops,.i a0.Handle,(.seq 4 (List.map c_VaCrate a0.Crates)),(.seq 2 (List.map c_VaPair a0.Apart)),(.mp (H.length+5))]),(.arr 2 false (List.map c_Span s41.2))]) 8 (fun r e s' H'=>PX 3 [(15,(.asl (H.length+7) (List.length r)))] (H++[(.cells (c_VaTrain a0)),(.cells ((cA .i64) o11)),(.cells (c_VaTrain a0)),(.cells ((cA .i64) o11)),(.cells (c_VaTrain a0)),(.map []),(.cells [(.seq 4 (List.map c_VaVan a0.Vans)),.i a0.Stops,.i a0.Handle,(.seq 4 (List.map c_VaCrate a0.Crates)),(.seq 2 (List.map c_VaPair a0.Apart)),(.mp (H.length+5))]),(.arr 2 false (List.map c_Span r))]) e s' H') () ho52 rfl rfl (fun _ _=>rfl) (fun _=>rfl) rfl (fun s41=>(bdc (bd_ptr rfl) (bdc (bd_asl rfl) (bdc bd_seq (bdc bd_seq (bdc bd_lit bdn)))))) (fun q42 s41 ys41 hs41=>?_) ?_
          ·unfold van_Told_L4 at hs41
           refine w_seq<|s0<|qm rfl<|ow_q (b_geq rfl rfl) rfl<|es (ra6 rfl rfl rfl rfl rfl rfl)<|wi hs41 rfl (fun hc43 hs41=>?_) fun hc43 hs41=>?_
           ·refine w_skip<|w_seq<|w_block<|s0<|oB hs41 fun x44 hx44 hs41=>qm rfl<|qm rfl<|ow_q (o_idxS (f:=cI) rfl rfl hx44) rfl<|ow_q (o_loadC rfl rfl) rfl<|ow_q (o_faP rfl) rfl<|ow_q (o_load rfl rfl rfl) rfl<|ow_q (b_mul rfl rfl) rfl<|qm rfl<|es (ra6 rfl rfl rfl rfl rfl rfl)<|r0<|oB hs41 fun x45 hx45 hs41=>oB hs41 fun x46 hx46 hs41=>oB hs41 fun x47 hx47 hs41=>oB hs41 fun x48 hx48 hs41=>oB hs41 fun x49 hx49 hs41=>oB hs41 fun x50 hx50 hs41=>oB hs41 fun x51 hx51 hs41=>qm rfl<|qm rfl<|qm rfl<|qm rfl<|ow_q (o_idxO (f:=c_Span) rfl rfl rfl rfl hx45) rfl<|ow_q (o_faE rfl) rfl<|ow_q (o_loadE (x:=(.i x45.Lo)) rfl rfl (List.length_map _) (row_of hx45) rfl) rfl<|qm rfl<|qm rfl<|ow_q (b_add rfl rfl) rfl<|ow_q (o_idxO (f:=c_Span) rfl rfl rfl rfl hx46) rfl<|ow_q (o_faE rfl) rfl<|ow_q (o_loadE (x:=(.i x46.Lo)) rfl rfl (List.length_map _) (row_of hx46) rfl) rfl<|qm rfl<|ow_q (b_sub rfl rfl) rfl<|qm rfl<|qm rfl<|ow_q (b_add rfl rfl) rfl<|ow_q (o_idxS (f:=c_Span) rfl rfl hx47) rfl<|ow_q (o_faC (ds:=(List.drop 1 (c_Span x47))) rfl rfl) rfl<|ow_q (o_loadC rfl rfl) rfl<|ow_q (b_sub rfl rfl) rfl<|ow_q (o_mm rfl rfl) rfl<|qm rfl<|qm rfl<|ow_q (o_idxO (f:=c_Span) rfl rfl rfl rfl hx48) rfl<|ow_q (o_faE rfl) rfl<|ow_q (o_loadE (x:=(.i x48.Hi)) rfl rfl (List.length_map _) (row_of hx48) rfl) rfl<|qm rfl<|qm rfl<|ow_q (b_add rfl rfl) rfl<|ow_q (o_idxO (f:=c_Span) rfl rfl rfl rfl hx49) rfl<|ow_q (o_faE rfl) rfl<|ow_q (o_loadE (x:=(.i x49.Hi)) rfl rfl (List.length_map _) (row_of hx49) rfl) rfl<|qm rfl<|ow_q (b_sub rfl rfl) rfl<|qm rfl<|qm rfl<|ow_q (b_add rfl rfl) rfl ?_
            refine ow_q (o_idxS (f:=c_Span) rfl rfl hx50) rfl<|ow_q (o_faC (ds:=(c_Span x50)) rfl rfl) rfl<|ow_q (o_loadC rfl rfl) rfl<|ow_q (b_sub rfl rfl) rfl<|ow_q (o_mm rfl rfl) rfl<|ow_q (o_build (cs:=c_Span (Span.mk (maxI x45.Lo (w64 ((w64 (x46.Lo - (w64 (x44 * a0.Handle)))) - x47.Hi))) (minI x48.Hi (w64 ((w64 (x49.Hi - (w64 (x44 * a0.Handle)))) - x50.Lo))))) rfl rfl) rfl<|ow_q (o_idxO (f:=c_Span) rfl rfl rfl rfl hx51) rfl<|ow_r (o_storeE (ds:=c_Span (Span.mk (maxI x45.Lo (w64 ((w64 (x46.Lo - (w64 (x44 * a0.Handle)))) - x47.Hi))) (minI x48.Hi (w64 ((w64 (x49.Hi - (w64 (x44 * a0.Handle)))) - x50.Lo))))) rfl rfl rfl rfl rfl (List.length_map _) (row_of hx51) rfl rfl) rfl ?_
            rw [map_setI]
            rw [show List.length s41.2=List.length (setI s41.2 s41.1 (Span.mk (maxI x45.Lo (w64 ((w64 (x46.Lo - (w64 (x44 * a0.Handle)))) - x47.Hi))) (minI x48.Hi (w64 ((w64 (x49.Hi - (w64 (x44 * a0.Handle)))) - x50.Lo))))) from (setI_length _ _ _).symm]
            refine en (ra5 rfl rfl rfl rfl rfl)<|r0<|qm rfl<|ow_q (b_sub rfl rfl) rfl<|qm rfl<|en (ra5 rfl rfl rfl rfl rfl) ?_
            cases hs41
            exact lnT () rfl (su5 rfl rfl rfl rfl rfl)
           ·refine w_exit ?_
            obtain rfl:=os hs41
            exact lx rfl px (su1 rfl)
          ·rintro e s' H' - ⟨rfl,rfl,rfl⟩
           refine s0<|qm rfl<|qm rfl<|qm rfl<|es (ra2 rfl rfl)<|w_ret ?_
           obtain rfl:=os h
           refine Exists.intro [(.fresh 2 (List.map c_Span o52)),.i 0] (And.intro ?_ rfl)
           exact retq trivial (rs_tmp rfl (rs_tmp rfl rs_nil)) (ov_cons (ov_own rfl (List.length_map _)) (ov_cons rfl ov_nil)) (bdL_cons bd_fresh (bdL_cons bd_lit bdL_nil))
      ·rintro e s' H' - ⟨rfl,rfl,rfl⟩
       refine InlQ.mk trivial ⟨_,_,_,[(.lit (.pointer none)),(.agg ((cA .i64) o11)),.i 9],_,(rs_tmp rfl (rs_cell (o_loadA (kk:=.i64) rfl rfl) (rs_tmp rfl rs_nil))),(ov_cons rfl (ov_cons ov_arr (ov_cons rfl ov_nil))),(in_cut (bdL_cons bd_lit (bdL_cons bd_arr (bdL_cons bd_lit bdL_nil))) (fz_cons rfl (fz_cons fz_arr (fz_cons rfl fz_nil))) (take_loc _ _ _)),?_⟩
       refine qm rfl<|ow_q (o_extract rfl rfl) rfl<|ow_q (o_extract rfl rfl) rfl<|ow_q (o_extract rfl rfl) rfl<|ow_q (o_alloc (zs:=(cA .i64) (IArr.zero 6))) rfl<|qm rfl<|ow_r (o_storeA (kk:=.i64) (u:=(IArr.zero 6)) (v:=o11) rfl rfl rfl) rfl<|qm rfl<|es (ra7 rfl rfl rfl rfl rfl rfl rfl)<|w_seq<|w_block<|s0<|qm rfl<|ow_q (o_bin (v:=(.b true)) rfl rfl rfl) rfl<|qm rfl<|es (ra8 rfl rfl rfl rfl rfl rfl rfl rfl)<|w_condT rfl rfl<|s0<|qm rfl<|qm rfl<|qm rfl<|es (ra2 rfl rfl)<|w_ret ?_
       obtain rfl:=os h
       refine Exists.intro [(.seq 2 (List.map c_Span ([]:List Span))),.i 9] (And.intro ?_ rfl)
       exact retq trivial (rs_tmp rfl (rs_tmp rfl rs_nil)) (ov_cons rfl (ov_cons rfl ov_nil)) (bdL_cons bd_seq (bdL_cons bd_lit bdL_nil))
end Vn
end
section
namespace Vn
open Go Am
def toldAt (t:VaTrain) (p:List Int) (v s:Nat) (m:Int) (j:Nat):Span :=
 ⟨max (timeAt t p v j).Lo (m+late t p v j - late t p v s - (roadHi t v (max (j+1) (s+1)) - roadHi t v (j+1))+(roadLo t v (max (s+1) (j+1)) - roadLo t v (s+1))),
  min (timeAt t p v j).Hi (m+late t p v j - late t p v s - (roadLo t v (max (j+1) (s+1)) - roadLo t v (j+1))+(roadHi t v (max (s+1) (j+1)) - roadHi t v (s+1)))⟩
def told (t:VaTrain) (p:List Int) (v s:Nat) (m:Int):List Span:=(List.range t.Stops.toNat).map (toldAt t p v s m)
theorem maxI_eq (a b:Int):maxI a b=max a b:= by unfold maxI; split <;> omega
theorem minI_eq (a b:Int):minI a b=min a b:= by unfold minI; split <;> omega
theorem time_bd {t:VaTrain} (h:TOk t) (p:List Int) (hp:p.length=t.Crates.length) (v:Nat) (hv:v < t.Vans.length) (s:Nat) (hs:(s:Int) < t.Stops) :
  0≤(timeAt t p v s).Lo∧(timeAt t p v s).Lo≤10000∧0≤(timeAt t p v s).Hi∧(timeAt t p v s).Hi≤10000:= by
 have h2:=h.stops
 have hw:=h.van v hv
 have:=hw.leave0; have:=hw.leave
 have hb:=road_bd h v hv (s+1) (by omega)
 have hq:=late_bd h p hp v s
 unfold timeAt
 simp only []
 omega
theorem timeLo_succ (t:VaTrain) (p:List Int) (v j:Nat):(timeAt t p v (j+1)).Lo=(timeAt t p v j).Lo+t.Handle * handled t p v (j:Int) p.length+(t.Vans[v]!.Legs[j+1]!).Lo:= by
 show t.Vans[v]!.Leave+late t p v (j+1)+roadLo t v (j+1+1)=t.Vans[v]!.Leave+late t p v j+roadLo t v (j+1)+_+_
 rw [late_succ,roadLo_succ t v (j+1)]; omega
theorem timeHi_succ (t:VaTrain) (p:List Int) (v j:Nat):(timeAt t p v (j+1)).Hi=(timeAt t p v j).Hi+t.Handle * handled t p v (j:Int) p.length+(t.Vans[v]!.Legs[j+1]!).Hi:= by
 show t.Vans[v]!.Leave+late t p v (j+1)+roadHi t v (j+1+1)=t.Vans[v]!.Leave+late t p v j+roadHi t v (j+1)+_+_
 rw [late_succ,roadHi_succ t v (j+1)]; omega
theorem told_here {t:VaTrain} {p:List Int} {v s:Nat} {m:Int} (hm:(timeAt t p v s).Lo≤m∧m≤(timeAt t p v s).Hi):toldAt t p v s m s=⟨m,m⟩:= by
 unfold toldAt
 rw [Nat.max_self]
 congr 1 <;> omega
theorem told_on {t:VaTrain} (p:List Int) (v s:Nat) (m:Int) (hm:(timeAt t p v s).Lo≤m∧m≤(timeAt t p v s).Hi) :
  ∀ d,toldAt t p v s m (s+d)=⟨m+(late t p v (s+d) - late t p v s)+(roadLo t v (s+d+1) - roadLo t v (s+1)),m+(late t p v (s+d) - late t p v s)+(roadHi t v (s+d+1) - roadHi t v (s+1))⟩:= by
 intro d
 have e1:(timeAt t p v (s+d)).Lo=(timeAt t p v s).Lo+(late t p v (s+d) - late t p v s)+(roadLo t v (s+d+1) - roadLo t v (s+1)):= by unfold timeAt; simp only []; omega
 have e2:(timeAt t p v (s+d)).Hi=(timeAt t p v s).Hi+(late t p v (s+d) - late t p v s)+(roadHi t v (s+d+1) - roadHi t v (s+1)):= by unfold timeAt; simp only []; omega
 unfold toldAt
 rw [show max (s+d+1) (s+1)=s+d+1 by omega,show max (s+1) (s+d+1)=s+d+1 by omega]
 congr 1 <;> omega
theorem told_succ {t:VaTrain} (p:List Int) (v s:Nat) (m:Int) (hm:(timeAt t p v s).Lo≤m∧m≤(timeAt t p v s).Hi) (d:Nat) :
  (toldAt t p v s m (s+d+1))=⟨(toldAt t p v s m (s+d)).Lo+t.Handle * handled t p v ((s+d:Nat):Int) p.length+(t.Vans[v]!.Legs[s+d+1]!).Lo,(toldAt t p v s m (s+d)).Hi+t.Handle * handled t p v ((s+d:Nat):Int) p.length+(t.Vans[v]!.Legs[s+d+1]!).Hi⟩:= by
 have h:=told_on p v s m hm
 have h1:=h (d+1)
 rw [show s+(d+1)=s+d+1 from rfl] at h1
 rw [h1,h d,late_succ,roadLo_succ t v (s+d+1),roadHi_succ t v (s+d+1)]
 simp only []
 congr 1 <;> omega
theorem told_back {t:VaTrain} (h:TOk t) (p:List Int) (v s:Nat) (hv:v < t.Vans.length) (m:Int) (hs:(s:Int) < t.Stops) (j:Nat) (hj:j < s) :
  toldAt t p v s m j=⟨max (timeAt t p v j).Lo ((toldAt t p v s m (j+1)).Lo - t.Handle * handled t p v (j:Int) p.length - (t.Vans[v]!.Legs[j+1]!).Hi),min (timeAt t p v j).Hi ((toldAt t p v s m (j+1)).Hi - t.Handle * handled t p v (j:Int) p.length - (t.Vans[v]!.Legs[j+1]!).Lo)⟩:= by
 have hw:=h.van v hv
 have hL:=hw.legs
 have hg:=hw.leg (j+1) (by omega)
 have:=hg.lh
 have e1:=timeLo_succ t p v j
 have e2:=timeHi_succ t p v j
 unfold toldAt
 simp only []
 rw [show max (j+1) (s+1)=s+1 by omega,show max (s+1) (j+1)=s+1 by omega,show max (j+1+1) (s+1)=s+1 by omega,show max (s+1) (j+1+1)=s+1 by omega]
 rw [e1,e2,late_succ,roadLo_succ t v (j+1),roadHi_succ t v (j+1)]
 congr 1 <;> omega
theorem told_bd {t:VaTrain} (h:TOk t) (p:List Int) (hp:p.length=t.Crates.length) (v:Nat) (hv:v < t.Vans.length) (s:Nat) (hs:(s:Int) < t.Stops) (m:Int) (hm:0≤m∧m≤10000) (j:Nat) (hj:(j:Int) < t.Stops) :
  -20000≤(toldAt t p v s m j).Lo∧(toldAt t p v s m j).Lo≤20000∧-20000≤(toldAt t p v s m j).Hi∧(toldAt t p v s m j).Hi≤20000:= by
 have h2:=h.stops
 have b1:=late_bd h p hp v j
 have b2:=late_bd h p hp v s
 have b3:=road_bd h v hv (max (j+1) (s+1)) (by omega)
 have b3':=road_bd h v hv (max (s+1) (j+1)) (by omega)
 have b4:=road_bd h v hv (j+1) (by omega)
 have b5:=road_bd h v hv (s+1) (by omega)
 have:=time_bd h p hp v hv j hj
 unfold toldAt
 simp only []
 omega
def mid (t:VaTrain) (p:List Int) (v s:Nat) (m:Int) (i j:Nat):Span:=if s≤j∧j < i then toldAt t p v s m j else timeAt t p v j
def mid2 (t:VaTrain) (p:List Int) (v s:Nat) (m:Int) (i j:Nat):Span:=if i≤j then toldAt t p v s m j else timeAt t p v j
theorem setI_nat {α:Type} (l:List α) (i:Nat) (x:α):setI l (i:Int) x=l.set i x:=rfl
theorem told_L3 {t:VaTrain} (h:TOk t) (p:List Int) (hp:p.length=t.Crates.length) (v:Nat) (hv:v < t.Vans.length) (s:Nat) (hs:(s:Int) < t.Stops) (m:Int) (hm:(timeAt t p v s).Lo≤m∧m≤(timeAt t p v s).Hi) :
  loop (van_Told_L3 t (tw t p v) t.Vans[v]!) (w64 ((s:Int)+1),setI (tms t p v) (s:Int) (Span.mk m m))=some ((List.range t.Stops.toNat).map (mid t p v s m t.Stops.toNat)):= by
 have h1:=h.stops1; have h2:=h.stops
 have hw:=h.van v hv
 have hL:=hw.legs
 have hm':=time_bd h p hp v hv s hs
 have e0:setI (tms t p v) (s:Int) (Span.mk m m)=(List.range t.Stops.toNat).map (mid t p v s m (s+1)):= by
  rw [setI_nat]
  unfold tms
  refine map_range_set _ _ _ _ _ ?_ ?_
  ·unfold mid; rw [if_pos (by omega)]; exact told_here hm
  ·intro j hj; unfold mid; rw [if_neg (by omega)]
 rw [e0,w64_id (by omega)]
 exact loop_seq (b:=van_Told_L3 t (tw t p v) t.Vans[v]!) (fun i=>(((s + i:Nat):Int) + 1,(List.range t.Stops.toNat).map (mid t p v s m (s + i + 1)))) (t.Stops.toNat - (s + 1)) (by omega) (fun i hi=>by
  unfold van_Told_L3
  simp only []
  have b1:=told_bd h p hp v hv s hs m (by omega) (s+i) (by omega)
  have b2:=step_bd h p hp v ((s+i:Nat):Int)
  have hg:=hw.leg (s+i+1) (by omega)
  have:=hg.lo0; have:=hg.lh; have:=hg.hi
  rw [if_pos (by rw [decide_eq_true_eq]; omega),w64_id (n:=((s+i:Nat):Int)+1 - 1) (by omega),show ((s+i:Nat):Int)+1 - 1=((s+i:Nat):Int) by omega,show ((s+i:Nat):Int)+1=((s+i+1:Nat):Int) by omega]
  unfold tw
  rw [idx_range (fun (s:Nat)=>handled t p v s p.length) (show s+i < t.Stops.toNat by omega),idx_range _ (show s+i < t.Stops.toNat by omega),idx_range _ (show s+i+1 < t.Stops.toNat by omega),idx_get (show s+i+1 < t.Vans[v]!.Legs.length by omega)]
  simp only [Option.bind_some]
  have em:mid t p v s m (s+i+1) (s+i)=toldAt t p v s m (s+i):= by unfold mid; rw [if_pos (by omega)]
  rw [em,Int.mul_comm (handled t p v ((s+i:Nat):Int) p.length) t.Handle]
  rw [w64_id (n:=t.Handle * handled t p v ((s+i:Nat):Int) p.length) (by omega),w64_id (n:=(toldAt t p v s m (s+i)).Lo+_) (by omega),w64_id (n:=(toldAt t p v s m (s+i)).Hi+_) (by omega),w64_id (by omega),w64_id (by omega),w64_id (by omega)]
  rw [← told_succ p v s m hm i,setI_nat,map_range_set _ (mid t p v s m (s + i + 1 + 1)) _ (s + i + 1) _ (by unfold mid; rw [if_pos (by omega)]) (fun j hj=>by
   unfold mid
   by_cases c:s≤j∧j < s+i+1
   ·rw [if_pos c,if_pos (by omega)]
   ·rw [if_neg c,if_neg (by omega)])]
  rfl) (by
  unfold van_Told_L3
  simp only []
  rw [if_neg (by rw [decide_eq_true_eq]; omega),show s+(t.Stops.toNat - (s+1))+1=t.Stops.toNat by omega])
theorem told_L4 {t:VaTrain} (h:TOk t) (p:List Int) (hp:p.length=t.Crates.length) (v:Nat) (hv:v < t.Vans.length) (s:Nat) (hs:(s:Int) < t.Stops) (m:Int) (hm:(timeAt t p v s).Lo≤m∧m≤(timeAt t p v s).Hi) :
  loop (van_Told_L4 t (tw t p v) t.Vans[v]!) (w64 ((s:Int) - 1),(List.range t.Stops.toNat).map (mid t p v s m t.Stops.toNat))=some (told t p v s m):= by
 have h1:=h.stops1; have h2:=h.stops
 have hw:=h.van v hv
 have hL:=hw.legs
 have hm':=time_bd h p hp v hv s hs
 have e0:(List.range t.Stops.toNat).map (mid t p v s m t.Stops.toNat)=(List.range t.Stops.toNat).map (mid2 t p v s m (s - 0)):= by
  refine map_range_congr fun j hj=>?_
  unfold mid mid2
  by_cases c:s≤j
  ·rw [if_pos (by omega),if_pos (by omega)]
  ·rw [if_neg (by omega),if_neg (by omega)]
 rw [e0,w64_id (by omega)]
 have e1:told t p v s m=(List.range t.Stops.toNat).map (mid2 t p v s m (s - s)):= by
  unfold told
  refine map_range_congr fun j hj=>?_
  unfold mid2; rw [if_pos (by omega)]
 rw [e1,show (s:Int) - 1=(s:Int) - 1 - ((0:Nat):Int) by omega]
 exact loop_seq (b:=van_Told_L4 t (tw t p v) t.Vans[v]!) (fun i=>((s:Int) - 1 - (i:Int),(List.range t.Stops.toNat).map (mid2 t p v s m (s - i)))) s (by omega) (fun i hi=>by
  unfold van_Told_L4
  simp only []
  have ej:(s:Int) - 1 - (i:Int)=((s - 1 - i:Nat):Int):= by omega
  have b1:=told_bd h p hp v hv s hs m (by omega) (s - 1 - i+1) (by omega)
  have b2:=step_bd h p hp v ((s - 1 - i:Nat):Int)
  have b3:=time_bd h p hp v hv (s - 1 - i) (by omega)
  have hg:=hw.leg (s - 1 - i+1) (by omega)
  have:=hg.lo0; have:=hg.lh; have:=hg.hi
  rw [if_pos (by rw [decide_eq_true_eq]; omega),ej,w64_id (n:=((s - 1 - i:Nat):Int)+1) (by omega),show ((s - 1 - i:Nat):Int)+1=((s - 1 - i+1:Nat):Int) by omega]
  unfold tw
  rw [idx_range (fun (s:Nat)=>handled t p v s p.length) (show s - 1 - i < t.Stops.toNat by omega),idx_range _ (show s - 1 - i < t.Stops.toNat by omega),idx_range _ (show s - 1 - i+1 < t.Stops.toNat by omega),idx_get (show s - 1 - i+1 < t.Vans[v]!.Legs.length by omega)]
  simp only [Option.bind_some]
  have em:mid2 t p v s m (s - i) (s - 1 - i)=timeAt t p v (s - 1 - i):= by unfold mid2; rw [if_neg (by omega)]
  have em2:mid2 t p v s m (s - i) (s - 1 - i+1)=toldAt t p v s m (s - 1 - i+1):= by unfold mid2; rw [if_pos (by omega)]
  rw [em,em2,Int.mul_comm (handled t p v ((s - 1 - i:Nat):Int) p.length) t.Handle]
  rw [w64_id (n:=t.Handle * handled t p v ((s - 1 - i:Nat):Int) p.length) (by omega),w64_id (n:=(toldAt t p v s m (s - 1 - i+1)).Lo - _) (by omega),w64_id (n:=(toldAt t p v s m (s - 1 - i+1)).Hi - _) (by omega),w64_id (by omega),w64_id (by omega),w64_id (by omega),maxI_eq,minI_eq]
  rw [← told_back h p v s hv m hs (s - 1 - i) (by omega),setI_nat,map_range_set _ (mid2 t p v s m (s - (i + 1))) _ (s - 1 - i) _ (by unfold mid2; rw [if_pos (by omega)]) (fun j hj=>by
   unfold mid2
   by_cases c:s - i≤j
   ·rw [if_pos c,if_pos (by omega)]
   ·rw [if_neg c,if_neg (by omega)])]
  congr 3
  omega) (by
  unfold van_Told_L4
  simp only []
  rw [if_neg (by rw [decide_eq_true_eq]; omega)])
def tpCode (t:VaTrain) (p:List Int):Int:=if (check t).2.2 == 0 then planCode t p else (check t).2.2
theorem tp_ok {t:VaTrain} {p:List Int} (h:tpCode t p=0):TOk t∧p.length=t.Crates.length∧inRange t p∧good t p=true:= by
 unfold tpCode at h
 by_cases c:(check t).2.2=0
 ·rw [c] at h
  have hk:=check_ok c
  have hv:=hk.vans1
  have hh:planCode t p=0:=h
  have:=pcode_ok (t:=t) (p:=p) (a:=0) (n:=t.Vans.length) (by
   unfold pcode
   rw [c,hh]
   have:out 0 ((t.Vans.length:Int) - 1) 0=false:=out_in.mpr ⟨by omega,by omega⟩
   rw [this]; rfl)
  exact ⟨this.1,this.2.1,this.2.2.1,this.2.2.2.1⟩
 ·have e:((check t).2.2 == 0) = false:=beq_eq_false_iff_ne.mpr c
  rw [e] at h
  exact absurd (show (check t).2.2=0 from h) c
theorem planned_gen {α:Type} {t:VaTrain} (hN:NB t) (p:List Int) (z:Int→α) (b1:(Int×IArr 6)→Option ((Int×IArr 6)⊕IArr 6)) (b2:IArr 6→Int→Option (Int⊕(Unit⊕Unit)))
  (hb1:∀s,b1 s=if decide (s.1 < p.length)=true then (idx p s.1).bind fun x13=>(idxN 6 (IArr.l s.2) s.1).bind fun _=>some (.inl ((w64 (s.1+1)),(IArr.set s.2 s.1 (w64 (x13+1))))) else some (.inr s.2))
  (hb2:∀o s,b2 o s=if decide (s < p.length)=true then (van_train_allowed ⟨t⟩ o s).bind fun x=>if (!x)=true then some (.inr (.inr ())) else some (.inl (w64 (s+1))) else some (.inr (.inl ())))
  (k:IArr 6→Option α) :
  ((van_Check t).bind fun x1=>if (x1.2.2 != 0)=true then some (z x1.2.2) else
   if ((p.length:Int) != (t.Crates.length:Int))=true then some (z 3) else
   (van_outside (-1) (w64 ((t.Vans.length:Int) - 1)) p).bind fun x23=>if x23=true then some (z 4) else
   (loop b1 (0,IArr.zero 6)).bind fun o30=>(loop (b2 o30) 0).bind fun o36 =>
   match o36 with
   | .inl _=>k o30
   | .inr _=>some (z 9))=if tpCode t p == 0 then k (arrOf p) else some (z (tpCode t p)):= by
 rw [van_Check_eq t hN]
 simp only [Option.bind_some]
 unfold tpCode
 by_cases c:(check t).2.2=0
 ·have hT:=check_ok c
  have hl:=hT.crates; have hv:=hT.vans
  rw [c]
  rw [if_neg (by decide)]
  unfold planCode
  by_cases hp:p.length=t.Crates.length
  ·have e1:((p.length:Int) != (t.Crates.length:Int)) = false:= by rw [hp]; exact bne_self_eq_false _
   rw [e1]
   rw [w64_id (by omega),outside_eq _ _ _ (by omega)]
   simp only [Option.bind_some]
   cases h4:p.any (out (-1) ((t.Vans.length:Int) - 1)) with
   | true=>rfl
   | false =>
   have hr:inRange t p:=fun i hi=>by
    have:out (-1) (t.Vans.length - 1) p[i]! = false:= by
     cases q:out (-1) (t.Vans.length - 1) p[i]! with
     | false=>rfl
     | true=>rw [List.any_eq_true.mpr ⟨_,get_mem hi,q⟩] at h4; exact absurd h4 (by simp)
    rw [out_in] at this
    omega
   rw [arr_loop p (by omega) hb1]
   simp only [Option.bind_some]
   rw [allowed_loop hT p hp hr (hb2 (arrOf p))]
   cases hg:good t p with
   | false=>rfl
   | true=>rfl
  ·have e1:((p.length:Int) != (t.Crates.length:Int)) = true:=bne_iff_ne.mpr (by omega)
   rw [e1]; rfl
 ·have e:((check t).2.2 == 0) = false:=beq_eq_false_iff_ne.mpr c
  have e2:((check t).2.2 != 0)=true:=bne_iff_ne.mpr c
  rw [e,if_pos e2]
  simp only [Bool.false_eq_true,if_false]
  rw [e]; rfl
def tcode (t:VaTrain) (p:List Int) (v s m:Int):Int :=
 if tpCode t p == 0 then (if out 0 (t.Vans.length - 1) v || out 0 (t.Stops - 1) s then 4 else if out (timeAt t p v.toNat s.toNat).Lo (timeAt t p v.toNat s.toNat).Hi m then 8 else 0) else tpCode t p
theorem van_Told_eq {t:VaTrain} (hN:NB t) (p:List Int) (v s m:Int):van_Told t p v s m=some (if tcode t p v s m == 0 then (told t p v.toNat s.toNat m,0) else ([],tcode t p v s m)):= by
 unfold van_Told
 refine Eq.trans (planned_gen hN p (fun k=>(([]:List Span),k)) (van_Told_L1 p) (van_Told_L2 t p) (fun _=>rfl) (fun _ _=>rfl) (fun o11 =>
   (van_outside 0 (w64 ((List.length t.Vans:Int) - 1)) [v]).bind fun x18 =>
   (if x18=true then some true else (van_outside 0 (w64 (t.Stops - 1)) [s]).bind fun x20=>some x20).bind fun x21 =>
   if x21=true then some (([]:List Span),4)
   else
    (van_train_times (van_train.mk t) o11 v).bind fun x23 =>
    (idx x23 s).bind fun x24 =>
    (idx x23 s).bind fun x25 =>
    (van_outside x24.Lo x25.Hi [m]).bind fun x26 =>
    if x26=true then some (([]:List Span),8)
    else
    (idx x23 s).bind fun _ =>
    (van_train_twice (van_train.mk t) o11 v).bind fun x29 =>
    (idx t.Vans v).bind fun x30 =>
    (loop (van_Told_L3 t x29 x30) ((w64 (s+1)),(setI x23 s (Span.mk m m)))).bind fun (o40:(List Span)) =>
    (loop (van_Told_L4 t x29 x30) ((w64 (s - 1)),o40)).bind fun (o52:(List Span)) =>
    some (o52,0))) ?_
 unfold tcode
 by_cases c:tpCode t p=0
 ·obtain ⟨hT,hp,hr,_⟩:=tp_ok c
  have hv:=hT.vans; have h1:=hT.stops1; have h2:=hT.stops
  rw [c]
  simp only [beq_self_eq_true,if_true]
  rw [w64_id (n:=(t.Vans.length:Int) - 1) (by omega),outside1]
  simp only [Option.bind_some]
  cases c1:out 0 ((t.Vans.length:Int) - 1) v with
  | true=>rfl
  | false =>
  have hv1:=out_in.mp c1
  rw [w64_id (n:=t.Stops - 1) (by omega),outside1]
  simp only [Bool.false_eq_true,if_false,Option.bind_some,Bool.false_or]
  cases c2:out 0 (t.Stops - 1) s with
  | true=>rfl
  | false =>
  have hs1:=out_in.mp c2
  have ev:v=((v.toNat:Nat):Int):= by omega
  have es:s=((s.toNat:Nat):Int):= by omega
  have e1:van_train_times ⟨t⟩ (arrOf p) v=some (tms t p v.toNat):= by
   have:=train_times_eq hT p hp hr v.toNat (by omega)
   rwa [← ev] at this
  have e2:van_train_twice ⟨t⟩ (arrOf p) v=some (tw t p v.toNat):= by
   have:=train_twice_eq hT p hp hr v.toNat (by omega)
   rw [show van_train_twice ⟨t⟩ (arrOf p) v=van_train_twice ⟨t⟩ (arrOf p) ((v.toNat:Nat):Int) by rw [← ev]]
   exact this
  rw [e1,e2]
  simp only [Bool.false_eq_true,if_false,Option.bind_some]
  rw [idx_tms p v.toNat (by omega) (by omega)]
  simp only [Option.bind_some]
  rw [outside1]
  simp only [Option.bind_some]
  cases c3:out (timeAt t p v.toNat s.toNat).Lo (timeAt t p v.toNat s.toNat).Hi m with
  | true=>rfl
  | false =>
  have hm:=out_in.mp c3
  have e3:idx t.Vans v=some t.Vans[v.toNat]!:= by
   have:=idx_get (l:=t.Vans) (i:=v.toNat) (by omega)
   rwa [← ev] at this
  rw [e3]
  simp only [Bool.false_eq_true,if_false,Option.bind_some]
  have e4:=told_L3 hT p hp v.toNat (by omega) s.toNat (by omega) m hm
  have e5:=told_L4 hT p hp v.toNat (by omega) s.toNat (by omega) m hm
  rw [← es] at e4 e5
  rw [e4]
  simp only [Option.bind_some]
  rw [e5]; rfl
 ·have e:(tpCode t p == 0) = false:=beq_eq_false_iff_ne.mpr c
  rw [e]
  simp only [Bool.false_eq_true,if_false]
  rw [e]; rfl
theorem pcode_tp {t:VaTrain} (p:List Int) (v:Int) (n:Nat):pcode t p v n=if tpCode t p == 0 then (if out 0 ((n:Int) - 1) v then 4 else 0) else tpCode t p:= by
 unfold pcode tpCode
 by_cases c:(check t).2.2=0
 ·rw [c]; simp only [beq_self_eq_true,if_true]
 ·have e:((check t).2.2 == 0) = false:=beq_eq_false_iff_ne.mpr c
  rw [e]; simp only [Bool.false_eq_true,if_false]; rw [e]; rfl
end Vn
end
section
set_option maxRecDepth 100000
set_option maxHeartbeats 0
namespace Vn
open Go Am Go.Proofs.Ytjjmechghfjbmaa.Cd
def law06_turn (a0:(List Int)) (a1:Int):Option Int :=
 if ((List.length a0:Int) == 0)=true then
  some 0
 else
  (remI a1 (List.length a0:Int)).bind fun x2 =>
  (idx a0 x2).bind fun x3 =>
  some (w64 x3)
theorem ok_law06_turn {c:Sc} {H:AHeap} {a0:(List Int)} {a1:Int} {r:Int} (h:law06_turn a0 a1=some r) :
  CallE tab c H (.fn (.func 86) [] []) [(.seq 1 (List.map cIu16 a0)),.i a1] [.i r]:= by
 unfold law06_turn at h
 refine cE rfl rfl<|s0<|qm rfl<|es (ra2 rfl rfl)<|w_seq<|s0<|qm rfl<|ow_q (o_lenL (f:=cIu16) rfl) rfl<|ow_q (b_eql rfl rfl) rfl<|es (ra3 rfl rfl rfl)<|wi h rfl (fun hc1 h=>?_) fun hc1 h=>?_
 ·refine s0<|qm rfl<|es (ra1 rfl)<|w_ret ?_
  obtain rfl:=os h
  exact retq trivial (rs_tmp rfl rs_nil) (ov_cons rfl ov_nil) (bdL_cons bd_lit bdL_nil)
 ·refine w_skip<|s0<|oB h fun x2 hx2 h=>oB h fun x3 hx3 h=>qm rfl<|qm rfl<|qm rfl<|ow_q (o_lenL (f:=cIu16) rfl) rfl<|ow_q (o_rem rfl rfl hx2) rfl<|ow_q (o_idxS (f:=cIu16) rfl rfl hx3) rfl<|ow_q (o_loadC rfl rfl) rfl<|ow_q (o_conv rfl) rfl<|qm rfl<|es (ra1 rfl)<|w_ret ?_
  obtain rfl:=os h
  exact retq trivial (rs_tmp rfl rs_nil) (ov_cons rfl ov_nil) (bdL_cons bd_lit bdL_nil)
def law06_Any_L1 (a0:VaTrain) (a1:(List Int)) (s1:(Int×(List Int))):Option ((Int×(List Int))⊕(List Int)) :=
 if (decide (s1.1 < (List.length a0.Crates:Int)))=true then
  (law06_turn a1 s1.1).bind fun x4 =>
  (remI x4 (w64 ((List.length a0.Vans:Int)+1))).bind fun x5 =>
  (app 8 ([]:List Int) s1.2).bind fun x6 =>
  (app 8 x6 [(w64 (x5 - 1))]).bind fun x7 =>
  (ref06_Allowed a0 x7).bind fun x8 =>
  if (!x8)=true then
  (app 8 s1.2 [(-1)]).bind fun x10 =>
  some (.inl ((w64 (s1.1+1)),x10))
  else
  (app 8 s1.2 [(w64 (x5 - 1))]).bind fun x11 =>
  some (.inl ((w64 (s1.1+1)),x11))
 else
  some (.inr s1.2)
def law06_Any (a0:VaTrain) (a1:(List Int)):Option (List Int) :=
 (loop (law06_Any_L1 a0 a1) (0,([]:List Int))).bind fun (o12:(List Int)) =>
 some o12
theorem ok_law06_Any {c:Sc} {H:AHeap} {a0:VaTrain} {a1:(List Int)} {r:(List Int)} (h:law06_Any a0 a1=some r) :
  CallE tab c H (.fn (.func 41) [] []) [(.agg (c_VaTrain a0)),(.seq 1 (List.map cIu16 a1))] [(.fresh 1 (List.map cI r))]:= by
 unfold law06_Any at h
 refine cE rfl rfl<|sg 0 rfl<|ow_q (o_box (cs:=c_VaTrain a0) rfl rfl rfl) rfl<|qm rfl<|es (ra2 rfl rfl)<|sg 1 rfl<|ow_q o_nil rfl<|es (ra3 rfl rfl rfl)<|w_seq<|s0<|qm rfl<|es (ra4 rfl rfl rfl rfl)<|w_block<|oB h fun o12 ho12 h=>wl (fun s1=>[(1,(.seq 1 (List.map cIu16 a1))),(2,(.ptr (H.length+0) 0)),(5,(.asl (H.length+1) (List.length s1.2))),(6,.i s1.1)]) (fun (q2:Unit) s1=>[(.cells (c_VaTrain a0)),(.arr 1 false (List.map cI s1.2))]) 2 (fun r e s' H'=>PX 0 [(5,(.asl (H.length+1) (List.length r)))] (H++[(.cells (c_VaTrain a0)),(.arr 1 false (List.map cI r))]) e s' H') () ho12 rfl rfl (fun _ _=>rfl) (fun _=>rfl) rfl (fun s1=>(bdc bd_seq (bdc (bd_ptr rfl) (bdc (bd_asl rfl) (bdc bd_lit bdn))))) (fun q2 s1 ys1 hs1=>?_) ?_
 ·unfold law06_Any_L1 at hs1
  refine w_seq<|s0<|qm rfl<|ow_q (o_faP rfl) rfl<|ow_q (o_load rfl rfl rfl) rfl<|ow_q (o_lenL (f:=c_VaCrate) rfl) rfl<|ow_q (b_lss rfl rfl) rfl<|es (ra5 rfl rfl rfl rfl rfl)<|wi hs1 rfl (fun hc3 hs1=>?_) fun hc3 hs1=>?_
  ·refine w_skip<|w_seq<|w_block<|s0<|oB hs1 fun x4 hx4 hs1=>oB hs1 fun x5 hx5 hs1=>qm rfl<|qm rfl<|ow_callP (rs:=[.i x4]) rfl rfl (pa_cons rfl (pa_cons rfl pa_nil)) (fa_cons rfl (fa_cons rfl fa_nil)) ((ok_law06_turn hx4).frz)<|ow_q (o_faP rfl) rfl<|ow_q (o_load rfl rfl rfl) rfl<|ow_q (o_lenL (f:=c_VaVan) rfl) rfl<|ow_q (b_add rfl rfl) rfl<|ow_q (o_rem rfl rfl hx5) rfl<|ow_q (b_sub rfl rfl) rfl<|qm rfl<|es (ra5 rfl rfl rfl rfl rfl)<|w_seq<|sg 2 rfl<|oB hs1 fun x6 hx6 hs1=>oB hs1 fun x7 hx7 hs1=>oB hs1 fun x8 hx8 hs1=>ow_q (o_litsO (rows:=List.map cI []) rfl rfl (frzR_map (fun _=>rfl) _)) rfl<|qm rfl<|ow_hidW [0] [(.cells (c_VaTrain a0)),(.arr 1 false (List.map cI s1.2)),(.arr 1 false (List.map cI x6))] (hs_of [] rfl (ways_cons rfl follow_nil ways_nil) rfl rfl) (seen0 rfl) (o_appO (f:=cI) rfl rfl rfl rfl (rd_own rfl (List.length_map _)) (fun _=>rfl) hx6) rfl rfl rfl<|qm rfl<|ow_q (o_lits (rows:=List.map cI [(w64 (x5 - 1))]) rfl rfl (frzR_map (fun _=>rfl) _)) rfl<|ow_hidW [0] [(.cells (c_VaTrain a0)),(.arr 1 false (List.map cI s1.2)),.dead] (hs_of [] rfl (ways_cons rfl follow_nil ways_nil) rfl rfl) (seen0 rfl) (o_appOZ (f:=cI) rfl rfl rfl rfl rd_seq (fun _=>rfl) hx7) rfl rfl rfl<|ow_hidQ [2] (hs_of [2] rfl ways_nil rfl rfl) (seen_of (b:=H.length + 0) rfl (seen_some (contains_loc _ rfl) (seen_some (contains_loc _ rfl) seen_nil))) (o_loadW rfl rfl rfl) rfl<|ow_call (rs:=[.b x8]) rfl rfl (fa_cons (fa_agg rfl) (fa_cons rfl fa_nil)) ((ok_ref06_Allowed hx8).frz)<|ow_q (u_not rfl) rfl<|es (ra6 rfl rfl rfl rfl rfl rfl)<|wi hs1 rfl (fun hc9 hs1=>?_) fun hc9 hs1=>?_
   ·refine r0<|qm rfl<|en (ra5 rfl rfl rfl rfl rfl)<|r0<|oB hs1 fun x10 hx10 hs1=>qm rfl<|qm rfl<|ow_q (o_lits (rows:=List.map cI [(-1)]) rfl rfl (frzR_map (fun _=>rfl) _)) rfl<|ow_w (o_appO (f:=cI) rfl rfl rfl rfl rd_seq (fun _=>rfl) hx10) rfl<|qm rfl<|en (ra4 rfl rfl rfl rfl)<|r0<|qm rfl<|ow_q (b_add rfl rfl) rfl<|qm rfl<|en (ra4 rfl rfl rfl rfl) ?_
    cases hs1
    exact lnT () rfl (su4 rfl rfl rfl rfl)
   ·refine w_skip<|r0<|oB hs1 fun x11 hx11 hs1=>qm rfl<|qm rfl<|ow_q (o_lits (rows:=List.map cI [(w64 (x5 - 1))]) rfl rfl (frzR_map (fun _=>rfl) _)) rfl<|ow_w (o_appO (f:=cI) rfl rfl rfl rfl rd_seq (fun _=>rfl) hx11) rfl<|qm rfl<|en (ra4 rfl rfl rfl rfl)<|r0<|qm rfl<|ow_q (b_add rfl rfl) rfl<|qm rfl<|en (ra4 rfl rfl rfl rfl) ?_
    cases hs1
    exact lnT () rfl (su4 rfl rfl rfl rfl)
  ·refine w_exit ?_
   obtain rfl:=os hs1
   exact lx rfl px (su1 rfl)
 ·rintro e s' H' - ⟨rfl,rfl,rfl⟩
  refine s0<|qm rfl<|qm rfl<|es (ra1 rfl)<|w_ret ?_
  obtain rfl:=os h
  exact retq trivial (rs_tmp rfl rs_nil) (ov_cons (ov_own rfl (List.length_map _)) ov_nil) (bdL_cons bd_fresh bdL_nil)
def law06_valid (a0:VaTrain):Option Bool :=
 (ref06_Check a0).bind fun x1 =>
 some (x1.2.2 == 0)
theorem ok_law06_valid {c:Sc} {H:AHeap} {a0:VaTrain} {r:Bool} (h:law06_valid a0=some r) :
  CallE tab c H (.fn (.func 40) [] []) [(.agg (c_VaTrain a0))] [.b r]:= by
 unfold law06_valid at h
 refine cE rfl rfl<|sg 0 rfl<|ow_q (o_box (cs:=c_VaTrain a0) rfl rfl rfl) rfl<|qm rfl<|es (ra1 rfl)<|s0<|oB h fun x1 hx1 h=>ow_q (o_loadW rfl rfl rfl) rfl<|ow_call (rs:=[.i x1.1,.i x1.2.1,.i x1.2.2]) rfl rfl (fa_cons (fa_agg rfl) fa_nil) ((ok_ref06_Check hx1).frz)<|qm rfl<|ow_q (o_extract rfl rfl) rfl<|ow_q (o_extract rfl rfl) rfl<|ow_q (o_extract rfl rfl) rfl<|qm rfl<|qm rfl<|qm rfl<|es (ra1 rfl)<|s0<|qm rfl<|ow_q (b_eql rfl rfl) rfl<|qm rfl<|es (ra1 rfl)<|w_ret ?_
 obtain rfl:=os h
 exact retq trivial (rs_tmp rfl rs_nil) (ov_cons rfl ov_nil) (bdL_cons bd_lit bdL_nil)
end Vn
end
section
namespace Vn
open Go Am
def N16 (l:List Int):Prop:=l.length < 9223372036854775808∧∀ x ∈ l,0≤x∧x < 65536
theorem remI_eq {a b:Int} (ha:0≤a) (hb:0 < b):∃r,remI a b=some r∧0≤r∧r < b:= by
 unfold remI
 rw [if_neg (by omega)]
 exact ⟨a.tmod b,rfl,Int.tmod_nonneg _ ha,Int.tmod_lt_of_pos _ hb⟩
theorem turn_eq {l:List Int} (h:N16 l) (n:Nat):∃r,law06_turn l (n:Int)=some r∧0≤r∧r < 65536:= by
 unfold law06_turn
 by_cases c:l.length=0
 ·rw [if_pos (by rw [c]; rfl)]; exact ⟨0,rfl,by omega,by omega⟩
 ·rw [if_neg (by rw [beq_iff_eq]; omega)]
  obtain ⟨r,h1,h2,h3⟩:=remI_eq (a:=(n:Int)) (b:=(l.length:Int)) (by omega) (by omega)
  rw [h1]
  simp only [Option.bind_some]
  rw [show r=((r.toNat:Nat):Int) by omega,idx_get (show r.toNat < l.length by omega)]
  have hb:=h.2 _ (get_mem (show r.toNat < l.length by omega))
  simp only [Option.bind_some]
  rw [w64_id (by omega)]
  exact ⟨_,rfl,hb.1,hb.2⟩
theorem ref06_Size_le {t:VaTrain} (h:TOk t) (p:List Int) (hp:p.length≤t.Crates.length) (v:Int):ref06_Size t p v=some (sizeTo t p v p.length):= by
 unfold ref06_Size
 have hl:=h.crates
 rw [show ((0:Int),(0:Int)) = (sizeTo t p v 0,((0:Nat):Int)) from rfl,loop_seq (b:=ref06_Size_L1 t p v) (fun i=>(sizeTo t p v i,(i:Int))) p.length (r:=sizeTo t p v p.length) (by omega) (fun i hi=>by
  unfold ref06_Size_L1
  simp only []
  rw [if_pos (by simpa using hi),idx_get hi,idx_get (show i < t.Crates.length by omega)]
  simp only [Option.bind_some]
  have hb:=sizeTo_bd h p v i (by omega)
  have hc:=h.crate i (by omega)
  have:=hc.size1; have:=hc.size
  rw [w64_id (n:=(i:Int)+1) (by omega),w64_id (by omega)]
  show _=some (Sum.inl ((if p[i]! == v then sizeTo t p v i+t.Crates[i]!.Size else sizeTo t p v i),((i+1:Nat):Int)))
  cases p[i]! == v <;> rfl) (by
  unfold ref06_Size_L1
  simp only []
  rw [if_neg (by simp)])]
 rfl
def clashP (t:VaTrain) (p:List Int) (i:Nat):Option Bool:=if decide (t.Apart[i]!.B < p.length) && (p[t.Apart[i]!.A.toNat]! == p[t.Apart[i]!.B.toNat]! && p[t.Apart[i]!.A.toNat]! != -1) then some false else none
def goodP (t:VaTrain) (p:List Int):Bool:=(first (overV t p) t.Vans.length).getD ((first (clashP t p) t.Apart.length).getD true)
theorem ref06_Allowed_le {t:VaTrain} (h:TOk t) (p:List Int) (hp:p.length≤t.Crates.length):ref06_Allowed t p=some (goodP t p):= by
 unfold ref06_Allowed
 have hl:=h.crates
 have hv:=h.vans
 have ha:=h.apart
 rw [loop_ix (b:=ref06_Allowed_L1 t p) t.Vans.length (fun v=>(overV t p v).map Sum.inl) (.inr ()) (by omega) (fun i hi _=>by
  unfold ref06_Allowed_L1 overV
  rw [if_pos (by simpa using hi),ref06_Size_le h p hp,idx_get hi]
  simp only [Option.bind_some]
  by_cases c:sizeTo t p i p.length > t.Vans[i]!.Room
  ·rw [if_pos (by simpa using c),if_pos c]; rfl
  ·rw [if_neg (by simpa using c),if_neg c]; rfl) (by
  unfold ref06_Allowed_L1
  rw [if_neg (by simp)]),first_map]
 unfold goodP
 cases first (overV t p) t.Vans.length with
 | some x=>rfl
 | none =>
 simp only [Option.map_none,Option.getD_none,Option.bind_some]
 rw [loop_ix (b:=ref06_Allowed_L2 t p) t.Apart.length (fun v=>(clashP t p v).map Sum.inl) (.inr ()) (by omega) (fun i hi _=>by
  unfold ref06_Allowed_L2 clashP
  have hq:=h.pair i hi
  rw [if_pos (by simpa using hi),idx_get hi]
  generalize t.Apart[i]! = g at hq
  have:=hq.a0; have:=hq.ab; have:=hq.b
  simp only [Option.bind_some]
  by_cases hB:g.B < (p.length:Int)
  ·rw [if_pos (by rw [decide_eq_true_eq]; omega),idx_int hq.a0 (by omega),idx_int (i:=g.B) (by omega) (by omega),decide_eq_true hB]
   simp only [Option.bind_some]
   generalize p[g.A.toNat]! = x
   generalize p[g.B.toNat]! = y
   cases x == y
   ·rfl
   ·cases x != -1 <;> rfl
  ·rw [if_neg (by rw [decide_eq_true_eq]; omega),decide_eq_false hB]; rfl) (by
  unfold ref06_Allowed_L2
  rw [if_neg (by simp)]),first_map]
 cases first (clashP t p) t.Apart.length <;> rfl
def GoodP (t:VaTrain) (p:List Int):Prop :=
 (∀ v:Nat,v < t.Vans.length→sizeTo t p v p.length≤t.Vans[v]!.Room) ∧
 (∀ i,i < t.Apart.length→t.Apart[i]!.B < p.length→¬ (p[t.Apart[i]!.A.toNat]! = p[t.Apart[i]!.B.toNat]!∧p[t.Apart[i]!.A.toNat]! ≠ -1))
theorem goodP_iff (t:VaTrain) (p:List Int):goodP t p=true↔GoodP t p:= by
 unfold goodP GoodP
 constructor
 ·intro h
  cases h1:first (overV t p) t.Vans.length with
  | some x =>
   obtain ⟨i,_,h2,_⟩:=first_some h1
   rw [h1] at h
   have h:x=true:=h
   unfold overV at h2
   split at h2
   ·rw [← Option.some.inj h2] at h; exact absurd h (by decide)
   ·exact absurd h2 (by simp)
  | none =>
  rw [h1] at h
  cases h2:first (clashP t p) t.Apart.length with
  | some x =>
   obtain ⟨i,_,h3,_⟩:=first_some h2
   rw [h2] at h
   have h:x=true:=h
   unfold clashP at h3
   split at h3
   ·rw [← Option.some.inj h3] at h; exact absurd h (by decide)
   ·exact absurd h3 (by simp)
  | none =>
  refine ⟨fun v hv=>?_,fun i hi hB hc=>?_⟩
  ·have:=first_none.mp h1 v hv
   unfold overV at this
   split at this
   ·exact absurd this (by simp)
   ·omega
  ·have:=first_none.mp h2 i hi
   unfold clashP at this
   rw [if_pos (by rw [Bool.and_eq_true,Bool.and_eq_true,beq_iff_eq,bne_iff_ne]; exact ⟨decide_eq_true hB,hc⟩)] at this
   exact absurd this (by simp)
 ·intro h
  rw [first_none.mpr fun v hv=>by
   unfold overV
   have:=h.1 v hv
   rw [if_neg (by omega)],first_none.mpr fun i hi=>by
   unfold clashP
   rw [if_neg (by rw [Bool.and_eq_true,Bool.and_eq_true,beq_iff_eq,bne_iff_ne,decide_eq_true_eq]; exact fun ⟨a,b⟩=>h.2 i hi a b)]]
  rfl
theorem goodP_full {t:VaTrain} (h:TOk t) {p:List Int} (hp:p.length=t.Crates.length):GoodP t p↔Good t p:= by
 unfold GoodP Good
 constructor
 ·exact fun ⟨a,b⟩=>⟨a,fun i hi=>b i hi (by have:=(h.pair i hi).b; omega)⟩
 ·exact fun ⟨a,b⟩=>⟨a,fun i hi _=>b i hi⟩
theorem get_app {p:List Int} {x:Int} {i:Nat} (h:i < p.length):(p++[x])[i]! = p[i]!:= by
 rw [getElem!_pos (p++[x]) i (by rw [List.length_append]; omega),getElem!_pos p i h,List.getElem_append_left h]
theorem get_app_last {p:List Int} {x:Int}:(p++[x])[p.length]! = x:= by
 rw [getElem!_pos (p++[x]) p.length (by rw [List.length_append]; simp)]; simp
theorem sizeTo_congr {t:VaTrain} {p q:List Int} {v:Int}:∀{n:Nat},(∀ i,i < n→p[i]! = q[i]!)→sizeTo t p v n=sizeTo t q v n
 | 0,_=>rfl
 | n+1,h=>by
  rw [sizeTo_succ,sizeTo_succ,sizeTo_congr fun i hi=>h i (by omega),h n (by omega)]
theorem goodP_stay {t:VaTrain} (h:TOk t) {p:List Int} (hp:p.length < t.Crates.length) (hg:GoodP t p):GoodP t (p++[-1]):= by
 have hl:(p++[(-1:Int)]).length=p.length+1:= by simp
 refine ⟨fun v hv=>?_,fun i hi hB hc=>?_⟩
 ·have h1:=hg.1 v hv
  rw [hl,sizeTo_succ,get_app_last,sizeTo_congr (p:=p++[-1]) (q:=p) fun i hi=>get_app hi]
  rw [if_neg (by rw [beq_iff_eq]; omega)]; exact h1
 ·have hq:=h.pair i hi
  have:=hq.a0; have:=hq.ab
  rw [hl] at hB
  by_cases c:t.Apart[i]!.B < p.length
  ·rw [get_app (by omega),get_app (by omega)] at hc
   exact hg.2 i hi c hc
  ·have e:t.Apart[i]!.B.toNat = p.length:= by omega
   rw [e,get_app_last] at hc
   exact hc.2 hc.1
structure PlanOk (t:VaTrain) (p:List Int):Prop where
 len:p.length=t.Crates.length
 range:inRange t p
 good:good t p=true
theorem inRange_app {t:VaTrain} {p:List Int} {x:Int} (h:inRange t p) (hx:-1≤x∧x < t.Vans.length):inRange t (p++[x]):= by
 intro i hi
 by_cases c:i < p.length
 ·rw [get_app c]; exact h i c
 ·have:i = p.length:= by simp at hi; omega
  subst this; rw [get_app_last]; exact hx
theorem loop_inv {σ ρ:Type} {b:σ→Option (σ⊕ρ)} (I:Nat→σ→Prop) (n:Nat) (J:ρ→Prop) (hn:n < 9223372036854775808)
  (hs:∀i s,i < n→I i s→∃ s',b s=some (.inl s')∧I (i+1) s') (he:∀s,I n s→∃ r,b s=some (.inr r)∧J r) (s:σ) (h0:I 0 s):∃r,loop b s=some r∧J r:= by
 have key:∀k i s m,i+k=n→k < m→I i s→∃ r,loopF b m s=some r∧J r:= by
  intro k
  induction k with
  | zero =>
   intro i s m hi hm hI
   obtain ⟨m',rfl⟩:∃m',m=m'+1:=⟨m - 1,by omega⟩
   have:i=n:= by omega
   subst this
   obtain ⟨r,h1,h2⟩:=he s hI
   exact ⟨r,by rw [loopF_succ,h1],h2⟩
  | succ k ih =>
   intro i s m hi hm hI
   obtain ⟨m',rfl⟩:∃m',m=m'+1:=⟨m - 1,by omega⟩
   obtain ⟨s',h1,h2⟩:=hs i s (by omega) hI
   obtain ⟨r,h3,h4⟩:=ih (i+1) s' m' (by omega) (by omega) h2
   exact ⟨r,by rw [loopF_succ,h1]; exact h3,h4⟩
 exact key n 0 s _ (by omega) hn h0
theorem any_ok {t:VaTrain} (h:TOk t) {x:List Int} (hx:N16 x):∃p,law06_Any t x=some p∧PlanOk t p:= by
 have hv:=h.vans; have hv1:=h.vans1; have hc:=h.crates
 unfold law06_Any
 obtain ⟨p,h1,h2⟩:=loop_inv (b:=law06_Any_L1 t x) (fun i s=>s.1 = (i:Int)∧s.2.length = i∧inRange t s.2∧GoodP t s.2) t.Crates.length (PlanOk t) (by omega) (by
  rintro i ⟨n,l⟩ hi ⟨h1,h2,h3,h4⟩
  simp only at h1 h2 h3 h4
  subst h1
  unfold law06_Any_L1
  simp only []
  obtain ⟨r,e1,r0,r1⟩:=turn_eq hx i
  obtain ⟨z,e2,z0,z1⟩:=remI_eq (a:=r) (b:=(t.Vans.length:Int)+1) r0 (by omega)
  rw [if_pos (by rw [decide_eq_true_eq]; omega),e1]
  simp only [Option.bind_some]
  rw [w64_id (n:=(t.Vans.length:Int)+1) (by omega),e2]
  simp only [Option.bind_some]
  rw [app_ok (by omega) (by simp; omega)]
  simp only [Option.bind_some,List.nil_append]
  rw [app_ok (by omega) (by simp; omega)]
  simp only [Option.bind_some]
  rw [w64_id (n:=z - 1) (by omega),ref06_Allowed_le h _ (by simp; omega)]
  simp only [Option.bind_some]
  cases hg:goodP t (l++[z - 1]) with
  | true =>
   simp only [Bool.not_true,Bool.false_eq_true,if_false]
   rw [w64_id (n:=(i:Int)+1) (by omega)]
   exact ⟨_,rfl,rfl,by simp; omega,inRange_app h3 (by omega),(goodP_iff t _).mp hg⟩
  | false =>
   simp only [Bool.not_false,if_true]
   rw [app_ok (by omega) (by simp; omega)]
   simp only [Option.bind_some]
   rw [w64_id (by omega)]
   exact ⟨_,rfl,rfl,by simp; omega,inRange_app h3 (by omega),goodP_stay h (by omega) h4⟩) (by
  rintro ⟨n,l⟩ ⟨h1,h2,h3,h4⟩
  simp only at h1 h2 h3 h4
  subst h1
  unfold law06_Any_L1
  simp only []
  rw [if_neg (by simp)]
  exact ⟨l,rfl,h2,h3,(good_iff t l).mpr ((goodP_full h h2).mp h4)⟩) (0,[]) ⟨rfl,rfl,fun i hi=>by simp at hi,by
   refine ⟨fun v hv=>?_,fun i hi hB=>?_⟩
   ·have:=(h.van v hv).room0
    show (0:Int)≤_
    exact this
   ·have:=h.pair i hi
    have:=this.a0; have:=(h.pair i hi).ab
    have hB:t.Apart[i]!.B < 0:=hB
    omega⟩
 rw [h1]
 exact ⟨p,rfl,h2⟩
theorem plan_tp {t:VaTrain} (hc:(check t).2.2=0) {p:List Int} (h:PlanOk t p):tpCode t p=0:= by
 have hT:=check_ok hc
 have hv:=hT.vans1
 unfold tpCode planCode
 rw [hc,if_pos (by decide),if_neg (by rw [h.len]; simp),if_neg,if_pos h.good]
 intro ha
 obtain ⟨y,hy,ho⟩:=List.any_eq_true.mp ha
 obtain ⟨i,hi,e⟩:=List.mem_iff_getElem.mp hy
 have hr:=h.range i hi
 rw [getElem!_pos p i hi,e] at hr
 have:out (-1) ((t.Vans.length:Int) - 1) y=false:=out_in.mpr ⟨by omega,by omega⟩
 rw [this] at ho; exact absurd ho (by decide)
theorem valid_eq (t:VaTrain):law06_valid t=some ((check t).2.2 == 0):= by
 unfold law06_valid
 rw [ref06_Check_eq]; rfl
end Vn
end
section
set_option maxRecDepth 100000
set_option maxHeartbeats 0
namespace Vn
open Go Am Go.Proofs.Ytjjmechghfjbmaa.Cd
def law06_Roads_L1 (a0:VaTrain) (a1:Int) (a2:(List Int)) (s1:(Int×(List Int))):Option ((Int×(List Int))⊕(List Int)) :=
 if (decide (s1.1 < a0.Stops))=true then
  (idx a0.Vans a1).bind fun x4 =>
  (idx x4.Legs s1.1).bind fun x5 =>
  (law06_turn a2 s1.1).bind fun x6 =>
  (remI x6 (w64 ((w64 (x5.Hi - x5.Lo))+1))).bind fun x7 =>
  (app 8 s1.2 [(w64 (x5.Lo+x7))]).bind fun x8 =>
  some (.inl ((w64 (s1.1+1)),x8))
 else
  some (.inr s1.2)
def law06_Roads (a0:VaTrain) (a1:Int) (a2:(List Int)):Option (List Int) :=
 (loop (law06_Roads_L1 a0 a1 a2) (0,([]:List Int))).bind fun (o9:(List Int)) =>
 some o9
theorem ok_law06_Roads {c:Sc} {H:AHeap} {a0:VaTrain} {a1:Int} {a2:(List Int)} {r:(List Int)} (h:law06_Roads a0 a1 a2=some r) :
  CallE tab c H (.fn (.func 43) [] []) [(.agg (c_VaTrain a0)),.i a1,(.seq 1 (List.map cIu16 a2))] [(.fresh 1 (List.map cI r))]:= by
 unfold law06_Roads at h
 refine cE rfl rfl<|sg 0 rfl<|ow_q (o_box (cs:=c_VaTrain a0) rfl rfl rfl) rfl<|qm rfl<|es (ra3 rfl rfl rfl)<|sg 1 rfl<|ow_q o_nil rfl<|es (ra4 rfl rfl rfl rfl)<|w_seq<|s0<|qm rfl<|es (ra5 rfl rfl rfl rfl rfl)<|w_block<|oB h fun o9 ho9 h=>wl (fun s1=>[(1,.i a1),(2,(.seq 1 (List.map cIu16 a2))),(3,(.ptr (H.length+0) 0)),(7,(.asl (H.length+1) (List.length s1.2))),(8,.i s1.1)]) (fun (q2:Unit) s1=>[(.cells (c_VaTrain a0)),(.arr 1 false (List.map cI s1.2))]) 2 (fun r e s' H'=>PX 0 [(7,(.asl (H.length+1) (List.length r)))] (H++[(.cells (c_VaTrain a0)),(.arr 1 false (List.map cI r))]) e s' H') () ho9 rfl rfl (fun _ _=>rfl) (fun _=>rfl) rfl (fun s1=>(bdc bd_lit (bdc bd_seq (bdc (bd_ptr rfl) (bdc (bd_asl rfl) (bdc bd_lit bdn)))))) (fun q2 s1 ys1 hs1=>?_) ?_
 ·unfold law06_Roads_L1 at hs1
  refine w_seq<|s0<|qm rfl<|ow_q (o_faP rfl) rfl<|ow_q (o_load rfl rfl rfl) rfl<|ow_q (b_lss rfl rfl) rfl<|es (ra6 rfl rfl rfl rfl rfl rfl)<|wi hs1 rfl (fun hc3 hs1=>?_) fun hc3 hs1=>?_
  ·refine w_skip<|w_seq<|w_block<|sg 2 rfl<|oB hs1 fun x4 hx4 hs1=>oB hs1 fun x5 hx5 hs1=>ow_q (o_faP rfl) rfl<|ow_q (o_load rfl rfl rfl) rfl<|qm rfl<|ow_q (o_idxS (f:=c_VaVan) rfl rfl hx4) rfl<|ow_q (o_faC (ds:=(List.drop 3 (c_VaVan x4))) rfl rfl) rfl<|ow_q (o_loadC rfl rfl) rfl<|qm rfl<|ow_q (o_idxS (f:=c_Span) rfl rfl hx5) rfl<|ow_q (o_loadCW rfl rfl) rfl<|ow_q o_alloc rfl<|ow_r (o_store (ds:=(c_Span x5)) rfl rfl rfl rfl (okL_plain rfl) rfl) rfl<|es (ra6 rfl rfl rfl rfl rfl rfl)<|r0<|oB hs1 fun x6 hx6 hs1=>oB hs1 fun x7 hx7 hs1=>oB hs1 fun x8 hx8 hs1=>qm rfl<|ow_q (o_faP rfl) rfl<|ow_q (o_load rfl rfl rfl) rfl<|qm rfl<|qm rfl<|ow_callP (rs:=[.i x6]) rfl rfl (pa_cons rfl (pa_cons rfl pa_nil)) (fa_cons rfl (fa_cons rfl fa_nil)) ((ok_law06_turn hx6).frz)<|ow_q (o_faP rfl) rfl<|ow_q (o_load rfl rfl rfl) rfl<|ow_q (o_faP rfl) rfl<|ow_q (o_load rfl rfl rfl) rfl<|ow_q (b_sub rfl rfl) rfl<|ow_q (b_add rfl rfl) rfl<|ow_q (o_rem rfl rfl hx7) rfl<|ow_q (b_add rfl rfl) rfl<|ow_q (o_lits (rows:=List.map cI [(w64 (x5.Lo + x7))]) rfl rfl (frzR_map (fun _=>rfl) _)) rfl<|ow_w (o_appO (f:=cI) rfl rfl rfl rfl rd_seq (fun _=>rfl) hx8) rfl<|qm rfl<|en (ra5 rfl rfl rfl rfl rfl)<|r0<|qm rfl<|ow_q (b_add rfl rfl) rfl<|qm rfl<|en (ra5 rfl rfl rfl rfl rfl) ?_
   cases hs1
   exact lnT () rfl (su5 rfl rfl rfl rfl rfl)
  ·refine w_exit ?_
   obtain rfl:=os hs1
   exact lx rfl px (su1 rfl)
 ·rintro e s' H' - ⟨rfl,rfl,rfl⟩
  refine s0<|qm rfl<|qm rfl<|es (ra1 rfl)<|w_ret ?_
  obtain rfl:=os h
  exact retq trivial (rs_tmp rfl rs_nil) (ov_cons (ov_own rfl (List.length_map _)) ov_nil) (bdL_cons bd_fresh bdL_nil)
def law06_Comes_L1 (a0:VaTrain) (a1:(List Int)) (a2:Int) (a3:(List Int)) (s2:(Int×Int×(List Int))):Option ((Int×Int×(List Int))⊕(List Int)) :=
 if (decide (s2.2.1 < a0.Stops))=true then
  (idx a3 s2.2.1).bind fun x5 =>
  (app 8 s2.2.2 [(w64 (s2.1+x5))]).bind fun x6 =>
  (ref06_Handled a0 a1 a2 s2.2.1).bind fun x7 =>
  some (.inl ((w64 ((w64 (s2.1+x5))+(w64 (a0.Handle * x7)))),(w64 (s2.2.1+1)),x6))
 else
  some (.inr s2.2.2)
def law06_Comes (a0:VaTrain) (a1:(List Int)) (a2:Int) (a3:(List Int)):Option (List Int) :=
 (idx a0.Vans a2).bind fun x1 =>
 (loop (law06_Comes_L1 a0 a1 a2 a3) (x1.Leave,0,([]:List Int))).bind fun (o8:(List Int)) =>
 some o8
theorem ok_law06_Comes {c:Sc} {H:AHeap} {a0:VaTrain} {a1:(List Int)} {a2:Int} {a3:(List Int)} {r:(List Int)} (h:law06_Comes a0 a1 a2 a3=some r) :
  CallE tab c H (.fn (.func 42) [] []) [(.agg (c_VaTrain a0)),(.seq 1 (List.map cI a1)),.i a2,(.seq 1 (List.map cI a3))] [(.fresh 1 (List.map cI r))]:= by
 unfold law06_Comes at h
 refine cE rfl rfl<|sg 0 rfl<|ow_q (o_box (cs:=c_VaTrain a0) rfl rfl rfl) rfl<|qm rfl<|es (ra4 rfl rfl rfl rfl)<|s0<|oB h fun x1 hx1 h=>ow_q (o_faP rfl) rfl<|ow_q (o_load rfl rfl rfl) rfl<|qm rfl<|ow_q (o_idxS (f:=c_VaVan) rfl rfl hx1) rfl<|ow_q (o_faC (ds:=(List.drop 2 (c_VaVan x1))) rfl rfl) rfl<|ow_q (o_loadC rfl rfl) rfl<|qm rfl<|es (ra5 rfl rfl rfl rfl rfl)<|sg 1 rfl<|ow_q o_nil rfl<|es (ra6 rfl rfl rfl rfl rfl rfl)<|w_seq<|s0<|qm rfl<|es (ra7 rfl rfl rfl rfl rfl rfl rfl)<|w_block<|oB h fun o8 ho8 h=>wl (fun s2=>[(1,(.seq 1 (List.map cI a1))),(2,.i a2),(3,(.seq 1 (List.map cI a3))),(4,(.ptr (H.length+0) 0)),(9,.i s2.1),(10,(.asl (H.length+1) (List.length s2.2.2))),(11,.i s2.2.1)]) (fun (q3:Unit) s2=>[(.cells (c_VaTrain a0)),(.arr 1 false (List.map cI s2.2.2))]) 2 (fun r e s' H'=>PX 0 [(10,(.asl (H.length+1) (List.length r)))] (H++[(.cells (c_VaTrain a0)),(.arr 1 false (List.map cI r))]) e s' H') () ho8 rfl rfl (fun _ _=>rfl) (fun _=>rfl) rfl (fun s2=>(bdc bd_seq (bdc bd_lit (bdc bd_seq (bdc (bd_ptr rfl) (bdc bd_lit (bdc (bd_asl rfl) (bdc bd_lit bdn)))))))) (fun q3 s2 ys2 hs2=>?_) ?_
 ·unfold law06_Comes_L1 at hs2
  refine w_seq<|s0<|qm rfl<|ow_q (o_faP rfl) rfl<|ow_q (o_load rfl rfl rfl) rfl<|ow_q (b_lss rfl rfl) rfl<|es (ra8 rfl rfl rfl rfl rfl rfl rfl rfl)<|wi hs2 rfl (fun hc4 hs2=>?_) fun hc4 hs2=>?_
  ·refine w_skip<|w_seq<|w_block<|s0<|oB hs2 fun x5 hx5 hs2=>qm rfl<|qm rfl<|qm rfl<|ow_q (o_idxS (f:=cI) rfl rfl hx5) rfl<|ow_q (o_loadC rfl rfl) rfl<|ow_q (b_add rfl rfl) rfl<|qm rfl<|es (ra7 rfl rfl rfl rfl rfl rfl rfl)<|s0<|oB hs2 fun x6 hx6 hs2=>qm rfl<|qm rfl<|ow_q (o_lits (rows:=List.map cI [(w64 (s2.1 + x5))]) rfl rfl (frzR_map (fun _=>rfl) _)) rfl<|ow_w (o_appO (f:=cI) rfl rfl rfl rfl rd_seq (fun _=>rfl) hx6) rfl<|qm rfl<|es (ra7 rfl rfl rfl rfl rfl rfl rfl)<|r0<|oB hs2 fun x7 hx7 hs2=>qm rfl<|ow_q (o_faP rfl) rfl<|ow_q (o_load rfl rfl rfl) rfl<|ow_q (o_loadW rfl rfl rfl) rfl<|qm rfl<|qm rfl<|qm rfl<|ow_callP (rs:=[.i x7]) rfl rfl (pa_cons rfl (pa_cons rfl (pa_cons rfl (pa_cons rfl pa_nil)))) (fa_cons (fa_agg rfl) (fa_cons rfl (fa_cons rfl (fa_cons rfl fa_nil)))) ((ok_ref06_Handled hx7).frz)<|ow_q (b_mul rfl rfl) rfl<|ow_q (b_add rfl rfl) rfl<|qm rfl<|en (ra7 rfl rfl rfl rfl rfl rfl rfl)<|r0<|qm rfl<|ow_q (b_add rfl rfl) rfl<|qm rfl<|en (ra7 rfl rfl rfl rfl rfl rfl rfl) ?_
   cases hs2
   exact lnT () rfl (su7 rfl rfl rfl rfl rfl rfl rfl)
  ·refine w_exit ?_
   obtain rfl:=os hs2
   exact lx rfl px (su1 rfl)
 ·rintro e s' H' - ⟨rfl,rfl,rfl⟩
  refine s0<|qm rfl<|qm rfl<|es (ra1 rfl)<|w_ret ?_
  obtain rfl:=os h
  exact retq trivial (rs_tmp rfl rs_nil) (ov_cons (ov_own rfl (List.length_map _)) ov_nil) (bdL_cons bd_fresh bdL_nil)
end Vn
end
section
namespace Vn
open Go Am
structure RoadsOk (t:VaTrain) (v:Nat) (rs:List Int):Prop where
 len:(rs.length:Int)=t.Stops
 lo:∀j,j < rs.length→(t.Vans[v]!.Legs[j]!).Lo≤rs[j]!
 hi:∀j,j < rs.length→rs[j]!≤(t.Vans[v]!.Legs[j]!).Hi
theorem roads_ok {t:VaTrain} (h:TOk t) (v:Nat) (hv:v < t.Vans.length) {x:List Int} (hx:N16 x):∃rs,law06_Roads t (v:Int) x=some rs∧RoadsOk t v rs:= by
 have h1:=h.stops1; have h2:=h.stops
 have hw:=h.van v hv
 have hL:=hw.legs
 unfold law06_Roads
 obtain ⟨rs,e1,e2⟩:=loop_inv (b:=law06_Roads_L1 t (v:Int) x) (fun i s=>s.1 = (i:Int)∧s.2.length = i∧∀ j,j < i→(t.Vans[v]!.Legs[j]!).Lo≤s.2[j]!∧s.2[j]!≤(t.Vans[v]!.Legs[j]!).Hi) t.Stops.toNat (RoadsOk t v) (by omega) (by
  rintro i ⟨n,l⟩ hi ⟨a1,a2,a3⟩
  simp only at a1 a2 a3
  subst a1
  unfold law06_Roads_L1
  simp only []
  have hg:=hw.leg i (by omega)
  have:=hg.lo0; have:=hg.lh; have:=hg.hi
  obtain ⟨r,e1,r0,r1⟩:=turn_eq hx i
  obtain ⟨z,e2,z0,z1⟩:=remI_eq (a:=r) (b:=(t.Vans[v]!.Legs[i]!).Hi - (t.Vans[v]!.Legs[i]!).Lo+1) r0 (by omega)
  rw [if_pos (by rw [decide_eq_true_eq]; omega),idx_get hv]
  simp only [Option.bind_some]
  rw [idx_get (show i < t.Vans[v]!.Legs.length by omega),e1]
  simp only [Option.bind_some]
  rw [w64_id (n:=(t.Vans[v]!.Legs[i]!).Hi - (t.Vans[v]!.Legs[i]!).Lo) (by omega),w64_id (n:=(t.Vans[v]!.Legs[i]!).Hi - (t.Vans[v]!.Legs[i]!).Lo+1) (by omega),e2]
  simp only [Option.bind_some]
  rw [app_ok (by omega) (by simp; omega)]
  simp only [Option.bind_some]
  rw [w64_id (n:=(i:Int)+1) (by omega),w64_id (by omega)]
  refine ⟨_,rfl,rfl,by simp; omega,?_⟩
  intro j hj
  by_cases c:j < i
  ·rw [get_app (by omega)]; exact a3 j c
  ·have:j = l.length:= by omega
   subst this
   rw [get_app_last]
   rw [a2]; omega) (by
  rintro ⟨n,l⟩ ⟨a1,a2,a3⟩
  simp only at a1 a2 a3
  subst a1
  unfold law06_Roads_L1
  simp only []
  rw [if_neg (by rw [decide_eq_true_eq]; omega)]
  exact ⟨l,rfl,by omega,fun j hj=>(a3 j (by omega)).1,fun j hj=>(a3 j (by omega)).2⟩) (0,[]) ⟨rfl,rfl,fun j hj=>by omega⟩
 rw [e1]
 exact ⟨rs,rfl,e2⟩
def sumr (rs:List Int) (n:Nat):Int:=iter (fun j a=>a+rs[j]!) n 0
theorem sumr_succ (rs:List Int) (n:Nat):sumr rs (n+1)=sumr rs n+rs[n]!:=rfl
theorem sumr_bd {t:VaTrain} {v:Nat} {rs:List Int} (hr:RoadsOk t v rs) (a:Nat):∀d,a+d≤rs.length→roadLo t v (a+d) - roadLo t v a≤sumr rs (a+d) - sumr rs a∧sumr rs (a+d) - sumr rs a≤roadHi t v (a+d) - roadHi t v a
 | 0,_=>by rw [Nat.add_zero]; omega
 | d+1,h=>by
  have ih:=sumr_bd hr a d (by omega)
  have h1:=hr.lo (a+d) (by omega)
  have h2:=hr.hi (a+d) (by omega)
  have e1:=roadLo_succ t v (a+d)
  have e2:=roadHi_succ t v (a+d)
  have e3:=sumr_succ rs (a+d)
  rw [show a+(d+1)=a+d+1 from rfl]
  omega
theorem sumr_bd0 {t:VaTrain} {v:Nat} {rs:List Int} (hr:RoadsOk t v rs) (n:Nat) (hn:n≤rs.length):roadLo t v n≤sumr rs n∧sumr rs n≤roadHi t v n:= by
 have:=sumr_bd hr 0 n (by omega)
 rw [Nat.zero_add] at this
 have e1:roadLo t v 0=0:=rfl
 have e2:roadHi t v 0=0:=rfl
 have e3:sumr rs 0=0:=rfl
 omega
def comeAt (t:VaTrain) (p:List Int) (v:Nat) (rs:List Int) (i:Nat):Int:=t.Vans[v]!.Leave+late t p v i+sumr rs (i+1)
def comes (t:VaTrain) (p:List Int) (v:Nat) (rs:List Int):List Int:=(List.range t.Stops.toNat).map (comeAt t p v rs)
theorem come_bd {t:VaTrain} {p:List Int} {v:Nat} {rs:List Int} (hr:RoadsOk t v rs) (i:Nat) (hi:(i:Int) < t.Stops):(timeAt t p v i).Lo≤comeAt t p v rs i∧comeAt t p v rs i≤(timeAt t p v i).Hi:= by
 have hl:=hr.len
 have:=sumr_bd0 hr (i+1) (by omega)
 unfold timeAt comeAt
 simp only []
 omega
theorem comes_eq {t:VaTrain} (h:TOk t) (p:List Int) (hp:p.length=t.Crates.length) (v:Nat) (hv:v < t.Vans.length) {rs:List Int} (hr:RoadsOk t v rs):law06_Comes t p (v:Int) rs=some (comes t p v rs):= by
 have h1:=h.stops1; have h2:=h.stops
 have hw:=h.van v hv
 have hlen:=hr.len
 have:=hw.leave0; have:=hw.leave
 unfold law06_Comes
 rw [idx_get hv]
 simp only [Option.bind_some]
 rw [show (t.Vans[v]!.Leave,(0:Int),([]:List Int))=(t.Vans[v]!.Leave+late t p v 0+sumr rs 0,((0:Nat):Int),(List.range 0).map (comeAt t p v rs)) by
  show _=(_+(0:Int)+(0:Int),_,_)
  rw [Int.add_zero,Int.add_zero]; rfl]
 rw [loop_seq (b:=law06_Comes_L1 t p (v:Int) rs) (fun i=>(t.Vans[v]!.Leave + late t p v i + sumr rs i,(i:Int),(List.range i).map (comeAt t p v rs))) t.Stops.toNat (r:=comes t p v rs) (by omega) (fun i hi=>by
  unfold law06_Comes_L1
  simp only []
  have b0:=late_bd h p hp v i
  have b1:=sumr_bd0 hr i (by omega)
  have b2:=road_bd h v hv i (by omega)
  have b3:=hr.lo i (by omega)
  have b4:=hr.hi i (by omega)
  have hg:=hw.leg i (by have:=hw.legs; omega)
  have:=hg.lo0; have:=hg.lh; have:=hg.hi
  have b5:=step_bd h p hp v (i:Int)
  rw [if_pos (by rw [decide_eq_true_eq]; omega),idx_get (show i < rs.length by omega)]
  simp only [Option.bind_some]
  rw [app_ok (by omega) (by simp; omega),ref06_Handled_eq h p hp]
  simp only [Option.bind_some]
  rw [w64_id (n:=t.Handle * handled t p (v:Int) (i:Int) p.length) (by omega),w64_id (n:=t.Vans[v]!.Leave+late t p v i+sumr rs i+rs[i]!) (by omega),w64_id (n:=(i:Int)+1) (by omega),w64_id (by omega)]
  rw [show t.Vans[v]!.Leave+late t p v i+sumr rs i+rs[i]! = comeAt t p v rs i by unfold comeAt; rw [sumr_succ]; omega,range_snoc (comeAt t p v rs)]
  rw [show comeAt t p v rs i+t.Handle * handled t p (v:Int) (i:Int) p.length=t.Vans[v]!.Leave+late t p v (i+1)+sumr rs (i+1) by unfold comeAt; rw [late_succ]; omega]; rfl) (by
  unfold law06_Comes_L1
  simp only []
  rw [if_neg (by rw [decide_eq_true_eq]; omega)]; rfl)]
 rfl
theorem inside_eq (n:Int) (s:Span):ref01_Inside n s=some (!out s.Lo s.Hi n):= by
 unfold ref01_Inside
 rw [within_out]; rfl
end Vn
end
section
set_option maxRecDepth 100000
set_option maxHeartbeats 0
namespace Vn
open Go Am Go.Proofs.Ytjjmechghfjbmaa.Cd
end Vn
end
section
namespace Vn
open Go Am
theorem idx_comes {t:VaTrain} (p:List Int) (v:Nat) (rs:List Int) {i:Nat} (h:(i:Int) < t.Stops):idx (comes t p v rs) (i:Int)=some (comeAt t p v rs i):= by
 unfold comes
 exact idx_range _ (by omega)
theorem idx_tmsN {t:VaTrain} (p:List Int) (v:Nat) {i:Nat} (h:(i:Int) < t.Stops):idx (tms t p v) (i:Int)=some (timeAt t p v i):= by
 unfold tms
 exact idx_range (fun (s:Nat)=>timeAt t p v s) (by omega)
end Vn
end
section
set_option maxRecDepth 100000
set_option maxHeartbeats 0
namespace Vn
open Go Am Go.Proofs.Ytjjmechghfjbmaa.Cd
def law06_span (a0:Int) (a1:Int):Option Span :=
 some (Span.mk a0 a1)
theorem ok_law06_span {c:Sc} {H:AHeap} {a0:Int} {a1:Int} {r:Span} (h:law06_span a0 a1=some r) :
  CallE tab c H (.fn (.func 39) [] []) [.i a0,.i a1] [(.agg (c_Span r))]:= by
 unfold law06_span at h
 refine cE rfl rfl<|sg 0 rfl<|ow_q o_alloc rfl<|es (ra3 rfl rfl rfl)<|s0<|qm rfl<|qm rfl<|ow_q (o_build (cs:=c_Span (Span.mk a0 a1)) rfl rfl) rfl<|ow_r (o_store (ds:=(c_Span (Span.mk a0 a1))) rfl rfl rfl rfl (okL_plain rfl) rfl) rfl<|es (ra1 rfl)<|w_ret ?_
 obtain rfl:=os h
 exact retq trivial (rs_cell (o_loadK (ds:=c_Span (Span.mk a0 a1)) rfl rfl rfl rfl) rs_nil) (ov_cons (ov_agg rfl) ov_nil) (bdL_cons (bd_agg rfl) bdL_nil)
def law06_VanTold_L1 (a0:VaTrain) (x13:(List Int)) (x15:((List Span)×Int)) (x16:((List Span)×Int)) (s21:Int):Option (Int⊕(Bool⊕Unit)) :=
 if (decide (s21 < a0.Stops))=true then
  (idx x13 s21).bind fun x24 =>
  (idx x15.1 s21).bind fun x25 =>
  (ref01_Inside x24 x25).bind fun x26 =>
  (if (!x26)=true then
  some true
  else
  (idx x15.1 s21).bind fun x28 =>
  (idx x16.1 s21).bind fun x29 =>
  some (decide (x28.Lo < x29.Lo))).bind fun x30 =>
  (if x30=true then
  some true
  else
  (idx x15.1 s21).bind fun x32 =>
  (idx x16.1 s21).bind fun x33 =>
  some (decide (x32.Hi > x33.Hi))).bind fun x34 =>
  if x34=true then
  some (.inr (.inl false))
  else
  some (.inl (w64 (s21+1)))
 else
  some (.inr (.inr ()))
def law06_VanTold (a0:VaTrain) (a1:law06_Past) (a2:(IArr 2)):Option Bool :=
 (law06_valid a0).bind fun x1 =>
 if (!x1)=true then
  (van_Told a0 ([]:List Int) 0 0 0).bind fun x3 =>
  (if (x3.2 != 0)=true then
  (law06_Awake).bind fun x5 =>
  some x5
  else
  some false).bind fun x6 =>
  some x6
 else
  (law06_Any a0 a1.Plan).bind fun x7 =>
  (idxN 2 (IArr.l a2) 0).bind fun x8 =>
  (remI (w64 x8) (List.length a0.Vans:Int)).bind fun x9 =>
  (idxN 2 (IArr.l a2) 1).bind fun x10 =>
  (remI (w64 x10) a0.Stops).bind fun x11 =>
  (law06_Roads a0 x9 a1.Roads).bind fun x12 =>
  (law06_Comes a0 x7 x9 x12).bind fun x13 =>
  (idx x13 x11).bind fun x14 =>
  (van_Told a0 x7 x9 x11 x14).bind fun x15 =>
  (van_Times a0 x7 x9).bind fun x16 =>
  if ((((x15.2 != 0) || (x16.2 != 0)) || ((List.length x15.1:Int) != a0.Stops)) || ((List.length x16.1:Int) != a0.Stops))=true then
  some false
  else
  (loop (law06_VanTold_L1 a0 x13 x15 x16) 0).bind fun (o36:(Bool⊕Unit)) =>
  match o36 with
  | (.inl vo36_0) =>
   some vo36_0
  | (.inr vo36_1) =>
   (idx x16.1 x11).bind fun x37 =>
   (van_Told a0 x7 x9 x11 (w64 (x37.Hi+1))).bind fun x38 =>
   (if (x38.2 == 8)=true then
   (idx x15.1 x11).bind fun x40 =>
   (idx x13 x11).bind fun x41 =>
   (idx x13 x11).bind fun x42 =>
   (law06_span x41 x42).bind fun x43 =>
   some ((x40.Lo == x43.Lo) && ((x40.Hi == x43.Hi) && true))
   else
   some false).bind fun x44 =>
   (if x44=true then
   (law06_Awake).bind fun x46 =>
   some x46
   else
   some false).bind fun x47 =>
   some x47
theorem ok_law06_VanTold {c:Sc} {H:AHeap} (hscv:scvB c H=true) {a0:VaTrain} {a1:law06_Past} {a2:(IArr 2)} {r:Bool} (h:law06_VanTold a0 a1 a2=some r) :
  CallE tab c H (.fn (.func 11) [] []) [(.agg (c_VaTrain a0)),(.agg (c_law06_Past a1)),(.agg ((cA .u8) a2))] [.b r]:= by
 unfold law06_VanTold at h
 refine cE rfl rfl<|sg 0 rfl<|ow_q (o_box (cs:=c_VaTrain a0) rfl rfl rfl) rfl<|ow_q (o_box (cs:=c_law06_Past a1) rfl rfl rfl) rfl<|ow_q (o_boxA rfl) rfl<|qm rfl<|es (ra3 rfl rfl rfl)<|w_seq<|s0<|oB h fun x1 hx1 h=>ow_q (o_loadW rfl rfl rfl) rfl<|ow_call (rs:=[.b x1]) rfl rfl (fa_cons (fa_agg rfl) fa_nil) ((ok_law06_valid hx1).frz)<|ow_q (u_not rfl) rfl<|es (ra4 rfl rfl rfl rfl)<|wi h rfl (fun hc2 h=>?_) fun hc2 h=>?_
 ·refine s0<|oB h fun x3 hx3 h=>ow_q (o_loadW rfl rfl rfl) rfl<|ow_call (rs:=[(.seq 2 (List.map c_Span x3.1)),.i x3.2]) rfl rfl (fa_cons (fa_agg rfl) (fa_cons rfl (fa_cons rfl (fa_cons rfl (fa_cons rfl fa_nil))))) (ok_van_Told hx3)<|qm rfl<|ow_q (o_extract rfl rfl) rfl<|ow_q (o_extract rfl rfl) rfl<|qm rfl<|qm rfl<|es (ra1 rfl)<|s0<|oB h fun x6 hx6 h=>qm rfl<|ow_q (b_neq rfl rfl) rfl<|qm rfl<|gp 2 32 (.b x6) 30 rfl rfl (fun hg4=>?_) (fun hg4=>?_) ?_
  ·refine oB (bt hx6 hg4) fun x5 hx5 hx6=>?_
   obtain rfl:=os hx6
   exact gT rfl hg4<|ow_call (rs:=[.b x5]) rfl rfl fa_nil ((ok_law06_Awake (scvA hscv) hx5).frz)<|ow_q (o_pickT rfl hg4 rfl) rfl<|ge 2 rfl rfl rfl
  ·obtain rfl:=os (bf hx6 hg4)
   exact ow_noW (wanted_no rfl (by rw [hg4]; rfl)) rfl<|ow_q (o_pickF rfl hg4 rfl) rfl<|ge 2 rfl rfl rfl
  refine qm rfl<|es (ra1 rfl)<|w_ret ?_
  obtain rfl:=os h
  exact retq trivial (rs_tmp rfl rs_nil) (ov_cons rfl ov_nil) (bdL_cons bd_lit bdL_nil)
 ·refine w_skip<|s0<|oB h fun x7 hx7 h=>oB h fun x8 hx8 h=>oB h fun x9 hx9 h=>oB h fun x10 hx10 h=>oB h fun x11 hx11 h=>ow_q (o_loadW rfl rfl rfl) rfl<|ow_q (o_faP rfl) rfl<|ow_q (o_load rfl rfl rfl) rfl<|ow_callP (rs:=[(.seq 1 (List.map cI x7))]) rfl rfl (pa_cons rfl (pa_cons rfl pa_nil)) (fa_cons (fa_agg rfl) (fa_cons rfl fa_nil)) ((ok_law06_Any hx7).frz)<|ow_q (o_idxPA rfl rfl hx8) rfl<|ow_q (o_loadPA rfl rfl hx8) rfl<|ow_q (o_conv rfl) rfl<|ow_q (o_faP rfl) rfl<|ow_q (o_load rfl rfl rfl) rfl<|ow_q (o_lenL (f:=c_VaVan) rfl) rfl<|ow_q (o_rem rfl rfl hx9) rfl<|ow_q (o_idxPA rfl rfl hx10) rfl<|ow_q (o_loadPA rfl rfl hx10) rfl<|ow_q (o_conv rfl) rfl<|ow_q (o_faP rfl) rfl<|ow_q (o_load rfl rfl rfl) rfl<|ow_q (o_rem rfl rfl hx11) rfl<|qm rfl<|qm rfl<|qm rfl<|es (ra5 rfl rfl rfl rfl rfl)<|s0<|oB h fun x12 hx12 h=>oB h fun x13 hx13 h=>ow_q (o_loadW rfl rfl rfl) rfl<|qm rfl<|qm rfl<|ow_q (o_loadW rfl rfl rfl) rfl<|qm rfl<|ow_q (o_faP rfl) rfl<|ow_q (o_load rfl rfl rfl) rfl<|ow_callP (rs:=[(.seq 1 (List.map cI x12))]) rfl rfl (pa_cons rfl (pa_cons rfl (pa_cons rfl pa_nil))) (fa_cons (fa_agg rfl) (fa_cons rfl (fa_cons rfl fa_nil))) ((ok_law06_Roads hx12).frz)<|ow_call (rs:=[(.seq 1 (List.map cI x13))]) rfl rfl (fa_cons (fa_agg rfl) (fa_cons rfl (fa_cons rfl (fa_cons rfl fa_nil)))) ((ok_law06_Comes hx13).frz)<|qm rfl<|es (ra5 rfl rfl rfl rfl rfl)<|s0<|oB h fun x14 hx14 h=>oB h fun x15 hx15 h=>ow_q (o_loadW rfl rfl rfl) rfl<|qm rfl<|qm rfl<|qm rfl<|qm rfl<|qm rfl<|ow_q (o_idxS (f:=cI) rfl rfl hx14) rfl<|ow_q (o_loadC rfl rfl) rfl<|ow_call (rs:=[(.seq 2 (List.map c_Span x15.1)),.i x15.2]) rfl rfl (fa_cons (fa_agg rfl) (fa_cons rfl (fa_cons rfl (fa_cons rfl (fa_cons rfl fa_nil))))) (ok_van_Told hx15)<|qm rfl<|ow_q (o_extract rfl rfl) rfl<|ow_q (o_extract rfl rfl) rfl<|qm rfl<|qm rfl<|es (ra7 rfl rfl rfl rfl rfl rfl rfl)<|s0 ?_
  refine oB h fun x16 hx16 h=>ow_q (o_loadW rfl rfl rfl) rfl<|qm rfl<|qm rfl<|ow_call (rs:=[(.seq 2 (List.map c_Span x16.1)),.i x16.2]) rfl rfl (fa_cons (fa_agg rfl) (fa_cons rfl (fa_cons rfl fa_nil))) ((ok_van_Times hx16).frz)<|qm rfl<|ow_q (o_extract rfl rfl) rfl<|ow_q (o_extract rfl rfl) rfl<|qm rfl<|qm rfl<|es (ra9 rfl rfl rfl rfl rfl rfl rfl rfl rfl)<|w_seq<|s0<|qm rfl<|ow_q (b_neq rfl rfl) rfl<|qm rfl<|gp 3 83 (.b ((x15.2 != 0) || (x16.2 != 0))) 80 rfl rfl (fun hg17=>?_) (fun hg17=>?_) ?_
  ·exact nF rfl hg17 rfl<|nF rfl hg17 rfl<|ow_q (o_pickT rfl hg17 rfl) rfl<|ge 3 (by rw [hg17]; rfl) rfl rfl
  ·exact gF rfl hg17<|qm rfl<|gF rfl hg17<|ow_q (b_neq rfl rfl) rfl<|ow_q (o_pickF rfl hg17 rfl) rfl<|ge 3 (by rw [hg17]; rfl) rfl rfl
  refine qm rfl<|gp 6 90 (.b (((x15.2 != 0) || (x16.2 != 0)) || ((List.length x15.1:Int) != a0.Stops))) 84 rfl rfl (fun hg18=>?_) (fun hg18=>?_) ?_
  ·exact nF rfl hg18 rfl<|nF rfl hg18 rfl<|nF rfl hg18 rfl<|nF rfl hg18 rfl<|nF rfl hg18 rfl<|ow_q (o_pickT rfl hg18 rfl) rfl<|ge 6 (by rw [hg18]; rfl) rfl rfl
  ·exact gF rfl hg18<|qm rfl<|gF rfl hg18<|ow_q (o_lenL (f:=c_Span) rfl) rfl<|gF rfl hg18<|ow_q (o_faP rfl) rfl<|gF rfl hg18<|ow_q (o_load rfl rfl rfl) rfl<|gF rfl hg18<|ow_q (b_neq rfl rfl) rfl<|ow_q (o_pickF rfl hg18 rfl) rfl<|ge 6 (by rw [hg18]; rfl) rfl rfl
  refine qm rfl<|gp 6 97 (.b ((((x15.2 != 0) || (x16.2 != 0)) || ((List.length x15.1:Int) != a0.Stops)) || ((List.length x16.1:Int) != a0.Stops))) 91 rfl rfl (fun hg19=>?_) (fun hg19=>?_) ?_
  ·exact nF rfl hg19 rfl<|nF rfl hg19 rfl<|nF rfl hg19 rfl<|nF rfl hg19 rfl<|nF rfl hg19 rfl<|ow_q (o_pickT rfl hg19 rfl) rfl<|ge 6 (by rw [hg19]; rfl) rfl rfl
  ·exact gF rfl hg19<|qm rfl<|gF rfl hg19<|ow_q (o_lenL (f:=c_Span) rfl) rfl<|gF rfl hg19<|ow_q (o_faP rfl) rfl<|gF rfl hg19<|ow_q (o_load rfl rfl rfl) rfl<|gF rfl hg19<|ow_q (b_neq rfl rfl) rfl<|ow_q (o_pickF rfl hg19 rfl) rfl<|ge 6 (by rw [hg19]; rfl) rfl rfl
  refine es (ra8 rfl rfl rfl rfl rfl rfl rfl rfl)<|wi h rfl (fun hc20 h=>?_) fun hc20 h=>?_
  ·refine s0<|qm rfl<|es (ra1 rfl)<|w_ret ?_
   obtain rfl:=os h
   exact retq trivial (rs_tmp rfl rs_nil) (ov_cons rfl ov_nil) (bdL_cons bd_lit bdL_nil)
  ·refine w_skip<|w_seq<|s0<|qm rfl<|es (ra8 rfl rfl rfl rfl rfl rfl rfl rfl)<|w_block<|oB h fun o36 ho36 h=>wl (fun s21=>[(3,(.ptr (H.length + 0) 0)),(9,(.seq 1 (List.map cI x7))),(10,.i x9),(11,.i x11),(12,(.seq 1 (List.map cI x13))),(13,(.seq 2 (List.map c_Span x15.1))),(15,(.seq 2 (List.map c_Span x16.1))),(17,.i s21)]) (fun (q22:Unit) s21=>[(.cells (c_VaTrain a0)),(.cells (c_law06_Past a1)),(.cells ((cA .u8) a2))]) 3 (fun r e s' H'=>(match r with | (.inl v)=>e = .ret∧RetQ H [.tmp 6] [.b v] e s' H' | (.inr v)=>PX 0 [(3,(.ptr (H.length + 0) 0)),(9,(.seq 1 (List.map cI x7))),(10,.i x9),(11,.i x11),(12,(.seq 1 (List.map cI x13))),(13,(.seq 2 (List.map c_Span x15.1))),(15,(.seq 2 (List.map c_Span x16.1)))] (H++[(.cells (c_VaTrain a0)),(.cells (c_law06_Past a1)),(.cells ((cA .u8) a2))]) e s' H':Prop)) () ho36 rfl rfl (fun _ _=>rfl) (fun _=>rfl) rfl (fun s21=>(bdc (bd_ptr rfl) (bdc bd_seq (bdc bd_lit (bdc bd_lit (bdc bd_seq (bdc bd_seq (bdc bd_seq (bdc bd_lit bdn))))))))) (fun q22 s21 ys21 hs21=>?_) ?_
   ·unfold law06_VanTold_L1 at hs21
    refine w_seq<|s0<|qm rfl<|ow_q (o_faP rfl) rfl<|ow_q (o_load rfl rfl rfl) rfl<|ow_q (b_lss rfl rfl) rfl<|es (ra9 rfl rfl rfl rfl rfl rfl rfl rfl rfl)<|wi hs21 rfl (fun hc23 hs21=>?_) fun hc23 hs21=>?_
    ·refine w_skip<|w_seq<|w_block<|s0<|oB hs21 fun x24 hx24 hs21=>oB hs21 fun x25 hx25 hs21=>oB hs21 fun x26 hx26 hs21=>oB hs21 fun x30 hx30 hs21=>oB hs21 fun x34 hx34 hs21=>qm rfl<|qm rfl<|ow_q (o_idxS (f:=cI) rfl rfl hx24) rfl<|ow_q (o_loadC rfl rfl) rfl<|qm rfl<|qm rfl<|ow_q (o_idxS (f:=c_Span) rfl rfl hx25) rfl<|ow_q (o_loadCW rfl rfl) rfl<|ow_call (rs:=[.b x26]) rfl rfl (fa_cons rfl (fa_cons (fa_agg rfl) fa_nil)) ((ok_ref01_Inside hx26).frz)<|ow_q (u_not rfl) rfl<|qm rfl<|gp 12 126 (.b x30) 114 rfl rfl (fun hg27=>?_) (fun hg27=>?_) ?_
     ·obtain rfl:=os (bt hx30 hg27)
      exact nF rfl hg27 rfl<|nF rfl hg27 rfl<|nF rfl hg27 rfl<|nF rfl hg27 rfl<|nF rfl hg27 rfl<|nF rfl hg27 rfl<|nF rfl hg27 rfl<|nF rfl hg27 rfl<|nF rfl hg27 rfl<|nF rfl hg27 rfl<|nF rfl hg27 rfl<|ow_q (o_pickT rfl hg27 rfl) rfl<|ge 12 rfl rfl rfl
     ·refine oB (bf hx30 hg27) fun x28 hx28 hx30=>oB hx30 fun x29 hx29 hx30=>?_
      obtain rfl:=os hx30
      exact gF rfl hg27<|qm rfl<|gF rfl hg27<|qm rfl<|gF rfl hg27<|ow_q (o_idxS (f:=c_Span) rfl rfl hx28) rfl<|gF rfl hg27<|ow_q (o_faC (ds:=(c_Span x28)) rfl rfl) rfl<|gF rfl hg27<|ow_q (o_loadC rfl rfl) rfl<|gF rfl hg27<|qm rfl<|gF rfl hg27<|qm rfl<|gF rfl hg27<|ow_q (o_idxS (f:=c_Span) rfl rfl hx29) rfl<|gF rfl hg27<|ow_q (o_faC (ds:=(c_Span x29)) rfl rfl) rfl<|gF rfl hg27<|ow_q (o_loadC rfl rfl) rfl<|gF rfl hg27<|ow_q (b_lss rfl rfl) rfl<|ow_q (o_pickF rfl hg27 rfl) rfl<|ge 12 rfl rfl rfl
     refine qm rfl<|gp 12 139 (.b x34) 127 rfl rfl (fun hg31=>?_) (fun hg31=>?_) ?_
     ·obtain rfl:=os (bt hx34 hg31)
      exact nF rfl hg31 rfl<|nF rfl hg31 rfl<|nF rfl hg31 rfl<|nF rfl hg31 rfl<|nF rfl hg31 rfl<|nF rfl hg31 rfl<|nF rfl hg31 rfl<|nF rfl hg31 rfl<|nF rfl hg31 rfl<|nF rfl hg31 rfl<|nF rfl hg31 rfl<|ow_q (o_pickT rfl hg31 rfl) rfl<|ge 12 rfl rfl rfl
     ·refine oB (bf hx34 hg31) fun x32 hx32 hx34=>oB hx34 fun x33 hx33 hx34=>?_
      obtain rfl:=os hx34
      exact gF rfl hg31<|qm rfl<|gF rfl hg31<|qm rfl<|gF rfl hg31<|ow_q (o_idxS (f:=c_Span) rfl rfl hx32) rfl<|gF rfl hg31<|ow_q (o_faC (ds:=(List.drop 1 (c_Span x32))) rfl rfl) rfl<|gF rfl hg31<|ow_q (o_loadC rfl rfl) rfl<|gF rfl hg31<|qm rfl<|gF rfl hg31<|qm rfl<|gF rfl hg31<|ow_q (o_idxS (f:=c_Span) rfl rfl hx33) rfl<|gF rfl hg31<|ow_q (o_faC (ds:=(List.drop 1 (c_Span x33))) rfl rfl) rfl<|gF rfl hg31<|ow_q (o_loadC rfl rfl) rfl<|gF rfl hg31<|ow_q (b_gtr rfl rfl) rfl<|ow_q (o_pickF rfl hg31 rfl) rfl<|ge 12 rfl rfl rfl
     refine es (ra9 rfl rfl rfl rfl rfl rfl rfl rfl rfl)<|wi hs21 rfl (fun hc35 hs21=>?_) fun hc35 hs21=>?_
     ·refine s0<|qm rfl<|es (ra1 rfl)<|w_ret ?_
      obtain rfl:=os hs21
      exact lx rfl (And.intro rfl (retq trivial (rs_tmp rfl rs_nil) (ov_cons rfl ov_nil) (bdL_cons bd_lit bdL_nil))) (Sub.refl _)
     ·refine w_skip<|r0<|qm rfl<|ow_q (b_add rfl rfl) rfl<|qm rfl<|en (ra8 rfl rfl rfl rfl rfl rfl rfl rfl) ?_
      cases hs21
      exact lnT () rfl (su8 rfl rfl rfl rfl rfl rfl rfl rfl)
    ·refine w_exit ?_
     obtain rfl:=os hs21
     exact lx rfl px (su7 rfl rfl rfl rfl rfl rfl rfl)
   ·rcases o36 with vo36_0 | vo36_1
    ·rintro e s' H' - ⟨rfl,hret⟩
     cases h
     exact hret
    ·rintro e s' H' - ⟨rfl,rfl,rfl⟩
     refine s0<|oB h fun x37 hx37 h=>oB h fun x38 hx38 h=>ow_q (o_loadW rfl rfl rfl) rfl<|qm rfl<|qm rfl<|qm rfl<|qm rfl<|qm rfl<|ow_q (o_idxS (f:=c_Span) rfl rfl hx37) rfl<|ow_q (o_faC (ds:=(List.drop 1 (c_Span x37))) rfl rfl) rfl<|ow_q (o_loadC rfl rfl) rfl<|ow_q (b_add rfl rfl) rfl<|ow_call (rs:=[(.seq 2 (List.map c_Span x38.1)),.i x38.2]) rfl rfl (fa_cons (fa_agg rfl) (fa_cons rfl (fa_cons rfl (fa_cons rfl (fa_cons rfl fa_nil))))) (ok_van_Told hx38)<|qm rfl<|ow_q (o_extract rfl rfl) rfl<|ow_q (o_extract rfl rfl) rfl<|qm rfl<|qm rfl<|es (ra4 rfl rfl rfl rfl)<|s0<|oB h fun x44 hx44 h=>oB h fun x47 hx47 h=>qm rfl<|ow_q (b_eql rfl rfl) rfl<|qm rfl<|gp 15 171 (.b x44) 156 rfl rfl (fun hg39=>?_) (fun hg39=>?_) ?_
     ·refine oB (bt hx44 hg39) fun x40 hx40 hx44=>oB hx44 fun x41 hx41 hx44=>oB hx44 fun x42 hx42 hx44=>oB hx44 fun x43 hx43 hx44=>?_
      obtain rfl:=os hx44
      exact gT rfl hg39<|qm rfl<|gT rfl hg39<|qm rfl<|gT rfl hg39<|ow_q (o_idxS (f:=c_Span) rfl rfl hx40) rfl<|gT rfl hg39<|ow_q (o_loadCW rfl rfl) rfl<|gT rfl hg39<|qm rfl<|gT rfl hg39<|qm rfl<|gT rfl hg39<|ow_q (o_idxS (f:=cI) rfl rfl hx41) rfl<|gT rfl hg39<|ow_q (o_loadC rfl rfl) rfl<|gT rfl hg39<|qm rfl<|gT rfl hg39<|qm rfl<|gT rfl hg39<|ow_q (o_idxS (f:=cI) rfl rfl hx42) rfl<|gT rfl hg39<|ow_q (o_loadC rfl rfl) rfl<|gT rfl hg39<|ow_callP (rs:=[(.agg (c_Span x43))]) rfl rfl (pa_cons rfl (pa_cons rfl pa_nil)) (fa_cons rfl (fa_cons rfl fa_nil)) ((ok_law06_span hx43).frz)<|gT rfl hg39<|ow_q (o_cmpP (a:=c_Span x40) (b:=c_Span x43) rfl rfl rfl rfl (eql_int (eql_int eql_nil))) rfl<|ow_q (o_pickT rfl hg39 rfl) rfl<|ge 15 rfl rfl rfl
     ·obtain rfl:=os (bf hx44 hg39)
      exact nT rfl hg39 rfl<|nT rfl hg39 rfl<|nT rfl hg39 rfl<|nT rfl hg39 rfl<|nT rfl hg39 rfl<|nT rfl hg39 rfl<|nT rfl hg39 rfl<|nT rfl hg39 rfl<|nT rfl hg39 rfl<|nT rfl hg39 rfl<|nT rfl hg39 rfl<|nT rfl hg39 rfl<|nT rfl hg39 rfl<|nT rfl hg39 rfl<|ow_q (o_pickF rfl hg39 rfl) rfl<|ge 15 rfl rfl rfl
     refine qm rfl<|gp 2 174 (.b x47) 172 rfl rfl (fun hg45=>?_) (fun hg45=>?_) ?_
     ·refine oB (bt hx47 hg45) fun x46 hx46 hx47=>?_
      obtain rfl:=os hx47
      exact gT rfl hg45<|ow_call (rs:=[.b x46]) rfl rfl fa_nil ((ok_law06_Awake (scvA hscv) hx46).frz)<|ow_q (o_pickT rfl hg45 rfl) rfl<|ge 2 rfl rfl rfl
     ·obtain rfl:=os (bf hx47 hg45)
      exact ow_noW (wanted_no rfl (by rw [hg45]; rfl)) rfl<|ow_q (o_pickF rfl hg45 rfl) rfl<|ge 2 rfl rfl rfl
     refine qm rfl<|es (ra1 rfl)<|w_ret ?_
     obtain rfl:=os h
     exact retq trivial (rs_tmp rfl rs_nil) (ov_cons rfl ov_nil) (bdL_cons bd_lit bdL_nil)
end Vn
end
section
namespace Vn
open Go Am
theorem told_in {t:VaTrain} (p:List Int) (v:Nat) {rs:List Int} (hr:RoadsOk t v rs) (s:Nat) (hs:(s:Int) < t.Stops) (i:Nat) (hi:(i:Int) < t.Stops) :
  (toldAt t p v s (comeAt t p v rs s) i).Lo≤comeAt t p v rs i∧comeAt t p v rs i≤(toldAt t p v s (comeAt t p v rs s) i).Hi:= by
 have hl:=hr.len
 have hb:=come_bd (p:=p) hr i hi
 unfold toldAt
 simp only []
 by_cases c:i≤s
 ·have:=sumr_bd hr (i + 1) (s - i) (by omega)
  rw [show i+1+(s - i)=s+1 by omega] at this
  rw [show max (i+1) (s+1)=s+1 by omega,show max (s+1) (i+1)=s+1 by omega]
  unfold comeAt at hb ⊢
  omega
 ·have:=sumr_bd hr (s + 1) (i - s) (by omega)
  rw [show s+1+(i - s)=i+1 by omega] at this
  rw [show max (i+1) (s+1)=i+1 by omega,show max (s+1) (i+1)=i+1 by omega]
  unfold comeAt at hb ⊢
  omega
theorem told_narrow (t:VaTrain) (p:List Int) (v s:Nat) (m:Int) (i:Nat):(timeAt t p v i).Lo≤(toldAt t p v s m i).Lo∧(toldAt t p v s m i).Hi≤(timeAt t p v i).Hi:= by
 unfold toldAt
 simp only []
 omega
def B8 (a:IArr 2):Prop:=∀ x ∈ a.l,0≤x∧x < 256
theorem arr2 (a:IArr 2) (h:B8 a):∃x y,idxN 2 a.l 0=some x∧idxN 2 a.l 1=some y∧(0≤x∧x < 256)∧(0≤y∧y < 256):= by
 obtain ⟨l,hl⟩:=a
 match l,hl with
 | [x,y],_=>exact ⟨x,y,rfl,rfl,h x (by simp),h y (by simp)⟩
theorem vanTold_true {t:VaTrain} (hN:NB t) {x:law06_Past} (hx:N16 x.Plan∧N16 x.Roads) {y:IArr 2} (hy:B8 y):law06_VanTold t x y=some true:= by
 unfold law06_VanTold
 rw [valid_eq]
 simp only [Option.bind_some]
 by_cases c:(check t).2.2=0
 ·have h:=check_ok c
  have hv:=h.vans; have hv1:=h.vans1; have h1:=h.stops1; have h2:=h.stops
  rw [c]
  simp only [beq_self_eq_true,Bool.not_true,Bool.false_eq_true,if_false]
  obtain ⟨p,e1,hP⟩:=any_ok h hx.1
  have hp:=hP.len
  have hc:=plan_tp c hP
  obtain ⟨a,b,ea,eb,ha,hb⟩:=arr2 y hy
  rw [e1,ea,eb]
  simp only [Option.bind_some]
  rw [w64_id (n:=a) (by omega),w64_id (n:=b) (by omega)]
  obtain ⟨v,ev,v0,v1⟩:=remI_eq (a:=a) (b:=(t.Vans.length:Int)) ha.1 (by omega)
  obtain ⟨s,es,s0,s1⟩:=remI_eq (a:=b) (b:=t.Stops) hb.1 (by omega)
  rw [ev,es]
  simp only [Option.bind_some]
  obtain ⟨v,rfl⟩:∃n:Nat,v=(n:Int):=⟨v.toNat,by omega⟩
  obtain ⟨s,rfl⟩:∃n:Nat,s=(n:Int):=⟨s.toNat,by omega⟩
  have hvn:v < t.Vans.length:= by omega
  obtain ⟨rs,e2,hr⟩:=roads_ok h v hvn hx.2
  rw [e2]
  simp only [Option.bind_some]
  rw [comes_eq h p hp v hvn hr]
  simp only [Option.bind_some]
  rw [idx_comes p v rs s1]
  simp only [Option.bind_some]
  have hcb:=come_bd (p:=p) hr s s1
  have hpc:pcode t p (v:Int) t.Vans.length=0:= by
   have:out 0 ((t.Vans.length:Int) - 1) (v:Int)=false:=out_in.mpr ⟨by omega,by omega⟩
   rw [pcode_tp,hc,this]; rfl
  have htc:tcode t p (v:Int) (s:Int) (comeAt t p v rs s)=0:= by
   unfold tcode
   rw [hc,out_in.mpr ⟨by omega,by omega⟩,out_in.mpr ⟨by omega,by omega⟩,show out (timeAt t p (v:Int).toNat (s:Int).toNat).Lo (timeAt t p (v:Int).toNat (s:Int).toNat).Hi (comeAt t p v rs s)=false from out_in.mpr hcb]; rfl
  have hl1:((told t p v s (comeAt t p v rs s)).length:Int)=t.Stops:= by unfold told; rw [List.length_map,List.length_range]; omega
  have hl2:((tms t p v).length:Int)=t.Stops:= by unfold tms; rw [List.length_map,List.length_range]; omega
  rw [van_Told_eq hN,htc,van_Times_eq hN,hpc]
  simp only [beq_self_eq_true,if_true,Option.bind_some,Int.toNat_natCast]
  rw [hl1,hl2]
  simp only [bne_self_eq_false,Bool.or_self,Bool.false_eq_true,if_false]
  have it:∀i:Nat,(i:Int) < t.Stops→idx (told t p v s (comeAt t p v rs s)) (i:Int)=some (toldAt t p v s (comeAt t p v rs s) i):= by
   intro i hi
   unfold told
   exact idx_range _ (by omega)
  rw [loop_ix (b:=law06_VanTold_L1 t (comes t p v rs) (told t p v s (comeAt t p v rs s),0) (tms t p v,0)) t.Stops.toNat (fun _=>none) (.inr ()) (by omega) (fun i hi _=>by
   unfold law06_VanTold_L1
   have hin:=told_in p v hr s s1 i (by omega)
   have hna:=told_narrow t p v s (comeAt t p v rs s) i
   rw [if_pos (by rw [decide_eq_true_eq]; omega),idx_comes p v rs (by omega),it i (by omega)]
   simp only [Option.bind_some]
   rw [inside_eq,out_in.mpr hin,idx_tmsN p v (by omega)]
   simp only [Option.bind_some,Bool.not_false,Bool.not_true,Bool.false_eq_true,if_false]
   rw [if_neg (by rw [decide_eq_true_eq]; omega)]
   simp only [Option.bind_some]
   rw [if_neg (by rw [decide_eq_true_eq]; omega)]) (by
   unfold law06_VanTold_L1
   rw [if_neg (by rw [decide_eq_true_eq]; omega)]),first_none.mpr fun _ _=>rfl]
  simp only [Option.map_none,Option.getD_none,Option.bind_some]
  have hb':=time_bd h p hp v hvn s s1
  rw [idx_tmsN p v s1]
  simp only [Option.bind_some]
  have htc2:tcode t p (v:Int) (s:Int) (w64 ((timeAt t p v s).Hi+1))=8:= by
   unfold tcode
   rw [hc,out_in.mpr ⟨by omega,by omega⟩,out_in.mpr ⟨by omega,by omega⟩,w64_id (by omega)]
   have:out (timeAt t p (v:Int).toNat (s:Int).toNat).Lo (timeAt t p (v:Int).toNat (s:Int).toNat).Hi ((timeAt t p v s).Hi+1)=true:= by
    show out (timeAt t p v s).Lo (timeAt t p v s).Hi ((timeAt t p v s).Hi+1)=true
    unfold out
    rw [Bool.or_eq_true,decide_eq_true_eq,decide_eq_true_eq]; omega
   rw [this]; rfl
  rw [van_Told_eq hN,htc2]
  simp only [Option.bind_some]
  rw [it s s1,told_here hcb]
  have e8:((8:Int) == 0)=false:=rfl
  simp only [e8,Bool.false_eq_true,if_false,beq_self_eq_true,if_true,Option.bind_some,law06_span,Bool.and_self,law06_Awake]
 ·have e:((check t).2.2 == 0) = false:=beq_eq_false_iff_ne.mpr c
  rw [e]
  simp only [Bool.not_false,if_true]
  have e2:tpCode t []=(check t).2.2:= by unfold tpCode; rw [e]; rfl
  have e3:tcode t [] 0 0 0=(check t).2.2:= by unfold tcode; rw [e2,e]; rfl
  rw [van_Told_eq hN,e3,e]
  simp only [Bool.false_eq_true,if_false,Option.bind_some]
  rw [if_pos (bne_iff_ne.mpr c)]
  simp [law06_Awake]
theorem wf_u16 {n:Int} (h:(Lit.int .u16 n).wf=true):0≤n∧n < 65536:= by
 rw [Lit.wf,Bool.and_eq_true,decide_eq_true_eq,decide_eq_true_eq] at h
 have h1:IntKind.u16.min=0:=rfl
 have h2:IntKind.u16.max=65535:=rfl
 omega
theorem of_u16 (r:List AV) (h:SatL [.int .u16] r):∃x:Int,r=cIu16 x∧(0≤x∧x < 65536):= by
 simp only [SatL,Sat] at h
 obtain ⟨x1,q1,rfl,⟨n1,rfl,hw⟩,rfl⟩:=h
 exact ⟨n1,rfl,wf_u16 hw⟩
theorem of_u16s (r:List AV) (h:SatL [.seq 1 [.int .u16]] r):∃xs:List Int,r=[.seq 1 (xs.map cIu16)]∧N16 xs:= by
 rw [SatL] at h; obtain ⟨x,q1,rfl,hx,hq⟩:=h
 rw [SatL] at hq; subst hq
 simp only [Sat] at hx
 obtain ⟨rows,rfl,hl,hr⟩:=hx
 obtain ⟨xs,rfl,hlen,hq⟩:=sat_rows of_u16 rows hr
 simp only [maxLen] at hl
 exact ⟨xs,rfl,by omega,hq⟩
theorem of_Past (r:List AV) (h:SatL [.seq 1 [.int .u16],.seq 1 [.int .u16]] r):∃x:law06_Past,r=c_law06_Past x∧(N16 x.Plan∧N16 x.Roads):= by
 rw [SatL] at h; obtain ⟨x,q1,rfl,hx,h⟩:=h
 rw [SatL] at h; obtain ⟨y,q2,rfl,hy,h⟩:=h
 rw [SatL] at h; subst h
 obtain ⟨xs,e1,h1⟩:=of_u16s [x] (by rw [SatL]; exact ⟨x,[],rfl,hx,by rw [SatL]⟩)
 obtain ⟨ys,e2,h2⟩:=of_u16s [y] (by rw [SatL]; exact ⟨y,[],rfl,hy,by rw [SatL]⟩)
 obtain rfl:x=_:=List.head_eq_of_cons_eq e1
 obtain rfl:y=_:=List.head_eq_of_cons_eq e2
 exact ⟨⟨xs,ys⟩,rfl,h1,h2⟩
theorem wf_u8 {n:Int} (h:(Lit.int .u8 n).wf=true):0≤n∧n < 256:= by
 rw [Lit.wf,Bool.and_eq_true,decide_eq_true_eq,decide_eq_true_eq] at h
 have h1:IntKind.u8.min=0:=rfl
 have h2:IntKind.u8.max=255:=rfl
 omega
theorem of_B8 (r:List AV) (h:SatL [.int .u8,.int .u8] r):∃x:IArr 2,r=cA .u8 x∧B8 x:= by
 simp only [SatL,Sat] at h
 obtain ⟨x1,q1,rfl,⟨n1,rfl,h1⟩,x2,q2,rfl,⟨n2,rfl,h2⟩,rfl⟩:=h
 refine ⟨⟨[n1,n2],rfl⟩,rfl,?_⟩
 intro z hz
 rcases List.mem_cons.mp hz with rfl | hz
 ·exact wf_u8 h1
 ·rcases List.mem_cons.mp hz with rfl | hz
  ·exact wf_u8 h2
  ·cases hz
end Vn
end
