/- Texts that the claim stands on, one behind another. -/
import Derived.Test.YtjjmechghfjbmaaA6
import Derived.Laws.RangeAny
import Derived.KernelRfl
set_option linter.unusedVariables false
set_option linter.unusedSimpArgs false
set_option linter.unnecessarySimpa false
section
namespace Vn
open Go Am
instance:Inhabited Span:=⟨⟨0,0⟩⟩
instance:Inhabited VaVan:=⟨⟨ByteArray.empty,0,0,[]⟩⟩
instance:Inhabited VaCrate:=⟨⟨ByteArray.empty,0,0,0⟩⟩
instance:Inhabited VaPair:=⟨⟨0,0⟩⟩
def D6r (s:ByteArray) (i:Nat):Bool :=
 !(decide (97≤s[i]!.toNat) && decide (s[i]!.toNat≤122)) && (i == 0 || !((decide (48≤s[i]!.toNat) && decide (s[i]!.toNat≤57)) || s[i]!.toNat == 46))
def bad (s:ByteArray) (i:Nat):Option Unit:=if D6r s i then some () else none
def B3l (s:ByteArray):Bool:=(!(s.size == 0) && decide (s.size≤16)) && (first (bad s) s.size).isNone
theorem nd97 {x:Nat}:decide ((97:Int)≤(x:Int)) = decide (97≤x):=decide_eq_decide.mpr (by omega)
theorem nd122 {x:Nat}:decide ((x:Int)≤122) = decide (x≤122):=decide_eq_decide.mpr (by omega)
theorem nd48 {x:Nat}:decide ((48:Int)≤(x:Int)) = decide (48≤x):=decide_eq_decide.mpr (by omega)
theorem nd57 {x:Nat}:decide ((x:Int)≤57) = decide (x≤57):=decide_eq_decide.mpr (by omega)
theorem nl48 {x:Nat}:decide ((x:Int) < 48) = !decide (48≤x):= by rw [Bool.eq_iff_iff]; simp; omega
theorem nl57 {x:Nat}:decide ((57:Int) < (x:Int)) = !decide (x≤57):= by rw [Bool.eq_iff_iff]; simp; omega
theorem nz0 {x:Nat}:((x:Int) == 0) = (x == 0):= by rw [Bool.eq_iff_iff]; simp
theorem n46 {x:Nat}:((x:Int) == 46) = (x == 46):= by rw [Bool.eq_iff_iff]; simp; omega
theorem n46' {x:Nat}:((x:Int) == 46) = (x == 46):=n46
theorem D6d {s:ByteArray} {i:Nat} (h:i < s.size):C4x s (i:Int) = some (s[i]!.toNat:Int):= by
 unfold C4x
 rw [if_pos (Int.natCast_nonneg i),Int.toNat_natCast,getElem?_pos s i h,getElem!_pos s i h]; rfl
theorem C50 (s:ByteArray):B0u s = some (B3l s):= by
 unfold B0u B3l
 by_cases h0:s.size = 0
 ·rw [if_pos (by simp [h0])]; simp [h0]
 by_cases h1:s.size > 16
 ·rw [if_pos (by simp; omega)]
  have:decide (s.size≤16) = false:= by simp; omega
  rw [this]; simp
 rw [if_neg (by simp only [Bool.or_eq_true,beq_iff_eq,decide_eq_true_eq]; omega)]
 have hl:loop (A51 s) 0 = some ((first (fun i=>(bad s i).map fun _=>(Sum.inl false:Bool ⊕ Unit)) s.size).getD (.inr ())):= by
  refine R3 s.size _ _ (by omega) ?_ ?_
  ·intro i hi _
   unfold A51
   rw [if_pos (by simpa using hi),D6d hi]
   have hb:s[i]!.toNat < 256:=s[i]!.toNat_lt
   generalize hx:s[i]!.toNat = x at hb
   simp only [Option.bind_some,Z8,D0 (n:=(x:Int)) (by omega),ge_iff_le,nd97,nd122,nd48,nd57,nz0,n46]
   unfold bad D6r
   rw [hx]
   generalize decide (97≤x) = b1
   generalize decide (x≤122) = b2
   generalize decide (48≤x) = b3
   generalize decide (x≤57) = b4
   generalize (x == 46) = b5
   generalize (i == 0) = b6
   cases b1 <;> cases b2 <;> cases b3 <;> cases b4 <;> cases b5 <;> cases b6 <;> rfl
  ·unfold A51
   rw [if_neg (by simp)]
 rw [hl]
 cases hf:first (bad s) s.size with
 | none =>
  have:=F6.mp hf
  rw [F6.mpr fun i hi=>by rw [this i hi]; rfl]
  have e1:(s.size == 0) = false:= by rw [beq_eq_false_iff_ne]; exact h0
  have e2:decide (s.size≤16) = true:=decide_eq_true (by omega)
  rw [e1,e2]; rfl
 | some u =>
  obtain ⟨i,hi,h2,h3⟩:=N5 hf
  rw [B4t (r:=.inl false) hi (by rw [h2]; rfl) fun j hj=>by rw [h3 j hj]; rfl]
  simp
theorem B6c (s:ByteArray) (hs:s.size < 9223372036854775808):A76 s = some (B3l s):= by
 unfold A76 B3l
 have hl:loop (A5x s) (0:Nat) = some ((first (fun i=>(bad s i).map fun _=>(Sum.inl false:Bool ⊕ Nat)) s.size).getD (.inr s.size)):= by
  refine B2q (fun i=>i) s.size _ _ hs ?_ ?_
  ·intro i hi _
   unfold A5x
   rw [if_pos (by simpa using hi)]
   unfold bad D6r
   rw [getElem!_pos s i hi]
   by_cases ha:(s[i]'hi).toNat < 128
   ·rw [decode_ascii s i hi ha]
    generalize (s[i]'hi).toNat = x at ha ⊢
    simp only [nd97,nd122,gt_iff_lt,nl48,nl57,nz0,n46',bne]
    generalize decide (97≤x) = b1
    generalize decide (x≤122) = b2
    generalize decide (48≤x) = b3
    generalize decide (x≤57) = b4
    generalize (x == 46) = b5
    generalize (i == 0) = b6
    cases b1 <;> cases b2 <;> cases b3 <;> cases b4 <;> cases b5 <;> cases b6 <;> rfl
   ·have hd:=(decode_high s i hi (by omega)).1
    generalize (Utf8.decode s i).1 = y at hd ⊢
    generalize (s[i]'hi).toNat = x at ha ⊢
    rw [if_pos (by simp; omega)]
    have e1:decide (x≤122) = false:= by simp; omega
    have e2:decide (x≤57) = false:= by simp; omega
    have e3:(x == 46) = false:= by simp; omega
    simp [e1,e2,e3]
  ·intro _
   unfold A5x
   rw [if_neg (by simp)]
 rw [hl]
 have he:eqS s (ByteArray.mk #[]) = (s.size == 0):= by
  unfold eqS
  cases hz:s.data.toList with
  | nil =>
   have:s.size = 0:= by show s.data.size = 0; rw [← Array.length_toList,hz]; rfl
   rw [this]; rfl
  | cons a t =>
   have:s.size = t.length + 1:= by show s.data.size = _; rw [← Array.length_toList,hz]; rfl
   rw [this]; rfl
 cases hf:first (bad s) s.size with
 | none =>
  have:=F6.mp hf
  rw [F6.mpr fun i hi=>by rw [this i hi]; rfl]
  have e2:decide ((s.size:Int)≤16) = decide (s.size≤16):=decide_eq_decide.mpr (by omega)
  simp [he,e2]
 | some u =>
  obtain ⟨i,hi,h2,h3⟩:=N5 hf
  rw [B4t (r:=.inl false) hi (by rw [h2]; rfl) fun j hj=>by rw [h3 j hj]; rfl]
  simp
theorem B85 {α:Type} [Inhabited α] (l:List α) (p:α→Bool):(first (fun i=>if p l[i]! then some (i:Int) else none) l.length).isSome = l.any p:= by
 cases hf:first (fun i=>if p l[i]! then some (i:Int) else none) l.length with
 | none =>
  have h0:=F6.mp hf
  cases ha:l.any p with
  | false=>rfl
  | true =>
   rw [List.any_eq_true] at ha
   obtain ⟨x,hx,hp⟩:=ha
   obtain ⟨i,hi,e⟩:=List.mem_iff_getElem.mp hx
   have:=h0 i hi
   rw [getElem!_pos l i hi,e,hp] at this
   exact absurd this (by simp)
 | some r =>
  obtain ⟨i,hi,h1,_⟩:=N5 hf
  rw [getElem!_pos l i hi] at h1
  cases hp:p l[i] with
  | false=>rw [hp] at h1; exact absurd h1 (by simp)
  | true=>exact (List.any_eq_true.mpr ⟨l[i],List.getElem_mem hi,hp⟩).symm
theorem C6w {α:Type} [Inhabited α] (l:List α) (p:α→Bool) {b:Int→Option (Int ⊕ (Int ⊕ Unit))} (hl:l.length < 9223372036854775808)
  (hb:∀i:Nat,i < l.length→b i = some (if p l[i]! then .inr (.inl (i:Int)) else .inl (w64 ((i:Int) + 1)))) (he:b l.length = some (.inr (.inr ()))) :
  ∃ o,loop b 0 = some o∧(match o with | .inl i=>0≤i∧l.any p = true | .inr _=>l.any p = false):= by
 have h:=R3 (b:=b) l.length (fun i=>if p l[i]! then some (.inl (i:Int)) else none) (.inr ()) hl (fun i hi _=>by
  rw [hb i hi]; cases p l[i]! <;> rfl) he
 refine ⟨_,h,?_⟩
 have ha:=B85 l p
 cases hf:first (fun i=>if p l[i]! then some (Sum.inl (i:Int):Int ⊕ Unit) else none) l.length with
 | none =>
  have h0:=F6.mp hf
  rw [F6.mpr fun i hi=>by
   have:=h0 i hi
   cases hp:p l[i]! with
   | false=>rfl
   | true=>rw [hp] at this; exact absurd this (by simp)] at ha
  simpa using ha.symm
 | some r =>
  obtain ⟨i,hi,h1,h2⟩:=N5 hf
  cases hp:p l[i]! with
  | false=>rw [hp] at h1; exact absurd h1 (by simp)
  | true =>
   rw [hp] at h1
   have h1:some (Sum.inl (i:Int)) = some r:=h1
   obtain rfl:=Option.some.inj h1
   refine ⟨Int.natCast_nonneg i,?_⟩
   rw [B4t (r:=(i:Int)) hi (by rw [hp]; rfl) fun j hj=>by
    have:=h2 j hj
    cases hq:p l[j]! with
    | false=>rfl
    | true=>rw [hq] at this; exact absurd this (by simp)] at ha
   exact ha.symm
theorem A9i {α:Type} [Inhabited α] (l:List α) (g:α→Option Bool) (p:α→Bool) {b:Int→Option (Int ⊕ (Int ⊕ Unit))} {F:Option Bool} (hl:l.length < 9223372036854775808) (hg:∀x ∈ l,g x = some (p x))
  (hb:∀i:Int,b i = if decide (i < l.length) = true then (idx l i).bind fun x=>(g x).bind fun y=>if y = true then some (.inr (.inl i)) else some (.inl (w64 (i + 1))) else some (.inr (.inr ())))
  (hF:F = ((loop b 0).bind fun o=>match o with | .inl v=>some v | .inr _=>some (-1)).bind fun x=>some (decide (x ≥ 0))):F = some (l.any p):= by
 obtain ⟨o,ho,hc⟩:=C6w l p (b:=b) hl (fun i hi=>by
  rw [hb,if_pos (by simpa using hi),E5 hi]
  simp only [Option.bind_some]
  rw [hg _ (by rw [getElem!_pos l i hi]; exact List.getElem_mem hi)]
  simp only [Option.bind_some]
  cases p l[i]! <;> rfl) (by
  rw [hb,if_neg (by simp)])
 rw [hF,ho]
 rcases o with i | u
 ·simp only [Option.bind_some]
  rw [hc.2,decide_eq_true hc.1]
 ·simp only [Option.bind_some]
  rw [hc]; rfl
theorem C8a (l:List Int) (g:Int→Option Bool) (p:Int→Bool) (hl:l.length < 9223372036854775808) (hg:∀x ∈ l,g x = some (p x)):S8 l g = some (l.any p) :=
 A9i l g p (b:=A0a l g) hl hg (fun _=>rfl) rfl
theorem B9a (l:List VaCrate) (g:VaCrate→Option Bool) (p:VaCrate→Bool) (hl:l.length < 9223372036854775808) (hg:∀x ∈ l,g x = some (p x)):J2 l g = some (l.any p) :=
 A9i l g p (b:=N2 l g) hl hg (fun _=>rfl) rfl
theorem C2c (l:List VaVan) (g:VaVan→Option Bool) (p:VaVan→Bool) (hl:l.length < 9223372036854775808) (hg:∀x ∈ l,g x = some (p x)):K9 l g = some (l.any p) :=
 A9i l g p (b:=O6 l g) hl hg (fun _=>rfl) rfl
theorem C1a (l:List VaPair) (g:VaPair→Option Bool) (p:VaPair→Bool) (hl:l.length < 9223372036854775808) (hg:∀x ∈ l,g x = some (p x)):K3 l g = some (l.any p) :=
 A9i l g p (b:=O2 l g) hl hg (fun _=>rfl) rfl
def out (lo hi x:Int):Bool:=decide (x < lo) || decide (x > hi)
theorem B3r (lo hi:Int) (l:List Int) (hl:l.length < 9223372036854775808):G3 lo hi l = some (l.any (out lo hi)):= by
 unfold G3
 exact (congrArg (Option.bind · some) (C8a l (fun y=>A59 y lo hi) (out lo hi) hl fun x _=>rfl)).trans rfl
theorem outside1 (lo hi x:Int):G3 lo hi [x] = some (out lo hi x):= by
 rw [B3r lo hi [x] (by simp)]; simp
theorem outside2 (lo hi x y:Int):G3 lo hi [x,y] = some (out lo hi x || out lo hi y):= by
 rw [B3r lo hi [x,y] (by simp)]; simp
theorem A68 (lo hi x:Int):X0 x lo hi = some (!out lo hi x):= by
 unfold X0 out
 rw [Option.some_inj,Bool.eq_iff_iff]; simp
theorem B39 (lo hi x:Int):Z8 x lo hi = some (!out lo hi x):=A68 lo hi x
def T2 (s:ByteArray) (l:List ByteArray):Int:=if B3l s then (if l.any (fun y=>eqS y s) then 5 else 0) else 6
instance:Inhabited ByteArray:=⟨ByteArray.empty⟩
theorem B8s (s:ByteArray) (l:List ByteArray) (hl:l.length < 9223372036854775808):A96 s l = some (T2 s l):= by
 unfold A96 T2
 rw [C50]
 cases B3l s
 ·rfl
 ·simp only [Option.bind_some]
  unfold B1q
  obtain ⟨o,ho,hc⟩:=C6w l (fun y=>eqS y s) (b:=A4j l s) hl (fun i hi=>by
   unfold A4j
   rw [if_pos (by simpa using hi),E5 hi]
   simp only [Option.bind_some]
   cases eqS l[i]! s <;> rfl) (by
   unfold A4j
   rw [if_neg (by simp)])
  rw [ho]
  rcases o with i | u
  ·simp only [Option.bind_some]
   rw [hc.2,decide_eq_true hc.1]; rfl
  ·simp only [Option.bind_some]
   rw [hc]; rfl
def Z3 (g:Span):Option Int:=if out 0 600 g.Lo || out 0 600 g.Hi then some 7 else if g.Lo > g.Hi then some 2 else none
def A8o (t:VaTrain) (v:VaVan):Int :=
 if out 0 20 v.Room || out 0 5000 v.Leave then 7 else
 if (v.Legs.length:Int) != t.Stops then 3 else (first (fun j=>Z3 v.Legs[j]!) v.Legs.length).getD 0
def B34 (t:VaTrain) (i:Nat):Int:=T2 t.Vans[i]!.Name ((t.Vans.take i).map (·.Name))
def A0b (t:VaTrain) (i:Nat):Int:=if B34 t i == 0 then A8o t t.Vans[i]! else B34 t i
def A72 (t:VaTrain) (i:Nat):Int:=T2 t.Crates[i]!.Name ((t.Crates.take i).map (·.Name))
def Q7 (t:VaTrain) (i:Nat):Int :=
 if A72 t i == 0 then (if out 1 9 t.Crates[i]!.Size || out 0 (t.Stops - 1) t.Crates[i]!.Stop || out 0 5000 t.Crates[i]!.By then 7 else 0) else A72 t i
def A2g (t:VaTrain) (i:Nat):Int :=
 if out 0 (t.Crates.length - 1) t.Apart[i]!.A || out 0 (t.Crates.length - 1) t.Apart[i]!.B then 4 else
 if t.Apart[i]!.A ≥ t.Apart[i]!.B then 2 else 0
def wrong (f:Nat→Int) (n:Nat):Option (Int × Int):=first (fun i=>if f i == 0 then none else some ((i:Int),f i)) n
def check (t:VaTrain):Int × Int × Int :=
 if out 1 3 t.Stops || out 0 60 t.Handle then (1,0,7) else
 if out 1 3 t.Vans.length then (2,0,3) else
 match wrong (A0b t) t.Vans.length with
 | some x=>(2,x)
 | none =>
 if t.Crates.length > 6 then (3,0,3) else
 match wrong (Q7 t) t.Crates.length with
 | some x=>(3,x)
 | none =>
 if t.Apart.length > 4 then (4,0,3) else
 match wrong (A2g t) t.Apart.length with
 | some x=>(4,x)
 | none=>(0,0,0)
theorem A4y {f:Nat→Int} {n:Nat} {x:Int × Int} (h:wrong f n = some x):(x.2 != 0) = true:= by
 obtain ⟨i,_,h1,_⟩:=N5 h
 cases hb:f i == 0 with
 | true=>rw [hb] at h1; exact absurd h1 (by simp)
 | false =>
  rw [hb] at h1
  have h1:some ((i:Int),f i) = some x:=h1
  rw [← Option.some.inj h1]
  show (f i != 0) = true
  rw [bne,hb]; rfl
theorem I2 {lo hi x:Int}:out lo hi x = false↔lo≤x∧x≤hi:= by
 unfold out
 rw [Bool.or_eq_false_iff,decide_eq_false_iff_not,decide_eq_false_iff_not]
 omega
theorem B3k {ρ:Type} {b:Int→Option (Int ⊕ ρ)} (n:Nat) (f:Nat→Int) (k:Int × Int→ρ) (z:ρ) (hn:n < 9223372036854775808)
  (hs:∀i:Nat,i < n→b (i:Int) = some (if f i == 0 then .inl (w64 ((i:Int) + 1)) else .inr (k ((i:Int),f i))))
  (he:b (n:Int) = some (.inr z)) :
  loop b 0 = some (match wrong f n with | some x=>k x | none=>z):= by
 rw [R3 n (fun i=>if f i == 0 then none else some (k ((i:Int),f i))) z hn (fun i hi _=>by rw [hs i hi]; cases f i == 0 <;> rfl) he]
 unfold wrong
 cases hf:first (fun i=>if f i == 0 then none else some ((i:Int),f i)) n with
 | none =>
  have h0:=F6.mp hf
  rw [F6.mpr fun i hi=>by
   have:=h0 i hi
   cases hb:f i == 0 with
   | true=>rfl
   | false=>rw [hb] at this; exact absurd this (by simp)]
  rfl
 | some x =>
  obtain ⟨i,hi,h1,h2⟩:=N5 hf
  rw [B4t (r:=k x) hi (by
   cases hb:f i == 0 with
   | true=>rw [hb] at h1; exact absurd h1 (by simp)
   | false =>
    rw [hb] at h1
    have h1:some ((i:Int),f i) = some x:=h1
    rw [← Option.some.inj h1]; rfl) fun j hj=>by
   have:=h2 j hj
   cases hb:f j == 0 with
   | true=>rfl
   | false=>rw [hb] at this; exact absurd this (by simp)]
  rfl
def NB (t:VaTrain):Prop:=(∀ v ∈ t.Vans,v.Name.size < 9223372036854775808)∧(∀ v ∈ t.Crates,v.Name.size < 9223372036854775808)
theorem A07 {α:Type} [Inhabited α] {l:List α} {i:Nat} (h:i < l.length):l[i]! ∈ l:= by
 rw [getElem!_pos l i h]; exact List.getElem_mem h
theorem C5m (l:List VaCrate) (i:Nat) (hi:i < l.length) (hl:l.length < 9223372036854775808) (hn:l[i]!.Name.size < 9223372036854775808) :
  U5 l (i:Int) (fun y=>Y0 y) = some (T2 l[i]!.Name ((l.take i).map (·.Name))):= by
 unfold U5 Y0
 rw [E5 hi]
 simp only [Option.bind_some]
 rw [B6c _ hn]
 unfold T2
 cases B3l l[i]!.Name
 ·rfl
 ·simp only [Option.bind_some]
  rw [C87 (Nat.le_of_lt hi)]
  simp only [Option.bind_some]
  rw [B9a _ _ (fun y=>eqS y.Name l[i]!.Name) (by rw [List.length_take]; omega) (fun x _=>by
   unfold S6
   rw [E5 hi]; rfl),List.any_map]
  rw [show ((fun y=>eqS y l[i]!.Name)∘fun (x:VaCrate)=>x.Name) = (fun (y:VaCrate)=>eqS y.Name l[i]!.Name) from rfl]
  generalize (l.take i).any (fun (y:VaCrate)=>eqS y.Name l[i]!.Name) = q
  cases q <;> rfl
theorem D0x (l:List VaVan) (i:Nat) (hi:i < l.length) (hl:l.length < 9223372036854775808) (hn:l[i]!.Name.size < 9223372036854775808) :
  Y7 l (i:Int) (fun y=>A1g y) = some (T2 l[i]!.Name ((l.take i).map (·.Name))):= by
 unfold Y7 A1g
 rw [E5 hi]
 simp only [Option.bind_some]
 rw [B6c _ hn]
 unfold T2
 cases B3l l[i]!.Name
 ·rfl
 ·simp only [Option.bind_some]
  rw [C87 (Nat.le_of_lt hi)]
  simp only [Option.bind_some]
  rw [C2c _ _ (fun y=>eqS y.Name l[i]!.Name) (by rw [List.length_take]; omega) (fun x _=>by
   unfold U6
   rw [E5 hi]; rfl),List.any_map]
  rw [show ((fun y=>eqS y l[i]!.Name)∘fun (x:VaVan)=>x.Name) = (fun (y:VaVan)=>eqS y.Name l[i]!.Name) from rfl]
  generalize (l.take i).any (fun (y:VaVan)=>eqS y.Name l[i]!.Name) = q
  cases q <;> rfl
theorem D91 (t:VaTrain) (v:VaVan) (hl:v.Legs.length < 9223372036854775808) :
  loop (A2s v) 0 = some (((first (fun j=>Z3 v.Legs[j]!) v.Legs.length).map Sum.inl).getD (Sum.inr ():Int ⊕ Unit)):= by
 rw [R3 v.Legs.length (fun j=>(Z3 v.Legs[j]!).map Sum.inl) (Sum.inr ():Int ⊕ Unit) hl (fun i hi _=>by
  unfold A2s
  rw [if_pos (by simpa using hi),E5 hi]
  simp only [Option.bind_some,outside2]
  unfold Z3
  generalize v.Legs[i]! = g
  cases out 0 600 g.Lo || out 0 600 g.Hi
  ·by_cases h:g.Lo > g.Hi <;> simp [h]
  ·rfl) (by
  unfold A2s
  rw [if_neg (by simp)])]
 congr 2
 generalize v.Legs.length = n
 induction n with
 | zero=>rfl
 | succ n ih =>
  unfold first
  rw [ih]
  cases first (fun j=>Z3 v.Legs[j]!) n <;> rfl
theorem Q8 {α β:Type} (k:α→β) (f:Nat→Option α):∀n,first (fun i=>(f i).map k) n = (first f n).map k
 | 0=>rfl
 | n + 1=>by
  unfold first
  rw [Q8 k f n]
  cases first f n <;> rfl
theorem C88 (t:VaTrain) (h:NB t) (hv:t.Vans.length < 9223372036854775808) (hs:0≤t.Stops∧t.Stops≤3) (i:Nat) (hi:i < t.Vans.length):A6a ⟨t⟩ (i:Int) = some (A0b t i):= by
 unfold A6a A0b B34
 simp only []
 rw [E5 hi,D0x t.Vans i hi hv (h.1 _ (A07 hi))]
 simp only [Option.bind_some]
 generalize T2 t.Vans[i]!.Name ((t.Vans.take i).map (·.Name)) = k
 cases hk:k == 0 with
 | false=>rw [if_pos (by rw [bne,hk]; rfl)]; rfl
 | true =>
  rw [if_neg (by rw [bne,hk]; simp)]
  rw [outside1,outside1]
  unfold A8o
  simp only [Option.bind_some]
  cases out 0 20 t.Vans[i]!.Room
  ·cases out 0 5000 t.Vans[i]!.Leave
   ·by_cases hL:(t.Vans[i]!.Legs.length:Int) = t.Stops
    ·have e1:((t.Vans[i]!.Legs.length:Int) != t.Stops) = false:= by rw [hL]; exact bne_self_eq_false _
     rw [e1,D91 t _ (by omega)]
     cases first (fun j=>Z3 t.Vans[i]!.Legs[j]!) t.Vans[i]!.Legs.length <;> rfl
    ·have e1:((t.Vans[i]!.Legs.length:Int) != t.Stops) = true:=bne_iff_ne.mpr hL
     rw [e1]; rfl
   ·rfl
  ·rfl
theorem C41 (t:VaTrain) (h:NB t) (hv:t.Crates.length < 9223372036854775808) (hs:0≤t.Stops∧t.Stops≤3) (i:Nat) (hi:i < t.Crates.length):A3v ⟨t⟩ (i:Int) = some (Q7 t i):= by
 unfold A3v Q7 A72
 simp only []
 rw [E5 hi,C5m t.Crates i hi hv (h.2 _ (A07 hi))]
 simp only [Option.bind_some]
 generalize T2 t.Crates[i]!.Name ((t.Crates.take i).map (·.Name)) = k
 cases hk:k == 0 with
 | false=>rfl
 | true =>
  rw [outside1,outside1,outside1,D0 (by omega)]
  have:k = 0:= by simpa using hk
  subst this
  cases out 1 9 t.Crates[i]!.Size <;> cases out 0 (t.Stops - 1) t.Crates[i]!.Stop <;> cases out 0 5000 t.Crates[i]!.By <;> rfl
theorem C6c (t:VaTrain) (hc:t.Crates.length < 9223372036854775808) (i:Nat) (hi:i < t.Apart.length):A4x ⟨t⟩ (i:Int) = some (A2g t i):= by
 unfold A4x A2g
 simp only []
 rw [E5 hi]
 simp only [Option.bind_some]
 rw [outside2,D0 (by omega)]
 simp only [Option.bind_some]
 generalize t.Apart[i]! = g
 cases out 0 (↑t.Crates.length - 1) g.A || out 0 (↑t.Crates.length - 1) g.B
 ·by_cases h:g.A ≥ g.B <;> simp [h]
 ·rfl
theorem B9p {α:Type} (x:Int) (a b:α):(if (x != 0) = true then some a else some b) = some (if (x == 0) = true then b else a):= by
 by_cases c:x = 0
 ·subst c; rfl
 ·simp [c]
theorem C2z {α β:Type} (x:Int) (i:Int) (k:Int × Int→α) (b:β):(if (x != 0) = true then some (Sum.inr (k (i,x))) else some (Sum.inl b)) = some (match ((if (x == 0) = true then none else some (i,x)).map k) with | some r=>Sum.inr r | none=>Sum.inl b):= by
 by_cases c:x = 0
 ·subst c; rfl
 ·simp [c]
theorem R5 (t:VaTrain) (h:NB t):V8 t = some (check t):= by
 unfold V8 check
 rw [outside1,outside1,outside1,outside1,outside1]
 simp only [Option.bind_some]
 cases h1:out 1 3 t.Stops with
 | true=>rfl
 | false =>
 cases h2:out 0 60 t.Handle with
 | true=>rfl
 | false =>
 cases h3:out 1 3 (t.Vans.length:Int) with
 | true=>rfl
 | false =>
 have b1:=I2.mp h1
 have b3:=I2.mp h3
 have l1:=B3k (b:=A7v t) t.Vans.length (A0b t) (fun x=>.inl (2,x)) (.inr ()) (by omega) (fun i hi=>by
   unfold A7v
   rw [if_pos (by simpa using hi),C88 t h (by omega) (by omega) i hi]
   exact B9p _ _ _) (by
   unfold A7v
   rw [if_neg (by simp)])
 rw [l1]
 cases wrong (A0b t) t.Vans.length with
 | some x=>rfl
 | none =>
 simp only [Option.bind_some]
 cases h4:out 0 6 (t.Crates.length:Int) with
 | true =>
  have:t.Crates.length > 6:= by
   by_cases c:t.Crates.length > 6
   ·exact c
   ·exact absurd (I2.mpr (show 0≤(t.Crates.length:Int)∧(t.Crates.length:Int)≤6 by omega)) (by rw [h4]; simp)
  simp [this]
 | false =>
 have b4:=I2.mp h4
 have l2:=B3k (b:=A7w t) t.Crates.length (Q7 t) (fun x=>.inl (3,x)) (.inr ()) (by omega) (fun i hi=>by
   unfold A7w
   rw [if_pos (by simpa using hi),C41 t h (by omega) (by omega) i hi]
   exact B9p _ _ _) (by
   unfold A7w
   rw [if_neg (by simp)])
 rw [l2]
 have g4:¬ t.Crates.length > 6:= by omega
 simp only [g4]
 cases wrong (Q7 t) t.Crates.length with
 | some x=>rfl
 | none =>
 simp only [Option.bind_some]
 cases h5:out 0 4 (t.Apart.length:Int) with
 | true =>
  have:t.Apart.length > 4:= by
   by_cases c:t.Apart.length > 4
   ·exact c
   ·exact absurd (I2.mpr (show 0≤(t.Apart.length:Int)∧(t.Apart.length:Int)≤4 by omega)) (by rw [h5]; simp)
  simp [this]
 | false =>
 have b5:=I2.mp h5
 have l3:=B3k (b:=A7x t) t.Apart.length (A2g t) (fun x=>.inl (4,x)) (.inr ()) (by omega) (fun i hi=>by
   unfold A7x
   rw [if_pos (by simpa using hi),C6c t (by omega) i hi]
   exact B9p _ _ _) (by
   unfold A7x
   rw [if_neg (by simp)])
 rw [l3]
 have g5:¬ t.Apart.length > 4:= by omega
 simp only [g5]
 cases wrong (A2g t) t.Apart.length with
 | some x=>rfl
 | none=>rfl
theorem D9r (g:Span):B0t g 0 600 = some ((Z3 g).getD 0):= by
 unfold B0t Z3
 rw [B39,B39]
 simp only [Option.bind_some]
 cases out 0 600 g.Lo
 ·cases out 0 600 g.Hi
  ·by_cases h:g.Lo > g.Hi <;> simp [h]
  ·rfl
 ·rfl
theorem C22 {g:Span} {r:Int} (h:Z3 g = some r):(r != 0) = true:= by
 unfold Z3 at h
 split at h
 ·rw [← Option.some.inj h]; rfl
 ·split at h
  ·rw [← Option.some.inj h]; rfl
  ·exact absurd h (by simp)
theorem D83 (v:VaVan) (hl:v.Legs.length < 9223372036854775808) :
  loop (A7o v) 0 = some (((first (fun j=>Z3 v.Legs[j]!) v.Legs.length).map Sum.inl).getD (Sum.inr ():Int ⊕ Unit)):= by
 rw [R3 v.Legs.length (fun j=>(Z3 v.Legs[j]!).map Sum.inl) (Sum.inr ():Int ⊕ Unit) hl (fun i hi _=>by
  unfold A7o
  rw [if_pos (by simpa using hi),E5 hi]
  simp only [Option.bind_some,D9r]
  generalize v.Legs[i]! = g
  cases hg:Z3 g with
  | none=>rfl
  | some r =>
   rw [show ((some r).getD 0 != 0) = true from C22 hg]; rfl) (by
  unfold A7o
  rw [if_neg (by simp)]),Q8]
theorem C84 (t:VaTrain) (v:VaVan) (hs:0≤t.Stops∧t.Stops≤3):B20 t v = some (A8o t v):= by
 unfold B20 A8o
 rw [A68,A68]
 simp only [Option.bind_some]
 cases out 0 20 v.Room
 ·cases out 0 5000 v.Leave
  ·by_cases hL:(v.Legs.length:Int) = t.Stops
   ·have e1:((v.Legs.length:Int) != t.Stops) = false:= by rw [hL]; exact bne_self_eq_false _
    rw [e1,D83 _ (by omega)]
    cases first (fun j=>Z3 v.Legs[j]!) v.Legs.length <;> rfl
   ·have e1:((v.Legs.length:Int) != t.Stops) = true:=bne_iff_ne.mpr hL
    rw [e1]; rfl
  ·rfl
 ·rfl
theorem C7v {α β:Type} [Inhabited α] (k:α→β) {l:List α} {i:Nat} (h:i < l.length):(l.take i).map k++[k l[i]!] = (l.take (i + 1)).map k:= by
 rw [List.take_succ_eq_append_getElem h,getElem!_pos l i h,List.map_append]; rfl
theorem C58 (t:VaTrain) (hs:0≤t.Stops∧t.Stops≤3):B00 t = some (if out 1 3 (t.Vans.length:Int) then (0,3) else (wrong (A0b t) t.Vans.length).getD (0,0)):= by
 unfold B00
 rw [A68]
 simp only [Option.bind_some]
 cases h3:out 1 3 (t.Vans.length:Int) with
 | true=>rfl
 | false =>
 have b3:=I2.mp h3
 have l1:=B2q (b:=A58 t) (fun i=>((i:Int),(t.Vans.take i).map (·.Name))) t.Vans.length
  (fun i=>(if A0b t i == 0 then none else some ((i:Int),A0b t i)).map Sum.inl) (.inr (t.Vans.map (·.Name))) (by omega)
  (fun i hi _=>by
   unfold A58
   simp only []
   rw [if_pos (by simpa using hi),E5 hi]
   simp only [Option.bind_some]
   rw [B8s _ _ (by rw [List.length_map,List.length_take]; omega),W4 (by omega) (by rw [List.length_map,List.length_take]; simp; omega),C7v (fun (x:VaVan)=>x.Name) hi]
   simp only [Option.bind_some]
   unfold A0b B34
   rw [C84 t _ hs,D0 (by omega)]
   generalize T2 t.Vans[i]!.Name ((t.Vans.take i).map (·.Name)) = k
   by_cases hk:k = 0
   ·subst hk
    exact C2z (A8o t t.Vans[i]!) (i:Int) Sum.inl _
   ·have e:(k == 0) = false:=beq_eq_false_iff_ne.mpr hk
    rw [e]
    exact C2z k (i:Int) Sum.inl _)
  (fun _=>by
   unfold A58
   simp only []
   rw [if_neg (by simp),List.take_length])
 rw [show ((0:Int),([]:List ByteArray)) = (((0:Nat):Int),(t.Vans.take 0).map (·.Name)) from rfl,l1,Q8]
 unfold wrong
 cases first (fun i=>if A0b t i == 0 then none else some ((i:Int),A0b t i)) t.Vans.length <;> rfl
theorem C1g (t:VaTrain) (hs:0≤t.Stops∧t.Stops≤3):A7n t = some (if t.Crates.length > 6 then (0,3) else (wrong (Q7 t) t.Crates.length).getD (0,0)):= by
 unfold A7n
 by_cases h6:t.Crates.length > 6
 ·rw [if_pos (by rw [decide_eq_true_eq]; omega),if_pos h6]
 rw [if_neg (by rw [decide_eq_true_eq]; omega),if_neg h6]
 have l1:=B2q (b:=A3u t) (fun i=>((i:Int),(t.Crates.take i).map (·.Name))) t.Crates.length
  (fun i=>(if Q7 t i == 0 then none else some ((i:Int),Q7 t i)).map Sum.inl) (.inr (t.Crates.map (·.Name))) (by omega)
  (fun i hi _=>by
   unfold A3u
   simp only []
   rw [if_pos (by simpa using hi),E5 hi]
   simp only [Option.bind_some]
   rw [B8s _ _ (by rw [List.length_map,List.length_take]; omega),W4 (by omega) (by rw [List.length_map,List.length_take]; simp; omega),C7v (fun (x:VaCrate)=>x.Name) hi]
   simp only [Option.bind_some]
   unfold Q7 A72
   rw [A68,A68,A68,D0 (n:=t.Stops - 1) (by omega),D0 (by omega)]
   generalize T2 t.Crates[i]!.Name ((t.Crates.take i).map (·.Name)) = k
   by_cases hk:k = 0
   ·subst hk
    cases out 1 9 t.Crates[i]!.Size <;> cases out 0 (t.Stops - 1) t.Crates[i]!.Stop <;> cases out 0 5000 t.Crates[i]!.By <;> rfl
   ·have e:(k == 0) = false:=beq_eq_false_iff_ne.mpr hk
    rw [e]
    exact C2z k (i:Int) Sum.inl _)
  (fun _=>by
   unfold A3u
   simp only []
   rw [if_neg (by simp),List.take_length])
 rw [show ((0:Int),([]:List ByteArray)) = (((0:Nat):Int),(t.Crates.take 0).map (·.Name)) from rfl,l1,Q8]
 unfold wrong
 cases first (fun i=>if Q7 t i == 0 then none else some ((i:Int),Q7 t i)) t.Crates.length <;> rfl
theorem C4l (t:VaTrain) (hc:t.Crates.length≤6):A83 t = some (if t.Apart.length > 4 then (0,3) else (wrong (A2g t) t.Apart.length).getD (0,0)):= by
 unfold A83
 by_cases h6:t.Apart.length > 4
 ·rw [if_pos (by rw [decide_eq_true_eq]; omega),if_pos h6]
 rw [if_neg (by rw [decide_eq_true_eq]; omega),if_neg h6]
 have l1:=B3k (b:=A4t t) t.Apart.length (A2g t) (fun x=>.inl x) (.inr ()) (by omega)
  (fun i hi=>by
   unfold A4t
   rw [if_pos (by simpa using hi),E5 hi]
   simp only [Option.bind_some]
   rw [A68,A68,D0 (n:=(t.Crates.length:Int) - 1) (by omega)]
   unfold A2g
   generalize t.Apart[i]! = g
   cases out 0 (↑t.Crates.length - 1) g.A
   ·cases out 0 (↑t.Crates.length - 1) g.B
    ·by_cases h:g.A ≥ g.B <;> simp [h]
    ·rfl
   ·rfl)
  (by
   unfold A4t
   rw [if_neg (by simp)])
 rw [l1]
 cases wrong (A2g t) t.Apart.length <;> rfl
theorem T4 (t:VaTrain):W9 t = some (check t):= by
 unfold W9 check
 rw [A68,A68]
 simp only [Option.bind_some]
 cases h1:out 1 3 t.Stops with
 | true=>rfl
 | false =>
 cases h2:out 0 60 t.Handle with
 | true=>rfl
 | false =>
 have b1:=I2.mp h1
 rw [C58 t (by omega),C1g t (by omega)]
 cases h3:out 1 3 (t.Vans.length:Int) with
 | true=>rfl
 | false =>
 cases hw:wrong (A0b t) t.Vans.length with
 | some x =>
  show (if (x.2 != 0) = true then some ((2:Int),x.1,x.2) else _) = some (2,x)
  rw [if_pos (A4y hw)]
 | none =>
 by_cases h6:t.Crates.length > 6
 ·simp [h6]
 rw [C4l t (by omega)]
 simp only [h6]
 cases hw2:wrong (Q7 t) t.Crates.length with
 | some x =>
  show (if (x.2 != 0) = true then some ((3:Int),x.1,x.2) else _) = some (3,x)
  rw [if_pos (A4y hw2)]
 | none =>
 by_cases h4:t.Apart.length > 4
 ·simp [h4]
 simp only [h4]
 cases hw3:wrong (A2g t) t.Apart.length with
 | some x =>
  show (if (x.2 != 0) = true then some ((4:Int),x.1,x.2) else _) = some (4,x)
  rw [if_pos (A4y hw3)]
 | none=>rfl
structure LegOk (g:Span):Prop where
 lo0:0≤g.Lo
 lh:g.Lo≤g.Hi
 hi:g.Hi≤600
structure VanOk (t:VaTrain) (v:VaVan):Prop where
 room0:0≤v.Room
 room:v.Room≤20
 leave0:-1000≤v.Leave
 leave:v.Leave≤5000
 legs:(v.Legs.length:Int) = t.Stops
 leg:∀i,i < v.Legs.length→LegOk v.Legs[i]!
structure CrateOk (t:VaTrain) (c:VaCrate):Prop where
 size1:1≤c.Size
 size:c.Size≤9
 stop0:0≤c.Stop
 stop:c.Stop < t.Stops
 by0:0≤c.By
 byl:c.By≤5000
structure PairOk (t:VaTrain) (p:VaPair):Prop where
 a0:0≤p.A
 ab:p.A < p.B
 b:p.B < t.Crates.length
structure TOk (t:VaTrain):Prop where
 stops1:1≤t.Stops
 stops:t.Stops≤3
 handle0:0≤t.Handle
 handle:t.Handle≤60
 vans1:1≤t.Vans.length
 vans:t.Vans.length≤3
 crates:t.Crates.length≤6
 apart:t.Apart.length≤4
 van:∀i,i < t.Vans.length→VanOk t t.Vans[i]!
 crate:∀i,i < t.Crates.length→CrateOk t t.Crates[i]!
 pair:∀i,i < t.Apart.length→PairOk t t.Apart[i]!
theorem B1a {f:Nat→Int} {n:Nat} (h:wrong f n = none):∀i,i < n→f i = 0:= by
 intro i hi
 have:=F6.mp h i hi
 by_cases c:f i = 0
 ·exact c
 ·have e:(f i == 0) = false:=beq_eq_false_iff_ne.mpr c
  rw [e] at this; exact absurd this (by simp)
theorem C3h (s:ByteArray) (l:List ByteArray):T2 s l = 0∨T2 s l = 5∨T2 s l = 6:= by
 unfold T2
 cases B3l s
 ·exact .inr (.inr rfl)
 ·cases l.any (fun y=>eqS y s)
  ·exact .inl rfl
  ·exact .inr (.inl rfl)
theorem E11 {g:Span} (h:Z3 g = none):LegOk g:= by
 unfold Z3 at h
 split at h
 ·exact absurd h (by simp)
 ·rename_i h1
  have h1:(out 0 600 g.Lo || out 0 600 g.Hi) = false:= by simpa using h1
  rw [Bool.or_eq_false_iff,I2,I2] at h1
  split at h
  ·exact absurd h (by simp)
  ·exact ⟨h1.1.1,by omega,h1.2.2⟩
theorem D3k {t:VaTrain} {v:VaVan} (h:A8o t v = 0):VanOk t v:= by
 unfold A8o at h
 split at h
 ·exact absurd h (by decide)
 ·rename_i h1
  have h1:(out 0 20 v.Room || out 0 5000 v.Leave) = false:= by simpa using h1
  rw [Bool.or_eq_false_iff,I2,I2] at h1
  split at h
  ·exact absurd h (by decide)
  ·rename_i h2
   have h2:(v.Legs.length:Int) = t.Stops:= by simpa using h2
   refine ⟨h1.1.1,h1.1.2,(Int.le_trans (by decide) h1.2.1),h1.2.2,h2,?_⟩
   cases hf:first (fun j=>Z3 v.Legs[j]!) v.Legs.length with
   | none=>exact fun i hi=>E11 (F6.mp hf i hi)
   | some r =>
    obtain ⟨i,hi,h3,_⟩:=N5 hf
    have:=C22 h3
    rw [hf] at h
    have h:r = 0:=h
    rw [h] at this; exact absurd this (by decide)
theorem J3 {t:VaTrain} (h:(check t).2.2 = 0):TOk t:= by
 unfold check at h
 cases h1:out 1 3 t.Stops || out 0 60 t.Handle with
 | true=>rw [h1] at h; exact absurd (show (7:Int) = 0 from h) (by decide)
 | false =>
 rw [h1] at h
 rw [Bool.or_eq_false_iff,I2,I2] at h1
 cases h2:out 1 3 (t.Vans.length:Int) with
 | true=>rw [h2] at h; exact absurd (show (3:Int) = 0 from h) (by decide)
 | false =>
 rw [h2] at h
 rw [I2] at h2
 cases h3:wrong (A0b t) t.Vans.length with
 | some x =>
  rw [h3] at h
  have h:x.2 = 0:=h
  have:=A4y h3
  rw [h] at this; exact absurd this (by decide)
 | none =>
 rw [h3] at h
 by_cases h4:t.Crates.length > 6
 ·simp only [h4] at h; exact absurd h (by simp)
 simp only [h4] at h
 cases h5:wrong (Q7 t) t.Crates.length with
 | some x =>
  rw [h5] at h
  have h:x.2 = 0:=h
  have:=A4y h5
  rw [h] at this; exact absurd this (by decide)
 | none =>
 rw [h5] at h
 by_cases h6:t.Apart.length > 4
 ·simp only [h6] at h; exact absurd h (by simp)
 simp only [h6] at h
 cases h7:wrong (A2g t) t.Apart.length with
 | some x =>
  rw [h7] at h
  have h:x.2 = 0:=h
  have:=A4y h7
  rw [h] at this; exact absurd this (by decide)
 | none =>
 refine ⟨h1.1.1,h1.1.2,h1.2.1,h1.2.2,by omega,by omega,by omega,by omega,?_,?_,?_⟩
 ·intro i hi
  have:=B1a h3 i hi
  unfold A0b at this
  rcases C3h t.Vans[i]!.Name ((t.Vans.take i).map (·.Name)) with e | e | e <;> (unfold B34 at this; rw [e] at this)
  ·exact D3k this
  ·exact absurd (show (5:Int) = 0 from this) (by decide)
  ·exact absurd (show (6:Int) = 0 from this) (by decide)
 ·intro i hi
  have:=B1a h5 i hi
  unfold Q7 at this
  rcases C3h t.Crates[i]!.Name ((t.Crates.take i).map (·.Name)) with e | e | e <;> (unfold A72 at this; rw [e] at this)
  ·cases q:out 1 9 t.Crates[i]!.Size || out 0 (t.Stops - 1) t.Crates[i]!.Stop || out 0 5000 t.Crates[i]!.By with
   | true=>rw [q] at this; exact absurd this (by decide)
   | false =>
    rw [Bool.or_eq_false_iff,Bool.or_eq_false_iff,I2,I2,I2] at q
    exact ⟨q.1.1.1,q.1.1.2,q.1.2.1,by omega,q.2.1,q.2.2⟩
  ·exact absurd (show (5:Int) = 0 from this) (by decide)
  ·exact absurd (show (6:Int) = 0 from this) (by decide)
 ·intro i hi
  have:=B1a h7 i hi
  unfold A2g at this
  cases q:out 0 (t.Crates.length - 1) t.Apart[i]!.A || out 0 (t.Crates.length - 1) t.Apart[i]!.B with
  | true=>rw [q] at this; exact absurd (show (4:Int) = 0 from this) (by decide)
  | false =>
   rw [q] at this
   rw [Bool.or_eq_false_iff,I2,I2] at q
   by_cases c:t.Apart[i]!.A ≥ t.Apart[i]!.B
   ·rw [if_pos c] at this; exact absurd this (by decide)
   ·exact ⟨q.1.1,by omega,by omega⟩
def K6 (t:VaTrain) (p:List Int) (v:Int) (n:Nat):Int:=iter (fun i s=>if p[i]! == v then s + t.Crates[i]!.Size else s) n 0
theorem B24 {t:VaTrain} (h:TOk t) (p:List Int) (v:Int):∀n,n≤t.Crates.length→0≤K6 t p v n∧K6 t p v n≤9 * n
 | 0,_=>⟨Int.le_refl 0,Int.le_refl 0⟩
 | n + 1,hn=>by
  have ih:=B24 h p v n (by omega)
  have hc:=h.crate n (by omega)
  have:=hc.size1; have:=hc.size
  show 0≤(if p[n]! == v then K6 t p v n + t.Crates[n]!.Size else K6 t p v n)∧(if p[n]! == v then K6 t p v n + t.Crates[n]!.Size else K6 t p v n)≤9 * ((n + 1:Nat):Int)
  generalize t.Crates[n]!.Size = z at *
  generalize K6 t p v n = y at *
  cases p[n]! == v
  ·simp only [Bool.false_eq_true,if_false]; omega
  ·simp only [if_true]; omega
def A9g (t:VaTrain) (p:List Int) (v:Nat):Option Bool:=if K6 t p v p.length > t.Vans[v]!.Room then some false else none
def clash (t:VaTrain) (p:List Int) (i:Nat):Option Bool:=if p[t.Apart[i]!.A.toNat]! == p[t.Apart[i]!.B.toNat]! && p[t.Apart[i]!.A.toNat]! != -1 then some false else none
def good (t:VaTrain) (p:List Int):Bool:=(first (A9g t p) t.Vans.length).getD ((first (clash t p) t.Apart.length).getD true)
def K2 (p:List Int):IArr 6:=⟨(p.map (fun x=>w64 (x + 1))++List.replicate 6 0).take 6,by simp⟩
theorem B28 (p:List Int):(K2 p).l.length = 6:=(K2 p).h
theorem B27 {p:List Int} {i:Nat} (hi:i < p.length) (h6:i < 6):(K2 p).l[i]? = some (w64 (p[i]! + 1)):= by
 unfold K2
 rw [List.getElem?_take_of_lt h6,List.getElem?_append_left (by simpa using hi),List.getElem?_map,List.getElem?_eq_getElem hi,getElem!_pos p i hi]; rfl
theorem B4j {p:List Int} {i:Nat} (hi:p.length≤i) (h6:i < 6):(K2 p).l[i]? = some 0:= by
 unfold K2
 rw [List.getElem?_take_of_lt h6,List.getElem?_append_right (by simpa using hi),List.getElem?_replicate,if_pos (by simp; omega)]
theorem D3r {p:List Int} {i:Nat} (hi:i < p.length) (h6:p.length≤6):(K2 (p.take i)).set (i:Int) (w64 (p[i]! + 1)) = K2 (p.take (i + 1)):= by
 apply IArr.ext
 apply List.ext_getElem?
 intro j
 show ((K2 (p.take i)).l.set (i:Int).toNat _)[j]? = _
 rw [Int.toNat_natCast,List.getElem?_set]
 by_cases hj:j < 6
 ·by_cases e:i = j
  ·subst e
   rw [if_pos rfl,if_pos (by rw [B28]; exact hj),B27 (by rw [List.length_take]; omega) hj]
   rw [getElem!_pos p i hi,getElem!_pos (p.take (i + 1)) i (by rw [List.length_take]; omega),List.getElem_take]
  ·rw [if_neg e]
   by_cases hlt:j < i
   ·rw [B27 (by rw [List.length_take]; omega) hj,B27 (by rw [List.length_take]; omega) hj]
    rw [getElem!_pos (p.take i) j (by rw [List.length_take]; omega),getElem!_pos (p.take (i + 1)) j (by rw [List.length_take]; omega),List.getElem_take,List.getElem_take]
   ·rw [B4j (by rw [List.length_take]; omega) hj,B4j (by rw [List.length_take]; omega) hj]
 ·rw [if_neg (by omega),List.getElem?_eq_none (by rw [B28]; omega),List.getElem?_eq_none (by rw [B28]; omega)]
theorem C2r {n:Nat} {l:List Int} {i:Nat} {x:Int} (h:l[i]? = some x) (hi:i < n):A0y n l (i:Int) = some x:= by
 unfold A0y
 rw [if_pos ⟨Int.natCast_nonneg i,by omega⟩,Int.toNat_natCast,h]
theorem C9k:K2 [] = IArr.zero 6:=rfl
theorem B5l {p:List Int} (h6:p.length≤6) {i:Nat} (hi:i < p.length):A0y 6 (K2 p).l (i:Int) = some (w64 (p[i]! + 1)) :=
 C2r (B27 hi (by omega)) (by omega)
def B45 (t:VaTrain) (i k:Nat):Bool:=t.Apart.any fun y=>(y.A == (i:Int) && y.B == (k:Int))
def L6 (t:VaTrain) (p:List Int):Prop:=∀ i,i < p.length→-1≤p[i]!∧p[i]! < t.Vans.length
def A13 (t:VaTrain) (p:List Int) (k:Nat):Bool :=
 p[k]! == -1 || (first (fun i=>if p[i]! == p[k]! && B45 t i k then some false else none) (k + 1)).getD (decide (K6 t p p[k]! (k + 1)≤t.Vans[p[k]!.toNat]!.Room))
theorem E1e {a b:Int} (ha:-1≤a∧a≤3) (hb:-1≤b∧b≤3):(w64 (a + 1) != w64 (b + 1)) = !(a == b):= by
 rw [D0 (by omega),D0 (by omega),bne]
 congr 1
 rw [Bool.eq_iff_iff,beq_iff_eq,beq_iff_eq]; omega
theorem B26 {t:VaTrain} (h:TOk t) (p:List Int) (hp:p.length≤t.Crates.length) (hr:L6 t p) (k:Nat) (hk:k < p.length) :
  I5 ⟨t⟩ (K2 p) (k:Int) = some (A13 t p k):= by
 have hl:=h.crates
 have hv:=h.vans
 have ha:=h.apart
 have r:=hr k hk
 unfold I5 A13
 rw [B5l (by omega) hk]
 simp only [Option.bind_some]
 by_cases c:p[k]! = -1
 ·rw [c]; rfl
 have e0:(w64 (p[k]! + 1) == 0) = false:= by rw [D0 (by omega),beq_eq_false_iff_ne]; omega
 have e1:(p[k]! == -1) = false:=beq_eq_false_iff_ne.mpr c
 rw [e0,e1]
 have l1:=B2q (b:=X3 ⟨t⟩ (K2 p) (k:Int) (w64 (p[k]! + 1))) (fun i=>(K6 t p p[k]! i,(i:Int))) (k + 1)
  (fun i=>(if p[i]! == p[k]! && B45 t i k then some false else none).map Sum.inl) (.inr (K6 t p p[k]! (k + 1))) (by omega)
  (fun i hi _=>by
   unfold X3
   simp only []
   have hi2:i < p.length:= by omega
   have r2:=hr i hi2
   rw [if_pos (by rw [D0 (by omega),decide_eq_true_eq]; omega),B5l (by omega) hi2,E5 (show i < t.Crates.length by omega)]
   simp only [Option.bind_some]
   rw [E1e (by omega) (by omega),D0 (n:=(i:Int) + 1) (by omega)]
   rw [C1a t.Apart _ (fun y=>(y.A == (i:Int) && (y.B == (k:Int)))) (by omega) (fun x _=>by
    unfold Y8; simp)]
   have hb:=B24 h p p[k]! i (by omega)
   have hc:=h.crate i (by omega)
   have:=hc.size1; have:=hc.size
   have es:K6 t p p[k]! (i + 1) = if p[i]! == p[k]! then K6 t p p[k]! i + t.Crates[i]!.Size else K6 t p p[k]! i:=rfl
   rw [es,D0 (n:=K6 t p p[k]! i + t.Crates[i]!.Size) (by omega)]
   unfold B45
   generalize (t.Apart.any fun y=>(y.A == (i:Int) && (y.B == (k:Int)))) = q
   cases p[i]! == p[k]! <;> cases q <;> rfl)
  (fun _=>by
   unfold X3
   simp only []
   rw [if_neg (by rw [D0 (by omega),decide_eq_true_eq]; omega)])
 rw [if_neg (by simp),show ((0:Int),(0:Int)) = (K6 t p p[k]! 0,((0:Nat):Int)) from rfl,l1,Q8]
 cases first (fun i=>if p[i]! == p[k]! && B45 t i k then some false else none) (k + 1) with
 | some x=>rfl
 | none =>
  simp only [Option.map_none,Option.getD_none,Option.bind_some,Bool.false_or]
  rw [D0 (n:=p[k]! + 1) (by omega),D0 (by omega),B78 (by omega) (by omega)]
  simp only [Option.bind_some]
  rw [show p[k]! + 1 - 1 = p[k]! by omega]
theorem A0h (t:VaTrain) (p:List Int) (v:Int) (n:Nat):K6 t p v (n + 1) = if p[n]! == v then K6 t p v n + t.Crates[n]!.Size else K6 t p v n:=rfl
theorem B1t {t:VaTrain} (h:TOk t) (p:List Int) (v:Int) (m:Nat):∀d,m + d≤t.Crates.length→K6 t p v m≤K6 t p v (m + d)
 | 0,_=>Int.le_refl _
 | d + 1,hd=>by
  have ih:=B1t h p v m d (by omega)
  have hc:=(h.crate (m + d) (by omega)).size1
  rw [show m + (d + 1) = (m + d) + 1 from rfl,A0h]
  cases p[m + d]! == v
  ·simpa using ih
  ·rw [if_pos rfl]; omega
def Good (t:VaTrain) (p:List Int):Prop :=
 (∀ v:Nat,v < t.Vans.length→K6 t p v p.length≤t.Vans[v]!.Room) ∧
 (∀ i,i < t.Apart.length→¬ (p[t.Apart[i]!.A.toNat]! = p[t.Apart[i]!.B.toNat]!∧p[t.Apart[i]!.A.toNat]! ≠ -1))
theorem A16 (t:VaTrain) (p:List Int):good t p = true↔Good t p:= by
 unfold good Good
 constructor
 ·intro h
  cases h1:first (A9g t p) t.Vans.length with
  | some x =>
   obtain ⟨i,_,h2,_⟩:=N5 h1
   rw [h1] at h
   have h:x = true:=h
   unfold A9g at h2
   split at h2
   ·rw [← Option.some.inj h2] at h; exact absurd h (by decide)
   ·exact absurd h2 (by simp)
  | none =>
  rw [h1] at h
  cases h2:first (clash t p) t.Apart.length with
  | some x =>
   obtain ⟨i,_,h3,_⟩:=N5 h2
   rw [h2] at h
   have h:x = true:=h
   unfold clash at h3
   split at h3
   ·rw [← Option.some.inj h3] at h; exact absurd h (by decide)
   ·exact absurd h3 (by simp)
  | none =>
  refine ⟨fun v hv=>?_,fun i hi hc=>?_⟩
  ·have:=F6.mp h1 v hv
   unfold A9g at this
   split at this
   ·exact absurd this (by simp)
   ·omega
  ·have:=F6.mp h2 i hi
   unfold clash at this
   rw [if_pos (by rw [Bool.and_eq_true,beq_iff_eq,bne_iff_ne]; exact hc)] at this
   exact absurd this (by simp)
 ·intro h
  rw [F6.mpr fun v hv=>by
   unfold A9g
   have:=h.1 v hv
   rw [if_neg (by omega)],F6.mpr fun i hi=>by
   unfold clash
   rw [if_neg (by rw [Bool.and_eq_true,beq_iff_eq,bne_iff_ne]; exact h.2 i hi)]]
  rfl
theorem B3s (t:VaTrain) (i k:Nat):B45 t i k = true↔∃ j,j < t.Apart.length∧t.Apart[j]!.A = i∧t.Apart[j]!.B = k:= by
 unfold B45
 rw [List.any_eq_true]
 constructor
 ·rintro ⟨x,hx,hq⟩
  obtain ⟨j,hj,e⟩:=List.mem_iff_getElem.mp hx
  rw [Bool.and_eq_true,beq_iff_eq,beq_iff_eq] at hq
  refine ⟨j,hj,?_⟩
  rw [getElem!_pos t.Apart j hj,e]; exact hq
 ·rintro ⟨j,hj,hq⟩
  refine ⟨t.Apart[j]!,A07 hj,?_⟩
  rw [Bool.and_eq_true,beq_iff_eq,beq_iff_eq]; exact hq
theorem A5p {t:VaTrain} (p:List Int) (k:Nat):A13 t p k = true↔(p[k]! = -1∨((∀ i,i≤k→¬ (p[i]! = p[k]!∧B45 t i k = true))∧K6 t p p[k]! (k + 1)≤t.Vans[p[k]!.toNat]!.Room)):= by
 unfold A13
 rw [Bool.or_eq_true,beq_iff_eq]
 constructor
 ·rintro (h | h)
  ·exact .inl h
  ·refine .inr ?_
   cases hf:first (fun i=>if p[i]! == p[k]! && B45 t i k then some false else none) (k + 1) with
   | some x =>
    obtain ⟨i,_,h2,_⟩:=N5 hf
    rw [hf] at h
    have h:x = true:=h
    split at h2
    ·rw [← Option.some.inj h2] at h; exact absurd h (by decide)
    ·exact absurd h2 (by simp)
   | none =>
    rw [hf] at h
    refine ⟨fun i hi hc=>?_,of_decide_eq_true h⟩
    have:=F6.mp hf i (by omega)
    rw [if_pos (by rw [Bool.and_eq_true,beq_iff_eq]; exact hc)] at this
    exact absurd this (by simp)
 ·rintro (h | h)
  ·exact .inl h
  ·refine .inr ?_
   rw [F6.mpr fun i hi=>by rw [if_neg (by rw [Bool.and_eq_true,beq_iff_eq]; exact h.1 i (by omega))]]
   exact decide_eq_true h.2
def B2f (t:VaTrain) (p:List Int) (v s:Int) (e:Nat):Bool:=iter (fun j b=>b || (p[j]! == v && t.Crates[j]!.Stop == s)) e false
theorem B0d (t:VaTrain) (p:List Int) (v s:Int) (e:Nat):B2f t p v s (e + 1) = (B2f t p v s e || (p[e]! == v && t.Crates[e]!.Stop == s)):=rfl
def N4 (t:VaTrain) (p:List Int) (v s:Int) (i:Nat):Bool:=p[i]! == v && decide (s < t.Crates[i]!.Stop) && B2f t p v s i
def handled (t:VaTrain) (p:List Int) (v s:Int) (n:Nat):Int:=iter (fun i c=>if N4 t p v s i then c + 1 else c) n 0
theorem Z0 (t:VaTrain) (p:List Int) (v s:Int) (n:Nat):handled t p v s (n + 1) = if N4 t p v s n then handled t p v s n + 1 else handled t p v s n:=rfl
theorem A0x (t:VaTrain) (p:List Int) (v s:Int):∀n:Nat,0≤handled t p v s n∧handled t p v s n≤n
 | 0=>⟨Int.le_refl 0,Int.le_refl 0⟩
 | n + 1=>by
  have ih:=A0x t p v s n
  rw [Z0]
  cases N4 t p v s n
  ·rw [if_neg (by simp)]; omega
  ·rw [if_pos rfl]; omega
theorem A2l {t:VaTrain} (h:TOk t) (p:List Int) (hp:p.length = t.Crates.length) (v s:Int):W3 t p v s = some (handled t p v s p.length):= by
 have hl:=h.crates
 unfold W3
 rw [show ((0:Int),(0:Int)) = (handled t p v s 0,((0:Nat):Int)) from rfl,G4 (b:=A2k t p v s) (fun i=>(handled t p v s i,(i:Int))) p.length (r:=handled t p v s p.length) (by omega) (fun i hi=>by
  have hb:=A0x t p v s i
  unfold A2k
  simp only []
  rw [if_pos (by simpa using hi),E5 hi,E5 (show i < t.Crates.length by omega)]
  simp only [Option.bind_some]
  rw [show ((false:Bool),(0:Int)) = (B2f t p v s 0,((0:Nat):Int)) from rfl,G4 (b:=A2j t p v s (handled t p v s i,(i:Int))) (fun e=>(B2f t p v s e,(e:Int))) i (r:=B2f t p v s i) (by omega) (fun e he=>by
   unfold A2j
   simp only []
   rw [if_pos (by simpa using he),E5 (show e < p.length by omega),E5 (show e < t.Crates.length by omega),B0d,D0 (by omega)]
   simp only [Option.bind_some]
   cases B2f t p v s e <;> cases p[e]! == v <;> rfl) (by
   unfold A2j
   simp only []
   rw [if_neg (by simp)])]
  rw [Z0,D0 (n:=(i:Int) + 1) (by omega),D0 (by omega)]
  unfold N4
  simp only [Option.bind_some]
  rw [show decide (t.Crates[i]!.Stop≤s) = !decide (s < t.Crates[i]!.Stop) by rw [Bool.eq_iff_iff]; simp,bne]
  cases p[i]! == v <;> cases decide (s < t.Crates[i]!.Stop) <;> cases B2f t p v s i <;> rfl) (by
  unfold A2k
  simp only []
  rw [if_neg (by simp)])]
 rfl
def tw (t:VaTrain) (p:List Int) (v:Int):List Int:=(List.range t.Stops.toNat).map fun (s:Nat)=>handled t p v s p.length
theorem A79 {α:Type} (f:Nat→α) (n:Nat):(List.range n).map f++[f n] = (List.range (n + 1)).map f:= by
 rw [List.range_succ,List.map_append]; rfl
def bits (a b c:Bool):Int:=(if a then 1 else 0) + (if b then 2 else 0) + (if c then 4 else 0)
def nth3 (a b c:Bool):Nat→Bool
 | 0=>a
 | 1=>b
 | _=>c
theorem D6y (a b c:Bool) (s:Nat) (h:s < 3):(B30 .i64 (bits a b c) (s:Int)).bind (fun x=>some ((B7m x 1) == 0)) = some (!nth3 a b c s):= by
 rcases s with _ | _ | _ | s
 ·revert a b c; decide
 ·revert a b c; decide
 ·revert a b c; decide
 ·omega
theorem D60 (a b c:Bool) (s:Nat) (h:s < 3):(D3e .i64 1 (s:Int)).map (fun x=>orI (bits a b c) x) = some (bits (a || s == 0) (b || s == 1) (c || s == 2)):= by
 rcases s with _ | _ | _ | s
 ·revert a b c; decide
 ·revert a b c; decide
 ·revert a b c; decide
 ·omega
theorem A5v {α:Type} (f g:Nat→α) (n k:Nat) (y:α) (hy:g k = y) (hg:∀s,s ≠ k→g s = f s):((List.range n).map f).set k y = (List.range n).map g:= by
 apply List.ext_getElem?
 intro j
 rw [List.getElem?_set]
 by_cases e:k = j
 ·subst e
  rw [if_pos rfl]
  by_cases c:k < n
  ·rw [if_pos (by simpa using c),List.getElem?_map,List.getElem?_range c,← hy]; rfl
  ·rw [if_neg (by simpa using c),List.getElem?_eq_none (by simp; omega)]
 ·rw [if_neg e]
  by_cases c:j < n
  ·rw [List.getElem?_map,List.getElem?_map,List.getElem?_range c]
   show some (f j) = some (g j)
   rw [hg j (fun h=>e h.symm)]
  ·rw [List.getElem?_eq_none (by simp; omega),List.getElem?_eq_none (by simp; omega)]
theorem T6 {α:Type} (f:Nat→α) {n s:Nat} (h:s < n):idx ((List.range n).map f) (s:Int) = some (f s):= by
 unfold idx
 rw [if_pos (Int.natCast_nonneg s),Int.toNat_natCast,List.getElem?_map,List.getElem?_range h]; rfl
def N9 (t:VaTrain) (p:List Int) (v:Int) (i:Nat) (e s:Nat):Bool:=decide ((s:Int) < t.Crates[i]!.Stop) && B2f t p v s e
def twL (t:VaTrain) (p:List Int) (v:Int) (i e:Nat):List Int:=(List.range t.Stops.toNat).map fun (s:Nat)=>if N9 t p v i e s then handled t p v s i + 1 else handled t p v s i
def C1h (t:VaTrain) (p:List Int) (v:Int) (i:Nat):List Int:=(List.range t.Stops.toNat).map fun (s:Nat)=>handled t p v s i
def B1s (t:VaTrain) (p:List Int) (v:Int) (i e:Nat):Int:=bits (N9 t p v i e 0) (N9 t p v i e 1) (N9 t p v i e 2)
theorem C7t (t:VaTrain) (p:List Int) (v:Int) (i e s:Nat):N9 t p v i (e + 1) s = (N9 t p v i e s || (p[e]! == v && decide (t.Crates[e]!.Stop < t.Crates[i]!.Stop) && t.Crates[e]!.Stop == (s:Int))):= by
 unfold N9
 rw [B0d]
 by_cases c:t.Crates[e]!.Stop = (s:Int)
 ·rw [c]
  cases decide ((s:Int) < t.Crates[i]!.Stop) <;> cases B2f t p v s e <;> cases p[e]! == v <;> simp
 ·have e1:(t.Crates[e]!.Stop == (s:Int)) = false:=beq_eq_false_iff_ne.mpr c
  rw [e1]; simp
theorem Y2 {α:Type} {f g:Nat→α} {n:Nat} (h:∀s,s < n→f s = g s):(List.range n).map f = (List.range n).map g :=
 List.map_congr_left fun s hs=>h s (List.mem_range.mp hs)
theorem D1x {t:VaTrain} (h:TOk t) (p:List Int) (hp:p.length = t.Crates.length) (hr:L6 t p) (v:Nat) (hv:v < t.Vans.length) (i:Nat) (hi:i < p.length) :
  loop (V9 (K2 p) (v:Int) t.Crates[i]! (t.Crates.take i)) (0,0,C1h t p v i) = some (twL t p v i i):= by
 have hl:=h.crates
 have hvs:=h.vans
 have hs1:=h.stops1; have hs2:=h.stops
 have hlen:(t.Crates.take i).length = i:= by rw [List.length_take]; omega
 have e0:((0:Int),(0:Int),C1h t p v i) = (B1s t p v i 0,((0:Nat):Int),twL t p v i 0):= by
  have z:∀s,N9 t p v i 0 s = false:=fun s=>by unfold N9; exact Bool.and_false _
  have e1:B1s t p v i 0 = 0:= by unfold B1s; rw [z,z,z]; rfl
  have e2:twL t p v i 0 = C1h t p v i:=Y2 fun s _=>by rw [z]; rfl
  rw [e1,e2]; rfl
 rw [e0,G4 (b:=V9 (K2 p) (v:Int) t.Crates[i]! (t.Crates.take i)) (fun e=>(B1s t p v i e,(e:Int),twL t p v i e)) i (r:=twL t p v i i) (by omega) (fun e he=>by
  have hc:=h.crate e (by omega)
  have c0:=hc.stop0; have c1:=hc.stop
  have r:=hr e (by omega)
  unfold V9
  simp only []
  rw [if_pos (by rw [hlen,decide_eq_true_eq]; omega),E5 (by omega),B5l (by omega) (show e < p.length by omega)]
  simp only [Option.bind_some]
  rw [getElem!_pos (t.Crates.take i) e (by omega),List.getElem_take,← getElem!_pos t.Crates e (by omega)]
  have ew:(w64 (p[e]! + 1) == w64 ((v:Int) + 1)) = (p[e]! == (v:Int)):= by
   rw [D0 (by omega),D0 (by omega),Bool.eq_iff_iff,beq_iff_eq,beq_iff_eq]; omega
  rw [ew,D0 (n:=(e:Int) + 1) (by omega)]
  obtain ⟨S,hS,eS⟩:∃S:Nat,S < t.Stops.toNat∧t.Crates[e]!.Stop = (S:Int):=⟨t.Crates[e]!.Stop.toNat,by omega,by omega⟩
  have hS3:S < 3:= by omega
  cases q:(p[e]! == (v:Int)) && decide (t.Crates[e]!.Stop < t.Crates[i]!.Stop) with
  | false =>
   have z:∀s,N9 t p v i (e + 1) s = N9 t p v i e s:=fun s=>by rw [C7t,q]; simp
   have e1:B1s t p v i (e + 1) = B1s t p v i e:= by unfold B1s; rw [z,z,z]
   have e2:twL t p v i (e + 1) = twL t p v i e:=Y2 fun s _=>by rw [z]
   rw [e1,e2]; rfl
  | true =>
   rw [if_pos rfl,eS]
   have bg:=D6y (N9 t p v i e 0) (N9 t p v i e 1) (N9 t p v i e 2) S hS3
   have bs:=D60 (N9 t p v i e 0) (N9 t p v i e 1) (N9 t p v i e 2) S hS3
   have zz:∀s,N9 t p v i (e + 1) s = (N9 t p v i e s || S == s):=fun s=>by
    rw [C7t,q,eS,Bool.true_and]
    congr 1
    rw [Bool.eq_iff_iff,beq_iff_eq,beq_iff_eq]; omega
   have n3:nth3 (N9 t p v i e 0) (N9 t p v i e 1) (N9 t p v i e 2) S = N9 t p v i e S:= by
    rcases S with _ | _ | _ | S
    ·rfl
    ·rfl
    ·rfl
    ·omega
   have e1:B1s t p v i (e + 1) = bits (N9 t p v i e 0 || S == 0) (N9 t p v i e 1 || S == 1) (N9 t p v i e 2 || S == 2):= by
    unfold B1s; rw [zz,zz,zz]
   rw [n3] at bg
   show ((B30 .i64 (B1s t p v i e) (S:Int)).bind fun x16=>some ((B7m x16 1) == 0)).bind _ = _
   rw [show B1s t p v i e = bits (N9 t p v i e 0) (N9 t p v i e 1) (N9 t p v i e 2) from rfl,bg]
   simp only [Option.bind_some]
   cases hse:N9 t p v i e S with
   | true =>
    have z:∀s,N9 t p v i (e + 1) s = N9 t p v i e s:=fun s=>by
     rw [zz]
     by_cases c:S = s
     ·subst c; rw [hse]; rfl
     ·have:(S == s) = false:=beq_eq_false_iff_ne.mpr c
      rw [this,Bool.or_false]
    have e1:B1s t p v i (e + 1) = B1s t p v i e:= by unfold B1s; rw [z,z,z]
    have e2:twL t p v i (e + 1) = twL t p v i e:=Y2 fun s _=>by rw [z]
    rw [e1,e2]; rfl
   | false =>
    rw [if_pos (show (!false) = true from rfl)]
    cases hsh:D3e .i64 1 (S:Int) with
    | none=>rw [hsh] at bs; exact absurd bs (by simp)
    | some y =>
    rw [hsh] at bs
    have bs:orI (bits (N9 t p v i e 0) (N9 t p v i e 1) (N9 t p v i e 2)) y = bits (N9 t p v i e 0 || S == 0) (N9 t p v i e 1 || S == 1) (N9 t p v i e 2 || S == 2):=Option.some.inj bs
    simp only [Option.bind_some]
    have hb:=A0x t p v (S:Int) i
    rw [show idx (twL t p v i e) (S:Int) = some (handled t p v S i) by
     unfold twL
     rw [T6 _ hS,hse]; rfl]
    simp only [Option.bind_some]
    rw [bs,e1]
    have e2:A1w (twL t p v i e) (S:Int) (w64 (handled t p v S i + 1)) = twL t p v i (e + 1):= by
     unfold A1w twL
     rw [Int.toNat_natCast]
     refine A5v _ _ _ _ _ ?_ ?_
     ·rw [zz,beq_self_eq_true,Bool.or_true,D0 (by omega)]; rfl
     ·intro s hs
      have:(S == s) = false:=beq_eq_false_iff_ne.mpr fun c=>hs c.symm
      rw [zz,this,Bool.or_false]
    rw [e2]; rfl) (by
  unfold V9
  simp only []
  rw [if_neg (by rw [hlen]; simp)])]
theorem A7s {t:VaTrain} (h:TOk t) (p:List Int) (hp:p.length = t.Crates.length) (hr:L6 t p) (v:Nat) (hv:v < t.Vans.length) :
  L4 ⟨t⟩ (K2 p) (v:Int) = some (tw t p v):= by
 have hl:=h.crates
 have hvs:=h.vans
 have hs1:=h.stops1; have hs2:=h.stops
 unfold L4
 have em:B8e 8 t.Stops (0:Int) = some (C1h t p v 0):= by
  unfold B8e
  rw [if_pos ⟨by omega,by omega,by omega⟩]
  congr 1
  have:C1h t p v 0 = (List.range t.Stops.toNat).map (fun _=>(0:Int)):=rfl
  rw [this,List.map_const',List.length_range]
 simp only []
 rw [em]
 simp only [Option.bind_some]
 rw [show ((0:Int),C1h t p v 0) = (((0:Nat):Int),C1h t p v 0) from rfl,G4 (b:=A04 ⟨t⟩ (K2 p) (v:Int)) (fun i=>((i:Int),C1h t p v i)) t.Crates.length (r:=C1h t p v p.length) (by omega) (fun i hi=>by
  have r:=hr i (by omega)
  unfold A04
  simp only []
  rw [if_pos (by simpa using hi),E5 hi,B5l (by omega) (show i < p.length by omega)]
  simp only [Option.bind_some]
  have ew:(w64 (p[i]! + 1) != w64 ((v:Int) + 1)) = !(p[i]! == (v:Int)):= by
   rw [D0 (by omega),D0 (by omega),bne]
   congr 1
   rw [Bool.eq_iff_iff,beq_iff_eq,beq_iff_eq]; omega
  rw [ew,D0 (n:=(i:Int) + 1) (by omega),C87 (by omega)]
  simp only [Option.bind_some]
  rw [D1x h p hp hr v hv i (by omega)]
  simp only [Option.bind_some]
  cases q:p[i]! == (v:Int) with
  | false =>
   have:C1h t p v (i + 1) = C1h t p v i:=Y2 fun s _=>by
    rw [Z0]; unfold N4; rw [q]; rfl
   rw [this]; rfl
  | true =>
   have:C1h t p v (i + 1) = twL t p v i i:=Y2 fun s _=>by
    rw [Z0]; unfold N4 N9; rw [q,Bool.true_and]
   rw [this]; rfl) (by
  unfold A04
  simp only []
  rw [if_neg (by simp),hp])]
 rfl
def late (t:VaTrain) (p:List Int) (v:Int) (s:Nat):Int:=iter (fun j a=>a + t.Handle * handled t p v (j:Int) p.length) s 0
def M7 (t:VaTrain) (v s:Nat):Int:=iter (fun j a=>a + (t.Vans[v]!.Legs[j]!).Lo) s 0
def J6 (t:VaTrain) (v s:Nat):Int:=iter (fun j a=>a + (t.Vans[v]!.Legs[j]!).Hi) s 0
def E8 (t:VaTrain) (p:List Int) (v s:Nat):Span:=⟨t.Vans[v]!.Leave + late t p v s + M7 t v (s + 1),t.Vans[v]!.Leave + late t p v s + J6 t v (s + 1)⟩
def tms (t:VaTrain) (p:List Int) (v:Nat):List Span:=(List.range t.Stops.toNat).map fun (s:Nat)=>E8 t p v s
theorem E16 {a b A B:Int} (ha:0≤a∧a≤A) (hb:0≤b∧b≤B):0≤a * b∧a * b≤A * B :=
 ⟨Int.mul_nonneg ha.1 hb.1,Int.mul_le_mul ha.2 hb.2 hb.1 (Int.le_trans ha.1 ha.2)⟩
theorem A18 (t:VaTrain) (p:List Int) (v:Int) (s:Nat):late t p v (s + 1) = late t p v s + t.Handle * handled t p v (s:Int) p.length:=rfl
theorem A2x (t:VaTrain) (v s:Nat):M7 t v (s + 1) = M7 t v s + (t.Vans[v]!.Legs[s]!).Lo:=rfl
theorem S5 (t:VaTrain) (v s:Nat):J6 t v (s + 1) = J6 t v s + (t.Vans[v]!.Legs[s]!).Hi:=rfl
theorem B32 {t:VaTrain} (h:TOk t) (p:List Int) (hp:p.length = t.Crates.length) (v s:Int):0≤t.Handle * handled t p v s p.length∧t.Handle * handled t p v s p.length≤360:= by
 have hl:=h.crates
 have hb:=A0x t p v s p.length
 exact E16 (A:=60) (B:=6) ⟨h.handle0,h.handle⟩ ⟨hb.1,by omega⟩
theorem A6c {t:VaTrain} (h:TOk t) (p:List Int) (hp:p.length = t.Crates.length) (v:Int):∀s:Nat,0≤late t p v s∧late t p v s≤360 * s
 | 0=>⟨Int.le_refl 0,Int.le_refl 0⟩
 | s + 1=>by
  have ih:=A6c h p hp v s
  have:=B32 h p hp v (s:Int)
  rw [A18]; omega
theorem A1n {t:VaTrain} (h:TOk t) (v:Nat) (hv:v < t.Vans.length):∀s:Nat,(s:Int)≤t.Stops→(0≤M7 t v s∧M7 t v s≤600 * s)∧(0≤J6 t v s∧J6 t v s≤600 * s)
 | 0,_=>⟨⟨Int.le_refl 0,Int.le_refl 0⟩,⟨Int.le_refl 0,Int.le_refl 0⟩⟩
 | s + 1,hs=>by
  have ih:=A1n h v hv s (by omega)
  have hw:=h.van v hv
  have hL:=hw.legs
  have hg:=hw.leg s (by omega)
  have:=hg.lo0; have:=hg.lh; have:=hg.hi
  rw [A2x,S5]; omega
theorem B2a {t:VaTrain} (h:TOk t) (p:List Int) (hp:p.length = t.Crates.length) (v:Int) (s:Nat) (hs:(s:Int)≤t.Stops):A6q t p v (s:Int) = some (late t p v s):= by
 have h2:=h.stops
 unfold A6q
 rw [show ((0:Int),(0:Int)) = (late t p v 0,((0:Nat):Int)) from rfl,G4 (b:=A55 t p v (s:Int)) (fun i=>(late t p v i,(i:Int))) s (r:=late t p v s) (by omega) (fun i hi=>by
  unfold A55
  simp only []
  have hb:=A6c h p hp v i
  have hq:=B32 h p hp v (i:Int)
  rw [if_pos (by simpa using hi),A2l h p hp]
  simp only [Option.bind_some]
  rw [D0 (n:=t.Handle * handled t p v (i:Int) p.length) (by omega),D0 (by omega),D0 (by omega)]; rfl) (by
  unfold A55
  simp only []
  rw [if_neg (by simp)])]
 rfl
theorem C53 {t:VaTrain} (h:TOk t) (v:Nat) (hv:v < t.Vans.length) (s:Nat) (hs:(s:Int)≤t.Stops):A3d t (v:Int) 0 (s:Int) = some ⟨M7 t v s,J6 t v s⟩:= by
 have h2:=h.stops
 have hw:=h.van v hv
 have hL:=hw.legs
 unfold A3d
 rw [show ((0:Int),Span.mk 0 0) = (((0:Nat):Int),Span.mk (M7 t v 0) (J6 t v 0)) from rfl,G4 (b:=A0f t (v:Int) (s:Int)) (fun i=>((i:Int),Span.mk (M7 t v i) (J6 t v i))) s (r:=⟨M7 t v s,J6 t v s⟩) (by omega) (fun i hi=>by
  unfold A0f
  simp only []
  have hb:=A1n h v hv i (by omega)
  have hg:=hw.leg i (by omega)
  have:=hg.lo0; have:=hg.lh; have:=hg.hi
  rw [if_pos (by simpa using hi),E5 hv]
  simp only [Option.bind_some]
  rw [E5 (show i < t.Vans[v]!.Legs.length by omega)]
  simp only [Option.bind_some]
  rw [D0 (n:=(i:Int) + 1) (by omega),D0 (by omega),D0 (by omega)]; rfl) (by
  unfold A0f
  simp only []
  rw [if_neg (by simp)])]
 rfl
theorem A8z {t:VaTrain} (h:TOk t) (p:List Int) (hp:p.length = t.Crates.length) (v:Nat) (hv:v < t.Vans.length) (s:Nat) (hs:(s:Int) < t.Stops):A4m t p (v:Int) (s:Int) = some (E8 t p v s):= by
 have h2:=h.stops
 have hw:=h.van v hv
 have:=hw.leave0; have:=hw.leave
 unfold A4m
 have hb:=A1n h v hv (s + 1) (by omega)
 have hq:=A6c h p hp v s
 rw [D0 (n:=(s:Int) + 1) (by omega),show ((s:Int) + 1) = ((s + 1:Nat):Int) from rfl,C53 h v hv (s + 1) (by omega),B2a h p hp v s (by omega),E5 hv]
 simp only [Option.bind_some]
 rw [D0 (n:=t.Vans[v]!.Leave + late t p v s) (by omega),D0 (by omega),D0 (by omega)]; rfl
theorem A7r {t:VaTrain} (h:TOk t) (p:List Int) (hp:p.length = t.Crates.length) (hr:L6 t p) (v:Nat) (hv:v < t.Vans.length):L3 ⟨t⟩ (K2 p) (v:Int) = some (tms t p v):= by
 have h1:=h.stops1; have h2:=h.stops
 have hw:=h.van v hv
 have hL:=hw.legs
 have:=hw.leave0; have:=hw.leave
 have htl:(tw t p v).length = t.Stops.toNat:= by unfold tw; rw [List.length_map,List.length_range]
 unfold L3
 simp only []
 rw [E5 hv,A7s h p hp hr v hv]
 simp only [Option.bind_some]
 rw [show ((0:Int),Span.mk t.Vans[v]!.Leave t.Vans[v]!.Leave,([]:List Span)) = (((0:Nat):Int),Span.mk (t.Vans[v]!.Leave + late t p v 0 + M7 t v 0) (t.Vans[v]!.Leave + late t p v 0 + J6 t v 0),(List.range 0).map fun (s:Nat)=>E8 t p v s) by
  show _ = (_,Span.mk (t.Vans[v]!.Leave + 0 + 0) (t.Vans[v]!.Leave + 0 + 0),_)
  rw [Int.add_zero,Int.add_zero]; rfl]
 rw [G4 (b:=A03 ⟨t⟩ (v:Int) (tw t p v)) (fun i=>((i:Int),Span.mk (t.Vans[v]!.Leave + late t p v i + M7 t v i) (t.Vans[v]!.Leave + late t p v i + J6 t v i),(List.range i).map fun (s:Nat)=>E8 t p v s)) t.Stops.toNat (r:=(Span.mk (t.Vans[v]!.Leave + late t p v t.Stops.toNat + M7 t v t.Stops.toNat) (t.Vans[v]!.Leave + late t p v t.Stops.toNat + J6 t v t.Stops.toNat),tms t p v)) (by omega) (fun i hi=>by
  unfold A03
  simp only []
  have hb:=A1n h v hv i (by omega)
  have hg:=hw.leg i (by omega)
  have:=hg.lo0; have:=hg.lh; have:=hg.hi
  have hq:=A6c h p hp v i
  have hst:=B32 h p hp v (i:Int)
  rw [if_pos (by rw [htl,decide_eq_true_eq]; omega),E5 hv]
  rw [show idx (tw t p v) (i:Int) = some (handled t p v i p.length) by unfold tw; rw [T6 _ hi]]
  simp only [Option.bind_some]
  rw [E5 (show i < t.Vans[v]!.Legs.length by omega)]
  simp only [Option.bind_some]
  rw [Int.mul_comm (handled t p v i p.length) t.Handle]
  have r1:=A2x t v i
  have r2:=S5 t v i
  have r3:=A18 t p v i
  rw [D0 (n:=t.Handle * handled t p v i p.length) (by omega),D0 (n:=t.Vans[v]!.Leave + late t p v i + M7 t v i + t.Vans[v]!.Legs[i]!.Lo) (by omega),D0 (n:=t.Vans[v]!.Leave + late t p v i + J6 t v i + t.Vans[v]!.Legs[i]!.Hi) (by omega),D0 (n:=(i:Int) + 1) (by omega),D0 (by omega),D0 (by omega)]
  have ea:Span.mk (t.Vans[v]!.Leave + late t p v i + M7 t v i + t.Vans[v]!.Legs[i]!.Lo) (t.Vans[v]!.Leave + late t p v i + J6 t v i + t.Vans[v]!.Legs[i]!.Hi) = E8 t p v i:= by
   unfold E8
   rw [r1,r2]
   congr 1 <;> omega
  rw [ea,W4 (by omega) (by simp; omega),A79 (fun (s:Nat)=>E8 t p v s)]
  simp only [Option.bind_some]
  rw [r1,r2,r3]
  rw [show t.Vans[v]!.Leave + late t p v i + M7 t v i + t.Vans[v]!.Legs[i]!.Lo + t.Handle * handled t p v i p.length = t.Vans[v]!.Leave + (late t p v i + t.Handle * handled t p v i p.length) + (M7 t v i + t.Vans[v]!.Legs[i]!.Lo) by omega,show t.Vans[v]!.Leave + late t p v i + J6 t v i + t.Vans[v]!.Legs[i]!.Hi + t.Handle * handled t p v i p.length = t.Vans[v]!.Leave + (late t p v i + t.Handle * handled t p v i p.length) + (J6 t v i + t.Vans[v]!.Legs[i]!.Hi) by omega]
  rfl) (by
  unfold A03
  simp only []
  rw [if_neg (by rw [htl,decide_eq_true_eq]; omega)]; rfl)]
 rfl
def L7 (t:VaTrain) (p:List Int) (a:Nat):Int :=
 if p[a]! == -1 then 2 else
 if (E8 t p p[a]!.toNat t.Crates[a]!.Stop.toNat).Hi≤t.Crates[a]!.By then 1 else
 if (E8 t p p[a]!.toNat t.Crates[a]!.Stop.toNat).Lo > t.Crates[a]!.By then 2 else 0
end Vn
end
section
namespace Vn
theorem P0:G2 = some true:= by decide +kernel
end Vn
end
section
namespace Vn
open Go Am
theorem C8n {t:VaTrain} (p:List Int) (v:Nat) {s:Int} (h0:0≤s) (h:s < t.Stops):idx (tms t p v) s = some (E8 t p v s.toNat):= by
 have e:s = ((s.toNat:Nat):Int):= by omega
 unfold tms
 rw [e,T6 _ (by omega)]; rfl
theorem B04 {t:VaTrain} (h:TOk t) (p:List Int) (hp:p.length = t.Crates.length) (hr:L6 t p) (a:Nat) (ha:a < p.length):P7 ⟨t⟩ (K2 p) (a:Int) = some (L7 t p a):= by
 have hl:=h.crates; have hv:=h.vans
 have r:=hr a ha
 have hc:=h.crate a (by omega)
 unfold P7 L7
 rw [B5l (by omega) ha]
 simp only [Option.bind_some]
 by_cases c:p[a]! = -1
 ·rw [c]; rfl
 have e0:(w64 (p[a]! + 1) == 0) = false:= by rw [D0 (by omega),beq_eq_false_iff_ne]; omega
 have e1:(p[a]! == -1) = false:=beq_eq_false_iff_ne.mpr c
 rw [e0,e1,E5 (show a < t.Crates.length by omega)]
 simp only [Option.bind_some]
 have e2:w64 (w64 (p[a]! + 1) - 1) = ((p[a]!.toNat:Nat):Int):= by rw [D0 (n:=p[a]! + 1) (by omega),D0 (by omega)]; omega
 rw [e2,A7r h p hp hr _ (by omega)]
 simp only [Option.bind_some]
 rw [C8n p _ hc.stop0 hc.stop]
 simp only [Option.bind_some]
 generalize E8 t p p[a]!.toNat t.Crates[a]!.Stop.toNat = g
 generalize t.Crates[a]!.By = b
 by_cases c1:g.Hi≤b <;> by_cases c2:g.Lo > b <;> simp [c1,c2]
theorem B0y {t:VaTrain} (h:TOk t) (p:List Int) (hp:p.length = t.Crates.length) (hr:L6 t p) (a:Nat) (ha:a < p.length):A2w t p (a:Int) = some (L7 t p a):= by
 have hl:=h.crates; have hv:=h.vans
 have r:=hr a ha
 have hc:=h.crate a (by omega)
 have:=hc.stop0; have:=hc.stop
 unfold A2w L7
 rw [E5 ha]
 simp only [Option.bind_some]
 by_cases c:p[a]! = -1
 ·rw [c]; rfl
 have e1:(p[a]! == -1) = false:=beq_eq_false_iff_ne.mpr c
 rw [e1,E5 (show a < t.Crates.length by omega)]
 simp only [Option.bind_some]
 have e2:A4m t p p[a]! t.Crates[a]!.Stop = some (E8 t p p[a]!.toNat t.Crates[a]!.Stop.toNat):= by
  have:=A8z h p hp p[a]!.toNat (by omega) t.Crates[a]!.Stop.toNat (by omega)
  rw [show ((p[a]!.toNat:Nat):Int) = p[a]! by omega,show ((t.Crates[a]!.Stop.toNat:Nat):Int) = t.Crates[a]!.Stop by omega] at this
  exact this
 rw [e2]
 simp only [Option.bind_some]
 generalize E8 t p p[a]!.toNat t.Crates[a]!.Stop.toNat = g
 generalize t.Crates[a]!.By = b
 by_cases c1:g.Hi≤b <;> by_cases c2:g.Lo > b <;> simp [c1,c2]
theorem B01 {α:Type} {l:List Sh} {c:α→List AV} {Q:α→Prop} (h:∀r,SatL l r→∃ x,r = c x∧Q x):∀rows:List (List AV),(∀ r ∈ rows,SatL l r)→∃ xs:List α,rows = xs.map c∧xs.length = rows.length∧∀ x ∈ xs,Q x
 | [],_=>⟨[],rfl,rfl,by simp⟩
 | r :: rows,hr=>by
  obtain ⟨x,hx,hq⟩:=h r (hr r (List.mem_cons_self ..))
  obtain ⟨xs,hxs,hlen,hqs⟩:=B01 h rows fun r' h'=>hr r' (List.mem_cons_of_mem _ h')
  refine ⟨x :: xs,by rw [hx,hxs]; rfl,by rw [List.length_cons,List.length_cons,hlen],?_⟩
  intro y hy
  rcases List.mem_cons.mp hy with rfl | hy
  ·exact hq
  ·exact hqs y hy
theorem E0l (r:List AV) (h:SatL [.int .i64,.int .i64] r):∃x:Span,r = C6 x∧True:= by
 simp only [SatL,Sat] at h
 obtain ⟨x1,q1,rfl,⟨n1,rfl,_⟩,x2,q2,rfl,⟨n2,rfl,_⟩,rfl⟩:=h
 exact ⟨⟨n1,n2⟩,rfl,trivial⟩
theorem D5q (r:List AV) (h:SatL [.int .i64,.int .i64] r):∃x:VaPair,r = C1 x∧True:= by
 simp only [SatL,Sat] at h
 obtain ⟨x1,q1,rfl,⟨n1,rfl,_⟩,x2,q2,rfl,⟨n2,rfl,_⟩,rfl⟩:=h
 exact ⟨⟨n1,n2⟩,rfl,trivial⟩
theorem D2z (r:List AV) (h:SatL [.str,.int .i64,.int .i64,.int .i64] r):∃x:VaCrate,r = A9 x∧x.Name.size≤maxLen:= by
 simp only [SatL,Sat] at h
 obtain ⟨x0,q0,rfl,⟨s,rfl,hs⟩,x1,q1,rfl,⟨n1,rfl,_⟩,x2,q2,rfl,⟨n2,rfl,_⟩,x3,q3,rfl,⟨n3,rfl,_⟩,rfl⟩:=h
 exact ⟨⟨s,n1,n2,n3⟩,rfl,hs⟩
theorem D8c (r:List AV) (h:SatL [.str,.int .i64,.int .i64,.seq 2 [.int .i64,.int .i64]] r):∃x:VaVan,r = C0 x∧x.Name.size≤maxLen:= by
 rw [SatL] at h; obtain ⟨x0,q0,rfl,h0,h⟩:=h
 rw [SatL] at h; obtain ⟨x1,q1,rfl,h1,h⟩:=h
 rw [SatL] at h; obtain ⟨x2,q2,rfl,h2,h⟩:=h
 rw [SatL] at h; obtain ⟨x3,q3,rfl,h3,h⟩:=h
 rw [SatL] at h; subst h
 simp only [Sat] at h0 h1 h2 h3
 obtain ⟨s,rfl,hs⟩:=h0
 obtain ⟨n1,rfl,_⟩:=h1
 obtain ⟨n2,rfl,_⟩:=h2
 obtain ⟨rows,rfl,_,hr⟩:=h3
 obtain ⟨xs,rfl,_,_⟩:=B01 E0l rows hr
 exact ⟨⟨s,n1,n2,xs⟩,rfl,hs⟩
def A9r:List Sh:=[.seq 4 [.str,.int .i64,.int .i64,.seq 2 [.int .i64,.int .i64]],.int .i64,.int .i64,.seq 4 [.str,.int .i64,.int .i64,.int .i64],.seq 2 [.int .i64,.int .i64]]
theorem A6l (r:List AV) (h:SatL A9r r):∃x:VaTrain,r = A3 x∧NB x:= by
 unfold A9r at h
 rw [SatL] at h; obtain ⟨x0,q0,rfl,h0,h⟩:=h
 rw [SatL] at h; obtain ⟨x1,q1,rfl,h1,h⟩:=h
 rw [SatL] at h; obtain ⟨x2,q2,rfl,h2,h⟩:=h
 rw [SatL] at h; obtain ⟨x3,q3,rfl,h3,h⟩:=h
 rw [SatL] at h; obtain ⟨x4,q4,rfl,h4,h⟩:=h
 rw [SatL] at h; subst h
 simp only [Sat] at h0 h1 h2 h3 h4
 obtain ⟨rows0,rfl,_,hr0⟩:=h0
 obtain ⟨n1,rfl,_⟩:=h1
 obtain ⟨n2,rfl,_⟩:=h2
 obtain ⟨rows3,rfl,_,hr3⟩:=h3
 obtain ⟨rows4,rfl,_,hr4⟩:=h4
 obtain ⟨xs,rfl,_,hq0⟩:=B01 D8c rows0 hr0
 obtain ⟨ys,rfl,_,hq3⟩:=B01 D2z rows3 hr3
 obtain ⟨zs,rfl,_,_⟩:=B01 D5q rows4 hr4
 refine ⟨⟨xs,n1,n2,ys,zs⟩,rfl,fun v hv=>?_,fun v hv=>?_⟩
 ·have:=hq0 v hv; simp only [maxLen] at this; omega
 ·have:=hq3 v hv; simp only [maxLen] at this; omega
theorem B1d {g:Ghost} {cs:List Value} {r:List AV} (hr:r.length = cs.length) (h:∀(j:Nat) (x:AV),r[j]? = some x→∃ v,cs[j]? = some v∧Den g.Φ x v∧v.oneCell' = true):V g (.agg r) (.agg cs.toArray):= by
 refine .agg r cs.toArray (by simpa using hr.symm) ?_ ?_
 ·intro j x hx
  obtain ⟨v,hv,hd,_⟩:=h j x hx
  rw [List.getElem?_toArray,hv]; exact .den _ _ hd
 ·intro j x hx
  obtain ⟨v,hv,_,h1⟩:=h j x hx
  rw [List.getElem?_toArray,hv]; exact h1
end Vn
end
section
set_option maxRecDepth 100000
set_option maxHeartbeats 0
namespace Vn
open Go Am Go.Proofs.Ytjjmechghfjbmaa.Cd
end Vn
end
section
namespace Vn
open Go Am
theorem B5u (a b:Int):A5w a b = max a b:= by unfold A5w; split <;> omega
theorem B5v (a b:Int):A89 a b = min a b:= by unfold A89; split <;> omega
theorem A8n {t:VaTrain} (h:TOk t) (p:List Int) (hp:p.length = t.Crates.length) (v:Nat) (hv:v < t.Vans.length) (s:Nat) (hs:(s:Int) < t.Stops) :
  -1000≤(E8 t p v s).Lo∧(E8 t p v s).Lo≤10000∧-1000≤(E8 t p v s).Hi∧(E8 t p v s).Hi≤10000:= by
 have h2:=h.stops
 have hw:=h.van v hv
 have:=hw.leave0; have:=hw.leave
 have hb:=A1n h v hv (s + 1) (by omega)
 have hq:=A6c h p hp v s
 unfold E8
 simp only []
 omega
end Vn
end
section
set_option maxRecDepth 100000
set_option maxHeartbeats 0
namespace Vn
open Go Am Go.Proofs.Ytjjmechghfjbmaa.Cd
def R9 (a0:VaTrain):Option Bool :=
 (W9 a0).bind fun x1 =>
 some (x1.2.2 == 0)
theorem T3 {c:Sc} {H:A6} {a0:VaTrain} {r:Bool} (h:R9 a0 = some r) :
  F2 tab c H (.fn (.func 40) [] []) [(.agg (A3 a0))] [.b r]:= by
 unfold R9 at h
 refine cE rfl rfl<|sg 0 rfl<|A0 (G0 (cs:=A3 a0) rfl rfl rfl) rfl<|qm rfl<|es (ra1 rfl)<|s0<|oB h fun x1 hx1 h=>A0 (C5 rfl rfl rfl) rfl<|B2 (rs:=[.i x1.1,.i x1.2.1,.i x1.2.2]) rfl rfl (A2 (D2 rfl) B4) ((A0z hx1).frz)<|qm rfl<|A0 (A7 rfl rfl) rfl<|A0 (A7 rfl rfl) rfl<|A0 (A7 rfl rfl) rfl<|qm rfl<|qm rfl<|qm rfl<|es (ra1 rfl)<|s0<|qm rfl<|A0 (G7 rfl rfl) rfl<|qm rfl<|es (ra1 rfl)<|C4 ?_
 obtain rfl:=os h
 exact retq trivial (B1 rfl B7) (A5 rfl B6) (A1 A4 A8)
end Vn
end
section
namespace Vn
open Go Am
theorem C55 {t:VaTrain} (h:TOk t) (p:List Int) (hp:p.length≤t.Crates.length) (v:Int):A6s t p v = some (K6 t p v p.length):= by
 unfold A6s
 have hl:=h.crates
 rw [show ((0:Int),(0:Int)) = (K6 t p v 0,((0:Nat):Int)) from rfl,G4 (b:=A0g t p v) (fun i=>(K6 t p v i,(i:Int))) p.length (r:=K6 t p v p.length) (by omega) (fun i hi=>by
  unfold A0g
  simp only []
  rw [if_pos (by simpa using hi),E5 hi,E5 (show i < t.Crates.length by omega)]
  simp only [Option.bind_some]
  have hb:=B24 h p v i (by omega)
  have hc:=h.crate i (by omega)
  have:=hc.size1; have:=hc.size
  rw [D0 (n:=(i:Int) + 1) (by omega),D0 (by omega)]
  show _ = some (Sum.inl ((if p[i]! == v then K6 t p v i + t.Crates[i]!.Size else K6 t p v i),((i + 1:Nat):Int)))
  cases p[i]! == v <;> rfl) (by
  unfold A0g
  simp only []
  rw [if_neg (by simp)])]
 rfl
def B4o (t:VaTrain) (p:List Int) (i:Nat):Option Bool:=if decide (t.Apart[i]!.B < p.length) && (p[t.Apart[i]!.A.toNat]! == p[t.Apart[i]!.B.toNat]! && p[t.Apart[i]!.A.toNat]! != -1) then some false else none
def B4c (t:VaTrain) (p:List Int):Bool:=(first (A9g t p) t.Vans.length).getD ((first (B4o t p) t.Apart.length).getD true)
theorem B2z {t:VaTrain} (h:TOk t) (p:List Int) (hp:p.length≤t.Crates.length):S9 t p = some (B4c t p):= by
 unfold S9
 have hl:=h.crates
 have hv:=h.vans
 have ha:=h.apart
 rw [R3 (b:=S3 t p) t.Vans.length (fun v=>(A9g t p v).map Sum.inl) (.inr ()) (by omega) (fun i hi _=>by
  unfold S3 A9g
  rw [if_pos (by simpa using hi),C55 h p hp,E5 hi]
  simp only [Option.bind_some]
  by_cases c:K6 t p i p.length > t.Vans[i]!.Room
  ·rw [if_pos (by simpa using c),if_pos c]; rfl
  ·rw [if_neg (by simpa using c),if_neg c]; rfl) (by
  unfold S3
  rw [if_neg (by simp)]),Q8]
 unfold B4c
 cases first (A9g t p) t.Vans.length with
 | some x=>rfl
 | none =>
 simp only [Option.map_none,Option.getD_none,Option.bind_some]
 rw [R3 (b:=S4 t p) t.Apart.length (fun v=>(B4o t p v).map Sum.inl) (.inr ()) (by omega) (fun i hi _=>by
  unfold S4 B4o
  have hq:=h.pair i hi
  rw [if_pos (by simpa using hi),E5 hi]
  generalize t.Apart[i]! = g at hq
  have:=hq.a0; have:=hq.ab; have:=hq.b
  simp only [Option.bind_some]
  by_cases hB:g.B < (p.length:Int)
  ·rw [if_pos (by rw [decide_eq_true_eq]; omega),B78 hq.a0 (by omega),B78 (i:=g.B) (by omega) (by omega),decide_eq_true hB]
   simp only [Option.bind_some]
   generalize p[g.A.toNat]! = x
   generalize p[g.B.toNat]! = y
   cases x == y
   ·rfl
   ·cases x != -1 <;> rfl
  ·rw [if_neg (by rw [decide_eq_true_eq]; omega),decide_eq_false hB]; rfl) (by
  unfold S4
  rw [if_neg (by simp)]),Q8]
 cases first (B4o t p) t.Apart.length <;> rfl
def B0b (t:VaTrain) (p:List Int):Prop :=
 (∀ v:Nat,v < t.Vans.length→K6 t p v p.length≤t.Vans[v]!.Room) ∧
 (∀ i,i < t.Apart.length→t.Apart[i]!.B < p.length→¬ (p[t.Apart[i]!.A.toNat]! = p[t.Apart[i]!.B.toNat]!∧p[t.Apart[i]!.A.toNat]! ≠ -1))
theorem B5r (t:VaTrain) (p:List Int):B4c t p = true↔B0b t p:= by
 unfold B4c B0b
 constructor
 ·intro h
  cases h1:first (A9g t p) t.Vans.length with
  | some x =>
   obtain ⟨i,_,h2,_⟩:=N5 h1
   rw [h1] at h
   have h:x = true:=h
   unfold A9g at h2
   split at h2
   ·rw [← Option.some.inj h2] at h; exact absurd h (by decide)
   ·exact absurd h2 (by simp)
  | none =>
  rw [h1] at h
  cases h2:first (B4o t p) t.Apart.length with
  | some x =>
   obtain ⟨i,_,h3,_⟩:=N5 h2
   rw [h2] at h
   have h:x = true:=h
   unfold B4o at h3
   split at h3
   ·rw [← Option.some.inj h3] at h; exact absurd h (by decide)
   ·exact absurd h3 (by simp)
  | none =>
  refine ⟨fun v hv=>?_,fun i hi hB hc=>?_⟩
  ·have:=F6.mp h1 v hv
   unfold A9g at this
   split at this
   ·exact absurd this (by simp)
   ·omega
  ·have:=F6.mp h2 i hi
   unfold B4o at this
   rw [if_pos (by rw [Bool.and_eq_true,Bool.and_eq_true,beq_iff_eq,bne_iff_ne]; exact ⟨decide_eq_true hB,hc⟩)] at this
   exact absurd this (by simp)
 ·intro h
  rw [F6.mpr fun v hv=>by
   unfold A9g
   have:=h.1 v hv
   rw [if_neg (by omega)],F6.mpr fun i hi=>by
   unfold B4o
   rw [if_neg (by rw [Bool.and_eq_true,Bool.and_eq_true,beq_iff_eq,bne_iff_ne,decide_eq_true_eq]; exact fun ⟨a,b⟩=>h.2 i hi a b)]]
  rfl
theorem B3g {t:VaTrain} (h:TOk t) {p:List Int} (hp:p.length = t.Crates.length):B0b t p↔Good t p:= by
 unfold B0b Good
 constructor
 ·exact fun ⟨a,b⟩=>⟨a,fun i hi=>b i hi (by have:=(h.pair i hi).b; omega)⟩
 ·exact fun ⟨a,b⟩=>⟨a,fun i hi _=>b i hi⟩
theorem A06 {p:List Int} {x:Int} {i:Nat} (h:i < p.length):(p++[x])[i]! = p[i]!:= by
 rw [getElem!_pos (p++[x]) i (by rw [List.length_append]; omega),getElem!_pos p i h,List.getElem_append_left h]
theorem P9 {p:List Int} {x:Int}:(p++[x])[p.length]! = x:= by
 rw [getElem!_pos (p++[x]) p.length (by rw [List.length_append]; simp)]; simp
theorem A9s {t:VaTrain} {p q:List Int} {v:Int}:∀{n:Nat},(∀ i,i < n→p[i]! = q[i]!)→K6 t p v n = K6 t q v n
 | 0,_=>rfl
 | n + 1,h=>by
  rw [A0h,A0h,A9s fun i hi=>h i (by omega),h n (by omega)]
theorem D2n {t:VaTrain} (h:TOk t) {p:List Int} {x:Int} (hp:p.length < t.Crates.length) (hg:B0b t (p++[x])):B0b t p:= by
 have hl:(p++[x]).length = p.length + 1:= by simp
 refine ⟨fun v hv=>?_,fun i hi hB hc=>?_⟩
 ·have h1:=hg.1 v hv
  rw [hl] at h1
  have h2:=B1t h (p++[x]) v p.length 1 (by omega)
  rw [A9s (p:=p++[x]) (q:=p) fun i hi=>A06 hi] at h2
  omega
 ·have hq:=h.pair i hi
  have:=hq.a0; have:=hq.ab
  refine hg.2 i hi (by rw [hl]; omega) ?_
  rw [A06 (by omega),A06 (by omega)]; exact hc
theorem B3h {t:VaTrain} (h:TOk t) {p:List Int} (hp:p.length < t.Crates.length) (hg:B0b t p):B0b t (p++[-1]):= by
 have hl:(p++[(-1:Int)]).length = p.length + 1:= by simp
 refine ⟨fun v hv=>?_,fun i hi hB hc=>?_⟩
 ·have h1:=hg.1 v hv
  rw [hl,A0h,P9,A9s (p:=p++[-1]) (q:=p) fun i hi=>A06 hi]
  rw [if_neg (by rw [beq_iff_eq]; omega)]; exact h1
 ·have hq:=h.pair i hi
  have:=hq.a0; have:=hq.ab
  rw [hl] at hB
  by_cases c:t.Apart[i]!.B < p.length
  ·rw [A06 (by omega),A06 (by omega)] at hc
   exact hg.2 i hi c hc
  ·have e:t.Apart[i]!.B.toNat = p.length:= by omega
   rw [e,P9] at hc
   exact hc.2 hc.1
structure PlanOk (t:VaTrain) (p:List Int):Prop where
 len:p.length = t.Crates.length
 range:L6 t p
 good:good t p = true
theorem B1k {t:VaTrain} {p:List Int} {x:Int} (h:L6 t p) (hx:-1≤x∧x < t.Vans.length):L6 t (p++[x]):= by
 intro i hi
 by_cases c:i < p.length
 ·rw [A06 c]; exact h i c
 ·have:i = p.length:= by simp at hi; omega
  subst this; rw [P9]; exact hx
theorem A7t (t:VaTrain):R9 t = some ((check t).2.2 == 0):= by
 unfold R9
 rw [T4]; rfl
section
variable {β:Type} {n:Nat}
theorem B6w (k:IArr n):∀(es:List (IArr n × β)) (i:Nat),mfind k es (i + 1) = (mfind k es i).map fun x=>(x.1 + 1,x.2)
 | [],_=>rfl
 | e :: es,i=>by
  unfold mfind
  split
  ·rfl
  ·exact B6w k es (i + 1)
theorem B2s (k:IArr n) (e:IArr n × β) (es:List (IArr n × β)):mget (e :: es) k = if (k.l == e.1.l) = true then some e.2 else mget es k:= by
 unfold mget
 rw [mfind]
 split
 ·rfl
 ·rw [B6w]; cases mfind k es 0 <;> rfl
theorem D5k (k:IArr n) (v:β) (e:IArr n × β) (es:List (IArr n × β)):mset (e :: es) k v = if (k.l == e.1.l) = true then (k,v) :: es else e :: mset es k v:= by
 have e1:mfind k (e :: es) 0 = if (k.l == e.1.l) = true then some (0,e.2) else (mfind k es 0).map fun x=>(x.1 + 1,x.2):= by
  rw [mfind,B6w]
 unfold mset
 rw [e1]
 by_cases h:(k.l == e.1.l) = true
 ·rw [if_pos h,if_pos h]; rfl
 ·rw [if_neg h,if_neg h]
  cases mfind k es 0 with
  | none=>rfl
  | some x=>rfl
theorem C7d (k:IArr n) (v:β) (q:IArr n):∀es:List (IArr n × β),mget (mset es k v) q = if (q.l == k.l) = true then some v else mget es q
 | []=>by
  show mget [(k,v)] q = _
  rw [B2s]
 | e :: es=>by
  rw [D5k]
  by_cases h:(k.l == e.1.l) = true
  ·rw [if_pos h,B2s,B2s]
   have he:k.l = e.1.l:= by simpa using h
   by_cases h2:(q.l == k.l) = true
   ·rw [if_pos h2,if_pos h2]
   ·rw [if_neg h2,if_neg h2,if_neg (by rw [← he]; exact h2)]
  ·rw [if_neg h,B2s,B2s,C7d k v q es]
   by_cases h2:(q.l == k.l) = true
   ·have hq:q.l = k.l:= by simpa using h2
    rw [if_neg (by rw [hq]; exact h),if_pos h2,if_pos h2]
   ·rw [if_neg h2,if_neg h2]
end
def Inv (t:VaTrain) (ms:List (IArr 6 × van_found)):Prop:=∀ p x,mget ms p = some x→look0 t p = some x
theorem C8r (t:VaTrain):Inv t []:=fun p x h=>by simp [mget,mfind] at h
theorem C27 {t:VaTrain} {ms:List (IArr 6 × van_found)} {p:IArr 6} {x:van_found} (hi:Inv t ms) (h:look0 t p = some x):∃ms',B8a t ms p = some (x,ms')∧Inv t ms':= by
 unfold B8a
 cases hg:mget ms p with
 | some y =>
  have:=hi p y hg
  rw [h] at this
  cases this
  exact ⟨ms,rfl,hi⟩
 | none =>
  rw [h]
  refine ⟨_,rfl,fun q y hq=>?_⟩
  rw [C7d] at hq
  split at hq
  ·next e =>
   have:q = p:=IArr.ext (by simpa using e)
   cases hq; rw [this]; exact h
  ·exact hi q y hq
end Vn
end
section
set_option maxRecDepth 100000
set_option maxHeartbeats 0
namespace Vn
open Go Am Go.Proofs.Ytjjmechghfjbmaa.Cd
def A2o (a0:VaTrain) (s1:((List (List Int)) × Int)) (s4:(Int × (List (List Int)))) (s7:(Int × (List (List Int)))):Option ((Int × (List (List Int))) ⊕ (List (List Int))) :=
 if (decide (s7.1≤(List.length a0.Vans:Int))) = true then
  (if (s7.1 == (List.length a0.Vans:Int)) = true then
   some (-1)
  else
   some s7.1).bind fun (p10:Int) =>
  (idx s1.1 s4.1).bind fun x12 =>
  (app 8 ([]:List Int) x12).bind fun x13 =>
  (app 8 x13 [p10]).bind fun x14 =>
  (S9 a0 x14).bind fun x15 =>
  if x15 = true then
  (app 24 s7.2 [x14]).bind fun x17 =>
  some (.inl ((w64 (s7.1 + 1)),x17))
  else
  some (.inl ((w64 (s7.1 + 1)),s7.2))
 else
  some (.inr s7.2)
def A2p (a0:VaTrain) (s1:((List (List Int)) × Int)) (s4:(Int × (List (List Int)))):Option ((Int × (List (List Int))) ⊕ (List (List Int))) :=
 if (decide (s4.1 < (List.length s1.1:Int))) = true then
  (loop (A2o a0 s1 s4) (0,s4.2)).bind fun (o18:(List (List Int))) =>
  some (.inl ((w64 (s4.1 + 1)),o18))
 else
  some (.inr s4.2)
def A4p (a0:VaTrain) (s1:((List (List Int)) × Int)):Option (((List (List Int)) × Int) ⊕ (List (List Int))) :=
 if (decide (s1.2 < (List.length a0.Crates:Int))) = true then
  (loop (A2p a0 s1) (0,([]:List (List Int)))).bind fun (o19:(List (List Int))) =>
  some (.inl (o19,(w64 (s1.2 + 1))))
 else
  some (.inr s1.1)
def A4o (a0:VaTrain):Option (List (List Int)) :=
 (loop (A4p a0) ([([]:List Int)],0)).bind fun (o20:(List (List Int))) =>
 some o20
theorem B0p {c:Sc} {H:A6} {a0:VaTrain} {r:(List (List Int))} (h:A4o a0 = some r) :
  F2 tab c H (.fn (.func 79) [] []) [(.agg (A3 a0))] [(.seq 1 (List.map (cL 1 cI) r))]:= by
 unfold A4o at h
 refine cE rfl rfl<|sg 0 rfl<|A0 (G0 (cs:=A3 a0) rfl rfl rfl) rfl<|qm rfl<|es (ra1 rfl)<|s0<|A0 (I8 (rows:=List.map (cL 1 cI) [([]:List Int)]) rfl rfl (E4 (fun _=>rfl) _)) rfl<|qm rfl<|es (ra2 rfl rfl)<|B3<|s0<|qm rfl<|es (ra3 rfl rfl rfl)<|B9<|oB h fun o20 ho20 h=>wl (fun s1=>[(1,(.ptr (H.length + 0) 0)),(3,(.seq 1 (List.map (cL 1 cI) s1.1))),(4,.i s1.2)]) (fun (q2:Unit) s1=>[(.cells (A3 a0))]) 1 (fun r e s' H'=>PX 0 [(3,(.seq 1 (List.map (cL 1 cI) r)))] (H++[(.cells (A3 a0))]) e s' H') () ho20 rfl rfl (fun _ _=>rfl) (fun _=>rfl) rfl (fun s1=>(bdc (D5 rfl) (bdc D8 (bdc A4 bdn)))) (fun q2 s1 ys1 hs1=>?_) ?_
 ·unfold A4p at hs1
  refine B3<|s0<|qm rfl<|A0 (C3 rfl) rfl<|A0 (B5 rfl rfl rfl) rfl<|A0 (D3 (f:=A9) rfl) rfl<|A0 (F4 rfl rfl) rfl<|es (ra4 rfl rfl rfl rfl)<|wi hs1 rfl (fun hc3 hs1=>?_) fun hc3 hs1=>?_
  ·refine C2<|B3<|B9<|sg 1 rfl<|A0 A5y rfl<|es (ra4 rfl rfl rfl rfl)<|B3<|s0<|qm rfl<|es (ra5 rfl rfl rfl rfl rfl)<|B9<|oB hs1 fun o19 ho19 hs1=>wl (fun s4=>[(1,(.ptr (H.length + 0) 0)),(3,(.seq 1 (List.map (cL 1 cI) s1.1))),(4,.i s1.2),(5,(.asl (H.length + 1) (List.length s4.2))),(6,.i s4.1)]) (fun (q5:Unit) s4=>[(.cells (A3 a0)),(.arr 1 false (List.map (cL 1 cI) s4.2))]) 2 (fun r e s' H'=>PX 2 [(1,(.ptr (H.length + 0) 0)),(4,.i s1.2),(5,(.asl (H.length + 1) (List.length r)))] (H++[(.cells (A3 a0)),(.arr 1 false (List.map (cL 1 cI) r))]) e s' H') () ho19 rfl rfl (fun _ _=>rfl) (fun _=>rfl) rfl (fun s4=>(bdc (D5 rfl) (bdc D8 (bdc A4 (bdc (U8 rfl) (bdc A4 bdn)))))) (fun q5 s4 ys4 hs4=>?_) ?_
   ·unfold A2p at hs4
    refine B3<|s0<|qm rfl<|qm rfl<|A0 (D3 (f:=(cL 1 cI)) rfl) rfl<|A0 (F4 rfl rfl) rfl<|es (ra6 rfl rfl rfl rfl rfl rfl)<|wi hs4 rfl (fun hc6 hs4=>?_) fun hc6 hs4=>?_
    ·refine C2<|B3<|B9<|s0<|qm rfl<|es (ra6 rfl rfl rfl rfl rfl rfl)<|B9<|oB hs4 fun o18 ho18 hs4=>wl (fun s7=>[(1,(.ptr (H.length + 0) 0)),(3,(.seq 1 (List.map (cL 1 cI) s1.1))),(4,.i s1.2),(5,(.asl (H.length + 1) (List.length s7.2))),(6,.i s4.1),(7,.i s7.1)]) (fun (q8:Unit) s7=>[(.cells (A3 a0)),(.arr 1 false (List.map (cL 1 cI) s7.2))]) 2 (fun r e s' H'=>PX 4 [(1,(.ptr (H.length + 0) 0)),(3,(.seq 1 (List.map (cL 1 cI) s1.1))),(4,.i s1.2),(5,(.asl (H.length + 1) (List.length r))),(6,.i s4.1)] (H++[(.cells (A3 a0)),(.arr 1 false (List.map (cL 1 cI) r))]) e s' H') () ho18 rfl rfl (fun _ _=>rfl) (fun _=>rfl) rfl (fun s7=>(bdc (D5 rfl) (bdc D8 (bdc A4 (bdc (U8 rfl) (bdc A4 (bdc A4 bdn))))))) (fun q8 s7 ys7 hs7=>?_) ?_
     ·unfold A2o at hs7
      refine B3<|s0<|qm rfl<|A0 (C3 rfl) rfl<|A0 (B5 rfl rfl rfl) rfl<|A0 (D3 (f:=C0) rfl) rfl<|A0 (A8p rfl rfl) rfl<|es (ra7 rfl rfl rfl rfl rfl rfl rfl)<|wi hs7 rfl (fun hc9 hs7=>?_) fun hc9 hs7=>?_
      ·refine C2<|B3<|B9<|s0<|qm rfl<|qm rfl<|es (ra7 rfl rfl rfl rfl rfl rfl rfl)<|B3<|s0<|qm rfl<|A0 (C3 rfl) rfl<|A0 (B5 rfl rfl rfl) rfl<|A0 (D3 (f:=C0) rfl) rfl<|A0 (G7 rfl rfl) rfl<|es (ra8 rfl rfl rfl rfl rfl rfl rfl rfl)<|oB hs7 fun p10 hp10 hs7=>C0d (Q1:=fun e s' H'=>e = .normal∧s' = [(1,(.ptr (H.length + 0) 0)),(3,(.seq 1 (List.map (cL 1 cI) s1.1))),(4,.i s1.2),(5,(.asl (H.length + 1) (List.length s7.2))),(6,.i s4.1),(7,.i s7.1),(8,.i p10)]∧H' = (H++[(.cells (A3 a0)),(.arr 1 false (List.map (cL 1 cI) s7.2))])) ?_ ?_
       ·refine wi hp10 rfl (fun hc11 hp10=>?_) fun hc11 hp10=>?_
        ·refine r0<|qm rfl<|en (ra7 rfl rfl rfl rfl rfl rfl rfl) ?_
         obtain rfl:=os hp10
         exact me (And.intro rfl (And.intro rfl rfl)) (su7 rfl rfl rfl rfl rfl rfl rfl)
        ·refine C2 ?_
         obtain rfl:=os hp10
         exact me (And.intro rfl (And.intro rfl rfl)) (su7 rfl rfl rfl rfl rfl rfl rfl)
       ·rintro e s' H' ⟨rfl,rfl,rfl⟩
        refine sg 2 rfl<|oB hs7 fun x12 hx12 hs7=>oB hs7 fun x13 hx13 hs7=>oB hs7 fun x14 hx14 hs7=>A0 (A9j (rows:=List.map cI []) rfl rfl (E4 (fun _=>rfl) _)) rfl<|qm rfl<|qm rfl<|A0 (D4 (f:=(cL 1 cI)) rfl rfl hx12) rfl<|A0 (D6 rfl rfl) rfl<|A35 (W8 (f:=cI) rfl rfl rfl rfl U0 (fun _=>rfl) hx13) rfl<|qm rfl<|A0 (I8 (rows:=List.map cI [p10]) rfl rfl (E4 (fun _=>rfl) _)) rfl<|A35 (C8w (f:=cI) rfl rfl rfl rfl U0 (fun _=>rfl) hx14) rfl<|qm rfl<|es (ra7 rfl rfl rfl rfl rfl rfl rfl)<|s0<|oB hs7 fun x15 hx15 hs7=>A0 (C5 rfl rfl rfl) rfl<|qm rfl<|B2 (rs:=[.b x15]) rfl rfl (A2 (D2 rfl) (A2 rfl B4)) ((A48 hx15).frz)<|es (ra8 rfl rfl rfl rfl rfl rfl rfl rfl)<|wi hs7 rfl (fun hc16 hs7=>?_) fun hc16 hs7=>?_
        ·refine r0<|oB hs7 fun x17 hx17 hs7=>qm rfl<|qm rfl<|A0 (I8 (rows:=List.map (cL 1 cI) [x14]) rfl rfl (E4 (fun _=>rfl) _)) rfl<|A35 (W8 (f:=(cL 1 cI)) rfl rfl rfl rfl U0 (fun _=>rfl) hx17) rfl<|qm rfl<|en (ra6 rfl rfl rfl rfl rfl rfl)<|r0<|qm rfl<|A0 (D7 rfl rfl) rfl<|qm rfl<|en (ra6 rfl rfl rfl rfl rfl rfl) ?_
         cases hs7
         exact lnT () rfl (su6 rfl rfl rfl rfl rfl rfl)
        ·refine C2<|r0<|qm rfl<|A0 (D7 rfl rfl) rfl<|qm rfl<|en (ra6 rfl rfl rfl rfl rfl rfl) ?_
         cases hs7
         exact lnT () rfl (su6 rfl rfl rfl rfl rfl rfl)
      ·refine E3 ?_
       obtain rfl:=os hs7
       exact lx rfl px (su5 rfl rfl rfl rfl rfl)
     ·rintro e s' H' - ⟨rfl,rfl,rfl⟩
      refine r0<|qm rfl<|A0 (D7 rfl rfl) rfl<|qm rfl<|en (ra5 rfl rfl rfl rfl rfl) ?_
      cases hs4
      exact lnT () rfl (su5 rfl rfl rfl rfl rfl)
    ·refine E3 ?_
     obtain rfl:=os hs4
     exact lx rfl px (su3 rfl rfl rfl)
   ·rintro e s' H' - ⟨rfl,rfl,rfl⟩
    refine r0<|qm rfl<|A35 (D8a rfl rfl (List.length_map _)) rfl<|en (ra3 rfl rfl rfl)<|r0<|qm rfl<|A0 (D7 rfl rfl) rfl<|qm rfl<|en (ra3 rfl rfl rfl) ?_
    cases hs1
    exact lnT () rfl (su3 rfl rfl rfl)
  ·refine E3 ?_
   obtain rfl:=os hs1
   exact lx rfl px (su1 rfl)
 ·rintro e s' H' - ⟨rfl,rfl,rfl⟩
  refine s0<|qm rfl<|qm rfl<|es (ra1 rfl)<|C4 ?_
  obtain rfl:=os h
  exact retq trivial (B1 rfl B7) (A5 rfl B6) (A1 D8 A8)
end Vn
end
section
namespace Vn
open Go Am
def wheres (t:VaTrain):List Int:=(List.range t.Vans.length).map (fun (v:Nat)=>(v:Int))++[-1]
theorem A3h (t:VaTrain):(wheres t).length = t.Vans.length + 1:= by simp [wheres]
theorem C48 {t:VaTrain} {i:Nat} (hi:i≤t.Vans.length):(wheres t)[i]? = some (if (i:Int) == t.Vans.length then (-1:Int) else (i:Int)):= by
 unfold wheres
 by_cases c:i < t.Vans.length
 ·rw [List.getElem?_append_left (by simpa using c),List.getElem?_map,List.getElem?_range c,if_neg (by rw [beq_iff_eq]; omega)]; rfl
 ·have:i = t.Vans.length:= by omega
  subst this
  rw [List.getElem?_append_right (by simp)]; simp
theorem B6v {t:VaTrain} {v:Int}:v ∈ wheres t↔-1≤v∧v < t.Vans.length:= by
 unfold wheres
 rw [List.mem_append,List.mem_map,List.mem_singleton]
 constructor
 ·rintro (⟨i,hi,rfl⟩ | rfl)
  ·have:=List.mem_range.mp hi; omega
  ·omega
 ·rintro ⟨a,b⟩
  by_cases c:v = -1
  ·exact .inr c
  ·exact .inl ⟨v.toNat,List.mem_range.mpr (by omega),by omega⟩
def ext (t:VaTrain) (p:List Int):List (List Int):=((wheres t).map fun v=>p++[v]).filter (B4c t)
def PLn (t:VaTrain):Nat→List (List Int)
 | 0=>[[]]
 | n + 1=>(PLn t n).flatMap (ext t)
def PL (t:VaTrain):List (List Int):=PLn t t.Crates.length
theorem B8d {t:VaTrain} {p q:List Int}:q ∈ ext t p↔∃ v:Int,(-1≤v∧v < t.Vans.length)∧q = p++[v]∧B0b t q:= by
 unfold ext
 rw [List.mem_filter,List.mem_map,B5r]
 constructor
 ·rintro ⟨⟨v,hv,rfl⟩,hg⟩; exact ⟨v,B6v.mp hv,rfl,hg⟩
 ·rintro ⟨v,hv,rfl,hg⟩; exact ⟨⟨v,B6v.mpr hv,rfl⟩,hg⟩
theorem D3z (t:VaTrain) (p:List Int):(ext t p).length≤t.Vans.length + 1:= by
 unfold ext
 exact Nat.le_trans (List.length_filter_le _ _) (by rw [List.length_map,A3h]; exact Nat.le_refl _)
theorem B9j {t:VaTrain} (h:TOk t):B0b t []:= by
 refine ⟨fun v hv=>(h.van v hv).room0,fun i hi hB=>?_⟩
 have:=(h.pair i hi).a0; have:=(h.pair i hi).ab
 have hB:t.Apart[i]!.B < 0:=hB
 omega
theorem C8p {t:VaTrain} {p:List Int} {x:Int} (h:L6 t (p++[x])):L6 t p:=fun i hi=>by
 have:=h i (by simp; omega)
 rwa [A06 hi] at this
theorem C8u {t:VaTrain} (h:TOk t):∀{n:Nat},n≤t.Crates.length→∀ {p:List Int},p ∈ PLn t n↔p.length = n∧L6 t p∧B0b t p
 | 0,_,p=>by
  show p ∈ [[]]↔_
  rw [List.mem_singleton]
  constructor
  ·rintro rfl; exact ⟨rfl,fun i hi=>by simp at hi,B9j h⟩
  ·exact fun x=>List.length_eq_zero_iff.mp x.1
 | n + 1,hn,p=>by
  show p ∈ (PLn t n).flatMap (ext t)↔_
  rw [List.mem_flatMap]
  constructor
  ·rintro ⟨q,hq,hp⟩
   obtain ⟨a,b,_⟩:=(C8u h (by omega)).mp hq
   obtain ⟨v,hv,rfl,hg⟩:=B8d.mp hp
   exact ⟨by simp; omega,B1k b hv,hg⟩
  ·rintro ⟨a,b,c⟩
   rcases List.eq_nil_or_concat p with rfl | ⟨q,v,rfl⟩
   ·simp at a
   rw [List.concat_eq_append] at a b c ⊢
   have hq:q.length = n:= by simp at a; omega
   refine ⟨q,(C8u h (by omega)).mpr ⟨hq,C8p b,D2n h (by omega) c⟩,B8d.mpr ⟨v,?_,rfl,c⟩⟩
   have:=b q.length (by simp)
   rwa [P9] at this
theorem C74 (t:VaTrain) (hv:t.Vans.length≤3):∀n,(PLn t n).length≤4 ^ n
 | 0=>Nat.le_refl 1
 | n + 1=>by
  show ((PLn t n).flatMap (ext t)).length≤_
  have:∀l:List (List Int),(l.flatMap (ext t)).length≤4 * l.length:= by
   intro l
   induction l with
   | nil=>exact Nat.le_refl 0
   | cons a l ih =>
    rw [List.flatMap_cons,List.length_append,List.length_cons]
    have:=D3z t a
    omega
  have h1:=this (PLn t n)
  have h2:=C74 t hv n
  rw [Nat.pow_succ]; omega
theorem pow4 {n:Nat} (h:n≤6):4 ^ n≤4096:=Nat.pow_le_pow_right (by decide) h
theorem A4h {t:VaTrain} (h:TOk t) {p:List Int}:p ∈ PL t↔PlanOk t p:= by
 unfold PL
 rw [C8u h (Nat.le_refl _)]
 constructor
 ·exact fun ⟨a,b,c⟩=>⟨a,b,(A16 t p).mpr ((B3g h a).mp c)⟩
 ·exact fun x=>⟨x.len,x.range,(B3g h x.len).mpr ((A16 t p).mp x.good)⟩
theorem D15 {t:VaTrain} (h:TOk t):(PL t).length≤4096 :=
 Nat.le_trans (C74 t h.vans _) (pow4 h.crates)
theorem A30 {α:Type} {l:List α} {i:Nat} {x:α} (h:l[i]? = some x):l.take (i + 1) = l.take i++[x]:= by
 rw [List.take_add_one,h]; rfl
theorem D8v {t:VaTrain} (h:TOk t) (out acc:List (List Int)) (i:Int) (k:Nat) (hk:k < out.length) (hl:out[k]!.length < t.Crates.length) (ha:acc.length≤100000) :
  loop (A2o t (out,i) ((k:Int),acc)) (0,acc) = some (acc++ext t out[k]!):= by
 have hv:=h.vans; have hc:=h.crates
 have hx:=E5 hk
 generalize out[k]! = p at *
 refine G4 (b:=A2o t (out,i) ((k:Int),acc)) (fun (j:Nat)=>((j:Int),acc++(((wheres t).take j).map fun v=>p++[v]).filter (B4c t))) (t.Vans.length + 1) (r:=acc++ext t p) (by omega) (fun j hj=>?_) ?_ |> fun x=>by
   rw [List.take_zero,List.map_nil,List.filter_nil,List.append_nil] at x; exact x
 ·unfold A2o
  simp only []
  rw [if_pos (by rw [decide_eq_true_eq]; omega),hx]
  have hw:=C48 (t:=t) (i:=j) (by omega)
  rw [A30 hw]
  generalize hw2:(if (j:Int) == t.Vans.length then (-1:Int) else (j:Int)) = w at *
  have e:(if ((j:Int) == (t.Vans.length:Int)) = true then some (-1:Int) else some (j:Int)) = some w:= by
   rw [← hw2]; split <;> rfl
  rw [e]
  simp only [Option.bind_some]
  rw [W4 (by omega) (by simp; omega)]
  simp only [Option.bind_some,List.nil_append]
  rw [W4 (by omega) (by simp; omega)]
  simp only [Option.bind_some]
  rw [B2z h _ (by simp; omega)]
  simp only [Option.bind_some]
  rw [List.map_append,List.filter_append,List.map_singleton,D0 (n:=(j:Int) + 1) (by omega)]
  have hfl:((((wheres t).take j).map fun v=>p++[v]).filter (B4c t)).length≤4:=Nat.le_trans (List.length_filter_le _ _) (by rw [List.length_map,List.length_take,A3h]; omega)
  cases hg:B4c t (p++[w]) with
  | true =>
   rw [if_pos rfl,W4 (by omega) (by rw [List.length_append]; simp; simp at hfl; omega)]
   simp only [Option.bind_some,List.filter_cons,hg,if_true,List.filter_nil,List.append_assoc]; rfl
  | false =>
   simp only [List.filter_cons,hg,Bool.false_eq_true,if_false,List.filter_nil,List.append_nil]; rfl
 ·unfold A2o
  simp only []
  rw [if_neg (by rw [decide_eq_true_eq]; omega),List.take_of_length_le (by rw [A3h]; exact Nat.le_refl _)]; rfl
theorem C95 {t:VaTrain} {p q:List Int} (h:q ∈ ext t p):q.length = p.length + 1:= by
 obtain ⟨v,_,rfl,_⟩:=B8d.mp h
 simp
theorem D7f (t:VaTrain) (hv:t.Vans.length≤3) (l:List (List Int)):(l.flatMap (ext t)).length≤4 * l.length:= by
 induction l with
 | nil=>exact Nat.le_refl 0
 | cons a l ih =>
  rw [List.flatMap_cons,List.length_append,List.length_cons]
  have:=D3z t a
  omega
theorem D8w {t:VaTrain} (h:TOk t) (out:List (List Int)) (i:Int) (hl:∀q ∈ out,q.length < t.Crates.length) (ho:out.length≤4096) :
  loop (A2p t (out,i)) (0,[]) = some (out.flatMap (ext t)):= by
 have hv:=h.vans
 refine G4 (b:=A2p t (out,i)) (fun (k:Nat)=>((k:Int),(out.take k).flatMap (ext t))) out.length (r:=out.flatMap (ext t)) (by omega) (fun k hk=>?_) ?_
 ·unfold A2p
  simp only []
  have hf:=D7f t hv (out.take k)
  rw [List.length_take] at hf
  rw [if_pos (by rw [decide_eq_true_eq]; omega),D8v h out _ i k hk (hl _ (A07 hk)) (by omega)]
  simp only [Option.bind_some]
  rw [D0 (by omega),A30 (List.getElem?_eq_getElem hk),List.flatMap_append,getElem!_pos out k hk]
  simp
 ·unfold A2p
  simp only []
  rw [if_neg (by rw [decide_eq_true_eq]; omega),List.take_length]
theorem B7g {t:VaTrain}:∀{n:Nat} {q:List Int},q ∈ PLn t n→q.length = n
 | 0,q,hq=>by
  have:q = []:=List.mem_singleton.mp hq
  rw [this]; rfl
 | n + 1,q,hq=>by
  obtain ⟨p,hp,hq⟩:=List.mem_flatMap.mp hq
  rw [C95 hq,B7g hp]
theorem B0x {t:VaTrain} (h:TOk t):A4o t = some (PL t):= by
 have hv:=h.vans; have hc:=h.crates
 unfold A4o
 rw [show (([([]:List Int)],(0:Int)):List (List Int) × Int) = (PLn t 0,((0:Nat):Int)) from rfl,G4 (b:=A4p t) (fun i=>(PLn t i,(i:Int))) t.Crates.length (r:=PL t) (by omega) (fun i hi=>by
  unfold A4p
  simp only []
  rw [if_pos (by rw [decide_eq_true_eq]; omega),D8w h _ _ (fun q hq=>by rw [B7g hq]; exact hi) (Nat.le_trans (C74 t hv i) (pow4 (by omega)))]
  simp only [Option.bind_some]
  rw [D0 (by omega)]; rfl) (by
  unfold A4p
  simp only []
  rw [if_neg (by rw [decide_eq_true_eq]; omega)]; rfl)]
 rfl
section
variable {α σ ρ:Type}
def B4v (f:α→σ→Option (σ ⊕ ρ)):List α→σ→Option (σ ⊕ ρ)
 | [],s=>some (.inl s)
 | a :: l,s=>(f a s).bind fun x=>match x with
  | .inl s'=>B4v f l s'
  | .inr r=>some (.inr r)
theorem B7z (f:α→σ→Option (σ ⊕ ρ)) (m:List α):∀(l:List α) (s:σ),B4v f (l++m) s = (B4v f l s).bind fun x=>match x with
  | .inl s'=>B4v f m s'
  | .inr r=>some (.inr r)
 | [],s=>rfl
 | a :: l,s=>by
  show (f a s).bind _ = ((f a s).bind _).bind _
  cases f a s with
  | none=>rfl
  | some x=>cases x with
   | inl s'=>exact B7z f m l s'
   | inr r=>rfl
theorem D5g {b:σ→Option (σ ⊕ ρ)} (I:Nat→σ→Prop) (n:Nat) (J:ρ→Prop) (hn:n < 9223372036854775808)
  (hs:∀i s,i < n→I i s→(∃ s',b s = some (.inl s')∧I (i + 1) s')∨∃ r,b s = some (.inr r)∧J r) (he:∀s,I n s→∃ r,b s = some (.inr r)∧J r) (s:σ) (h0:I 0 s):∃r,loop b s = some r∧J r:= by
 have key:∀k i s m,i + k = n→k < m→I i s→∃ r,C29 b m s = some r∧J r:= by
  intro k
  induction k with
  | zero =>
   intro i s m hi hm hI
   obtain ⟨m',rfl⟩:∃m',m = m' + 1:=⟨m - 1,by omega⟩
   have:i = n:= by omega
   subst this
   obtain ⟨r,h1,h2⟩:=he s hI
   exact ⟨r,by rw [A4g,h1],h2⟩
  | succ k ih =>
   intro i s m hi hm hI
   obtain ⟨m',rfl⟩:∃m',m = m' + 1:=⟨m - 1,by omega⟩
   rcases hs i s (by omega) hI with ⟨s',h1,h2⟩ | ⟨r,h1,h2⟩
   ·obtain ⟨r,h3,h4⟩:=ih (i + 1) s' m' (by omega) (by omega) h2
    exact ⟨r,by rw [A4g,h1]; exact h3,h4⟩
   ·exact ⟨r,by rw [A4g,h1],h2⟩
 exact key n 0 s _ (by omega) hn h0
end
def DF (t:VaTrain):Nat→List Int→List (List Int)
 | 0,q=>[q]
 | d + 1,q=>(ext t q).flatMap (DF t d)
theorem D6i (t:VaTrain):∀d n,(PLn t n).flatMap (DF t d) = PLn t (n + d)
 | 0,n=>by
  show (PLn t n).flatMap (fun q=>[q]) = _
  rw [List.flatMap_singleton']; rfl
 | d + 1,n=>by
  show (PLn t n).flatMap (fun q=>(ext t q).flatMap (DF t d)) = _
  rw [← List.flatMap_assoc]
  show (PLn t (n + 1)).flatMap (DF t d) = _
  rw [D6i t d (n + 1),show n + 1 + d = n + (d + 1) by omega]
theorem E28 (t:VaTrain):DF t t.Crates.length [] = PL t:= by
 have:=D6i t t.Crates.length 0
 rw [Nat.zero_add] at this
 rw [PL,← this]
 show _ = [[]].flatMap _
 rw [List.flatMap_singleton]
theorem C5k {t:VaTrain} (h:TOk t) {q:List Int} {v:Int} (hq:q.length < t.Crates.length) (hr:L6 t (q++[v])) (hg:B0b t q):B4c t (q++[v]) = A13 t (q++[v]) q.length:= by
 have hlen:(q++[v]).length = q.length + 1:= by simp
 have hv:=hr q.length (by omega)
 rw [P9] at hv
 rw [Bool.eq_iff_iff,B5r,A5p,P9]
 constructor
 ·intro g
  by_cases c:v = -1
  ·exact .inl c
  refine .inr ⟨fun i hi ⟨e,hp⟩=>?_,?_⟩
  ·obtain ⟨j,hj,e1,e2⟩:=(B3s t i q.length).mp hp
   refine g.2 j hj (by rw [hlen]; omega) ?_
   rw [e1,e2,Int.toNat_natCast,Int.toNat_natCast,e,P9]
   exact ⟨rfl,c⟩
  ·have:=g.1 v.toNat (by omega)
   rw [hlen] at this
   rwa [show ((v.toNat:Nat):Int) = v by omega] at this
 ·intro g
  rcases g with rfl | ⟨g1,g2⟩
  ·exact B3h h hq hg
  by_cases c:v = -1
  ·subst c; exact B3h h hq hg
  refine ⟨fun u hu=>?_,fun i hi hB hc=>?_⟩
  ·rw [hlen]
   by_cases e:v = (u:Int)
   ·subst e; simpa using g2
   ·rw [A0h,P9,if_neg (by rw [beq_iff_eq]; exact e),A9s (p:=q++[v]) (q:=q) fun i hi=>A06 hi]
    exact hg.1 u hu
  ·have hp:=h.pair i hi
   have:=hp.a0; have:=hp.ab
   rw [hlen] at hB
   by_cases c2:t.Apart[i]!.B < q.length
   ·rw [A06 (by omega),A06 (by omega)] at hc
    exact hg.2 i hi c2 hc
   ·have e:t.Apart[i]!.B.toNat = q.length:= by omega
    rw [e,P9] at hc
    exact g1 t.Apart[i]!.A.toNat (by omega) ⟨hc.1,(B3s t _ _).mpr ⟨i,hi,by omega,by omega⟩⟩
theorem B4k {q:List Int} {v:Int} (h6:q.length < 6):(K2 q).set (q.length:Int) (w64 (v + 1)) = K2 (q++[v]):= by
 have:=D3r (p:=q++[v]) (i:=q.length) (by simp) (by simp; omega)
 rw [P9,List.take_left,show q.length + 1 = (q++[v]).length by simp,List.take_length] at this
 exact this
theorem D0j {n:Nat} (a:IArr n) (i x y:Int):(a.set i x).set i y = a.set i y:= by
 apply IArr.ext
 show (a.l.set _ _).set _ _ = _
 rw [List.set_set]; rfl
theorem C2y {n:Nat} (a:IArr n) {i:Nat} (hi:i < n):∃x,A0y n a.l (i:Int) = some x :=
 ⟨_,C2r (List.getElem?_eq_getElem (by rw [a.h]; exact hi)) hi⟩
section
variable {σ ρ:Type}
theorem D53 {t:VaTrain} {i:Nat} (hv:t.Vans.length≤3) (hi:i≤t.Vans.length):B56 (w64 ((i:Int) + 1)) (w64 ((t.Vans.length:Int) + 1)) = some (w64 ((if (i:Int) == t.Vans.length then (-1:Int) else (i:Int)) + 1)):= by
 rw [D0 (n:=(i:Int) + 1) (by omega),D0 (n:=(t.Vans.length:Int) + 1) (by omega)]
 unfold B56
 rw [if_neg (by omega)]
 congr 1
 by_cases c:(i:Int) = t.Vans.length
 ·rw [if_pos (by rw [beq_iff_eq]; exact c),c,Int.tmod_self,D0 (by omega)]; rfl
 ·rw [if_neg (by rw [beq_iff_eq]; exact c),D0 (by omega),Int.tmod_eq_of_lt (by omega) (by omega)]
theorem C7n {t:VaTrain} (h:TOk t) (body:IArr 6→σ→Option (σ ⊕ ρ)):∀(d:Nat) (q:List Int) (s:σ) (X:σ ⊕ ρ),q.length + d = t.Crates.length→L6 t q→B0b t q →
  B4v (fun q s=>body (K2 q) s) (DF t d q) s = some X→∀ k,d < k→∃ p',B17 t body k (q.length:Int) (K2 q) s = some (p',X)∧(X.isLeft = true→p' = K2 q)
 | 0,q,s,X,hl,_,_,hf,k,hk=>by
  obtain ⟨k,rfl⟩:∃m,k = m + 1:=⟨k - 1,by omega⟩
  refine ⟨K2 q,?_,fun _=>rfl⟩
  unfold B17
  rw [if_pos (by rw [beq_iff_eq]; omega)]
  have hf:(body (K2 q) s).bind _ = some X:=hf
  cases hb:body (K2 q) s with
  | none=>rw [hb] at hf; exact absurd hf (by simp)
  | some x =>
   rw [hb] at hf
   cases x with
   | inl s' =>
    have:some (Sum.inl s') = some X:=hf
    rw [← Option.some.inj this]; rfl
   | inr r =>
    have:some (Sum.inr r) = some X:=hf
    rw [← Option.some.inj this]; rfl
 | d + 1,q,s,X,hl,hr,hg,hf,k,hk=>by
  obtain ⟨k,rfl⟩:∃m,k = m + 1:=⟨k - 1,by omega⟩
  have hv:=h.vans; have hc:=h.crates
  unfold B17
  rw [if_neg (by rw [beq_iff_eq]; omega)]
  have hW:(w64 ((t.Vans.length:Int) + 1)) = (t.Vans.length:Int) + 1:=D0 (by omega)
  obtain ⟨o,ho,hJ⟩:=D5g (b:=B94 t (B17 t body k) (q.length:Int) (w64 ((t.Vans.length:Int) + 1)))
   (fun i x=>x.1 = (i:Int)∧(∀ y:Int,x.2.1.set (q.length:Int) y = (K2 q).set (q.length:Int) y)∧B4v (fun q s=>body (K2 q) s) (((((wheres t).drop i).map fun v=>q++[v]).filter (B4c t)).flatMap (DF t d)) x.2.2 = some X)
   (t.Vans.length + 1)
   (fun o=>match o with | .inl (_,r)=>X = .inr r | .inr (p',s')=>X = .inl s'∧∀ y:Int,p'.set (q.length:Int) y = (K2 q).set (q.length:Int) y)
   (by omega) (by
    rintro i ⟨n,p,s⟩ hi ⟨e1,e2,e3⟩
    simp only at e1 e2 e3
    subst e1
    have hwg:=C48 (t:=t) (i:=i) (by omega)
    rw [List.drop_eq_getElem_cons (by rw [A3h]; exact hi)] at e3
    rw [List.getElem?_eq_getElem (by rw [A3h]; exact hi)] at hwg
    have hrw:=D53 (t:=t) (i:=i) hv (by omega)
    have hwr:-1≤(wheres t)[i]'(by rw [A3h]; exact hi)∧(wheres t)[i]'(by rw [A3h]; exact hi) < t.Vans.length:=B6v.mp (List.getElem_mem _)
    rw [← Option.some.inj hwg] at hrw
    generalize (wheres t)[i]'(by rw [A3h]; exact hi) = w at *
    rw [List.map_cons,List.filter_cons] at e3
    have hr2:=B1k (x:=w) hr hwr
    obtain ⟨z,hz⟩:=C2y p (i:=q.length) (show q.length < 6 by omega)
    have hal:=B26 h (q++[w]) (by simp; omega) hr2 q.length (by simp)
    rw [← C5k h (by omega) hr2 hg] at hal
    unfold B94
    simp only []
    rw [if_pos (by rw [decide_eq_true_eq]; omega),hrw]
    simp only [Option.bind_some]
    rw [hz]
    simp only [Option.bind_some]
    rw [e2,B4k (by omega),hal]
    simp only [Option.bind_some]
    rw [D0 (n:=(i:Int) + 1) (by omega)]
    cases hgp:B4c t (q++[w]) with
    | false =>
     rw [hgp,if_neg (by simp)] at e3
     rw [if_neg (by simp)]
     exact .inl ⟨_,rfl,rfl,fun y=>by rw [← B4k (by omega),D0j],e3⟩
    | true =>
     rw [hgp,if_pos rfl,List.flatMap_cons,B7z] at e3
     rw [if_pos rfl]
     cases hx:B4v (fun q s=>body (K2 q) s) (DF t d (q++[w])) s with
     | none=>rw [hx] at e3; exact absurd e3 (by simp)
     | some x =>
      rw [hx] at e3
      obtain ⟨p',h1,h2⟩:=C7n h body d (q++[w]) s x (by simp; omega) hr2 ((B5r t _).mp hgp) hx k (by omega)
      have e5:w64 ((q.length:Int) + 1) = (((q++[w]).length:Nat):Int):= by rw [D0 (by omega)]; simp
      rw [e5,h1]
      simp only [Option.bind_some]
      cases x with
      | inl s' =>
       refine .inl ⟨_,rfl,rfl,fun y=>?_,e3⟩
       rw [h2 rfl,← B4k (by omega),D0j]
      | inr r =>
       exact .inr ⟨_,rfl,(Option.some.inj e3).symm⟩)
   (by
    rintro ⟨n,p,s⟩ ⟨e1,e2,e3⟩
    simp only at e1 e2 e3
    subst e1
    unfold B94
    simp only []
    rw [if_neg (by rw [decide_eq_true_eq]; omega)]
    rw [List.drop_of_length_le (by rw [A3h]; exact Nat.le_refl _)] at e3
    exact ⟨_,rfl,(Option.some.inj e3).symm,e2⟩) (0,K2 q,s) ⟨rfl,fun _=>rfl,hf⟩
  rw [ho]
  simp only [Option.bind_some]
  rcases o with ⟨p',r⟩ | ⟨p',s'⟩
  ·have hJ:X = .inr r:=hJ
   subst hJ
   exact ⟨p',rfl,fun e=>absurd e (by simp)⟩
  ·obtain ⟨rfl,hJ⟩:=hJ
   obtain ⟨z,hz⟩:=C2y p' (i:=q.length) (show q.length < 6 by omega)
   simp only []
   rw [hz]
   simp only [Option.bind_some]
   have e0:p'.set (q.length:Int) 0 = K2 q:= by
    rw [hJ]
    apply IArr.ext
    show (K2 q).l.set _ 0 = _
    rw [Int.toNat_natCast]
    apply List.ext_getElem?
    intro j
    rw [List.getElem?_set]
    split
    ·next e=>subst e; rw [if_pos (by rw [B28]; omega),B4j (Nat.le_refl _) (by omega)]
    ·rfl
   exact ⟨_,rfl,fun _=>e0⟩
theorem B68 {t:VaTrain} (h:TOk t) {body:IArr 6→σ→Option (σ ⊕ ρ)} {s:σ} {X:σ ⊕ ρ} (hf:B4v (fun q s=>body (K2 q) s) (PL t) s = some X):A9p t σ ρ body s = some X:= by
 have hc:=h.crates
 rw [← E28] at hf
 obtain ⟨p',h1,_⟩:=C7n h body t.Crates.length [] s X (by simp) (fun i hi=>by simp at hi) (B9j h) hf 64 (by omega)
 unfold A9p
 rw [← C9k]
 have h1:B17 t body 64 0 (K2 []) s = some (p',X):=h1
 rw [h1]; rfl
end
end Vn
end
section
set_option maxRecDepth 100000
set_option maxHeartbeats 0
namespace Vn
open Go Am Go.Proofs.Ytjjmechghfjbmaa.Cd
end Vn
end
section
namespace Vn
open Go Am
def B0c (t:VaTrain) (p:List Int) (v:Int) (n:Nat) (S:Nat):Int:=iter (fun s a=>a + handled t p v (s:Int) n) S 0
theorem A9w (t:VaTrain) (p:List Int) (v:Int) (n S:Nat):B0c t p v n (S + 1) = B0c t p v n S + handled t p v (S:Int) n:=rfl
end Vn
end
section
set_option maxRecDepth 100000
set_option maxHeartbeats 0
namespace Vn
open Go Am Go.Proofs.Ytjjmechghfjbmaa.Cd
def A57 (a0:VaTrain) (a1:(List Int)) (s1:(Int × Int)):Option ((Int × Int) ⊕ Int) :=
 if (decide (s1.2 < (List.length a1:Int))) = true then
  (A2w a0 a1 s1.2).bind fun x4 =>
  if (x4 == 1) = true then
  some (.inl ((w64 (s1.1 + 1)),(w64 (s1.2 + 1))))
  else
  some (.inl (s1.1,(w64 (s1.2 + 1))))
 else
  some (.inr s1.1)
def A4q (a0:VaTrain) (a1:(List Int)):Option Int :=
 (loop (A57 a0 a1) (0,0)).bind fun (o6:Int) =>
 some o6
theorem A8i {c:Sc} {H:A6} {a0:VaTrain} {a1:(List Int)} {r:Int} (h:A4q a0 a1 = some r) :
  F2 tab c H (.fn (.func 47) [] []) [(.agg (A3 a0)),(.seq 1 (List.map cI a1))] [.i r]:= by
 unfold A4q at h
 refine cE rfl rfl<|sg 0 rfl<|A0 (G0 (cs:=A3 a0) rfl rfl rfl) rfl<|qm rfl<|es (ra2 rfl rfl)<|s0<|qm rfl<|es (ra3 rfl rfl rfl)<|B3<|s0<|qm rfl<|es (ra4 rfl rfl rfl rfl)<|B9<|oB h fun o6 ho6 h=>wl (fun s1=>[(1,(.seq 1 (List.map cI a1))),(2,(.ptr (H.length + 0) 0)),(5,.i s1.1),(6,.i s1.2)]) (fun (q2:Unit) s1=>[(.cells (A3 a0))]) 1 (fun r e s' H'=>PX 0 [(5,.i r)] (H++[(.cells (A3 a0))]) e s' H') () ho6 rfl rfl (fun _ _=>rfl) (fun _=>rfl) rfl (fun s1=>(bdc D8 (bdc (D5 rfl) (bdc A4 (bdc A4 bdn))))) (fun q2 s1 ys1 hs1=>?_) ?_
 ·unfold A57 at hs1
  refine B3<|s0<|qm rfl<|qm rfl<|A0 (D3 (f:=cI) rfl) rfl<|A0 (F4 rfl rfl) rfl<|es (ra5 rfl rfl rfl rfl rfl)<|wi hs1 rfl (fun hc3 hs1=>?_) fun hc3 hs1=>?_
  ·refine C2<|B3<|B9<|s0<|oB hs1 fun x4 hx4 hs1=>A0 (C5 rfl rfl rfl) rfl<|qm rfl<|qm rfl<|B2 (rs:=[.i x4]) rfl rfl (A2 (D2 rfl) (A2 rfl (A2 rfl B4))) ((B0q hx4).frz)<|A0 (G7 rfl rfl) rfl<|es (ra5 rfl rfl rfl rfl rfl)<|wi hs1 rfl (fun hc5 hs1=>?_) fun hc5 hs1=>?_
   ·refine r0<|qm rfl<|A0 (D7 rfl rfl) rfl<|qm rfl<|en (ra4 rfl rfl rfl rfl)<|r0<|qm rfl<|A0 (D7 rfl rfl) rfl<|qm rfl<|en (ra4 rfl rfl rfl rfl) ?_
    cases hs1
    exact lnT () rfl (su4 rfl rfl rfl rfl)
   ·refine C2<|r0<|qm rfl<|A0 (D7 rfl rfl) rfl<|qm rfl<|en (ra4 rfl rfl rfl rfl) ?_
    cases hs1
    exact lnT () rfl (su4 rfl rfl rfl rfl)
  ·refine E3 ?_
   obtain rfl:=os hs1
   exact lx rfl px (su1 rfl)
 ·rintro e s' H' - ⟨rfl,rfl,rfl⟩
  refine s0<|qm rfl<|qm rfl<|es (ra1 rfl)<|C4 ?_
  obtain rfl:=os h
  exact retq trivial (B1 rfl B7) (A5 rfl B6) (A1 A4 A8)
end Vn
end
section
namespace Vn
open Go Am
theorem B5s {τ:Type} (g:Nat→τ→τ) (n:Nat) (a:τ):iter g (n + 1) a = g n (iter g n a):=rfl
def N3 (t:VaTrain) (p:List Int) (n:Nat):Int:=iter (fun i a=>if L7 t p i == 1 then a + 1 else a) n 0
def J1 (t:VaTrain) (p:List Int):Int:=N3 t p p.length
theorem A2r (t:VaTrain) (p:List Int):∀n:Nat,0≤N3 t p n∧N3 t p n≤n
 | 0=>⟨Int.le_refl 0,Int.le_refl 0⟩
 | n + 1=>by
  have ih:=A2r t p n
  unfold N3 at ih ⊢
  rw [B5s]
  split <;> omega
def A1y (t:VaTrain) (p:List Int) (v:Nat):Int:=iter (fun u a=>a + B0c t p (u:Int) p.length t.Stops.toNat) v 0
def A5o (t:VaTrain) (p:List Int):Int:=A1y t p t.Vans.length
theorem B7k (t:VaTrain) (p:List Int) (v:Int) (n:Nat):∀S:Nat,0≤B0c t p v n S∧B0c t p v n S≤n * S
 | 0=>⟨Int.le_refl 0,by show (0:Int)≤_; rw [Int.natCast_zero,Int.mul_zero]; exact Int.le_refl 0⟩
 | S + 1=>by
  have ih:=B7k t p v n S
  have h:=A0x t p v (S:Int) n
  rw [A9w]
  have:(n:Int) * ((S + 1:Nat):Int) = n * S + n:= by rw [Int.natCast_add,Int.mul_add]; simp
  omega
theorem B4h {t:VaTrain} (h:TOk t) (p:List Int) (hp:p.length≤6):∀v:Nat,0≤A1y t p v∧A1y t p v≤18 * v
 | 0=>⟨Int.le_refl 0,Int.le_refl 0⟩
 | v + 1=>by
  have ih:=B4h h p hp v
  have hb:=B7k t p (v:Int) p.length t.Stops.toNat
  have h2:=h.stops; have h1:=h.stops1
  have:(p.length:Int) * (t.Stops.toNat:Int)≤6 * 3:=Int.mul_le_mul (by omega) (by omega) (by omega) (by omega)
  unfold A1y at ih ⊢
  rw [B5s]
  omega
def A6h (t:VaTrain) (p:List Int) (n:Nat):Int:=iter (fun i a=>if p[i]! == -1 then 301 else max a ((E8 t p p[i]!.toNat t.Crates[i]!.Stop.toNat).Hi - t.Crates[i]!.By)) n 0
def B0l (t:VaTrain) (p:List Int):Int:=A6h t p p.length
theorem B2p {t:VaTrain} (h:TOk t) (p:List Int) (hp:p.length = t.Crates.length) (hr:L6 t p):∀n:Nat,n≤p.length→0≤A6h t p n∧A6h t p n≤20000
 | 0,_=>⟨Int.le_refl 0,show (0:Int)≤20000 by decide⟩
 | n + 1,hn=>by
  have ih:=B2p h p hp hr n (by omega)
  have hc:=h.crate n (by omega)
  have:=hc.by0; have:=hc.stop; have:=hc.stop0
  have r:=hr n (by omega)
  unfold A6h at ih ⊢
  rw [B5s]
  split
  ·omega
  ·next e =>
   have e:p[n]! ≠ -1:= by simpa using e
   have:=A8n h p hp p[n]!.toNat (by omega) t.Crates[n]!.Stop.toNat (by omega)
   omega
theorem A8k {t:VaTrain} (h:TOk t) (p:List Int) (hp:p.length = t.Crates.length) (hr:L6 t p):A4q t p = some (J1 t p):= by
 have hl:=h.crates
 unfold A4q
 rw [show ((0:Int),(0:Int)) = (N3 t p 0,((0:Nat):Int)) from rfl,G4 (b:=A57 t p) (fun i=>(N3 t p i,(i:Int))) p.length (r:=J1 t p) (by omega) (fun i hi=>by
  unfold A57
  simp only []
  have hb:=A2r t p i
  rw [if_pos (by rw [decide_eq_true_eq]; omega),B0y h p hp hr i hi]
  simp only [Option.bind_some]
  rw [D0 (n:=(i:Int) + 1) (by omega),D0 (n:=N3 t p i + 1) (by omega)]
  show _ = some (Sum.inl ((if L7 t p i == 1 then N3 t p i + 1 else N3 t p i),((i + 1:Nat):Int)))
  split <;> rfl) (by
  unfold A57
  simp only []
  rw [if_neg (by rw [decide_eq_true_eq]; omega)]; rfl)]
 rfl
theorem D5f {t:VaTrain} (h:TOk t) (p:List Int) (hp:p.length≤6) (v:Nat) (hv:v < t.Vans.length):loop (B9q (tw t p (v:Int))) (A1y t p v,0) = some (A1y t p (v + 1)):= by
 have hl:=h.crates; have hv3:=h.vans; have h1:=h.stops1; have h2:=h.stops
 have hb:=B4h h p hp v
 have hlen:(tw t p (v:Int)).length = t.Stops.toNat:= by unfold tw; rw [List.length_map,List.length_range]
 have hq:=G4 (b:=B9q (tw t p (v:Int))) (fun s=>(A1y t p v + B0c t p (v:Int) p.length s,(s:Int))) t.Stops.toNat (r:=A1y t p (v + 1)) (by omega) (fun s hs=>by
   unfold B9q
   simp only []
   have hb2:=B7k t p (v:Int) p.length s
   have hb3:=A0x t p (v:Int) (s:Int) p.length
   have:(p.length:Int) * (s:Int)≤6 * 3:=Int.mul_le_mul (by omega) (by omega) (by omega) (by omega)
   rw [if_pos (by rw [decide_eq_true_eq]; omega)]
   unfold tw
   rw [T6 _ hs]
   simp only [Option.bind_some]
   rw [D0 (n:=(s:Int) + 1) (by omega),D0 (by omega),Int.add_assoc]; rfl) (by
   unfold B9q
   simp only []
   rw [if_neg (by rw [decide_eq_true_eq]; omega)]; rfl)
 rw [show A1y t p v + B0c t p (v:Int) p.length 0 = A1y t p v from Int.add_zero _] at hq
 exact hq
def tsT (t:VaTrain) (p:List Int) (v:Nat):List (List Span):=(List.range 3).map fun j=>if j < v then tms t p j else []
theorem C24 {t:VaTrain} (h:TOk t) (p:List Int) (hp:p.length = t.Crates.length) (hr:L6 t p):look0 t (K2 p) = some ⟨J1 t p,A5o t p,B0l t p⟩:= by
 have hl:=h.crates; have hv:=h.vans; have h1:=h.stops1; have h2:=h.stops
 unfold look0
 rw [show (([[],[],[]],0,0):List (List Span) × Int × Int) = (tsT t p 0,A1y t p 0,((0:Nat):Int)) from rfl,G4 (b:=C25 t (K2 p)) (fun v=>(tsT t p v,A1y t p v,(v:Int))) t.Vans.length (r:=(tsT t p t.Vans.length,A5o t p)) (by omega) (fun v hv2=>by
  unfold C25
  simp only []
  rw [if_pos (by rw [decide_eq_true_eq]; omega),A7r h p hp hr v hv2]
  simp only [Option.bind_some]
  rw [show A0y 3 (tsT t p v) (v:Int) = some (if v < v then tms t p v else []) by
   unfold A0y tsT
   rw [if_pos (by omega),Int.toNat_natCast,List.getElem?_map,List.getElem?_range (by omega)]; rfl]
  simp only [Option.bind_some]
  rw [A7s h p hp hr v hv2]
  simp only [Option.bind_some]
  rw [D5f h p (by omega) v hv2]
  simp only [Option.bind_some]
  rw [D0 (by omega),Int.toNat_natCast]
  unfold tsT
  rw [A5v (f:=fun j=>if j < v then tms t p j else []) (g:=fun j=>if j < v + 1 then tms t p j else []) 3 v (tms t p v) (by rw [if_pos (by omega)]) (fun s hs=>by
   by_cases c:s < v
   ·rw [if_pos c,if_pos (by omega)]
   ·rw [if_neg c,if_neg (by omega)])]; rfl) (by
  unfold C25
  simp only []
  rw [if_neg (by rw [decide_eq_true_eq]; omega)]; rfl)]
 simp only [Option.bind_some]
 rw [show ((0,0,0):Int × Int × Int) = (N3 t p 0,A6h t p 0,((0:Nat):Int)) from rfl,G4 (b:=C26 t (K2 p) (tsT t p t.Vans.length)) (fun i=>(N3 t p i,A6h t p i,(i:Int))) p.length (r:=(J1 t p,B0l t p)) (by omega) (fun i hi=>by
  unfold C26
  simp only []
  have hb:=A2r t p i
  have hk:=B2p h p hp hr i (by omega)
  have r:=hr i hi
  have hc:=h.crate i (by omega)
  have:=hc.by0; have:=hc.stop; have:=hc.stop0
  rw [if_pos (by rw [decide_eq_true_eq]; omega),E5 (show i < t.Crates.length by omega),B04 h p hp hr i hi,B5l (by omega) hi]
  simp only [Option.bind_some]
  rw [D0 (n:=(i:Int) + 1) (by omega),D0 (n:=N3 t p i + 1) (by omega),D0 (n:=p[i]! + 1) (by omega)]
  have es:N3 t p (i + 1) = if L7 t p i == 1 then N3 t p i + 1 else N3 t p i:=rfl
  have el:A6h t p (i + 1) = if p[i]! == -1 then 301 else max (A6h t p i) ((E8 t p p[i]!.toNat t.Crates[i]!.Stop.toNat).Hi - t.Crates[i]!.By):=rfl
  rw [es,el]
  by_cases c:p[i]! = -1
  ·rw [c]; rfl
  ·rw [show (p[i]! + 1 == 0) = false from beq_eq_false_iff_ne.mpr (by omega),show (p[i]! == -1) = false from beq_eq_false_iff_ne.mpr c]
   simp only [Bool.false_eq_true,if_false]
   have:=hc.byl
   have htb:=A8n h p hp p[i]!.toNat (by omega) t.Crates[i]!.Stop.toNat (by omega)
   rw [D0 (n:=p[i]! + 1 - 1) (by omega),show p[i]! + 1 - 1 = ((p[i]!.toNat:Nat):Int) by omega]
   have e3:A0y 3 (tsT t p t.Vans.length) ((p[i]!.toNat:Nat):Int) = some (tms t p p[i]!.toNat):= by
    unfold A0y tsT
    rw [if_pos (by omega),Int.toNat_natCast,List.getElem?_map,List.getElem?_range (by omega)]
    show some (if p[i]!.toNat < t.Vans.length then tms t p p[i]!.toNat else []) = _
    rw [if_pos (by omega)]
   rw [e3]
   simp only [Option.bind_some]
   rw [C8n p _ hc.stop0 hc.stop]
   simp only [Option.bind_some]
   rw [D0 (by omega),B5u]; rfl) (by
  unfold C26
  simp only []
  rw [if_neg (by rw [decide_eq_true_eq]; omega)]; rfl)]
 rfl
end Vn
end
section
set_option maxRecDepth 100000
set_option maxHeartbeats 0
namespace Vn
open Go Am Go.Proofs.Ytjjmechghfjbmaa.Cd
end Vn
end
section
namespace Vn
open Go Am
section
variable {α σ ρ τ:Type}
theorem B9f {f:α→σ→Option (σ ⊕ ρ)} {g:τ→α→τ} (R:τ→σ→Prop):∀(l:List α),(∀ a ∈ l,∀ b s,R b s→∃ s',f a s = some (.inl s')∧R (g b a) s')→∀ b s,R b s→∃ s',B4v f l s = some (.inl s')∧R (l.foldl g b) s'
 | [],_,b,s,hs=>⟨s,rfl,hs⟩
 | a :: l,h,b,s,hs=>by
  obtain ⟨s',h1,h2⟩:=h a (List.mem_cons_self) b s hs
  show ∃s',(f a s).bind _ = _∧_
  rw [h1]
  exact B9f R l (fun b hb=>h b (List.mem_cons_of_mem _ hb)) _ _ h2
end
def A1h (t:VaTrain) (b:List Int × Int × Int) (p:List Int):List Int × Int × Int :=
 if (decide (J1 t p > b.2.1) || (J1 t p == b.2.1 && decide (A5o t p < b.2.2))) = true then (p,J1 t p,A5o t p) else b
def I3 (t:VaTrain):List Int × Int × Int:=(PL t).foldl (A1h t) ([],-1,0)
theorem E2e (a b:Int):B0f [a,b] = some (if a = 0 then b else a):= by
 unfold B0f
 have hq:=R3 (b:=A5r [a,b]) 2 (fun i=>if [a,b][i]! = 0 then none else some (.inl [a,b][i]!)) (.inr ()) (by decide) (fun i hi _=>by
  unfold A5r
  rw [if_pos (by rw [decide_eq_true_eq]; show (i:Int) < 2; omega),E5 (show i < [a,b].length from hi)]
  simp only [Option.bind_some]
  generalize [a,b][i]! = x
  by_cases c:x = 0
  ·rw [if_neg (by simpa using c),if_pos c]
  ·rw [if_pos (by simpa using c),if_neg c]) (by
  unfold A5r
  rw [if_neg (by rw [decide_eq_true_eq]; show ¬ ((2:Nat):Int) < 2; omega)])
 rw [hq]
 unfold first first first
 by_cases c:a = 0
 ·by_cases d:b = 0
  ·simp [c,d]
  ·simp [c,d]
 ·simp [c]
theorem D88 (t:VaTrain) (p:List Int) (hp:p.length≤6):0≤J1 t p∧J1 t p≤6:= by
 have:=A2r t p p.length
 unfold J1; omega
theorem D9j {t:VaTrain} (h:TOk t) (p:List Int) (hp:p.length≤6):0≤A5o t p∧A5o t p≤54:= by
 have:=B4h h p hp t.Vans.length
 have:=h.vans
 unfold A5o; omega
structure BestR (t:VaTrain) (b:List Int × Int × Int) (s:List (IArr 6 × van_found) × IArr 6 × van_found):Prop where
 inv:Inv t s.1
 arr:s.2.1 = K2 b.1
 sure:s.2.2.sure_ = b.2.1
 twice:s.2.2.twice_ = b.2.2
 b1:-1≤b.2.1∧b.2.1≤6
 b2:0≤b.2.2∧b.2.2≤54
theorem D4x {t:VaTrain} (h:TOk t):∃s,A9p t ((List (IArr 6 × van_found)) × (IArr 6) × van_found) Unit (A61 t) (([]:(List (IArr 6 × van_found))),(IArr.zero 6),(van_found.mk (-1) 0 0)) = some (.inl s)∧BestR t (I3 t) s:= by
 have hl:=h.crates
 obtain ⟨s,h1,h2⟩:=B9f (ρ:=Unit) (f:=fun q s=>A61 t (K2 q) s) (g:=A1h t) (BestR t) (PL t) (fun p hp b s hb=>by
  have hP:=(A4h h).mp hp
  obtain ⟨ms,h1,h2⟩:=C27 hb.inv (C24 h p hP.len hP.range)
  have hlen:=hP.len
  have q1:=D88 t p (by omega)
  have q2:=D9j h p (by omega)
  have r1:=hb.b1; have r2:=hb.b2
  unfold A61
  simp only []
  rw [h1]
  simp only [Option.bind_some]
  rw [hb.sure,hb.twice,D0 (by omega),D0 (by omega),E2e]
  simp only [Option.bind_some]
  unfold A1h
  by_cases c:(J1 t p > b.2.1∨(J1 t p = b.2.1∧A5o t p < b.2.2))
  ·rw [if_pos (by rw [decide_eq_true_eq]; split <;> omega),if_pos (by simpa using c)]
   exact ⟨_,rfl,h2,rfl,rfl,rfl,by simp only []; omega,by simp only []; omega⟩
  ·rw [if_neg (by rw [decide_eq_true_eq]; split <;> omega),if_neg (by simpa using c)]
   exact ⟨_,rfl,h2,hb.arr,hb.sure,hb.twice,r1,r2⟩) ([],-1,0) ([],IArr.zero 6,⟨-1,0,0⟩) ⟨C8r t,C9k.symm,rfl,rfl,by decide,by decide⟩
 exact ⟨s,B68 h h1,h2⟩
theorem C7u {t:VaTrain} (h:TOk t):∀n,n≤t.Crates.length→B0b t (List.replicate n (-1))
 | 0,_=>B9j h
 | n + 1,hn=>by
  rw [List.replicate_succ']
  exact B3h h (by simp; omega) (C7u h n (by omega))
theorem E01 {t:VaTrain} (h:TOk t):PlanOk t (List.replicate t.Crates.length (-1)):= by
 have hg:=C7u h _ (Nat.le_refl _)
 have hlen:(List.replicate t.Crates.length (-1:Int)).length = t.Crates.length:=List.length_replicate
 refine ⟨hlen,fun i hi=>?_,(A16 t _).mpr ((B3g h hlen).mp hg)⟩
 rw [getElem!_pos _ i hi,List.getElem_replicate]
 omega
theorem B5p {α β:Type} {g:β→α→β} (P:β→Prop):∀(l:List α),(∀ a ∈ l,∀ b,P b→P (g b a))→∀ b,P b→P (l.foldl g b)
 | [],_,b,hb=>hb
 | a :: l,h,b,hb=>B5p P l (fun x hx=>h x (List.mem_cons_of_mem _ hx)) _ (h a List.mem_cons_self b hb)
theorem D6k {t:VaTrain} (h:TOk t):∃p l,PL t = p :: l:= by
 cases e:PL t with
 | nil =>
  have:=(A4h h).mpr (E01 h)
  rw [e] at this; cases this
 | cons p l=>exact ⟨p,l,rfl⟩
theorem B4l {t:VaTrain} {p:List Int}:A1h t ([],-1,0) p = (p,J1 t p,A5o t p):= by
 have:=A2r t p p.length
 unfold A1h
 rw [if_pos]
 simp only [Bool.or_eq_true,decide_eq_true_eq]
 left
 show J1 t p > -1
 unfold J1; omega
theorem A6v {t:VaTrain} (h:TOk t):PlanOk t (I3 t).1∧(I3 t).2.1 = J1 t (I3 t).1∧(I3 t).2.2 = A5o t (I3 t).1:= by
 obtain ⟨p,l,e⟩:=D6k h
 have hin:∀q ∈ p :: l,PlanOk t q:=fun q hq=>(A4h h).mp (by rw [e]; exact hq)
 unfold I3
 rw [e,List.foldl_cons,B4l]
 refine B5p (fun (b:List Int × Int × Int)=>PlanOk t b.1∧b.2.1 = J1 t b.1∧b.2.2 = A5o t b.1) l (fun a ha b hb=>?_) _ ⟨hin p List.mem_cons_self,rfl,rfl⟩
 unfold A1h
 split
 ·exact ⟨hin a (List.mem_cons_of_mem _ ha),rfl,rfl⟩
 ·exact hb
theorem D6w {t:VaTrain} (h:TOk t) (p:List Int) (hp:p.length = t.Crates.length) (hr:L6 t p) (vo:(List (IArr 6 × van_found)) × (IArr 6) × van_found) (hv:vo.2.1 = K2 p) :
  loop (A62 vo (List.replicate t.Crates.length 0)) (0,cpy (List.replicate t.Crates.length 0) (IArr.l vo.2.1)) = some p:= by
 have hl:=h.crates; have hv3:=h.vans
 have e1:cpy (List.replicate t.Crates.length (0:Int)) (K2 p).l = p.map (· + 1):= by
  unfold cpy
  rw [B28,List.length_replicate,Nat.min_eq_right hl,List.drop_of_length_le (by simp),List.append_nil]
  apply List.ext_getElem?
  intro i
  by_cases c:i < t.Crates.length
  ·rw [List.getElem?_take_of_lt c,B27 (by omega) (by omega),List.getElem?_map,List.getElem?_eq_getElem (by omega),getElem!_pos p i (by omega)]
   have:=hr i (by omega)
   rw [getElem!_pos p i (by omega)] at this
   rw [D0 (by omega)]; rfl
  ·rw [List.getElem?_eq_none (by rw [List.length_take,B28]; omega),List.getElem?_eq_none (by rw [List.length_map]; omega)]
 have e2:∀i,i≤p.length→(p.take i++(p.drop i).map (· + 1)).length = p.length:=fun i hi=>by rw [List.length_append,List.length_map,List.length_take,List.length_drop]; omega
 rw [hv,e1]
 have hq:=G4 (b:=A62 vo (List.replicate t.Crates.length 0)) (fun i=>((i:Int),p.take i++(p.drop i).map (· + 1))) p.length (r:=p) (by omega) (fun i hi=>by
  unfold A62
  simp only []
  have hcl:(cpy (List.replicate t.Crates.length (0:Int)) (IArr.l vo.2.1)).length = t.Crates.length:= by rw [B6m,List.length_replicate]
  have hr2:=hr i hi
  rw [getElem!_pos p i hi] at hr2
  have hge:(p.take i++(p.drop i).map (· + 1))[i]? = some (p[i] + 1):= by
   rw [List.getElem?_append_right (by rw [List.length_take]; omega),List.length_take,Nat.min_eq_left (by omega),Nat.sub_self,List.getElem?_map,List.getElem?_drop,Nat.add_zero,List.getElem?_eq_getElem hi]; rfl
  rw [if_pos (by rw [decide_eq_true_eq,hcl]; omega)]
  have hix:idx (p.take i++(p.drop i).map (· + 1)) (i:Int) = some (p[i] + 1):= by
   unfold idx
   rw [if_pos (by omega),Int.toNat_natCast,hge]
  rw [hix]
  simp only [Option.bind_some]
  rw [D0 (n:=(i:Int) + 1) (by omega),D0 (by omega),Int.add_sub_cancel]
  congr 2
  refine Prod.ext rfl ?_
  show (p.take i++(p.drop i).map (· + 1)).set (i:Int).toNat p[i] = _
  rw [Int.toNat_natCast,List.drop_eq_getElem_cons hi,List.map_cons,List.set_append_right _ _ (by rw [List.length_take]; omega),List.length_take,Nat.min_eq_left (by omega),Nat.sub_self,List.set_cons_zero,A30 (List.getElem?_eq_getElem hi),List.append_assoc]
  rfl) (by
  unfold A62
  simp only []
  have hcl:(cpy (List.replicate t.Crates.length (0:Int)) (IArr.l vo.2.1)).length = t.Crates.length:= by rw [B6m,List.length_replicate]
  rw [if_neg (by rw [decide_eq_true_eq,hcl]; omega),List.take_length,List.drop_of_length_le (Nat.le_refl _),List.map_nil,List.append_nil])
 exact hq
theorem A1p {t:VaTrain} (hN:NB t):X2 t = some (if (check t).2.2 == 0 then ((I3 t).1,(I3 t).2.1,(I3 t).2.2,0) else ([],0,0,(check t).2.2)):= by
 unfold X2
 rw [R5 t hN]
 simp only [Option.bind_some]
 by_cases c:(check t).2.2 = 0
 ·have h:=J3 c
  have hl:=h.crates
  rw [if_neg (by rw [c]; decide),if_pos (by rw [c]; rfl)]
  obtain ⟨s,h1,h2⟩:=D4x h
  obtain ⟨k1,k2,k3⟩:=A6v h
  rw [h1]
  simp only [Option.bind_some]
  have hm:B8e 8 (t.Crates.length:Int) (0:Int) = some (List.replicate t.Crates.length 0):= by
   unfold B8e
   rw [if_pos ⟨by omega,by omega,by omega⟩,Int.toNat_natCast]
  rw [hm]
  simp only [Option.bind_some]
  rw [D6w h _ k1.len k1.range s h2.arr]
  simp only [Option.bind_some]
  rw [h2.sure,h2.twice]
 ·rw [if_pos (bne_iff_ne.mpr c),if_neg (by rw [beq_iff_eq]; exact c)]
end Vn
end
section
set_option maxRecDepth 100000
set_option maxHeartbeats 0
namespace Vn
open Go Am Go.Proofs.Ytjjmechghfjbmaa.Cd
end Vn
end
section
namespace Vn
open Go Am
def one (t:VaTrain) (i v:Nat):List Int:=(List.replicate t.Crates.length (-1)).set i (v:Int)
end Vn
end
section
set_option maxRecDepth 100000
set_option maxHeartbeats 0
namespace Vn
open Go Am Go.Proofs.Ytjjmechghfjbmaa.Cd
end Vn
end
section
namespace Vn
open Go Am
def better (a b:List Int × Int × Int):Prop:=a.2.1 > b.2.1∨(a.2.1 = b.2.1∧a.2.2 < b.2.2)
def triple (t:VaTrain) (p:List Int):List Int × Int × Int:=(p,J1 t p,A5o t p)
theorem C9p (t:VaTrain) (b:List Int × Int × Int) (p:List Int):(A1h t b p = triple t p∧better (triple t p) b)∨(A1h t b p = b∧¬ better (triple t p) b):= by
 unfold A1h better triple
 by_cases c:(J1 t p > b.2.1∨(J1 t p = b.2.1∧A5o t p < b.2.2))
 ·rw [if_pos (by simpa using c)]; exact .inl ⟨rfl,c⟩
 ·rw [if_neg (by simpa using c)]; exact .inr ⟨rfl,c⟩
theorem B87 (t:VaTrain):∀(l:List (List Int)) (b:List Int × Int × Int),(l.foldl (A1h t) b = b∧∀ q ∈ l,¬ better (triple t q) b) ∨
  ∃ l1 x l2,l = l1++x :: l2∧l.foldl (A1h t) b = triple t x∧better (triple t x) b∧(∀ q ∈ l1,better (triple t x) (triple t q))∧∀ q ∈ l2,¬ better (triple t q) (triple t x)
 | [],b=>.inl ⟨rfl,fun q hq=>by cases hq⟩
 | a :: l,b=>by
  rw [List.foldl_cons]
  rcases C9p t b a with ⟨e,hb⟩ | ⟨e,hb⟩
  ·rw [e]
   rcases B87 t l (triple t a) with ⟨h1,h2⟩ | ⟨l1,x,l2,h1,h2,h3,h4,h5⟩
   ·exact .inr ⟨[],a,l,rfl,h1,hb,fun q hq=>(by cases hq),h2⟩
   ·refine .inr ⟨a :: l1,x,l2,by rw [h1]; rfl,h2,?_,fun q hq=>?_,h5⟩
    ·unfold better at *; omega
    ·rcases List.mem_cons.mp hq with rfl | hq
     ·exact h3
     ·exact h4 q hq
  ·rw [e]
   rcases B87 t l b with ⟨h1,h2⟩ | ⟨l1,x,l2,h1,h2,h3,h4,h5⟩
   ·refine .inl ⟨h1,fun q hq=>?_⟩
    rcases List.mem_cons.mp hq with rfl | hq
    ·exact hb
    ·exact h2 q hq
   ·refine .inr ⟨a :: l1,x,l2,by rw [h1]; rfl,h2,h3,fun q hq=>?_,h5⟩
    rcases List.mem_cons.mp hq with rfl | hq
    ·unfold better at *; omega
    ·exact h4 q hq
theorem C9o {t:VaTrain} (h:TOk t):∃l1 x l2,PL t = l1++x :: l2∧I3 t = triple t x∧(∀ q ∈ l1,better (triple t x) (triple t q))∧∀ q ∈ l2,¬ better (triple t q) (triple t x):= by
 rcases B87 t (PL t) ([],-1,0) with ⟨_,h2⟩ | ⟨l1,x,l2,h1,h2,_,h4,h5⟩
 ·obtain ⟨p,l,e⟩:=D6k h
  have:=h2 p (by rw [e]; exact List.mem_cons_self)
  exfalso
  apply this
  have:=A2r t p p.length
  left
  show J1 t p > -1
  unfold J1; omega
 ·exact ⟨l1,x,l2,h1,h2,h4,h5⟩
def rank (v:Int):Int:=if v = -1 then 100 else v
def Lt (a b:List Int):Prop:=∃ i,i < a.length∧(∀ j,j < i→a[j]! = b[j]!)∧rank a[i]! < rank b[i]!
theorem C6h {t:VaTrain} (hv:t.Vans.length≤3):(wheres t).Pairwise fun a b=>rank a < rank b:= by
 unfold wheres
 rw [List.pairwise_append]
 refine ⟨?_,List.pairwise_singleton _ _,?_⟩
 ·rw [List.pairwise_map]
  refine List.Pairwise.imp ?_ List.pairwise_lt_range
  intro a b h
  unfold rank
  rw [if_neg (by omega),if_neg (by omega)]; omega
 ·intro a ha b hb
  obtain ⟨i,hi,rfl⟩:=List.mem_map.mp ha
  have:=List.mem_range.mp hi
  rw [List.mem_singleton.mp hb]
  unfold rank
  rw [if_neg (by omega),if_pos rfl]; omega
theorem C11 {t:VaTrain} (hv:t.Vans.length≤3):∀n,(PLn t n).Pairwise Lt
 | 0=>List.pairwise_singleton _ _
 | n + 1=>by
  show ((PLn t n).flatMap (ext t)).Pairwise Lt
  rw [List.pairwise_flatMap]
  constructor
  ·intro p hp
   unfold ext
   refine List.Pairwise.sublist List.filter_sublist ?_
   rw [List.pairwise_map]
   refine List.Pairwise.imp ?_ (C6h hv)
   intro a b hab
   refine ⟨p.length,by simp,fun j hj=>by rw [A06 hj,A06 hj],?_⟩
   rw [P9,P9]; exact hab
  ·refine List.Pairwise.imp_of_mem ?_ (C11 hv n)
   rintro a b ha hb ⟨i,hi,h1,h2⟩ x hx y hy
   obtain ⟨v,_,rfl,_⟩:=B8d.mp hx
   obtain ⟨w,_,rfl,_⟩:=B8d.mp hy
   have la:=B7g ha
   have lb:=B7g hb
   exact ⟨i,by simp; omega,fun j hj=>by rw [A06 (by omega),A06 (by omega),h1 j hj],by rw [A06 hi,A06 (by omega)]; exact h2⟩
def C15 (a b:List Int) (i:Nat):Option Bool:=if (a[i]! != b[i]!) = true then some (b[i]! == -1 || (a[i]! != -1 && decide (a[i]! < b[i]!))) else none
def bef (a b:List Int):Bool:=(first (C15 a b) a.length).getD false
theorem D6u (a:List Int):bef a a = false:= by
 unfold bef
 rw [F6.mpr fun i _=>by unfold C15; simp]; rfl
theorem E1s {t:VaTrain} (hv:t.Vans.length≤3) {a b:List Int} (hr:L6 t a) (hr2:L6 t b) (hl:a.length = b.length) (h:Lt a b):bef b a = false:= by
 obtain ⟨i,hi,h1,h2⟩:=h
 have r1:=hr i hi
 have r2:=hr2 i (by omega)
 have hne:b[i]! ≠ a[i]!:= by intro e; rw [e] at h2; omega
 unfold bef
 rw [B4t (i:=i) (r:=(a[i]! == -1 || (b[i]! != -1 && decide (b[i]! < a[i]!)))) (by omega) (by unfold C15; rw [if_pos (bne_iff_ne.mpr hne)]) (fun j hj=>by unfold C15; rw [h1 j hj]; simp)]
 unfold rank at h2
 have e1:a[i]! ≠ -1:= by
  intro e
  rw [if_pos e] at h2
  split at h2 <;> omega
 rw [if_neg e1] at h2
 rw [show (a[i]! == -1) = false from beq_eq_false_iff_ne.mpr e1]
 by_cases c:b[i]! = -1
 ·rw [c]; rfl
 ·rw [if_neg c] at h2
  rw [decide_eq_false (by omega)]; simp
theorem C38 {α:Type} {R:α→α→Prop} {l1 l2:List α} {x:α} (h:(l1++x :: l2).Pairwise R):∀q ∈ l2,R x q :=
 fun q hq=>(List.pairwise_cons.mp (List.pairwise_append.mp h).2.1).1 q hq
theorem B5w {t:VaTrain} (h:TOk t) {q:List Int} (hq:PlanOk t q):J1 t q < (I3 t).2.1∨(J1 t q = (I3 t).2.1∧(A5o t q > (I3 t).2.2∨(A5o t q = (I3 t).2.2∧bef q (I3 t).1 = false))):= by
 obtain ⟨l1,x,l2,h1,h2,h3,h4⟩:=C9o h
 have hm:=(A4h h).mpr hq
 have hx:PlanOk t x:=(A4h h).mp (by rw [h1]; simp)
 rw [h2]
 show J1 t q < J1 t x∨(J1 t q = J1 t x∧(A5o t q > A5o t x∨(A5o t q = A5o t x∧bef q x = false)))
 have hm':=hm
 rw [h1,List.mem_append,List.mem_cons] at hm'
 rcases hm' with hm' | rfl | hm'
 ·have:J1 t x > J1 t q∨(J1 t x = J1 t q∧A5o t x < A5o t q):=h3 q hm'
  omega
 ·exact .inr ⟨rfl,.inr ⟨rfl,D6u q⟩⟩
 ·have:¬ (J1 t q > J1 t x∨(J1 t q = J1 t x∧A5o t q < A5o t x)):=h4 q hm'
  have hs:Lt x q:=C38 (by rw [← h1]; exact C11 h.vans _) q hm'
  have hb:=E1s h.vans hx.range hq.range (by rw [hx.len,hq.len]) hs
  rw [hb]
  by_cases c:J1 t q < J1 t x
  ·exact .inl c
  by_cases c2:A5o t q = A5o t x
  ·exact .inr ⟨by omega,.inr ⟨c2,rfl⟩⟩
  ·exact .inr ⟨by omega,.inl (by omega)⟩
structure Nm (t:VaTrain):Prop where
 van:∀i,i < t.Vans.length→B34 t i = 0
 crate:∀i,i < t.Crates.length→A72 t i = 0
 leave:∀i,i < t.Vans.length→0≤t.Vans[i]!.Leave
theorem C9w {t:VaTrain} (h:(check t).2.2 = 0):(∀ i,i < t.Vans.length→A0b t i = 0)∧∀ i,i < t.Crates.length→Q7 t i = 0:= by
 unfold check at h
 cases h1:out 1 3 t.Stops || out 0 60 t.Handle with
 | true=>rw [h1] at h; exact absurd (show (7:Int) = 0 from h) (by decide)
 | false =>
 rw [h1] at h
 cases h2:out 1 3 (t.Vans.length:Int) with
 | true=>rw [h2] at h; exact absurd (show (3:Int) = 0 from h) (by decide)
 | false =>
 rw [h2] at h
 cases h3:wrong (A0b t) t.Vans.length with
 | some x =>
  rw [h3] at h
  have h:x.2 = 0:=h
  have:=A4y h3
  rw [h] at this; exact absurd this (by decide)
 | none =>
 rw [h3] at h
 by_cases h4:t.Crates.length > 6
 ·simp only [h4] at h; exact absurd h (by simp)
 simp only [h4] at h
 cases h5:wrong (Q7 t) t.Crates.length with
 | some x =>
  rw [h5] at h
  have h:x.2 = 0:=h
  have:=A4y h5
  rw [h] at this; exact absurd this (by decide)
 | none=>exact ⟨B1a h3,B1a h5⟩
theorem B2j {t:VaTrain} (h:(check t).2.2 = 0):Nm t:= by
 obtain ⟨h1,h2⟩:=C9w h
 refine ⟨fun i hi=>?_,fun i hi=>?_,fun i hi=>?_⟩
 ·have:=h1 i hi
  unfold A0b at this
  split at this
  ·next e=>simpa using e
  ·exact this
 ·have:=h2 i hi
  unfold Q7 at this
  split at this
  ·next e=>simpa using e
  ·exact this
 ·have:=h1 i hi
  unfold A0b at this
  split at this
  ·unfold A8o at this
   split at this
   ·exact absurd this (by decide)
   ·next e =>
    have e:(out 0 20 t.Vans[i]!.Room || out 0 5000 t.Vans[i]!.Leave) = false:= by simpa using e
    exact (I2.mp (Bool.or_eq_false_iff.mp e).2).1
  ·next e=>rw [this] at e; exact absurd rfl e
end Vn
end
section
set_option maxRecDepth 100000
set_option maxHeartbeats 0
namespace Vn
open Go Am Go.Proofs.Ytjjmechghfjbmaa.Cd
end Vn
end
section
namespace Vn
open Go Am
theorem A99 {t:VaTrain} {p:List Int} {i:Nat}:L7 t p i = 1↔p[i]! ≠ -1∧(E8 t p p[i]!.toNat t.Crates[i]!.Stop.toNat).Hi≤t.Crates[i]!.By:= by
 unfold L7
 by_cases c:p[i]! = -1
 ·rw [c]; simp
 ·rw [show (p[i]! == -1) = false from beq_eq_false_iff_ne.mpr c]
  simp only [Bool.false_eq_true,if_false]
  constructor
  ·intro h
   refine ⟨c,?_⟩
   split at h
   ·assumption
   ·split at h
    ·exact absurd h (by decide)
    ·exact absurd h (by decide)
  ·rintro ⟨_,h⟩
   rw [if_pos h]
end Vn
end
section
set_option maxRecDepth 100000
set_option maxHeartbeats 0
namespace Vn
open Go Am Go.Proofs.Ytjjmechghfjbmaa.Cd
def A4r (a0:VaTrain) (x1:(List (List Int))) (s2:Int):Option (Int ⊕ (Bool ⊕ Unit)) :=
 if (decide (s2 < (List.length x1:Int))) = true then
  (idx x1 s2).bind fun x5 =>
  (A4q a0 x5).bind fun x6 =>
  if (x6 == (List.length a0.Crates:Int)) = true then
  some (.inr (.inl true))
  else
  some (.inl (w64 (s2 + 1)))
 else
  some (.inr (.inr ()))
def A1m (a0:VaTrain):Option Bool :=
 (A4o a0).bind fun x1 =>
 (loop (A4r a0 x1) 0).bind fun (o8:(Bool ⊕ Unit)) =>
 match o8 with
 | (.inl vo8_0) =>
  some vo8_0
 | (.inr vo8_1) =>
  some false
theorem A7h {c:Sc} {H:A6} {a0:VaTrain} {r:Bool} (h:A1m a0 = some r) :
  F2 tab c H (.fn (.func 53) [] []) [(.agg (A3 a0))] [.b r]:= by
 unfold A1m at h
 refine cE rfl rfl<|sg 0 rfl<|A0 (G0 (cs:=A3 a0) rfl rfl rfl) rfl<|qm rfl<|es (ra1 rfl)<|s0<|oB h fun x1 hx1 h=>A0 (C5 rfl rfl rfl) rfl<|B2 (rs:=[(.seq 1 (List.map (cL 1 cI) x1))]) rfl rfl (A2 (D2 rfl) B4) ((B0p hx1).frz)<|qm rfl<|es (ra2 rfl rfl)<|B3<|s0<|qm rfl<|es (ra3 rfl rfl rfl)<|B9<|oB h fun o8 ho8 h=>wl (fun s2=>[(1,(.ptr (H.length + 0) 0)),(3,(.seq 1 (List.map (cL 1 cI) x1))),(4,.i s2)]) (fun (q3:Unit) s2=>[(.cells (A3 a0))]) 1 (fun r e s' H'=>(match r with | (.inl v)=>e = .ret∧RetQ H [.tmp 2] [.b v] e s' H' | (.inr v)=>PX 0 [] (H++[(.cells (A3 a0))]) e s' H':Prop)) () ho8 rfl rfl (fun _ _=>rfl) (fun _=>rfl) rfl (fun s2=>(bdc (D5 rfl) (bdc D8 (bdc A4 bdn)))) (fun q3 s2 ys2 hs2=>?_) ?_
 ·unfold A4r at hs2
  refine B3<|s0<|qm rfl<|qm rfl<|A0 (D3 (f:=(cL 1 cI)) rfl) rfl<|A0 (F4 rfl rfl) rfl<|es (ra4 rfl rfl rfl rfl)<|wi hs2 rfl (fun hc4 hs2=>?_) fun hc4 hs2=>?_
  ·refine C2<|B3<|B9<|s0<|oB hs2 fun x5 hx5 hs2=>oB hs2 fun x6 hx6 hs2=>A0 (C5 rfl rfl rfl) rfl<|qm rfl<|qm rfl<|A0 (D4 (f:=(cL 1 cI)) rfl rfl hx5) rfl<|A0 (D6 rfl rfl) rfl<|M6 (rs:=[.i x6]) rfl rfl (F1 rfl (F1 rfl R7)) (A2 (D2 rfl) (A2 rfl B4)) ((A8i hx6).frz)<|A0 (C3 rfl) rfl<|A0 (B5 rfl rfl rfl) rfl<|A0 (D3 (f:=A9) rfl) rfl<|A0 (G7 rfl rfl) rfl<|es (ra4 rfl rfl rfl rfl)<|wi hs2 rfl (fun hc7 hs2=>?_) fun hc7 hs2=>?_
   ·refine s0<|qm rfl<|es (ra1 rfl)<|C4 ?_
    obtain rfl:=os hs2
    exact lx rfl (And.intro rfl (retq trivial (B1 rfl B7) (A5 rfl B6) (A1 A4 A8))) (Sub.refl _)
   ·refine C2<|r0<|qm rfl<|A0 (D7 rfl rfl) rfl<|qm rfl<|en (ra3 rfl rfl rfl) ?_
    cases hs2
    exact lnT () rfl (su3 rfl rfl rfl)
  ·refine E3 ?_
   obtain rfl:=os hs2
   exact lx rfl px (.nil _)
 ·rcases o8 with vo8_0 | vo8_1
  ·rintro e s' H' - ⟨rfl,hret⟩
   cases h
   exact hret
  ·rintro e s' H' - ⟨rfl,rfl,rfl⟩
   refine s0<|qm rfl<|es (ra1 rfl)<|C4 ?_
   obtain rfl:=os h
   exact retq trivial (B1 rfl B7) (A5 rfl B6) (A1 A4 A8)
end Vn
end
section
namespace Vn
open Go Am
def X4 (t:VaTrain):Bool:=(PL t).any fun p=>J1 t p == (t.Crates.length:Int)
section
variable {α σ ρ:Type}
end
theorem A4s {t:VaTrain} (h:TOk t):A1m t = some (X4 t):= by
 have hln:=D15 h
 have hin:∀q ∈ PL t,PlanOk t q:=fun q hq=>(A4h h).mp hq
 unfold A1m
 rw [B0x h]
 simp only [Option.bind_some]
 unfold X4
 generalize PL t = l at *
 rw [R3 (b:=A4r t l) l.length (fun i=>(if (J1 t l[i]! == (t.Crates.length:Int)) = true then some (i:Int) else none).map fun _=>Sum.inl true) (.inr ()) (by omega) (fun i hi _=>by
  unfold A4r
  have hP:=hin _ (A07 hi)
  rw [if_pos (by rw [decide_eq_true_eq]; omega),E5 hi]
  simp only [Option.bind_some]
  rw [A8k h _ hP.len hP.range]
  simp only [Option.bind_some]
  generalize (J1 t l[i]! == (t.Crates.length:Int)) = b
  cases b <;> rfl) (by
  unfold A4r
  rw [if_neg (by rw [decide_eq_true_eq]; omega)]),Q8,← B85]
 cases first (fun i=>if (J1 t l[i]! == (t.Crates.length:Int)) = true then some (i:Int) else none) l.length <;> rfl
theorem B7e {t:VaTrain} (h:TOk t):X4 t = ((I3 t).2.1 == (t.Crates.length:Int)):= by
 obtain ⟨k1,k2,_⟩:=A6v h
 unfold X4
 rw [Bool.eq_iff_iff,List.any_eq_true,beq_iff_eq]
 constructor
 ·rintro ⟨p,hp,e⟩
  have hP:=(A4h h).mp hp
  have hm:=B5w h hP
  have hb:=A2r t (I3 t).1 (I3 t).1.length
  rw [k1.len] at hb
  have e:J1 t p = t.Crates.length:= by simpa using e
  have:J1 t (I3 t).1 = N3 t (I3 t).1 t.Crates.length:= by unfold J1; rw [k1.len]
  omega
 ·intro e
  exact ⟨(I3 t).1,(A4h h).mpr k1,by rw [beq_iff_eq,← k2]; exact e⟩
end Vn
end
section
set_option maxRecDepth 100000
set_option maxHeartbeats 0
namespace Vn
open Go Am Go.Proofs.Ytjjmechghfjbmaa.Cd
end Vn
end
section
namespace Vn
open Go Am
end Vn
end
section
set_option maxRecDepth 100000
set_option maxHeartbeats 0
namespace Vn
open Go Am Go.Proofs.Ytjjmechghfjbmaa.Cd
def A1f (a1:Int) (s2:(Int × (List VaVan))):Option ((Int × (List VaVan)) ⊕ (List VaVan)) :=
 if (decide (s2.1 < (List.length s2.2:Int))) = true then
  (idx s2.2 s2.1).bind fun x5 =>
  (idx s2.2 s2.1).bind fun x6 =>
  some (.inl ((w64 (s2.1 + 1)),(A1w s2.2 s2.1 (VaVan.mk x6.Name x6.Room (w64 (x5.Leave - a1)) x6.Legs))))
 else
  some (.inr s2.2)
def A3c (a0:VaTrain) (a1:Int):Option VaTrain :=
 (app 56 ([]:List VaVan) a0.Vans).bind fun x1 =>
 (loop (A1f a1) (0,x1)).bind fun (o7:(List VaVan)) =>
 some (VaTrain.mk o7 a0.Stops a0.Handle a0.Crates a0.Apart)
theorem A9c {c:Sc} {H:A6} {a0:VaTrain} {a1:Int} {r:VaTrain} (h:A3c a0 a1 = some r) :
  F2 tab c H (.fn (.func 54) [] []) [(.agg (A3 a0)),.i a1] [(.agg [(.fresh 4 (List.map C0 r.Vans)),.i r.Stops,.i r.Handle,(.seq 4 (List.map A9 r.Crates)),(.seq 2 (List.map C1 r.Apart))])]:= by
 unfold A3c at h
 refine cE rfl rfl<|sg 0 rfl<|A0 (G0 (cs:=A3 a0) rfl rfl rfl) rfl<|A0 E6 rfl<|es (ra3 rfl rfl rfl)<|sg 2 rfl<|oB h fun x1 hx1 h=>A0 (A9j (rows:=List.map C0 []) rfl rfl (E4 (fun _=>rfl) _)) rfl<|A0 (C3 rfl) rfl<|A0 (B5 rfl rfl rfl) rfl<|A35 (W8 (f:=C0) rfl rfl rfl rfl U0 (fun _=>rfl) hx1) rfl<|A0 (C3 rfl) rfl<|G6 (E2 (ds:=[(.asl (H.length + 2) (List.length x1)),.i a0.Stops,.i a0.Handle,(.seq 4 (List.map A9 a0.Crates)),(.seq 2 (List.map C1 a0.Apart))]) rfl rfl rfl rfl (U1 (Nat.le_add_right _ _)) rfl) rfl<|es (ra3 rfl rfl rfl)<|B3<|s0<|qm rfl<|es (ra4 rfl rfl rfl rfl)<|B9<|oB h fun o7 ho7 h=>wl (fun s2=>[(1,.i a1),(2,(.ptr (H.length + 0) 0)),(4,(.ptr (H.length + 1) 0)),(5,.i s2.1)]) (fun (q3:Unit) s2=>[(.cells [(.asl (H.length + 2) (List.length s2.2)),.i a0.Stops,.i a0.Handle,(.seq 4 (List.map A9 a0.Crates)),(.seq 2 (List.map C1 a0.Apart))]),(.cells (A3 (VaTrain.mk ([]:List VaVan) 0 0 ([]:List VaCrate) ([]:List VaPair)))),(.arr 4 false (List.map C0 s2.2))]) 3 (fun r e s' H'=>PX 0 [(2,(.ptr (H.length + 0) 0)),(4,(.ptr (H.length + 1) 0))] (H++[(.cells [(.asl (H.length + 2) (List.length r)),.i a0.Stops,.i a0.Handle,(.seq 4 (List.map A9 a0.Crates)),(.seq 2 (List.map C1 a0.Apart))]),(.cells (A3 (VaTrain.mk ([]:List VaVan) 0 0 ([]:List VaCrate) ([]:List VaPair)))),(.arr 4 false (List.map C0 r))]) e s' H') () ho7 rfl rfl (fun _ _=>rfl) (fun _=>rfl) rfl (fun s2=>(bdc A4 (bdc (D5 rfl) (bdc (D5 rfl) (bdc A4 bdn))))) (fun q3 s2 ys2 hs2=>?_) ?_
 ·unfold A1f at hs2
  refine B3<|s0<|qm rfl<|A0 (C3 rfl) rfl<|A0 (B5 (x:=(.asl (H.length + 2) (List.length s2.2))) rfl rfl rfl) rfl<|A0 (B6y (f:=C0) rfl rfl rfl) rfl<|A0 (F4 rfl rfl) rfl<|es (ra5 rfl rfl rfl rfl rfl)<|wi hs2 rfl (fun hc4 hs2=>?_) fun hc4 hs2=>?_
  ·refine C2<|B3<|B9<|r0<|oB hs2 fun x5 hx5 hs2=>oB hs2 fun x6 hx6 hs2=>A0 (C3 rfl) rfl<|A0 (B5 (x:=(.asl (H.length + 2) (List.length s2.2))) rfl rfl rfl) rfl<|qm rfl<|A0 (C3 rfl) rfl<|A0 (B5 (x:=(.asl (H.length + 2) (List.length s2.2))) rfl rfl rfl) rfl<|qm rfl<|A0 (V3 (f:=C0) rfl rfl rfl rfl hx5) rfl<|A0 (A8s rfl) rfl<|A0 (A38 (x:=(.i x5.Leave)) rfl rfl (List.length_map _) (V6 hx5) rfl) rfl<|qm rfl<|A0 (O0 rfl rfl) rfl<|A0 (V3 (f:=C0) rfl rfl rfl rfl hx6) rfl<|A0 (A8s rfl) rfl<|G6 (A4i (ds:=C0 (VaVan.mk x6.Name x6.Room (w64 (x5.Leave - a1)) x6.Legs)) rfl rfl rfl rfl rfl (List.length_map _) (V6 hx6) rfl rfl) rfl ?_
   rw [A3q]
   rw [show List.length s2.2 = List.length (A1w s2.2 s2.1 (VaVan.mk x6.Name x6.Room (w64 (x5.Leave - a1)) x6.Legs)) from (T8 _ _ _).symm]
   refine en (ra4 rfl rfl rfl rfl)<|r0<|qm rfl<|A0 (D7 rfl rfl) rfl<|qm rfl<|en (ra4 rfl rfl rfl rfl) ?_
   cases hs2
   exact lnT () rfl (su4 rfl rfl rfl rfl)
  ·refine E3 ?_
   obtain rfl:=os hs2
   exact lx rfl px (su2 rfl rfl)
 ·rintro e s' H' - ⟨rfl,rfl,rfl⟩
  refine s0<|A0 (A08 (ds:=[(.asl (H.length + 2) (List.length o7)),.i a0.Stops,.i a0.Handle,(.seq 4 (List.map A9 a0.Crates)),(.seq 2 (List.map C1 a0.Apart))]) rfl rfl rfl rfl) rfl<|G6 (E2 (ds:=[(.asl (H.length + 2) (List.length o7)),.i a0.Stops,.i a0.Handle,(.seq 4 (List.map A9 a0.Crates)),(.seq 2 (List.map C1 a0.Apart))]) rfl rfl rfl rfl (U1 (Nat.le_add_right _ _)) rfl) rfl<|es (ra1 rfl)<|C4 ?_
  obtain rfl:=os h
  exact retq trivial (M2 (A08 (ds:=[(.asl (H.length + 2) (List.length o7)),.i a0.Stops,.i a0.Handle,(.seq 4 (List.map A9 a0.Crates)),(.seq 2 (List.map C1 a0.Apart))]) rfl rfl rfl rfl) B7) (A5 (B8o (R4 (B41 rfl (List.length_map _)) (R4 rfl (R4 rfl (R4 rfl (R4 rfl C3o)))))) B6) (A1 (A85 rfl) A8)
def A19 (a0:VaTrain):Option Bool :=
 (A2y a0).bind fun x1 =>
 (R9 a0).bind fun x2 =>
 if (!x2) = true then
  (if ((x1.2 != 0) && (x1.1 == 0)) = true then
  (G2).bind fun x6 =>
  some x6
  else
  some false).bind fun x7 =>
  some x7
 else
  if ((((x1.2 != 0) && ((x1.2 != 9) || (x1.1 != 0))) || (decide (x1.1 < 0))) || (decide (x1.1 > 300))) = true then
  some false
  else
  (X2 a0).bind fun x13 =>
  if ((x13.2.2.2 != 0) || (!((x13.2.1 == (List.length a0.Crates:Int)) == ((x1.2 == 0) && (x1.1 == 0))))) = true then
   some false
  else
   if (x1.2 != 0) = true then
   (A3c a0 300).bind fun x18 =>
   (A1m x18).bind fun x19 =>
   (if (!x19) = true then
    (G2).bind fun x21 =>
    some x21
   else
    some false).bind fun x22 =>
   some x22
   else
   (A3c a0 x1.1).bind fun x23 =>
   (R9 x23).bind fun x24 =>
   (if x24 = true then
    (X2 x23).bind fun x27 =>
    if ((x27.2.2.2 != 0) || (x27.2.1 != (List.length a0.Crates:Int))) = true then
     some (.inl false)
    else
     some (.inr ())
    else
    some (.inr ())).bind fun (p25:(Bool ⊕ Unit)) =>
   match p25 with
   | (.inl vp25_0) =>
    some vp25_0
   | (.inr vp25_1) =>
    (A1m x23).bind fun x30 =>
    (if x30 = true then
    (if (x1.1 == 0) = true then
     some true
    else
     (A3c a0 (w64 (x1.1 - 1))).bind fun x33 =>
     (A1m x33).bind fun x34 =>
     some (!x34)).bind fun x35 =>
    some x35
    else
    some false).bind fun x36 =>
    (if x36 = true then
    (G2).bind fun x38 =>
    some x38
    else
    some false).bind fun x39 =>
    some x39
theorem B55 {c:Sc} {H:A6} (hscv:Z9 c H = true) {a0:VaTrain} {r:Bool} (h:A19 a0 = some r) :
  F2 tab c H (.fn (.func 14) [] []) [(.agg (A3 a0))] [.b r]:= by
 unfold A19 at h
 refine cE rfl rfl<|sg 0 rfl<|A0 (G0 (cs:=A3 a0) rfl rfl rfl) rfl<|qm rfl<|es (ra1 rfl)<|s0<|oB h fun x1 hx1 h=>A0 (C5 rfl rfl rfl) rfl<|B2 (rs:=[.i x1.1,.i x1.2]) rfl rfl (A2 (D2 rfl) B4) ((B0r (A1c hscv) hx1).frz)<|qm rfl<|A0 (A7 rfl rfl) rfl<|A0 (A7 rfl rfl) rfl<|qm rfl<|qm rfl<|es (ra3 rfl rfl rfl)<|B3<|s0<|oB h fun x2 hx2 h=>A0 (C5 rfl rfl rfl) rfl<|B2 (rs:=[.b x2]) rfl rfl (A2 (D2 rfl) B4) ((T3 hx2).frz)<|A0 (O3 rfl) rfl<|es (ra4 rfl rfl rfl rfl)<|wi h rfl (fun hc3 h=>?_) fun hc3 h=>?_
 ·refine s0<|oB h fun x7 hx7 h=>qm rfl<|A0 (F8 rfl rfl) rfl<|qm rfl<|gp 3 27 (.b ((x1.2 != 0) && (x1.1 == 0))) 24 rfl rfl (fun hg4=>?_) (fun hg4=>?_) ?_
  ·exact gT rfl hg4<|qm rfl<|gT rfl hg4<|A0 (G7 rfl rfl) rfl<|A0 (C8 rfl hg4 rfl) rfl<|ge 3 (by rw [hg4]; rfl) rfl rfl
  ·exact nT rfl hg4 rfl<|nT rfl hg4 rfl<|A0 (C7 rfl hg4 rfl) rfl<|ge 3 (by rw [hg4]; rfl) rfl rfl
  refine qm rfl<|gp 2 30 (.b x7) 28 rfl rfl (fun hg5=>?_) (fun hg5=>?_) ?_
  ·refine oB (bt hx7 hg5) fun x6 hx6 hx7=>?_
   obtain rfl:=os hx7
   exact gT rfl hg5<|B2 (rs:=[.b x6]) rfl rfl B4 ((G5 (A1c hscv) hx6).frz)<|A0 (C8 rfl hg5 rfl) rfl<|ge 2 rfl rfl rfl
  ·obtain rfl:=os (bf hx7 hg5)
   exact H8 (E9 rfl (by rw [hg5]; rfl)) rfl<|A0 (C7 rfl hg5 rfl) rfl<|ge 2 rfl rfl rfl
  refine qm rfl<|es (ra1 rfl)<|C4 ?_
  obtain rfl:=os h
  exact retq trivial (B1 rfl B7) (A5 rfl B6) (A1 A4 A8)
 ·refine C2<|B3<|s0<|qm rfl<|A0 (F8 rfl rfl) rfl<|qm rfl<|gp 7 40 (.b ((x1.2 != 0) && ((x1.2 != 9) || (x1.1 != 0)))) 33 rfl rfl (fun hg8=>?_) (fun hg8=>?_) ?_
  ·refine gT rfl hg8<|qm rfl<|gT rfl hg8<|A0 (F8 rfl rfl) rfl<|gT rfl hg8<|qm rfl<|gq 3 39 (.b ((x1.2 != 9) || (x1.1 != 0))) 36 rfl rfl (fun hg9=>?_) (fun hg9=>?_) ?_
   ·exact nF rfl hg9 rfl<|nF rfl hg9 rfl<|gT rfl hg8<|A0 (C8 rfl hg9 rfl) rfl<|ge 3 (by rw [hg9]; rfl) rfl rfl
   ·exact gF rfl hg9<|qm rfl<|gF rfl hg9<|A0 (F8 rfl rfl) rfl<|gT rfl hg8<|A0 (C7 rfl hg9 rfl) rfl<|ge 3 (by rw [hg9]; rfl) rfl rfl
   exact A0 (C8 rfl hg8 rfl) rfl<|ge 5 (by rw [hg8]; rfl) rfl rfl
  ·exact nT rfl hg8 rfl<|nT rfl hg8 rfl<|nT rfl hg8 rfl<|nX rfl rfl<|nX rfl rfl<|nT rfl hg8 rfl<|A0 (C7 rfl hg8 rfl) rfl<|ge 7 (by rw [hg8]; rfl) rfl rfl
  refine qm rfl<|gp 3 44 (.b (((x1.2 != 0) && ((x1.2 != 9) || (x1.1 != 0))) || (decide (x1.1 < 0)))) 41 rfl rfl (fun hg10=>?_) (fun hg10=>?_) ?_
  ·exact nF rfl hg10 rfl<|nF rfl hg10 rfl<|A0 (C8 rfl hg10 rfl) rfl<|ge 3 (by rw [hg10]; rfl) rfl rfl
  ·exact gF rfl hg10<|qm rfl<|gF rfl hg10<|A0 (F4 rfl rfl) rfl<|A0 (C7 rfl hg10 rfl) rfl<|ge 3 (by rw [hg10]; rfl) rfl rfl
  refine qm rfl<|gp 3 48 (.b ((((x1.2 != 0) && ((x1.2 != 9) || (x1.1 != 0))) || (decide (x1.1 < 0))) || (decide (x1.1 > 300)))) 45 rfl rfl (fun hg11=>?_) (fun hg11=>?_) ?_
  ·exact nF rfl hg11 rfl<|nF rfl hg11 rfl<|A0 (C8 rfl hg11 rfl) rfl<|ge 3 (by rw [hg11]; rfl) rfl rfl
  ·exact gF rfl hg11<|qm rfl<|gF rfl hg11<|A0 (A37 rfl rfl) rfl<|A0 (C7 rfl hg11 rfl) rfl<|ge 3 (by rw [hg11]; rfl) rfl rfl
  refine es (ra4 rfl rfl rfl rfl)<|wi h rfl (fun hc12 h=>?_) fun hc12 h=>?_
  ·refine s0<|qm rfl<|es (ra1 rfl)<|C4 ?_
   obtain rfl:=os h
   exact retq trivial (B1 rfl B7) (A5 rfl B6) (A1 A4 A8)
  ·refine C2<|s0<|oB h fun x13 hx13 h=>A0 (C5 rfl rfl rfl) rfl<|B2 (rs:=[(.seq 1 (List.map cI x13.1)),.i x13.2.1,.i x13.2.2.1,.i x13.2.2.2]) rfl rfl (A2 (D2 rfl) B4) ((A0e (A1c hscv) hx13).frz)<|qm rfl<|A0 (A7 rfl rfl) rfl<|A0 (A7 rfl rfl) rfl<|A0 (A7 rfl rfl) rfl<|A0 (A7 rfl rfl) rfl<|qm rfl<|qm rfl<|qm rfl<|qm rfl<|es (ra5 rfl rfl rfl rfl rfl)<|B3<|s0<|qm rfl<|A0 (F8 rfl rfl) rfl<|qm rfl<|gp 13 71 (.b ((x13.2.2.2 != 0) || (!((x13.2.1 == (List.length a0.Crates:Int)) == ((x1.2 == 0) && (x1.1 == 0)))))) 58 rfl rfl (fun hg14=>?_) (fun hg14=>?_) ?_
   ·exact nF rfl hg14 rfl<|nF rfl hg14 rfl<|nF rfl hg14 rfl<|nF rfl hg14 rfl<|nF rfl hg14 rfl<|nF rfl hg14 rfl<|nF rfl hg14 rfl<|nF rfl hg14 rfl<|nX rfl rfl<|nX rfl rfl<|nF rfl hg14 rfl<|nF rfl hg14 rfl<|A0 (C8 rfl hg14 rfl) rfl<|ge 13 (by rw [hg14]; rfl) rfl rfl
   ·refine gF rfl hg14<|qm rfl<|gF rfl hg14<|A0 (C3 rfl) rfl<|gF rfl hg14<|A0 (B5 rfl rfl rfl) rfl<|gF rfl hg14<|A0 (D3 (f:=A9) rfl) rfl<|gF rfl hg14<|A0 (G7 rfl rfl) rfl<|gF rfl hg14<|qm rfl<|gF rfl hg14<|A0 (G7 rfl rfl) rfl<|gF rfl hg14<|qm rfl<|gq 3 69 (.b ((x1.2 == 0) && (x1.1 == 0))) 66 rfl rfl (fun hg15=>?_) (fun hg15=>?_) ?_
    ·exact gT rfl hg15<|qm rfl<|gT rfl hg15<|A0 (G7 rfl rfl) rfl<|gF rfl hg14<|A0 (C8 rfl hg15 rfl) rfl<|ge 3 (by rw [hg15]; rfl) rfl rfl
    ·exact nT rfl hg15 rfl<|nT rfl hg15 rfl<|gF rfl hg14<|A0 (C7 rfl hg15 rfl) rfl<|ge 3 (by rw [hg15]; rfl) rfl rfl
    exact gF rfl hg14<|A0 (D75 rfl rfl) rfl<|A0 (C7 rfl hg14 rfl) rfl<|ge 11 (by rw [hg14]; rfl) rfl rfl
   refine es (ra4 rfl rfl rfl rfl)<|wi h rfl (fun hc16 h=>?_) fun hc16 h=>?_
   ·refine s0<|qm rfl<|es (ra1 rfl)<|C4 ?_
    obtain rfl:=os h
    exact retq trivial (B1 rfl B7) (A5 rfl B6) (A1 A4 A8)
   ·refine C2<|B3<|s0<|qm rfl<|A0 (F8 rfl rfl) rfl<|es (ra3 rfl rfl rfl)<|wi h rfl (fun hc17 h=>?_) fun hc17 h=>?_
    ·refine s0<|oB h fun x18 hx18 h=>oB h fun x19 hx19 h=>oB h fun x22 hx22 h=>A0 (C5 rfl rfl rfl) rfl<|B2 (rs:=[(.agg (A3 x18))]) rfl rfl (A2 (D2 rfl) (A2 rfl B4)) ((A9c hx18).frz)<|B2 (rs:=[.b x19]) rfl rfl (A2 (D2 rfl) B4) ((A7h hx19).frz)<|A0 (O3 rfl) rfl<|qm rfl<|gp 2 80 (.b x22) 78 rfl rfl (fun hg20=>?_) (fun hg20=>?_) ?_
     ·refine oB (bt hx22 hg20) fun x21 hx21 hx22=>?_
      obtain rfl:=os hx22
      exact gT rfl hg20<|B2 (rs:=[.b x21]) rfl rfl B4 ((G5 (A1c hscv) hx21).frz)<|A0 (C8 rfl hg20 rfl) rfl<|ge 2 rfl rfl rfl
     ·obtain rfl:=os (bf hx22 hg20)
      exact H8 (E9 rfl (by rw [hg20]; rfl)) rfl<|A0 (C7 rfl hg20 rfl) rfl<|ge 2 rfl rfl rfl
     refine qm rfl<|es (ra1 rfl)<|C4 ?_
     obtain rfl:=os h
     exact retq trivial (B1 rfl B7) (A5 rfl B6) (A1 A4 A8)
    ·refine C2<|sg 1 rfl<|oB h fun x23 hx23 h=>A0 (C5 rfl rfl rfl) rfl<|qm rfl<|B2 (rs:=[(.agg (A3 x23))]) rfl rfl (A2 (D2 rfl) (A2 rfl B4)) ((A9c hx23).frz)<|A0 E6 rfl<|G6 (E2 (ds:=(A3 x23)) rfl rfl rfl rfl (E1 rfl) rfl) rfl<|es (ra3 rfl rfl rfl)<|B3<|s0<|oB h fun x24 hx24 h=>A0 (C5 rfl rfl rfl) rfl<|B2 (rs:=[.b x24]) rfl rfl (A2 (D2 rfl) B4) ((T3 hx24).frz)<|es (ra4 rfl rfl rfl rfl)<|oB h fun p25 hp25 h=>C0d (Q1:=fun e s' H'=>(match p25 with | (.inl v)=>e = .ret∧RetQ H [.tmp 2] [.b v] e s' H' | (.inr v)=>e = .normal∧s' = [(1,(.ptr (H.length + 0) 0)),(3,.i x1.1),(9,(.ptr (H.length + 1) 0))]∧H' = (H++[(.cells (A3 a0)),(.cells (A3 x23))]):Prop)) ?_ ?_
     ·refine wi hp25 rfl (fun hc26 hp25=>?_) fun hc26 hp25=>?_
      ·refine s0<|oB hp25 fun x27 hx27 hp25=>A0 (C5 rfl rfl rfl) rfl<|B2 (rs:=[(.seq 1 (List.map cI x27.1)),.i x27.2.1,.i x27.2.2.1,.i x27.2.2.2]) rfl rfl (A2 (D2 rfl) B4) ((A0e (A1c hscv) hx27).frz)<|qm rfl<|A0 (A7 rfl rfl) rfl<|A0 (A7 rfl rfl) rfl<|A0 (A7 rfl rfl) rfl<|A0 (A7 rfl rfl) rfl<|qm rfl<|qm rfl<|qm rfl<|qm rfl<|es (ra5 rfl rfl rfl rfl rfl)<|s0<|qm rfl<|A0 (F8 rfl rfl) rfl<|qm rfl<|gp 6 101 (.b ((x27.2.2.2 != 0) || (x27.2.1 != (List.length a0.Crates:Int)))) 95 rfl rfl (fun hg28=>?_) (fun hg28=>?_) ?_
       ·exact nF rfl hg28 rfl<|nF rfl hg28 rfl<|nF rfl hg28 rfl<|nF rfl hg28 rfl<|nF rfl hg28 rfl<|A0 (C8 rfl hg28 rfl) rfl<|ge 6 (by rw [hg28]; rfl) rfl rfl
       ·exact gF rfl hg28<|qm rfl<|gF rfl hg28<|A0 (C3 rfl) rfl<|gF rfl hg28<|A0 (B5 rfl rfl rfl) rfl<|gF rfl hg28<|A0 (D3 (f:=A9) rfl) rfl<|gF rfl hg28<|A0 (F8 rfl rfl) rfl<|A0 (C7 rfl hg28 rfl) rfl<|ge 6 (by rw [hg28]; rfl) rfl rfl
       refine es (ra4 rfl rfl rfl rfl)<|wi hp25 rfl (fun hc29 hp25=>?_) fun hc29 hp25=>?_
       ·refine s0<|qm rfl<|es (ra1 rfl)<|C4 ?_
        obtain rfl:=os hp25
        exact me (And.intro rfl (retq trivial (B1 rfl B7) (A5 rfl B6) (A1 A4 A8))) (Sub.refl _)
       ·refine C2 ?_
        obtain rfl:=os hp25
        exact me (And.intro rfl (And.intro rfl rfl)) (su3 rfl rfl rfl)
      ·refine C2 ?_
       obtain rfl:=os hp25
       exact me (And.intro rfl (And.intro rfl rfl)) (su3 rfl rfl rfl)
     ·rcases p25 with vp25_0 | vp25_1
      ·rintro e s' H' ⟨rfl,hret⟩
       cases h
       exact hret
      ·rintro e s' H' ⟨rfl,rfl,rfl⟩
       refine s0<|oB h fun x30 hx30 h=>oB h fun x36 hx36 h=>oB h fun x39 hx39 h=>A0 (C5 rfl rfl rfl) rfl<|B2 (rs:=[.b x30]) rfl rfl (A2 (D2 rfl) B4) ((A7h hx30).frz)<|qm rfl<|gp 11 115 (.b x36) 104 rfl rfl (fun hg31=>?_) (fun hg31=>?_) ?_
       ·refine oB (bt hx36 hg31) fun x35 hx35 hx36=>?_
        obtain rfl:=os hx36
        refine gT rfl hg31<|qm rfl<|gT rfl hg31<|A0 (G7 rfl rfl) rfl<|gT rfl hg31<|qm rfl<|gq 7 114 (.b x35) 107 rfl rfl (fun hg32=>?_) (fun hg32=>?_) ?_
        ·obtain rfl:=os (bt hx35 hg32)
         exact nF rfl hg32 rfl<|nF rfl hg32 rfl<|nF rfl hg32 rfl<|H8 (E9 rfl (by rw [hg32]; rfl)) rfl<|H8 (E9 rfl (by rw [hg32]; rfl)) rfl<|nF rfl hg32 rfl<|gT rfl hg31<|A0 (C8 rfl hg32 rfl) rfl<|ge 7 rfl rfl rfl
        ·refine oB (bf hx35 hg32) fun x33 hx33 hx35=>oB hx35 fun x34 hx34 hx35=>?_
         obtain rfl:=os hx35
         exact gF rfl hg32<|A0 (C5 rfl rfl rfl) rfl<|gF rfl hg32<|qm rfl<|gF rfl hg32<|A0 (O0 rfl rfl) rfl<|gF rfl hg32<|B2 (rs:=[(.agg (A3 x33))]) rfl rfl (A2 (D2 rfl) (A2 rfl B4)) ((A9c hx33).frz)<|gF rfl hg32<|B2 (rs:=[.b x34]) rfl rfl (A2 (D2 rfl) B4) ((A7h hx34).frz)<|gF rfl hg32<|A0 (O3 rfl) rfl<|gT rfl hg31<|A0 (C7 rfl hg32 rfl) rfl<|ge 7 rfl rfl rfl
        exact A0 (C8 rfl hg31 rfl) rfl<|ge 5 rfl rfl rfl
       ·obtain rfl:=os (bf hx36 hg31)
        exact nT rfl hg31 rfl<|nT rfl hg31 rfl<|nT rfl hg31 rfl<|nX rfl rfl<|nX rfl rfl<|nX rfl rfl<|H8 (Y3 rfl) rfl<|H8 (Y3 rfl) rfl<|nX rfl rfl<|nT rfl hg31 rfl<|A0 (C7 rfl hg31 rfl) rfl<|ge 11 rfl rfl rfl
       refine qm rfl<|gp 2 118 (.b x39) 116 rfl rfl (fun hg37=>?_) (fun hg37=>?_) ?_
       ·refine oB (bt hx39 hg37) fun x38 hx38 hx39=>?_
        obtain rfl:=os hx39
        exact gT rfl hg37<|B2 (rs:=[.b x38]) rfl rfl B4 ((G5 (A1c hscv) hx38).frz)<|A0 (C8 rfl hg37 rfl) rfl<|ge 2 rfl rfl rfl
       ·obtain rfl:=os (bf hx39 hg37)
        exact H8 (E9 rfl (by rw [hg37]; rfl)) rfl<|A0 (C7 rfl hg37 rfl) rfl<|ge 2 rfl rfl rfl
       refine qm rfl<|es (ra1 rfl)<|C4 ?_
       obtain rfl:=os h
       exact retq trivial (B1 rfl B7) (A5 rfl B6) (A1 A4 A8)
end Vn
end
section
namespace Vn
open Go Am
def earl (t:VaTrain):Int:=(PL t).foldl (fun b p=>min b (B0l t p)) 301
theorem D9q {t:VaTrain} (h:TOk t):0≤earl t∧earl t≤301:= by
 refine B5p (fun b=>0≤b∧b≤301) (PL t) (fun p hp b hb=>?_) 301 ⟨by decide,Int.le_refl _⟩
 have hP:=(A4h h).mp hp
 have:=B2p h p hP.len hP.range p.length (Nat.le_refl _)
 unfold B0l; omega
theorem B5h {t:VaTrain} (hN:NB t):A2y t = some (if (check t).2.2 == 0 then (if earl t > 300 then (0,9) else (earl t,0)) else (0,(check t).2.2)):= by
 unfold A2y
 rw [R5 t hN]
 simp only [Option.bind_some]
 by_cases c:(check t).2.2 = 0
 ·have h:=J3 c
  rw [if_neg (by rw [c]; decide),if_pos (by rw [c]; rfl)]
  obtain ⟨s,h1,h2,h3,_⟩:=B9f (ρ:=Unit) (f:=fun q s=>A4u t (K2 q) s) (g:=fun b p=>min b (B0l t p)) (fun b (s:List (IArr 6 × van_found) × Int)=>Inv t s.1∧s.2 = b∧0≤b∧b≤301) (PL t) (fun p hp b s hb=>by
   have hP:=(A4h h).mp hp
   obtain ⟨ms,h1,h2⟩:=C27 hb.1 (C24 h p hP.len hP.range)
   have:=B2p h p hP.len hP.range p.length (Nat.le_refl _)
   have hb2:=hb.2
   unfold A4u
   simp only []
   rw [h1]
   simp only [Option.bind_some]
   rw [hb2.1,B5v]
   refine ⟨_,rfl,h2,rfl,?_,?_⟩
   ·unfold B0l; omega
   ·omega) 301 ([],301) ⟨C8r t,rfl,by decide,Int.le_refl _⟩
  rw [B68 h h1]
  simp only [Option.bind_some]
  rw [h3]
  show (if decide (earl t > 300) = true then _ else some (earl t,0)) = _
  by_cases k:earl t > 300
  ·rw [if_pos (by simpa using k),if_pos k]
  ·rw [if_neg (by simpa using k),if_neg k]
 ·rw [if_pos (bne_iff_ne.mpr c),if_neg (by rw [beq_iff_eq]; exact c)]
def C09 (m:Int) (v:VaVan):VaVan:=⟨v.Name,v.Room,v.Leave - m,v.Legs⟩
def A9h (t:VaTrain) (m:Int):VaTrain:=⟨t.Vans.map (C09 m),t.Stops,t.Handle,t.Crates,t.Apart⟩
theorem B7q {t:VaTrain} {m:Int} {i:Nat} (hi:i < t.Vans.length):(A9h t m).Vans[i]! = C09 m t.Vans[i]!:= by
 rw [getElem!_pos t.Vans i hi]
 show (t.Vans.map (C09 m))[i]! = _
 rw [getElem!_pos _ i (by rw [List.length_map]; exact hi),List.getElem_map]
theorem B7r (t:VaTrain) (m:Int):(A9h t m).Vans.length = t.Vans.length:=List.length_map _
theorem A9d {t:VaTrain} (h:TOk t) {m:Int} (hm:0≤m∧m≤300):A3c t m = some (A9h t m):= by
 have hv:=h.vans
 have e2:∀i,i≤t.Vans.length→((t.Vans.take i).map (C09 m)++t.Vans.drop i).length = t.Vans.length:=fun i hi=>by rw [List.length_append,List.length_map,List.length_take,List.length_drop]; omega
 unfold A3c
 rw [W4 (by omega) (by simp; omega)]
 simp only [Option.bind_some,List.nil_append]
 have hq:=G4 (b:=A1f m) (fun i=>((i:Int),(t.Vans.take i).map (C09 m)++t.Vans.drop i)) t.Vans.length (r:=(A9h t m).Vans) (by omega) (fun i hi=>by
  unfold A1f
  simp only []
  have hge:((t.Vans.take i).map (C09 m)++t.Vans.drop i)[i]? = some t.Vans[i]!:= by
   rw [List.getElem?_append_right (by rw [List.length_map,List.length_take]; omega),List.length_map,List.length_take,Nat.min_eq_left (by omega),Nat.sub_self,List.getElem?_drop,Nat.add_zero,List.getElem?_eq_getElem hi,getElem!_pos t.Vans i hi]
  have hix:idx ((t.Vans.take i).map (C09 m)++t.Vans.drop i) (i:Int) = some t.Vans[i]!:= by
   unfold idx
   rw [if_pos (by omega),Int.toNat_natCast,hge]
  have hw:=h.van i hi
  have:=hw.leave0; have:=hw.leave
  rw [if_pos (by rw [decide_eq_true_eq,e2 i (by omega)]; omega),hix]
  simp only [Option.bind_some]
  rw [D0 (n:=(i:Int) + 1) (by omega),D0 (by omega)]
  congr 2
  refine Prod.ext rfl ?_
  show ((t.Vans.take i).map (C09 m)++t.Vans.drop i).set (i:Int).toNat (C09 m t.Vans[i]!) = _
  rw [Int.toNat_natCast,List.drop_eq_getElem_cons hi,List.set_append_right _ _ (by rw [List.length_map,List.length_take]; omega),List.length_map,List.length_take,Nat.min_eq_left (by omega),Nat.sub_self,List.set_cons_zero,A30 (List.getElem?_eq_getElem hi),List.map_append,List.append_assoc,getElem!_pos t.Vans i hi]
  rfl) (by
  unfold A1f
  simp only []
  rw [if_neg (by rw [decide_eq_true_eq,e2 _ (Nat.le_refl _)]; omega),List.take_length,List.drop_of_length_le (Nat.le_refl _),List.append_nil]; rfl)
 have hq:loop (A1f m) (0,t.Vans) = _:=hq
 rw [hq]; rfl
theorem B7p {t:VaTrain} (h:TOk t) (hn:Nm t) {m:Int} (hm:0≤m∧m≤300):TOk (A9h t m):= by
 refine ⟨h.stops1,h.stops,h.handle0,h.handle,by rw [B7r]; exact h.vans1,by rw [B7r]; exact h.vans,h.crates,h.apart,fun i hi=>?_,fun i hi=>?_,fun i hi=>?_⟩
 ·rw [B7r] at hi
  have:=h.van i hi
  have h0:=hn.leave i hi
  rw [B7q hi]
  exact ⟨this.room0,this.room,by show -1000≤t.Vans[i]!.Leave - m; omega,by have:=this.leave; show t.Vans[i]!.Leave - m≤5000; omega,this.legs,this.leg⟩
 ·have:=h.crate i hi
  exact ⟨this.size1,this.size,this.stop0,this.stop,this.by0,this.byl⟩
 ·have:=h.pair i hi
  exact ⟨this.a0,this.ab,this.b⟩
theorem C9l {t:VaTrain} {m:Int} {p:List Int}:PlanOk (A9h t m) p↔PlanOk t p:= by
 have hg:L6 (A9h t m) p↔L6 t p:= by unfold L6; rw [B7r]
 have hgood:Good (A9h t m) p↔Good t p:= by
  unfold Good
  rw [B7r]
  constructor
  ·rintro ⟨a,b⟩; exact ⟨fun v hv=>by have:=a v hv; rw [B7q hv] at this; exact this,b⟩
  ·rintro ⟨a,b⟩; exact ⟨fun v hv=>by have:=a v hv; rw [B7q hv]; exact this,b⟩
 constructor
 ·exact fun h=>⟨h.len,hg.mp h.range,(A16 t p).mpr (hgood.mp ((A16 _ p).mp h.good))⟩
 ·exact fun h=>⟨h.len,hg.mpr h.range,(A16 _ p).mpr (hgood.mpr ((A16 t p).mp h.good))⟩
theorem C9m {t:VaTrain} {m:Int} {v:Nat} (hv:v < t.Vans.length):∀s,J6 (A9h t m) v s = J6 t v s
 | 0=>rfl
 | s + 1=>by rw [S5,S5,C9m hv s,B7q hv]; rfl
theorem D6t {t:VaTrain} {m:Int} {p:List Int} {v s:Nat} (hv:v < t.Vans.length):(E8 (A9h t m) p v s).Hi = (E8 t p v s).Hi - m:= by
 unfold E8
 simp only []
 rw [C9m hv,B7q hv]
 have:late (A9h t m) p (v:Int) s = late t p (v:Int) s:=rfl
 rw [this]
 show t.Vans[v]!.Leave - m + _ + _ = _
 omega
theorem D1s (t:VaTrain) (p:List Int):∀n:Nat,N3 t p n = n↔∀ i,i < n→L7 t p i = 1
 | 0=>⟨fun _ i hi=>absurd hi (by omega),fun _=>rfl⟩
 | n + 1=>by
  have ih:=D1s t p n
  have hb:=A2r t p n
  have e:N3 t p (n + 1) = if L7 t p n == 1 then N3 t p n + 1 else N3 t p n:=rfl
  rw [e]
  constructor
  ·intro h i hi
   by_cases c:L7 t p n = 1
   ·rw [if_pos (by rw [beq_iff_eq]; exact c)] at h
    by_cases c2:i = n
    ·rw [c2]; exact c
    ·exact ih.mp (by omega) i (by omega)
   ·rw [if_neg (by rw [beq_iff_eq]; exact c)] at h; omega
  ·intro h
   rw [if_pos (by rw [beq_iff_eq]; exact h n (by omega)),ih.mpr fun i hi=>h i (by omega)]; omega
theorem D0m {t:VaTrain} {p:List Int} {m:Int} (hm:0≤m∧m≤300):∀n:Nat,A6h t p n≤m↔∀ i,i < n→p[i]! ≠ -1∧(E8 t p p[i]!.toNat t.Crates[i]!.Stop.toNat).Hi - m≤t.Crates[i]!.By
 | 0=>⟨fun _ i hi=>absurd hi (by omega),fun _=>hm.1⟩
 | n + 1=>by
  have ih:=D0m (t:=t) (p:=p) hm n
  have e:A6h t p (n + 1) = if p[n]! == -1 then 301 else max (A6h t p n) ((E8 t p p[n]!.toNat t.Crates[n]!.Stop.toNat).Hi - t.Crates[n]!.By):=rfl
  rw [e]
  constructor
  ·intro h i hi
   by_cases c:p[n]! = -1
   ·rw [if_pos (by rw [beq_iff_eq]; exact c)] at h; omega
   ·rw [if_neg (by rw [beq_iff_eq]; exact c)] at h
    by_cases c2:i = n
    ·rw [c2]; exact ⟨c,by omega⟩
    ·exact ih.mp (by omega) i (by omega)
  ·intro h
   have h1:=h n (by omega)
   rw [if_neg (by rw [beq_iff_eq]; exact h1.1)]
   have:=ih.mpr fun i hi=>h i (by omega)
   omega
theorem C9n {t:VaTrain} {m:Int} (hm:0≤m∧m≤300) {p:List Int} (hP:PlanOk t p):J1 (A9h t m) p = (t.Crates.length:Int)↔B0l t p≤m:= by
 unfold J1 B0l
 have hlen:=hP.len
 rw [← hlen,D1s,D0m hm]
 constructor
 ·intro h i hi
  have:=A99.mp (h i hi)
  have r:=hP.range i hi
  have h2:=this.2
  rw [D6t (by omega)] at h2
  exact ⟨this.1,h2⟩
 ·intro h i hi
  have h1:=h i hi
  have r:=hP.range i hi
  refine A99.mpr ⟨h1.1,?_⟩
  rw [D6t (by omega)]
  exact h1.2
theorem B70 (f:List Int→Int):∀(l:List (List Int)) (b m:Int),l.foldl (fun b p=>min b (f p)) b≤m↔b≤m∨∃ p ∈ l,f p≤m
 | [],b,m=>⟨.inl,fun h=>h.elim id fun ⟨p,hp,_⟩=>by cases hp⟩
 | a :: l,b,m=>by
  rw [List.foldl_cons,B70 f l]
  constructor
  ·rintro (h | ⟨p,hp,e⟩)
   ·by_cases c:b≤m
    ·exact .inl c
    ·exact .inr ⟨a,List.mem_cons_self,by omega⟩
   ·exact .inr ⟨p,List.mem_cons_of_mem _ hp,e⟩
  ·rintro (h | ⟨p,hp,e⟩)
   ·exact .inl (by omega)
   ·rcases List.mem_cons.mp hp with rfl | hp
    ·exact .inl (by omega)
    ·exact .inr ⟨p,hp,e⟩
theorem B5n {t:VaTrain} (h:TOk t) (hn:Nm t) {m:Int} (hm:0≤m∧m≤300):X4 (A9h t m) = true↔earl t≤m:= by
 unfold X4 earl
 rw [List.any_eq_true,B70]
 constructor
 ·rintro ⟨p,hp,e⟩
  have hP:=C9l.mp ((A4h (B7p h hn hm)).mp hp)
  exact .inr ⟨p,(A4h h).mpr hP,(C9n hm hP).mp (beq_iff_eq.mp e)⟩
 ·rintro (a | ⟨p,hp,e⟩)
  ·omega
  ·have hP:=(A4h h).mp hp
   exact ⟨p,(A4h (B7p h hn hm)).mpr (C9l.mpr hP),by rw [beq_iff_eq]; exact (C9n hm hP).mpr e⟩
theorem D6v (t:VaTrain):A9h t 0 = t:= by
 have:∀l:List VaVan,l.map (C09 0) = l:=fun l=>by
  have e:C09 0 = id:= by funext v; unfold C09; rw [Int.sub_zero]; rfl
  rw [e,List.map_id]
 unfold A9h
 rw [this]
theorem D9k {t:VaTrain} (h:NB t) (m:Int):NB (A9h t m):= by
 refine ⟨fun v hv=>?_,h.2⟩
 obtain ⟨w,hw,e⟩:=List.mem_map.mp hv
 rw [← e]; exact h.1 w hw
theorem C8d {t:VaTrain} (hN:NB t) (hA:G2 = some true):A19 t = some true:= by
 unfold A19
 rw [B5h hN,A7t]
 by_cases c:(check t).2.2 = 0
 ·have h:=J3 c
  have hn:=B2j c
  have hb:=D9q h
  have hw0:=B5n h hn (m:=0) (by decide)
  rw [D6v,B7e h,beq_iff_eq] at hw0
  by_cases k:earl t > 300
  ·simp only [c,beq_self_eq_true,if_true,if_pos k,Option.bind_some,Bool.not_true,Bool.false_eq_true,if_false]
   rw [if_neg (by decide),A1p hN,c]
   simp only [beq_self_eq_true,if_true,Option.bind_some]
   have hne:((I3 t).2.1 == (t.Crates.length:Int)) = false:= by rw [beq_eq_false_iff_ne]; intro e; have:=hw0.mp e; omega
   rw [hne,if_neg (by decide),if_pos (by decide),A9d h (by decide)]
   simp only [Option.bind_some]
   rw [A4s (B7p h hn (by decide))]
   have hw:=B5n h hn (m:=300) (by decide)
   have:X4 (A9h t 300) = false:= by
    cases q:X4 (A9h t 300) with
    | false=>rfl
    | true=>have:=hw.mp q; omega
   simp only [Option.bind_some]
   rw [this,hA]; rfl
  ·simp only [c,beq_self_eq_true,if_true,if_neg k,Option.bind_some,Bool.not_true,Bool.false_eq_true,if_false]
   rw [if_neg (by simp; omega),A1p hN,c]
   simp only [beq_self_eq_true,if_true,Option.bind_some,Bool.true_and]
   have hne:((I3 t).2.1 == (t.Crates.length:Int)) = (earl t == 0):= by
    rw [Bool.eq_iff_iff,beq_iff_eq,beq_iff_eq,hw0]; omega
   rw [hne,if_neg (by simp),if_neg (by decide),A9d h (by omega)]
   simp only [Option.bind_some]
   have hB:=B7p h hn (m:=earl t) (by omega)
   have hw:=(B5n h hn (m:=earl t) (by omega)).mpr (Int.le_refl _)
   have hp:((if ((check (A9h t (earl t))).2.2 == 0) = true then (X2 (A9h t (earl t))).bind fun x27 =>
     if (x27.2.2.2 != 0 || x27.2.1 != (t.Crates.length:Int)) = true then some (.inl false) else some (.inr ()) else some (.inr ())):Option (Bool ⊕ Unit)) = some (.inr ()):= by
    by_cases c2:(check (A9h t (earl t))).2.2 = 0
    ·rw [if_pos (by rw [c2]; rfl),A1p (D9k hN _),c2]
     simp only [beq_self_eq_true,if_true,Option.bind_some]
     rw [B7e hB] at hw
     have hw:(I3 (A9h t (earl t))).2.1 = (t.Crates.length:Int):=beq_iff_eq.mp hw
     rw [hw,if_neg (by simp)]
    ·rw [if_neg (by rw [beq_iff_eq]; exact c2)]
   rw [A7t]
   simp only [Option.bind_some]
   rw [hp]
   simp only [Option.bind_some]
   rw [A4s hB,hw]
   simp only [Option.bind_some,if_true]
   by_cases k0:earl t = 0
   ·rw [if_pos (by rw [beq_iff_eq]; exact k0),hA]; rfl
   ·rw [if_neg (by rw [beq_iff_eq]; exact k0),D0 (by omega),A9d h (by omega)]
    simp only [Option.bind_some]
    rw [A4s (B7p h hn (by omega))]
    have hw2:=B5n h hn (m:=earl t - 1) (by omega)
    have:X4 (A9h t (earl t - 1)) = false:= by
     cases q:X4 (A9h t (earl t - 1)) with
     | false=>rfl
     | true=>have:=hw2.mp q; omega
    rw [this,hA]; rfl
 ·have e:((check t).2.2 == 0) = false:=beq_eq_false_iff_ne.mpr c
  rw [e,hA]
  simp [c]
theorem C1i {t:VaTrain} (hN:NB t):A19 t = some true:=C8d hN P0
end Vn
end
