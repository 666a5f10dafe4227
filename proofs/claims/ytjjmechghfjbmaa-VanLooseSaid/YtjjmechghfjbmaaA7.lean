/- Texts that the claim stands on, one behind another. -/
import Derived.Test.YtjjmechghfjbmaaA6
import Derived.Laws.RangeAny
import Derived.KernelRfl
set_option linter.unusedVariables false
set_option linter.unusedSimpArgs false
set_option linter.unnecessarySimpa false
section
namespace Vn
open Go Am
instance:Inhabited Span:=⟨⟨0,0⟩⟩
instance:Inhabited VaVan:=⟨⟨ByteArray.empty,0,0,[]⟩⟩
instance:Inhabited VaCrate:=⟨⟨ByteArray.empty,0,0,0⟩⟩
instance:Inhabited VaPair:=⟨⟨0,0⟩⟩
def D6r (s:ByteArray) (i:Nat):Bool :=
 !(decide (97≤s[i]!.toNat) && decide (s[i]!.toNat≤122)) && (i == 0 || !((decide (48≤s[i]!.toNat) && decide (s[i]!.toNat≤57)) || s[i]!.toNat == 46))
def bad (s:ByteArray) (i:Nat):Option Unit:=if D6r s i then some () else none
def B3l (s:ByteArray):Bool:=(!(s.size == 0) && decide (s.size≤16)) && (first (bad s) s.size).isNone
theorem nd97 {x:Nat}:decide ((97:Int)≤(x:Int)) = decide (97≤x):=decide_eq_decide.mpr (by omega)
theorem nd122 {x:Nat}:decide ((x:Int)≤122) = decide (x≤122):=decide_eq_decide.mpr (by omega)
theorem nd48 {x:Nat}:decide ((48:Int)≤(x:Int)) = decide (48≤x):=decide_eq_decide.mpr (by omega)
theorem nd57 {x:Nat}:decide ((x:Int)≤57) = decide (x≤57):=decide_eq_decide.mpr (by omega)
theorem nl48 {x:Nat}:decide ((x:Int) < 48) = !decide (48≤x):= by rw [Bool.eq_iff_iff]; simp; omega
theorem nl57 {x:Nat}:decide ((57:Int) < (x:Int)) = !decide (x≤57):= by rw [Bool.eq_iff_iff]; simp; omega
theorem nz0 {x:Nat}:((x:Int) == 0) = (x == 0):= by rw [Bool.eq_iff_iff]; simp
theorem n46 {x:Nat}:((x:Int) == 46) = (x == 46):= by rw [Bool.eq_iff_iff]; simp; omega
theorem n46' {x:Nat}:((x:Int) == 46) = (x == 46):=n46
theorem D6d {s:ByteArray} {i:Nat} (h:i < s.size):C4x s (i:Int) = some (s[i]!.toNat:Int):= by
 unfold C4x
 rw [if_pos (Int.natCast_nonneg i),Int.toNat_natCast,getElem?_pos s i h,getElem!_pos s i h]; rfl
theorem C50 (s:ByteArray):B0u s = some (B3l s):= by
 unfold B0u B3l
 by_cases h0:s.size = 0
 ·rw [if_pos (by simp [h0])]; simp [h0]
 by_cases h1:s.size > 16
 ·rw [if_pos (by simp; omega)]
  have:decide (s.size≤16) = false:= by simp; omega
  rw [this]; simp
 rw [if_neg (by simp only [Bool.or_eq_true,beq_iff_eq,decide_eq_true_eq]; omega)]
 have hl:loop (A51 s) 0 = some ((first (fun i=>(bad s i).map fun _=>(Sum.inl false:Bool ⊕ Unit)) s.size).getD (.inr ())):= by
  refine R3 s.size _ _ (by omega) ?_ ?_
  ·intro i hi _
   unfold A51
   rw [if_pos (by simpa using hi),D6d hi]
   have hb:s[i]!.toNat < 256:=s[i]!.toNat_lt
   generalize hx:s[i]!.toNat = x at hb
   simp only [Option.bind_some,Z8,D0 (n:=(x:Int)) (by omega),ge_iff_le,nd97,nd122,nd48,nd57,nz0,n46]
   unfold bad D6r
   rw [hx]
   generalize decide (97≤x) = b1
   generalize decide (x≤122) = b2
   generalize decide (48≤x) = b3
   generalize decide (x≤57) = b4
   generalize (x == 46) = b5
   generalize (i == 0) = b6
   cases b1 <;> cases b2 <;> cases b3 <;> cases b4 <;> cases b5 <;> cases b6 <;> rfl
  ·unfold A51
   rw [if_neg (by simp)]
 rw [hl]
 cases hf:first (bad s) s.size with
 | none =>
  have:=F6.mp hf
  rw [F6.mpr fun i hi=>by rw [this i hi]; rfl]
  have e1:(s.size == 0) = false:= by rw [beq_eq_false_iff_ne]; exact h0
  have e2:decide (s.size≤16) = true:=decide_eq_true (by omega)
  rw [e1,e2]; rfl
 | some u =>
  obtain ⟨i,hi,h2,h3⟩:=N5 hf
  rw [B4t (r:=.inl false) hi (by rw [h2]; rfl) fun j hj=>by rw [h3 j hj]; rfl]
  simp
theorem B6c (s:ByteArray) (hs:s.size < 9223372036854775808):A76 s = some (B3l s):= by
 unfold A76 B3l
 have hl:loop (A5x s) (0:Nat) = some ((first (fun i=>(bad s i).map fun _=>(Sum.inl false:Bool ⊕ Nat)) s.size).getD (.inr s.size)):= by
  refine B2q (fun i=>i) s.size _ _ hs ?_ ?_
  ·intro i hi _
   unfold A5x
   rw [if_pos (by simpa using hi)]
   unfold bad D6r
   rw [getElem!_pos s i hi]
   by_cases ha:(s[i]'hi).toNat < 128
   ·rw [decode_ascii s i hi ha]
    generalize (s[i]'hi).toNat = x at ha ⊢
    simp only [nd97,nd122,gt_iff_lt,nl48,nl57,nz0,n46',bne]
    generalize decide (97≤x) = b1
    generalize decide (x≤122) = b2
    generalize decide (48≤x) = b3
    generalize decide (x≤57) = b4
    generalize (x == 46) = b5
    generalize (i == 0) = b6
    cases b1 <;> cases b2 <;> cases b3 <;> cases b4 <;> cases b5 <;> cases b6 <;> rfl
   ·have hd:=(decode_high s i hi (by omega)).1
    generalize (Utf8.decode s i).1 = y at hd ⊢
    generalize (s[i]'hi).toNat = x at ha ⊢
    rw [if_pos (by simp; omega)]
    have e1:decide (x≤122) = false:= by simp; omega
    have e2:decide (x≤57) = false:= by simp; omega
    have e3:(x == 46) = false:= by simp; omega
    simp [e1,e2,e3]
  ·intro _
   unfold A5x
   rw [if_neg (by simp)]
 rw [hl]
 have he:eqS s (ByteArray.mk #[]) = (s.size == 0):= by
  unfold eqS
  cases hz:s.data.toList with
  | nil =>
   have:s.size = 0:= by show s.data.size = 0; rw [← Array.length_toList,hz]; rfl
   rw [this]; rfl
  | cons a t =>
   have:s.size = t.length + 1:= by show s.data.size = _; rw [← Array.length_toList,hz]; rfl
   rw [this]; rfl
 cases hf:first (bad s) s.size with
 | none =>
  have:=F6.mp hf
  rw [F6.mpr fun i hi=>by rw [this i hi]; rfl]
  have e2:decide ((s.size:Int)≤16) = decide (s.size≤16):=decide_eq_decide.mpr (by omega)
  simp [he,e2]
 | some u =>
  obtain ⟨i,hi,h2,h3⟩:=N5 hf
  rw [B4t (r:=.inl false) hi (by rw [h2]; rfl) fun j hj=>by rw [h3 j hj]; rfl]
  simp
theorem B85 {α:Type} [Inhabited α] (l:List α) (p:α→Bool):(first (fun i=>if p l[i]! then some (i:Int) else none) l.length).isSome = l.any p:= by
 cases hf:first (fun i=>if p l[i]! then some (i:Int) else none) l.length with
 | none =>
  have h0:=F6.mp hf
  cases ha:l.any p with
  | false=>rfl
  | true =>
   rw [List.any_eq_true] at ha
   obtain ⟨x,hx,hp⟩:=ha
   obtain ⟨i,hi,e⟩:=List.mem_iff_getElem.mp hx
   have:=h0 i hi
   rw [getElem!_pos l i hi,e,hp] at this
   exact absurd this (by simp)
 | some r =>
  obtain ⟨i,hi,h1,_⟩:=N5 hf
  rw [getElem!_pos l i hi] at h1
  cases hp:p l[i] with
  | false=>rw [hp] at h1; exact absurd h1 (by simp)
  | true=>exact (List.any_eq_true.mpr ⟨l[i],List.getElem_mem hi,hp⟩).symm
theorem C6w {α:Type} [Inhabited α] (l:List α) (p:α→Bool) {b:Int→Option (Int ⊕ (Int ⊕ Unit))} (hl:l.length < 9223372036854775808)
  (hb:∀i:Nat,i < l.length→b i = some (if p l[i]! then .inr (.inl (i:Int)) else .inl (w64 ((i:Int) + 1)))) (he:b l.length = some (.inr (.inr ()))) :
  ∃ o,loop b 0 = some o∧(match o with | .inl i=>0≤i∧l.any p = true | .inr _=>l.any p = false):= by
 have h:=R3 (b:=b) l.length (fun i=>if p l[i]! then some (.inl (i:Int)) else none) (.inr ()) hl (fun i hi _=>by
  rw [hb i hi]; cases p l[i]! <;> rfl) he
 refine ⟨_,h,?_⟩
 have ha:=B85 l p
 cases hf:first (fun i=>if p l[i]! then some (Sum.inl (i:Int):Int ⊕ Unit) else none) l.length with
 | none =>
  have h0:=F6.mp hf
  rw [F6.mpr fun i hi=>by
   have:=h0 i hi
   cases hp:p l[i]! with
   | false=>rfl
   | true=>rw [hp] at this; exact absurd this (by simp)] at ha
  simpa using ha.symm
 | some r =>
  obtain ⟨i,hi,h1,h2⟩:=N5 hf
  cases hp:p l[i]! with
  | false=>rw [hp] at h1; exact absurd h1 (by simp)
  | true =>
   rw [hp] at h1
   have h1:some (Sum.inl (i:Int)) = some r:=h1
   obtain rfl:=Option.some.inj h1
   refine ⟨Int.natCast_nonneg i,?_⟩
   rw [B4t (r:=(i:Int)) hi (by rw [hp]; rfl) fun j hj=>by
    have:=h2 j hj
    cases hq:p l[j]! with
    | false=>rfl
    | true=>rw [hq] at this; exact absurd this (by simp)] at ha
   exact ha.symm
theorem A9i {α:Type} [Inhabited α] (l:List α) (g:α→Option Bool) (p:α→Bool) {b:Int→Option (Int ⊕ (Int ⊕ Unit))} {F:Option Bool} (hl:l.length < 9223372036854775808) (hg:∀x ∈ l,g x = some (p x))
  (hb:∀i:Int,b i = if decide (i < l.length) = true then (idx l i).bind fun x=>(g x).bind fun y=>if y = true then some (.inr (.inl i)) else some (.inl (w64 (i + 1))) else some (.inr (.inr ())))
  (hF:F = ((loop b 0).bind fun o=>match o with | .inl v=>some v | .inr _=>some (-1)).bind fun x=>some (decide (x ≥ 0))):F = some (l.any p):= by
 obtain ⟨o,ho,hc⟩:=C6w l p (b:=b) hl (fun i hi=>by
  rw [hb,if_pos (by simpa using hi),E5 hi]
  simp only [Option.bind_some]
  rw [hg _ (by rw [getElem!_pos l i hi]; exact List.getElem_mem hi)]
  simp only [Option.bind_some]
  cases p l[i]! <;> rfl) (by
  rw [hb,if_neg (by simp)])
 rw [hF,ho]
 rcases o with i | u
 ·simp only [Option.bind_some]
  rw [hc.2,decide_eq_true hc.1]
 ·simp only [Option.bind_some]
  rw [hc]; rfl
theorem C8a (l:List Int) (g:Int→Option Bool) (p:Int→Bool) (hl:l.length < 9223372036854775808) (hg:∀x ∈ l,g x = some (p x)):S8 l g = some (l.any p) :=
 A9i l g p (b:=A0a l g) hl hg (fun _=>rfl) rfl
theorem B9a (l:List VaCrate) (g:VaCrate→Option Bool) (p:VaCrate→Bool) (hl:l.length < 9223372036854775808) (hg:∀x ∈ l,g x = some (p x)):J2 l g = some (l.any p) :=
 A9i l g p (b:=N2 l g) hl hg (fun _=>rfl) rfl
theorem C2c (l:List VaVan) (g:VaVan→Option Bool) (p:VaVan→Bool) (hl:l.length < 9223372036854775808) (hg:∀x ∈ l,g x = some (p x)):K9 l g = some (l.any p) :=
 A9i l g p (b:=O6 l g) hl hg (fun _=>rfl) rfl
theorem C1a (l:List VaPair) (g:VaPair→Option Bool) (p:VaPair→Bool) (hl:l.length < 9223372036854775808) (hg:∀x ∈ l,g x = some (p x)):K3 l g = some (l.any p) :=
 A9i l g p (b:=O2 l g) hl hg (fun _=>rfl) rfl
def out (lo hi x:Int):Bool:=decide (x < lo) || decide (x > hi)
theorem B3r (lo hi:Int) (l:List Int) (hl:l.length < 9223372036854775808):G3 lo hi l = some (l.any (out lo hi)):= by
 unfold G3
 exact (congrArg (Option.bind · some) (C8a l (fun y=>A59 y lo hi) (out lo hi) hl fun x _=>rfl)).trans rfl
theorem outside1 (lo hi x:Int):G3 lo hi [x] = some (out lo hi x):= by
 rw [B3r lo hi [x] (by simp)]; simp
theorem outside2 (lo hi x y:Int):G3 lo hi [x,y] = some (out lo hi x || out lo hi y):= by
 rw [B3r lo hi [x,y] (by simp)]; simp
theorem A68 (lo hi x:Int):X0 x lo hi = some (!out lo hi x):= by
 unfold X0 out
 rw [Option.some_inj,Bool.eq_iff_iff]; simp
theorem B39 (lo hi x:Int):Z8 x lo hi = some (!out lo hi x):=A68 lo hi x
def T2 (s:ByteArray) (l:List ByteArray):Int:=if B3l s then (if l.any (fun y=>eqS y s) then 5 else 0) else 6
instance:Inhabited ByteArray:=⟨ByteArray.empty⟩
theorem B8s (s:ByteArray) (l:List ByteArray) (hl:l.length < 9223372036854775808):A96 s l = some (T2 s l):= by
 unfold A96 T2
 rw [C50]
 cases B3l s
 ·rfl
 ·simp only [Option.bind_some]
  unfold B1q
  obtain ⟨o,ho,hc⟩:=C6w l (fun y=>eqS y s) (b:=A4j l s) hl (fun i hi=>by
   unfold A4j
   rw [if_pos (by simpa using hi),E5 hi]
   simp only [Option.bind_some]
   cases eqS l[i]! s <;> rfl) (by
   unfold A4j
   rw [if_neg (by simp)])
  rw [ho]
  rcases o with i | u
  ·simp only [Option.bind_some]
   rw [hc.2,decide_eq_true hc.1]; rfl
  ·simp only [Option.bind_some]
   rw [hc]; rfl
def Z3 (g:Span):Option Int:=if out 0 600 g.Lo || out 0 600 g.Hi then some 7 else if g.Lo > g.Hi then some 2 else none
def A8o (t:VaTrain) (v:VaVan):Int :=
 if out 0 20 v.Room || out 0 5000 v.Leave then 7 else
 if (v.Legs.length:Int) != t.Stops then 3 else (first (fun j=>Z3 v.Legs[j]!) v.Legs.length).getD 0
def B34 (t:VaTrain) (i:Nat):Int:=T2 t.Vans[i]!.Name ((t.Vans.take i).map (·.Name))
def A0b (t:VaTrain) (i:Nat):Int:=if B34 t i == 0 then A8o t t.Vans[i]! else B34 t i
def A72 (t:VaTrain) (i:Nat):Int:=T2 t.Crates[i]!.Name ((t.Crates.take i).map (·.Name))
def Q7 (t:VaTrain) (i:Nat):Int :=
 if A72 t i == 0 then (if out 1 9 t.Crates[i]!.Size || out 0 (t.Stops - 1) t.Crates[i]!.Stop || out 0 5000 t.Crates[i]!.By then 7 else 0) else A72 t i
def A2g (t:VaTrain) (i:Nat):Int :=
 if out 0 (t.Crates.length - 1) t.Apart[i]!.A || out 0 (t.Crates.length - 1) t.Apart[i]!.B then 4 else
 if t.Apart[i]!.A ≥ t.Apart[i]!.B then 2 else 0
def wrong (f:Nat→Int) (n:Nat):Option (Int × Int):=first (fun i=>if f i == 0 then none else some ((i:Int),f i)) n
def check (t:VaTrain):Int × Int × Int :=
 if out 1 3 t.Stops || out 0 60 t.Handle then (1,0,7) else
 if out 1 3 t.Vans.length then (2,0,3) else
 match wrong (A0b t) t.Vans.length with
 | some x=>(2,x)
 | none =>
 if t.Crates.length > 6 then (3,0,3) else
 match wrong (Q7 t) t.Crates.length with
 | some x=>(3,x)
 | none =>
 if t.Apart.length > 4 then (4,0,3) else
 match wrong (A2g t) t.Apart.length with
 | some x=>(4,x)
 | none=>(0,0,0)
theorem A4y {f:Nat→Int} {n:Nat} {x:Int × Int} (h:wrong f n = some x):(x.2 != 0) = true:= by
 obtain ⟨i,_,h1,_⟩:=N5 h
 cases hb:f i == 0 with
 | true=>rw [hb] at h1; exact absurd h1 (by simp)
 | false =>
  rw [hb] at h1
  have h1:some ((i:Int),f i) = some x:=h1
  rw [← Option.some.inj h1]
  show (f i != 0) = true
  rw [bne,hb]; rfl
theorem I2 {lo hi x:Int}:out lo hi x = false↔lo≤x∧x≤hi:= by
 unfold out
 rw [Bool.or_eq_false_iff,decide_eq_false_iff_not,decide_eq_false_iff_not]
 omega
theorem B3k {ρ:Type} {b:Int→Option (Int ⊕ ρ)} (n:Nat) (f:Nat→Int) (k:Int × Int→ρ) (z:ρ) (hn:n < 9223372036854775808)
  (hs:∀i:Nat,i < n→b (i:Int) = some (if f i == 0 then .inl (w64 ((i:Int) + 1)) else .inr (k ((i:Int),f i))))
  (he:b (n:Int) = some (.inr z)) :
  loop b 0 = some (match wrong f n with | some x=>k x | none=>z):= by
 rw [R3 n (fun i=>if f i == 0 then none else some (k ((i:Int),f i))) z hn (fun i hi _=>by rw [hs i hi]; cases f i == 0 <;> rfl) he]
 unfold wrong
 cases hf:first (fun i=>if f i == 0 then none else some ((i:Int),f i)) n with
 | none =>
  have h0:=F6.mp hf
  rw [F6.mpr fun i hi=>by
   have:=h0 i hi
   cases hb:f i == 0 with
   | true=>rfl
   | false=>rw [hb] at this; exact absurd this (by simp)]
  rfl
 | some x =>
  obtain ⟨i,hi,h1,h2⟩:=N5 hf
  rw [B4t (r:=k x) hi (by
   cases hb:f i == 0 with
   | true=>rw [hb] at h1; exact absurd h1 (by simp)
   | false =>
    rw [hb] at h1
    have h1:some ((i:Int),f i) = some x:=h1
    rw [← Option.some.inj h1]; rfl) fun j hj=>by
   have:=h2 j hj
   cases hb:f j == 0 with
   | true=>rfl
   | false=>rw [hb] at this; exact absurd this (by simp)]
  rfl
def NB (t:VaTrain):Prop:=(∀ v ∈ t.Vans,v.Name.size < 9223372036854775808)∧(∀ v ∈ t.Crates,v.Name.size < 9223372036854775808)
theorem A07 {α:Type} [Inhabited α] {l:List α} {i:Nat} (h:i < l.length):l[i]! ∈ l:= by
 rw [getElem!_pos l i h]; exact List.getElem_mem h
theorem C5m (l:List VaCrate) (i:Nat) (hi:i < l.length) (hl:l.length < 9223372036854775808) (hn:l[i]!.Name.size < 9223372036854775808) :
  U5 l (i:Int) (fun y=>Y0 y) = some (T2 l[i]!.Name ((l.take i).map (·.Name))):= by
 unfold U5 Y0
 rw [E5 hi]
 simp only [Option.bind_some]
 rw [B6c _ hn]
 unfold T2
 cases B3l l[i]!.Name
 ·rfl
 ·simp only [Option.bind_some]
  rw [C87 (Nat.le_of_lt hi)]
  simp only [Option.bind_some]
  rw [B9a _ _ (fun y=>eqS y.Name l[i]!.Name) (by rw [List.length_take]; omega) (fun x _=>by
   unfold S6
   rw [E5 hi]; rfl),List.any_map]
  rw [show ((fun y=>eqS y l[i]!.Name)∘fun (x:VaCrate)=>x.Name) = (fun (y:VaCrate)=>eqS y.Name l[i]!.Name) from rfl]
  generalize (l.take i).any (fun (y:VaCrate)=>eqS y.Name l[i]!.Name) = q
  cases q <;> rfl
theorem D0x (l:List VaVan) (i:Nat) (hi:i < l.length) (hl:l.length < 9223372036854775808) (hn:l[i]!.Name.size < 9223372036854775808) :
  Y7 l (i:Int) (fun y=>A1g y) = some (T2 l[i]!.Name ((l.take i).map (·.Name))):= by
 unfold Y7 A1g
 rw [E5 hi]
 simp only [Option.bind_some]
 rw [B6c _ hn]
 unfold T2
 cases B3l l[i]!.Name
 ·rfl
 ·simp only [Option.bind_some]
  rw [C87 (Nat.le_of_lt hi)]
  simp only [Option.bind_some]
  rw [C2c _ _ (fun y=>eqS y.Name l[i]!.Name) (by rw [List.length_take]; omega) (fun x _=>by
   unfold U6
   rw [E5 hi]; rfl),List.any_map]
  rw [show ((fun y=>eqS y l[i]!.Name)∘fun (x:VaVan)=>x.Name) = (fun (y:VaVan)=>eqS y.Name l[i]!.Name) from rfl]
  generalize (l.take i).any (fun (y:VaVan)=>eqS y.Name l[i]!.Name) = q
  cases q <;> rfl
theorem D91 (t:VaTrain) (v:VaVan) (hl:v.Legs.length < 9223372036854775808) :
  loop (A2s v) 0 = some (((first (fun j=>Z3 v.Legs[j]!) v.Legs.length).map Sum.inl).getD (Sum.inr ():Int ⊕ Unit)):= by
 rw [R3 v.Legs.length (fun j=>(Z3 v.Legs[j]!).map Sum.inl) (Sum.inr ():Int ⊕ Unit) hl (fun i hi _=>by
  unfold A2s
  rw [if_pos (by simpa using hi),E5 hi]
  simp only [Option.bind_some,outside2]
  unfold Z3
  generalize v.Legs[i]! = g
  cases out 0 600 g.Lo || out 0 600 g.Hi
  ·by_cases h:g.Lo > g.Hi <;> simp [h]
  ·rfl) (by
  unfold A2s
  rw [if_neg (by simp)])]
 congr 2
 generalize v.Legs.length = n
 induction n with
 | zero=>rfl
 | succ n ih =>
  unfold first
  rw [ih]
  cases first (fun j=>Z3 v.Legs[j]!) n <;> rfl
theorem Q8 {α β:Type} (k:α→β) (f:Nat→Option α):∀n,first (fun i=>(f i).map k) n = (first f n).map k
 | 0=>rfl
 | n + 1=>by
  unfold first
  rw [Q8 k f n]
  cases first f n <;> rfl
theorem C88 (t:VaTrain) (h:NB t) (hv:t.Vans.length < 9223372036854775808) (hs:0≤t.Stops∧t.Stops≤3) (i:Nat) (hi:i < t.Vans.length):A6a ⟨t⟩ (i:Int) = some (A0b t i):= by
 unfold A6a A0b B34
 simp only []
 rw [E5 hi,D0x t.Vans i hi hv (h.1 _ (A07 hi))]
 simp only [Option.bind_some]
 generalize T2 t.Vans[i]!.Name ((t.Vans.take i).map (·.Name)) = k
 cases hk:k == 0 with
 | false=>rw [if_pos (by rw [bne,hk]; rfl)]; rfl
 | true =>
  rw [if_neg (by rw [bne,hk]; simp)]
  rw [outside1,outside1]
  unfold A8o
  simp only [Option.bind_some]
  cases out 0 20 t.Vans[i]!.Room
  ·cases out 0 5000 t.Vans[i]!.Leave
   ·by_cases hL:(t.Vans[i]!.Legs.length:Int) = t.Stops
    ·have e1:((t.Vans[i]!.Legs.length:Int) != t.Stops) = false:= by rw [hL]; exact bne_self_eq_false _
     rw [e1,D91 t _ (by omega)]
     cases first (fun j=>Z3 t.Vans[i]!.Legs[j]!) t.Vans[i]!.Legs.length <;> rfl
    ·have e1:((t.Vans[i]!.Legs.length:Int) != t.Stops) = true:=bne_iff_ne.mpr hL
     rw [e1]; rfl
   ·rfl
  ·rfl
theorem C41 (t:VaTrain) (h:NB t) (hv:t.Crates.length < 9223372036854775808) (hs:0≤t.Stops∧t.Stops≤3) (i:Nat) (hi:i < t.Crates.length):A3v ⟨t⟩ (i:Int) = some (Q7 t i):= by
 unfold A3v Q7 A72
 simp only []
 rw [E5 hi,C5m t.Crates i hi hv (h.2 _ (A07 hi))]
 simp only [Option.bind_some]
 generalize T2 t.Crates[i]!.Name ((t.Crates.take i).map (·.Name)) = k
 cases hk:k == 0 with
 | false=>rfl
 | true =>
  rw [outside1,outside1,outside1,D0 (by omega)]
  have:k = 0:= by simpa using hk
  subst this
  cases out 1 9 t.Crates[i]!.Size <;> cases out 0 (t.Stops - 1) t.Crates[i]!.Stop <;> cases out 0 5000 t.Crates[i]!.By <;> rfl
theorem C6c (t:VaTrain) (hc:t.Crates.length < 9223372036854775808) (i:Nat) (hi:i < t.Apart.length):A4x ⟨t⟩ (i:Int) = some (A2g t i):= by
 unfold A4x A2g
 simp only []
 rw [E5 hi]
 simp only [Option.bind_some]
 rw [outside2,D0 (by omega)]
 simp only [Option.bind_some]
 generalize t.Apart[i]! = g
 cases out 0 (↑t.Crates.length - 1) g.A || out 0 (↑t.Crates.length - 1) g.B
 ·by_cases h:g.A ≥ g.B <;> simp [h]
 ·rfl
theorem B9p {α:Type} (x:Int) (a b:α):(if (x != 0) = true then some a else some b) = some (if (x == 0) = true then b else a):= by
 by_cases c:x = 0
 ·subst c; rfl
 ·simp [c]
theorem C2z {α β:Type} (x:Int) (i:Int) (k:Int × Int→α) (b:β):(if (x != 0) = true then some (Sum.inr (k (i,x))) else some (Sum.inl b)) = some (match ((if (x == 0) = true then none else some (i,x)).map k) with | some r=>Sum.inr r | none=>Sum.inl b):= by
 by_cases c:x = 0
 ·subst c; rfl
 ·simp [c]
theorem R5 (t:VaTrain) (h:NB t):V8 t = some (check t):= by
 unfold V8 check
 rw [outside1,outside1,outside1,outside1,outside1]
 simp only [Option.bind_some]
 cases h1:out 1 3 t.Stops with
 | true=>rfl
 | false =>
 cases h2:out 0 60 t.Handle with
 | true=>rfl
 | false =>
 cases h3:out 1 3 (t.Vans.length:Int) with
 | true=>rfl
 | false =>
 have b1:=I2.mp h1
 have b3:=I2.mp h3
 have l1:=B3k (b:=A7v t) t.Vans.length (A0b t) (fun x=>.inl (2,x)) (.inr ()) (by omega) (fun i hi=>by
   unfold A7v
   rw [if_pos (by simpa using hi),C88 t h (by omega) (by omega) i hi]
   exact B9p _ _ _) (by
   unfold A7v
   rw [if_neg (by simp)])
 rw [l1]
 cases wrong (A0b t) t.Vans.length with
 | some x=>rfl
 | none =>
 simp only [Option.bind_some]
 cases h4:out 0 6 (t.Crates.length:Int) with
 | true =>
  have:t.Crates.length > 6:= by
   by_cases c:t.Crates.length > 6
   ·exact c
   ·exact absurd (I2.mpr (show 0≤(t.Crates.length:Int)∧(t.Crates.length:Int)≤6 by omega)) (by rw [h4]; simp)
  simp [this]
 | false =>
 have b4:=I2.mp h4
 have l2:=B3k (b:=A7w t) t.Crates.length (Q7 t) (fun x=>.inl (3,x)) (.inr ()) (by omega) (fun i hi=>by
   unfold A7w
   rw [if_pos (by simpa using hi),C41 t h (by omega) (by omega) i hi]
   exact B9p _ _ _) (by
   unfold A7w
   rw [if_neg (by simp)])
 rw [l2]
 have g4:¬ t.Crates.length > 6:= by omega
 simp only [g4]
 cases wrong (Q7 t) t.Crates.length with
 | some x=>rfl
 | none =>
 simp only [Option.bind_some]
 cases h5:out 0 4 (t.Apart.length:Int) with
 | true =>
  have:t.Apart.length > 4:= by
   by_cases c:t.Apart.length > 4
   ·exact c
   ·exact absurd (I2.mpr (show 0≤(t.Apart.length:Int)∧(t.Apart.length:Int)≤4 by omega)) (by rw [h5]; simp)
  simp [this]
 | false =>
 have b5:=I2.mp h5
 have l3:=B3k (b:=A7x t) t.Apart.length (A2g t) (fun x=>.inl (4,x)) (.inr ()) (by omega) (fun i hi=>by
   unfold A7x
   rw [if_pos (by simpa using hi),C6c t (by omega) i hi]
   exact B9p _ _ _) (by
   unfold A7x
   rw [if_neg (by simp)])
 rw [l3]
 have g5:¬ t.Apart.length > 4:= by omega
 simp only [g5]
 cases wrong (A2g t) t.Apart.length with
 | some x=>rfl
 | none=>rfl
theorem D9r (g:Span):B0t g 0 600 = some ((Z3 g).getD 0):= by
 unfold B0t Z3
 rw [B39,B39]
 simp only [Option.bind_some]
 cases out 0 600 g.Lo
 ·cases out 0 600 g.Hi
  ·by_cases h:g.Lo > g.Hi <;> simp [h]
  ·rfl
 ·rfl
theorem C22 {g:Span} {r:Int} (h:Z3 g = some r):(r != 0) = true:= by
 unfold Z3 at h
 split at h
 ·rw [← Option.some.inj h]; rfl
 ·split at h
  ·rw [← Option.some.inj h]; rfl
  ·exact absurd h (by simp)
theorem D83 (v:VaVan) (hl:v.Legs.length < 9223372036854775808) :
  loop (A7o v) 0 = some (((first (fun j=>Z3 v.Legs[j]!) v.Legs.length).map Sum.inl).getD (Sum.inr ():Int ⊕ Unit)):= by
 rw [R3 v.Legs.length (fun j=>(Z3 v.Legs[j]!).map Sum.inl) (Sum.inr ():Int ⊕ Unit) hl (fun i hi _=>by
  unfold A7o
  rw [if_pos (by simpa using hi),E5 hi]
  simp only [Option.bind_some,D9r]
  generalize v.Legs[i]! = g
  cases hg:Z3 g with
  | none=>rfl
  | some r =>
   rw [show ((some r).getD 0 != 0) = true from C22 hg]; rfl) (by
  unfold A7o
  rw [if_neg (by simp)]),Q8]
theorem C84 (t:VaTrain) (v:VaVan) (hs:0≤t.Stops∧t.Stops≤3):B20 t v = some (A8o t v):= by
 unfold B20 A8o
 rw [A68,A68]
 simp only [Option.bind_some]
 cases out 0 20 v.Room
 ·cases out 0 5000 v.Leave
  ·by_cases hL:(v.Legs.length:Int) = t.Stops
   ·have e1:((v.Legs.length:Int) != t.Stops) = false:= by rw [hL]; exact bne_self_eq_false _
    rw [e1,D83 _ (by omega)]
    cases first (fun j=>Z3 v.Legs[j]!) v.Legs.length <;> rfl
   ·have e1:((v.Legs.length:Int) != t.Stops) = true:=bne_iff_ne.mpr hL
    rw [e1]; rfl
  ·rfl
 ·rfl
theorem C7v {α β:Type} [Inhabited α] (k:α→β) {l:List α} {i:Nat} (h:i < l.length):(l.take i).map k++[k l[i]!] = (l.take (i + 1)).map k:= by
 rw [List.take_succ_eq_append_getElem h,getElem!_pos l i h,List.map_append]; rfl
theorem C58 (t:VaTrain) (hs:0≤t.Stops∧t.Stops≤3):B00 t = some (if out 1 3 (t.Vans.length:Int) then (0,3) else (wrong (A0b t) t.Vans.length).getD (0,0)):= by
 unfold B00
 rw [A68]
 simp only [Option.bind_some]
 cases h3:out 1 3 (t.Vans.length:Int) with
 | true=>rfl
 | false =>
 have b3:=I2.mp h3
 have l1:=B2q (b:=A58 t) (fun i=>((i:Int),(t.Vans.take i).map (·.Name))) t.Vans.length
  (fun i=>(if A0b t i == 0 then none else some ((i:Int),A0b t i)).map Sum.inl) (.inr (t.Vans.map (·.Name))) (by omega)
  (fun i hi _=>by
   unfold A58
   simp only []
   rw [if_pos (by simpa using hi),E5 hi]
   simp only [Option.bind_some]
   rw [B8s _ _ (by rw [List.length_map,List.length_take]; omega),W4 (by omega) (by rw [List.length_map,List.length_take]; simp; omega),C7v (fun (x:VaVan)=>x.Name) hi]
   simp only [Option.bind_some]
   unfold A0b B34
   rw [C84 t _ hs,D0 (by omega)]
   generalize T2 t.Vans[i]!.Name ((t.Vans.take i).map (·.Name)) = k
   by_cases hk:k = 0
   ·subst hk
    exact C2z (A8o t t.Vans[i]!) (i:Int) Sum.inl _
   ·have e:(k == 0) = false:=beq_eq_false_iff_ne.mpr hk
    rw [e]
    exact C2z k (i:Int) Sum.inl _)
  (fun _=>by
   unfold A58
   simp only []
   rw [if_neg (by simp),List.take_length])
 rw [show ((0:Int),([]:List ByteArray)) = (((0:Nat):Int),(t.Vans.take 0).map (·.Name)) from rfl,l1,Q8]
 unfold wrong
 cases first (fun i=>if A0b t i == 0 then none else some ((i:Int),A0b t i)) t.Vans.length <;> rfl
theorem C1g (t:VaTrain) (hs:0≤t.Stops∧t.Stops≤3):A7n t = some (if t.Crates.length > 6 then (0,3) else (wrong (Q7 t) t.Crates.length).getD (0,0)):= by
 unfold A7n
 by_cases h6:t.Crates.length > 6
 ·rw [if_pos (by rw [decide_eq_true_eq]; omega),if_pos h6]
 rw [if_neg (by rw [decide_eq_true_eq]; omega),if_neg h6]
 have l1:=B2q (b:=A3u t) (fun i=>((i:Int),(t.Crates.take i).map (·.Name))) t.Crates.length
  (fun i=>(if Q7 t i == 0 then none else some ((i:Int),Q7 t i)).map Sum.inl) (.inr (t.Crates.map (·.Name))) (by omega)
  (fun i hi _=>by
   unfold A3u
   simp only []
   rw [if_pos (by simpa using hi),E5 hi]
   simp only [Option.bind_some]
   rw [B8s _ _ (by rw [List.length_map,List.length_take]; omega),W4 (by omega) (by rw [List.length_map,List.length_take]; simp; omega),C7v (fun (x:VaCrate)=>x.Name) hi]
   simp only [Option.bind_some]
   unfold Q7 A72
   rw [A68,A68,A68,D0 (n:=t.Stops - 1) (by omega),D0 (by omega)]
   generalize T2 t.Crates[i]!.Name ((t.Crates.take i).map (·.Name)) = k
   by_cases hk:k = 0
   ·subst hk
    cases out 1 9 t.Crates[i]!.Size <;> cases out 0 (t.Stops - 1) t.Crates[i]!.Stop <;> cases out 0 5000 t.Crates[i]!.By <;> rfl
   ·have e:(k == 0) = false:=beq_eq_false_iff_ne.mpr hk
    rw [e]
    exact C2z k (i:Int) Sum.inl _)
  (fun _=>by
   unfold A3u
   simp only []
   rw [if_neg (by simp),List.take_length])
 rw [show ((0:Int),([]:List ByteArray)) = (((0:Nat):Int),(t.Crates.take 0).map (·.Name)) from rfl,l1,Q8]
 unfold wrong
 cases first (fun i=>if Q7 t i == 0 then none else some ((i:Int),Q7 t i)) t.Crates.length <;> rfl
theorem C4l (t:VaTrain) (hc:t.Crates.length≤6):A83 t = some (if t.Apart.length > 4 then (0,3) else (wrong (A2g t) t.Apart.length).getD (0,0)):= by
 unfold A83
 by_cases h6:t.Apart.length > 4
 ·rw [if_pos (by rw [decide_eq_true_eq]; omega),if_pos h6]
 rw [if_neg (by rw [decide_eq_true_eq]; omega),if_neg h6]
 have l1:=B3k (b:=A4t t) t.Apart.length (A2g t) (fun x=>.inl x) (.inr ()) (by omega)
  (fun i hi=>by
   unfold A4t
   rw [if_pos (by simpa using hi),E5 hi]
   simp only [Option.bind_some]
   rw [A68,A68,D0 (n:=(t.Crates.length:Int) - 1) (by omega)]
   unfold A2g
   generalize t.Apart[i]! = g
   cases out 0 (↑t.Crates.length - 1) g.A
   ·cases out 0 (↑t.Crates.length - 1) g.B
    ·by_cases h:g.A ≥ g.B <;> simp [h]
    ·rfl
   ·rfl)
  (by
   unfold A4t
   rw [if_neg (by simp)])
 rw [l1]
 cases wrong (A2g t) t.Apart.length <;> rfl
theorem T4 (t:VaTrain):W9 t = some (check t):= by
 unfold W9 check
 rw [A68,A68]
 simp only [Option.bind_some]
 cases h1:out 1 3 t.Stops with
 | true=>rfl
 | false =>
 cases h2:out 0 60 t.Handle with
 | true=>rfl
 | false =>
 have b1:=I2.mp h1
 rw [C58 t (by omega),C1g t (by omega)]
 cases h3:out 1 3 (t.Vans.length:Int) with
 | true=>rfl
 | false =>
 cases hw:wrong (A0b t) t.Vans.length with
 | some x =>
  show (if (x.2 != 0) = true then some ((2:Int),x.1,x.2) else _) = some (2,x)
  rw [if_pos (A4y hw)]
 | none =>
 by_cases h6:t.Crates.length > 6
 ·simp [h6]
 rw [C4l t (by omega)]
 simp only [h6]
 cases hw2:wrong (Q7 t) t.Crates.length with
 | some x =>
  show (if (x.2 != 0) = true then some ((3:Int),x.1,x.2) else _) = some (3,x)
  rw [if_pos (A4y hw2)]
 | none =>
 by_cases h4:t.Apart.length > 4
 ·simp [h4]
 simp only [h4]
 cases hw3:wrong (A2g t) t.Apart.length with
 | some x =>
  show (if (x.2 != 0) = true then some ((4:Int),x.1,x.2) else _) = some (4,x)
  rw [if_pos (A4y hw3)]
 | none=>rfl
structure LegOk (g:Span):Prop where
 lo0:0≤g.Lo
 lh:g.Lo≤g.Hi
 hi:g.Hi≤600
structure VanOk (t:VaTrain) (v:VaVan):Prop where
 room0:0≤v.Room
 room:v.Room≤20
 leave0:-1000≤v.Leave
 leave:v.Leave≤5000
 legs:(v.Legs.length:Int) = t.Stops
 leg:∀i,i < v.Legs.length→LegOk v.Legs[i]!
structure CrateOk (t:VaTrain) (c:VaCrate):Prop where
 size1:1≤c.Size
 size:c.Size≤9
 stop0:0≤c.Stop
 stop:c.Stop < t.Stops
 by0:0≤c.By
 byl:c.By≤5000
structure PairOk (t:VaTrain) (p:VaPair):Prop where
 a0:0≤p.A
 ab:p.A < p.B
 b:p.B < t.Crates.length
structure TOk (t:VaTrain):Prop where
 stops1:1≤t.Stops
 stops:t.Stops≤3
 handle0:0≤t.Handle
 handle:t.Handle≤60
 vans1:1≤t.Vans.length
 vans:t.Vans.length≤3
 crates:t.Crates.length≤6
 apart:t.Apart.length≤4
 van:∀i,i < t.Vans.length→VanOk t t.Vans[i]!
 crate:∀i,i < t.Crates.length→CrateOk t t.Crates[i]!
 pair:∀i,i < t.Apart.length→PairOk t t.Apart[i]!
theorem B1a {f:Nat→Int} {n:Nat} (h:wrong f n = none):∀i,i < n→f i = 0:= by
 intro i hi
 have:=F6.mp h i hi
 by_cases c:f i = 0
 ·exact c
 ·have e:(f i == 0) = false:=beq_eq_false_iff_ne.mpr c
  rw [e] at this; exact absurd this (by simp)
theorem C3h (s:ByteArray) (l:List ByteArray):T2 s l = 0∨T2 s l = 5∨T2 s l = 6:= by
 unfold T2
 cases B3l s
 ·exact .inr (.inr rfl)
 ·cases l.any (fun y=>eqS y s)
  ·exact .inl rfl
  ·exact .inr (.inl rfl)
theorem E11 {g:Span} (h:Z3 g = none):LegOk g:= by
 unfold Z3 at h
 split at h
 ·exact absurd h (by simp)
 ·rename_i h1
  have h1:(out 0 600 g.Lo || out 0 600 g.Hi) = false:= by simpa using h1
  rw [Bool.or_eq_false_iff,I2,I2] at h1
  split at h
  ·exact absurd h (by simp)
  ·exact ⟨h1.1.1,by omega,h1.2.2⟩
theorem D3k {t:VaTrain} {v:VaVan} (h:A8o t v = 0):VanOk t v:= by
 unfold A8o at h
 split at h
 ·exact absurd h (by decide)
 ·rename_i h1
  have h1:(out 0 20 v.Room || out 0 5000 v.Leave) = false:= by simpa using h1
  rw [Bool.or_eq_false_iff,I2,I2] at h1
  split at h
  ·exact absurd h (by decide)
  ·rename_i h2
   have h2:(v.Legs.length:Int) = t.Stops:= by simpa using h2
   refine ⟨h1.1.1,h1.1.2,(Int.le_trans (by decide) h1.2.1),h1.2.2,h2,?_⟩
   cases hf:first (fun j=>Z3 v.Legs[j]!) v.Legs.length with
   | none=>exact fun i hi=>E11 (F6.mp hf i hi)
   | some r =>
    obtain ⟨i,hi,h3,_⟩:=N5 hf
    have:=C22 h3
    rw [hf] at h
    have h:r = 0:=h
    rw [h] at this; exact absurd this (by decide)
theorem J3 {t:VaTrain} (h:(check t).2.2 = 0):TOk t:= by
 unfold check at h
 cases h1:out 1 3 t.Stops || out 0 60 t.Handle with
 | true=>rw [h1] at h; exact absurd (show (7:Int) = 0 from h) (by decide)
 | false =>
 rw [h1] at h
 rw [Bool.or_eq_false_iff,I2,I2] at h1
 cases h2:out 1 3 (t.Vans.length:Int) with
 | true=>rw [h2] at h; exact absurd (show (3:Int) = 0 from h) (by decide)
 | false =>
 rw [h2] at h
 rw [I2] at h2
 cases h3:wrong (A0b t) t.Vans.length with
 | some x =>
  rw [h3] at h
  have h:x.2 = 0:=h
  have:=A4y h3
  rw [h] at this; exact absurd this (by decide)
 | none =>
 rw [h3] at h
 by_cases h4:t.Crates.length > 6
 ·simp only [h4] at h; exact absurd h (by simp)
 simp only [h4] at h
 cases h5:wrong (Q7 t) t.Crates.length with
 | some x =>
  rw [h5] at h
  have h:x.2 = 0:=h
  have:=A4y h5
  rw [h] at this; exact absurd this (by decide)
 | none =>
 rw [h5] at h
 by_cases h6:t.Apart.length > 4
 ·simp only [h6] at h; exact absurd h (by simp)
 simp only [h6] at h
 cases h7:wrong (A2g t) t.Apart.length with
 | some x =>
  rw [h7] at h
  have h:x.2 = 0:=h
  have:=A4y h7
  rw [h] at this; exact absurd this (by decide)
 | none =>
 refine ⟨h1.1.1,h1.1.2,h1.2.1,h1.2.2,by omega,by omega,by omega,by omega,?_,?_,?_⟩
 ·intro i hi
  have:=B1a h3 i hi
  unfold A0b at this
  rcases C3h t.Vans[i]!.Name ((t.Vans.take i).map (·.Name)) with e | e | e <;> (unfold B34 at this; rw [e] at this)
  ·exact D3k this
  ·exact absurd (show (5:Int) = 0 from this) (by decide)
  ·exact absurd (show (6:Int) = 0 from this) (by decide)
 ·intro i hi
  have:=B1a h5 i hi
  unfold Q7 at this
  rcases C3h t.Crates[i]!.Name ((t.Crates.take i).map (·.Name)) with e | e | e <;> (unfold A72 at this; rw [e] at this)
  ·cases q:out 1 9 t.Crates[i]!.Size || out 0 (t.Stops - 1) t.Crates[i]!.Stop || out 0 5000 t.Crates[i]!.By with
   | true=>rw [q] at this; exact absurd this (by decide)
   | false =>
    rw [Bool.or_eq_false_iff,Bool.or_eq_false_iff,I2,I2,I2] at q
    exact ⟨q.1.1.1,q.1.1.2,q.1.2.1,by omega,q.2.1,q.2.2⟩
  ·exact absurd (show (5:Int) = 0 from this) (by decide)
  ·exact absurd (show (6:Int) = 0 from this) (by decide)
 ·intro i hi
  have:=B1a h7 i hi
  unfold A2g at this
  cases q:out 0 (t.Crates.length - 1) t.Apart[i]!.A || out 0 (t.Crates.length - 1) t.Apart[i]!.B with
  | true=>rw [q] at this; exact absurd (show (4:Int) = 0 from this) (by decide)
  | false =>
   rw [q] at this
   rw [Bool.or_eq_false_iff,I2,I2] at q
   by_cases c:t.Apart[i]!.A ≥ t.Apart[i]!.B
   ·rw [if_pos c] at this; exact absurd this (by decide)
   ·exact ⟨q.1.1,by omega,by omega⟩
def K6 (t:VaTrain) (p:List Int) (v:Int) (n:Nat):Int:=iter (fun i s=>if p[i]! == v then s + t.Crates[i]!.Size else s) n 0
theorem B24 {t:VaTrain} (h:TOk t) (p:List Int) (v:Int):∀n,n≤t.Crates.length→0≤K6 t p v n∧K6 t p v n≤9 * n
 | 0,_=>⟨Int.le_refl 0,Int.le_refl 0⟩
 | n + 1,hn=>by
  have ih:=B24 h p v n (by omega)
  have hc:=h.crate n (by omega)
  have:=hc.size1; have:=hc.size
  show 0≤(if p[n]! == v then K6 t p v n + t.Crates[n]!.Size else K6 t p v n)∧(if p[n]! == v then K6 t p v n + t.Crates[n]!.Size else K6 t p v n)≤9 * ((n + 1:Nat):Int)
  generalize t.Crates[n]!.Size = z at *
  generalize K6 t p v n = y at *
  cases p[n]! == v
  ·simp only [Bool.false_eq_true,if_false]; omega
  ·simp only [if_true]; omega
def A9g (t:VaTrain) (p:List Int) (v:Nat):Option Bool:=if K6 t p v p.length > t.Vans[v]!.Room then some false else none
def clash (t:VaTrain) (p:List Int) (i:Nat):Option Bool:=if p[t.Apart[i]!.A.toNat]! == p[t.Apart[i]!.B.toNat]! && p[t.Apart[i]!.A.toNat]! != -1 then some false else none
def good (t:VaTrain) (p:List Int):Bool:=(first (A9g t p) t.Vans.length).getD ((first (clash t p) t.Apart.length).getD true)
def K2 (p:List Int):IArr 6:=⟨(p.map (fun x=>w64 (x + 1))++List.replicate 6 0).take 6,by simp⟩
theorem B28 (p:List Int):(K2 p).l.length = 6:=(K2 p).h
theorem B27 {p:List Int} {i:Nat} (hi:i < p.length) (h6:i < 6):(K2 p).l[i]? = some (w64 (p[i]! + 1)):= by
 unfold K2
 rw [List.getElem?_take_of_lt h6,List.getElem?_append_left (by simpa using hi),List.getElem?_map,List.getElem?_eq_getElem hi,getElem!_pos p i hi]; rfl
theorem B4j {p:List Int} {i:Nat} (hi:p.length≤i) (h6:i < 6):(K2 p).l[i]? = some 0:= by
 unfold K2
 rw [List.getElem?_take_of_lt h6,List.getElem?_append_right (by simpa using hi),List.getElem?_replicate,if_pos (by simp; omega)]
theorem D3r {p:List Int} {i:Nat} (hi:i < p.length) (h6:p.length≤6):(K2 (p.take i)).set (i:Int) (w64 (p[i]! + 1)) = K2 (p.take (i + 1)):= by
 apply IArr.ext
 apply List.ext_getElem?
 intro j
 show ((K2 (p.take i)).l.set (i:Int).toNat _)[j]? = _
 rw [Int.toNat_natCast,List.getElem?_set]
 by_cases hj:j < 6
 ·by_cases e:i = j
  ·subst e
   rw [if_pos rfl,if_pos (by rw [B28]; exact hj),B27 (by rw [List.length_take]; omega) hj]
   rw [getElem!_pos p i hi,getElem!_pos (p.take (i + 1)) i (by rw [List.length_take]; omega),List.getElem_take]
  ·rw [if_neg e]
   by_cases hlt:j < i
   ·rw [B27 (by rw [List.length_take]; omega) hj,B27 (by rw [List.length_take]; omega) hj]
    rw [getElem!_pos (p.take i) j (by rw [List.length_take]; omega),getElem!_pos (p.take (i + 1)) j (by rw [List.length_take]; omega),List.getElem_take,List.getElem_take]
   ·rw [B4j (by rw [List.length_take]; omega) hj,B4j (by rw [List.length_take]; omega) hj]
 ·rw [if_neg (by omega),List.getElem?_eq_none (by rw [B28]; omega),List.getElem?_eq_none (by rw [B28]; omega)]
theorem C2r {n:Nat} {l:List Int} {i:Nat} {x:Int} (h:l[i]? = some x) (hi:i < n):A0y n l (i:Int) = some x:= by
 unfold A0y
 rw [if_pos ⟨Int.natCast_nonneg i,by omega⟩,Int.toNat_natCast,h]
theorem C9k:K2 [] = IArr.zero 6:=rfl
theorem B5l {p:List Int} (h6:p.length≤6) {i:Nat} (hi:i < p.length):A0y 6 (K2 p).l (i:Int) = some (w64 (p[i]! + 1)) :=
 C2r (B27 hi (by omega)) (by omega)
def B45 (t:VaTrain) (i k:Nat):Bool:=t.Apart.any fun y=>(y.A == (i:Int) && y.B == (k:Int))
def L6 (t:VaTrain) (p:List Int):Prop:=∀ i,i < p.length→-1≤p[i]!∧p[i]! < t.Vans.length
def A13 (t:VaTrain) (p:List Int) (k:Nat):Bool :=
 p[k]! == -1 || (first (fun i=>if p[i]! == p[k]! && B45 t i k then some false else none) (k + 1)).getD (decide (K6 t p p[k]! (k + 1)≤t.Vans[p[k]!.toNat]!.Room))
theorem E1e {a b:Int} (ha:-1≤a∧a≤3) (hb:-1≤b∧b≤3):(w64 (a + 1) != w64 (b + 1)) = !(a == b):= by
 rw [D0 (by omega),D0 (by omega),bne]
 congr 1
 rw [Bool.eq_iff_iff,beq_iff_eq,beq_iff_eq]; omega
theorem B26 {t:VaTrain} (h:TOk t) (p:List Int) (hp:p.length≤t.Crates.length) (hr:L6 t p) (k:Nat) (hk:k < p.length) :
  I5 ⟨t⟩ (K2 p) (k:Int) = some (A13 t p k):= by
 have hl:=h.crates
 have hv:=h.vans
 have ha:=h.apart
 have r:=hr k hk
 unfold I5 A13
 rw [B5l (by omega) hk]
 simp only [Option.bind_some]
 by_cases c:p[k]! = -1
 ·rw [c]; rfl
 have e0:(w64 (p[k]! + 1) == 0) = false:= by rw [D0 (by omega),beq_eq_false_iff_ne]; omega
 have e1:(p[k]! == -1) = false:=beq_eq_false_iff_ne.mpr c
 rw [e0,e1]
 have l1:=B2q (b:=X3 ⟨t⟩ (K2 p) (k:Int) (w64 (p[k]! + 1))) (fun i=>(K6 t p p[k]! i,(i:Int))) (k + 1)
  (fun i=>(if p[i]! == p[k]! && B45 t i k then some false else none).map Sum.inl) (.inr (K6 t p p[k]! (k + 1))) (by omega)
  (fun i hi _=>by
   unfold X3
   simp only []
   have hi2:i < p.length:= by omega
   have r2:=hr i hi2
   rw [if_pos (by rw [D0 (by omega),decide_eq_true_eq]; omega),B5l (by omega) hi2,E5 (show i < t.Crates.length by omega)]
   simp only [Option.bind_some]
   rw [E1e (by omega) (by omega),D0 (n:=(i:Int) + 1) (by omega)]
   rw [C1a t.Apart _ (fun y=>(y.A == (i:Int) && (y.B == (k:Int)))) (by omega) (fun x _=>by
    unfold Y8; simp)]
   have hb:=B24 h p p[k]! i (by omega)
   have hc:=h.crate i (by omega)
   have:=hc.size1; have:=hc.size
   have es:K6 t p p[k]! (i + 1) = if p[i]! == p[k]! then K6 t p p[k]! i + t.Crates[i]!.Size else K6 t p p[k]! i:=rfl
   rw [es,D0 (n:=K6 t p p[k]! i + t.Crates[i]!.Size) (by omega)]
   unfold B45
   generalize (t.Apart.any fun y=>(y.A == (i:Int) && (y.B == (k:Int)))) = q
   cases p[i]! == p[k]! <;> cases q <;> rfl)
  (fun _=>by
   unfold X3
   simp only []
   rw [if_neg (by rw [D0 (by omega),decide_eq_true_eq]; omega)])
 rw [if_neg (by simp),show ((0:Int),(0:Int)) = (K6 t p p[k]! 0,((0:Nat):Int)) from rfl,l1,Q8]
 cases first (fun i=>if p[i]! == p[k]! && B45 t i k then some false else none) (k + 1) with
 | some x=>rfl
 | none =>
  simp only [Option.map_none,Option.getD_none,Option.bind_some,Bool.false_or]
  rw [D0 (n:=p[k]! + 1) (by omega),D0 (by omega),B78 (by omega) (by omega)]
  simp only [Option.bind_some]
  rw [show p[k]! + 1 - 1 = p[k]! by omega]
theorem A0h (t:VaTrain) (p:List Int) (v:Int) (n:Nat):K6 t p v (n + 1) = if p[n]! == v then K6 t p v n + t.Crates[n]!.Size else K6 t p v n:=rfl
theorem B1t {t:VaTrain} (h:TOk t) (p:List Int) (v:Int) (m:Nat):∀d,m + d≤t.Crates.length→K6 t p v m≤K6 t p v (m + d)
 | 0,_=>Int.le_refl _
 | d + 1,hd=>by
  have ih:=B1t h p v m d (by omega)
  have hc:=(h.crate (m + d) (by omega)).size1
  rw [show m + (d + 1) = (m + d) + 1 from rfl,A0h]
  cases p[m + d]! == v
  ·simpa using ih
  ·rw [if_pos rfl]; omega
def Good (t:VaTrain) (p:List Int):Prop :=
 (∀ v:Nat,v < t.Vans.length→K6 t p v p.length≤t.Vans[v]!.Room) ∧
 (∀ i,i < t.Apart.length→¬ (p[t.Apart[i]!.A.toNat]! = p[t.Apart[i]!.B.toNat]!∧p[t.Apart[i]!.A.toNat]! ≠ -1))
theorem A16 (t:VaTrain) (p:List Int):good t p = true↔Good t p:= by
 unfold good Good
 constructor
 ·intro h
  cases h1:first (A9g t p) t.Vans.length with
  | some x =>
   obtain ⟨i,_,h2,_⟩:=N5 h1
   rw [h1] at h
   have h:x = true:=h
   unfold A9g at h2
   split at h2
   ·rw [← Option.some.inj h2] at h; exact absurd h (by decide)
   ·exact absurd h2 (by simp)
  | none =>
  rw [h1] at h
  cases h2:first (clash t p) t.Apart.length with
  | some x =>
   obtain ⟨i,_,h3,_⟩:=N5 h2
   rw [h2] at h
   have h:x = true:=h
   unfold clash at h3
   split at h3
   ·rw [← Option.some.inj h3] at h; exact absurd h (by decide)
   ·exact absurd h3 (by simp)
  | none =>
  refine ⟨fun v hv=>?_,fun i hi hc=>?_⟩
  ·have:=F6.mp h1 v hv
   unfold A9g at this
   split at this
   ·exact absurd this (by simp)
   ·omega
  ·have:=F6.mp h2 i hi
   unfold clash at this
   rw [if_pos (by rw [Bool.and_eq_true,beq_iff_eq,bne_iff_ne]; exact hc)] at this
   exact absurd this (by simp)
 ·intro h
  rw [F6.mpr fun v hv=>by
   unfold A9g
   have:=h.1 v hv
   rw [if_neg (by omega)],F6.mpr fun i hi=>by
   unfold clash
   rw [if_neg (by rw [Bool.and_eq_true,beq_iff_eq,bne_iff_ne]; exact h.2 i hi)]]
  rfl
theorem B3s (t:VaTrain) (i k:Nat):B45 t i k = true↔∃ j,j < t.Apart.length∧t.Apart[j]!.A = i∧t.Apart[j]!.B = k:= by
 unfold B45
 rw [List.any_eq_true]
 constructor
 ·rintro ⟨x,hx,hq⟩
  obtain ⟨j,hj,e⟩:=List.mem_iff_getElem.mp hx
  rw [Bool.and_eq_true,beq_iff_eq,beq_iff_eq] at hq
  refine ⟨j,hj,?_⟩
  rw [getElem!_pos t.Apart j hj,e]; exact hq
 ·rintro ⟨j,hj,hq⟩
  refine ⟨t.Apart[j]!,A07 hj,?_⟩
  rw [Bool.and_eq_true,beq_iff_eq,beq_iff_eq]; exact hq
theorem A5p {t:VaTrain} (p:List Int) (k:Nat):A13 t p k = true↔(p[k]! = -1∨((∀ i,i≤k→¬ (p[i]! = p[k]!∧B45 t i k = true))∧K6 t p p[k]! (k + 1)≤t.Vans[p[k]!.toNat]!.Room)):= by
 unfold A13
 rw [Bool.or_eq_true,beq_iff_eq]
 constructor
 ·rintro (h | h)
  ·exact .inl h
  ·refine .inr ?_
   cases hf:first (fun i=>if p[i]! == p[k]! && B45 t i k then some false else none) (k + 1) with
   | some x =>
    obtain ⟨i,_,h2,_⟩:=N5 hf
    rw [hf] at h
    have h:x = true:=h
    split at h2
    ·rw [← Option.some.inj h2] at h; exact absurd h (by decide)
    ·exact absurd h2 (by simp)
   | none =>
    rw [hf] at h
    refine ⟨fun i hi hc=>?_,of_decide_eq_true h⟩
    have:=F6.mp hf i (by omega)
    rw [if_pos (by rw [Bool.and_eq_true,beq_iff_eq]; exact hc)] at this
    exact absurd this (by simp)
 ·rintro (h | h)
  ·exact .inl h
  ·refine .inr ?_
   rw [F6.mpr fun i hi=>by rw [if_neg (by rw [Bool.and_eq_true,beq_iff_eq]; exact h.1 i (by omega))]]
   exact decide_eq_true h.2
def B2f (t:VaTrain) (p:List Int) (v s:Int) (e:Nat):Bool:=iter (fun j b=>b || (p[j]! == v && t.Crates[j]!.Stop == s)) e false
theorem B0d (t:VaTrain) (p:List Int) (v s:Int) (e:Nat):B2f t p v s (e + 1) = (B2f t p v s e || (p[e]! == v && t.Crates[e]!.Stop == s)):=rfl
def N4 (t:VaTrain) (p:List Int) (v s:Int) (i:Nat):Bool:=p[i]! == v && decide (s < t.Crates[i]!.Stop) && B2f t p v s i
def handled (t:VaTrain) (p:List Int) (v s:Int) (n:Nat):Int:=iter (fun i c=>if N4 t p v s i then c + 1 else c) n 0
theorem Z0 (t:VaTrain) (p:List Int) (v s:Int) (n:Nat):handled t p v s (n + 1) = if N4 t p v s n then handled t p v s n + 1 else handled t p v s n:=rfl
theorem A0x (t:VaTrain) (p:List Int) (v s:Int):∀n:Nat,0≤handled t p v s n∧handled t p v s n≤n
 | 0=>⟨Int.le_refl 0,Int.le_refl 0⟩
 | n + 1=>by
  have ih:=A0x t p v s n
  rw [Z0]
  cases N4 t p v s n
  ·rw [if_neg (by simp)]; omega
  ·rw [if_pos rfl]; omega
theorem A2l {t:VaTrain} (h:TOk t) (p:List Int) (hp:p.length = t.Crates.length) (v s:Int):W3 t p v s = some (handled t p v s p.length):= by
 have hl:=h.crates
 unfold W3
 rw [show ((0:Int),(0:Int)) = (handled t p v s 0,((0:Nat):Int)) from rfl,G4 (b:=A2k t p v s) (fun i=>(handled t p v s i,(i:Int))) p.length (r:=handled t p v s p.length) (by omega) (fun i hi=>by
  have hb:=A0x t p v s i
  unfold A2k
  simp only []
  rw [if_pos (by simpa using hi),E5 hi,E5 (show i < t.Crates.length by omega)]
  simp only [Option.bind_some]
  rw [show ((false:Bool),(0:Int)) = (B2f t p v s 0,((0:Nat):Int)) from rfl,G4 (b:=A2j t p v s (handled t p v s i,(i:Int))) (fun e=>(B2f t p v s e,(e:Int))) i (r:=B2f t p v s i) (by omega) (fun e he=>by
   unfold A2j
   simp only []
   rw [if_pos (by simpa using he),E5 (show e < p.length by omega),E5 (show e < t.Crates.length by omega),B0d,D0 (by omega)]
   simp only [Option.bind_some]
   cases B2f t p v s e <;> cases p[e]! == v <;> rfl) (by
   unfold A2j
   simp only []
   rw [if_neg (by simp)])]
  rw [Z0,D0 (n:=(i:Int) + 1) (by omega),D0 (by omega)]
  unfold N4
  simp only [Option.bind_some]
  rw [show decide (t.Crates[i]!.Stop≤s) = !decide (s < t.Crates[i]!.Stop) by rw [Bool.eq_iff_iff]; simp,bne]
  cases p[i]! == v <;> cases decide (s < t.Crates[i]!.Stop) <;> cases B2f t p v s i <;> rfl) (by
  unfold A2k
  simp only []
  rw [if_neg (by simp)])]
 rfl
def tw (t:VaTrain) (p:List Int) (v:Int):List Int:=(List.range t.Stops.toNat).map fun (s:Nat)=>handled t p v s p.length
theorem A79 {α:Type} (f:Nat→α) (n:Nat):(List.range n).map f++[f n] = (List.range (n + 1)).map f:= by
 rw [List.range_succ,List.map_append]; rfl
def bits (a b c:Bool):Int:=(if a then 1 else 0) + (if b then 2 else 0) + (if c then 4 else 0)
def nth3 (a b c:Bool):Nat→Bool
 | 0=>a
 | 1=>b
 | _=>c
theorem D6y (a b c:Bool) (s:Nat) (h:s < 3):(B30 .i64 (bits a b c) (s:Int)).bind (fun x=>some ((B7m x 1) == 0)) = some (!nth3 a b c s):= by
 rcases s with _ | _ | _ | s
 ·revert a b c; decide
 ·revert a b c; decide
 ·revert a b c; decide
 ·omega
theorem D60 (a b c:Bool) (s:Nat) (h:s < 3):(D3e .i64 1 (s:Int)).map (fun x=>orI (bits a b c) x) = some (bits (a || s == 0) (b || s == 1) (c || s == 2)):= by
 rcases s with _ | _ | _ | s
 ·revert a b c; decide
 ·revert a b c; decide
 ·revert a b c; decide
 ·omega
theorem A5v {α:Type} (f g:Nat→α) (n k:Nat) (y:α) (hy:g k = y) (hg:∀s,s ≠ k→g s = f s):((List.range n).map f).set k y = (List.range n).map g:= by
 apply List.ext_getElem?
 intro j
 rw [List.getElem?_set]
 by_cases e:k = j
 ·subst e
  rw [if_pos rfl]
  by_cases c:k < n
  ·rw [if_pos (by simpa using c),List.getElem?_map,List.getElem?_range c,← hy]; rfl
  ·rw [if_neg (by simpa using c),List.getElem?_eq_none (by simp; omega)]
 ·rw [if_neg e]
  by_cases c:j < n
  ·rw [List.getElem?_map,List.getElem?_map,List.getElem?_range c]
   show some (f j) = some (g j)
   rw [hg j (fun h=>e h.symm)]
  ·rw [List.getElem?_eq_none (by simp; omega),List.getElem?_eq_none (by simp; omega)]
theorem T6 {α:Type} (f:Nat→α) {n s:Nat} (h:s < n):idx ((List.range n).map f) (s:Int) = some (f s):= by
 unfold idx
 rw [if_pos (Int.natCast_nonneg s),Int.toNat_natCast,List.getElem?_map,List.getElem?_range h]; rfl
def N9 (t:VaTrain) (p:List Int) (v:Int) (i:Nat) (e s:Nat):Bool:=decide ((s:Int) < t.Crates[i]!.Stop) && B2f t p v s e
def twL (t:VaTrain) (p:List Int) (v:Int) (i e:Nat):List Int:=(List.range t.Stops.toNat).map fun (s:Nat)=>if N9 t p v i e s then handled t p v s i + 1 else handled t p v s i
def C1h (t:VaTrain) (p:List Int) (v:Int) (i:Nat):List Int:=(List.range t.Stops.toNat).map fun (s:Nat)=>handled t p v s i
def B1s (t:VaTrain) (p:List Int) (v:Int) (i e:Nat):Int:=bits (N9 t p v i e 0) (N9 t p v i e 1) (N9 t p v i e 2)
theorem C7t (t:VaTrain) (p:List Int) (v:Int) (i e s:Nat):N9 t p v i (e + 1) s = (N9 t p v i e s || (p[e]! == v && decide (t.Crates[e]!.Stop < t.Crates[i]!.Stop) && t.Crates[e]!.Stop == (s:Int))):= by
 unfold N9
 rw [B0d]
 by_cases c:t.Crates[e]!.Stop = (s:Int)
 ·rw [c]
  cases decide ((s:Int) < t.Crates[i]!.Stop) <;> cases B2f t p v s e <;> cases p[e]! == v <;> simp
 ·have e1:(t.Crates[e]!.Stop == (s:Int)) = false:=beq_eq_false_iff_ne.mpr c
  rw [e1]; simp
theorem Y2 {α:Type} {f g:Nat→α} {n:Nat} (h:∀s,s < n→f s = g s):(List.range n).map f = (List.range n).map g :=
 List.map_congr_left fun s hs=>h s (List.mem_range.mp hs)
theorem D1x {t:VaTrain} (h:TOk t) (p:List Int) (hp:p.length = t.Crates.length) (hr:L6 t p) (v:Nat) (hv:v < t.Vans.length) (i:Nat) (hi:i < p.length) :
  loop (V9 (K2 p) (v:Int) t.Crates[i]! (t.Crates.take i)) (0,0,C1h t p v i) = some (twL t p v i i):= by
 have hl:=h.crates
 have hvs:=h.vans
 have hs1:=h.stops1; have hs2:=h.stops
 have hlen:(t.Crates.take i).length = i:= by rw [List.length_take]; omega
 have e0:((0:Int),(0:Int),C1h t p v i) = (B1s t p v i 0,((0:Nat):Int),twL t p v i 0):= by
  have z:∀s,N9 t p v i 0 s = false:=fun s=>by unfold N9; exact Bool.and_false _
  have e1:B1s t p v i 0 = 0:= by unfold B1s; rw [z,z,z]; rfl
  have e2:twL t p v i 0 = C1h t p v i:=Y2 fun s _=>by rw [z]; rfl
  rw [e1,e2]; rfl
 rw [e0,G4 (b:=V9 (K2 p) (v:Int) t.Crates[i]! (t.Crates.take i)) (fun e=>(B1s t p v i e,(e:Int),twL t p v i e)) i (r:=twL t p v i i) (by omega) (fun e he=>by
  have hc:=h.crate e (by omega)
  have c0:=hc.stop0; have c1:=hc.stop
  have r:=hr e (by omega)
  unfold V9
  simp only []
  rw [if_pos (by rw [hlen,decide_eq_true_eq]; omega),E5 (by omega),B5l (by omega) (show e < p.length by omega)]
  simp only [Option.bind_some]
  rw [getElem!_pos (t.Crates.take i) e (by omega),List.getElem_take,← getElem!_pos t.Crates e (by omega)]
  have ew:(w64 (p[e]! + 1) == w64 ((v:Int) + 1)) = (p[e]! == (v:Int)):= by
   rw [D0 (by omega),D0 (by omega),Bool.eq_iff_iff,beq_iff_eq,beq_iff_eq]; omega
  rw [ew,D0 (n:=(e:Int) + 1) (by omega)]
  obtain ⟨S,hS,eS⟩:∃S:Nat,S < t.Stops.toNat∧t.Crates[e]!.Stop = (S:Int):=⟨t.Crates[e]!.Stop.toNat,by omega,by omega⟩
  have hS3:S < 3:= by omega
  cases q:(p[e]! == (v:Int)) && decide (t.Crates[e]!.Stop < t.Crates[i]!.Stop) with
  | false =>
   have z:∀s,N9 t p v i (e + 1) s = N9 t p v i e s:=fun s=>by rw [C7t,q]; simp
   have e1:B1s t p v i (e + 1) = B1s t p v i e:= by unfold B1s; rw [z,z,z]
   have e2:twL t p v i (e + 1) = twL t p v i e:=Y2 fun s _=>by rw [z]
   rw [e1,e2]; rfl
  | true =>
   rw [if_pos rfl,eS]
   have bg:=D6y (N9 t p v i e 0) (N9 t p v i e 1) (N9 t p v i e 2) S hS3
   have bs:=D60 (N9 t p v i e 0) (N9 t p v i e 1) (N9 t p v i e 2) S hS3
   have zz:∀s,N9 t p v i (e + 1) s = (N9 t p v i e s || S == s):=fun s=>by
    rw [C7t,q,eS,Bool.true_and]
    congr 1
    rw [Bool.eq_iff_iff,beq_iff_eq,beq_iff_eq]; omega
   have n3:nth3 (N9 t p v i e 0) (N9 t p v i e 1) (N9 t p v i e 2) S = N9 t p v i e S:= by
    rcases S with _ | _ | _ | S
    ·rfl
    ·rfl
    ·rfl
    ·omega
   have e1:B1s t p v i (e + 1) = bits (N9 t p v i e 0 || S == 0) (N9 t p v i e 1 || S == 1) (N9 t p v i e 2 || S == 2):= by
    unfold B1s; rw [zz,zz,zz]
   rw [n3] at bg
   show ((B30 .i64 (B1s t p v i e) (S:Int)).bind fun x16=>some ((B7m x16 1) == 0)).bind _ = _
   rw [show B1s t p v i e = bits (N9 t p v i e 0) (N9 t p v i e 1) (N9 t p v i e 2) from rfl,bg]
   simp only [Option.bind_some]
   cases hse:N9 t p v i e S with
   | true =>
    have z:∀s,N9 t p v i (e + 1) s = N9 t p v i e s:=fun s=>by
     rw [zz]
     by_cases c:S = s
     ·subst c; rw [hse]; rfl
     ·have:(S == s) = false:=beq_eq_false_iff_ne.mpr c
      rw [this,Bool.or_false]
    have e1:B1s t p v i (e + 1) = B1s t p v i e:= by unfold B1s; rw [z,z,z]
    have e2:twL t p v i (e + 1) = twL t p v i e:=Y2 fun s _=>by rw [z]
    rw [e1,e2]; rfl
   | false =>
    rw [if_pos (show (!false) = true from rfl)]
    cases hsh:D3e .i64 1 (S:Int) with
    | none=>rw [hsh] at bs; exact absurd bs (by simp)
    | some y =>
    rw [hsh] at bs
    have bs:orI (bits (N9 t p v i e 0) (N9 t p v i e 1) (N9 t p v i e 2)) y = bits (N9 t p v i e 0 || S == 0) (N9 t p v i e 1 || S == 1) (N9 t p v i e 2 || S == 2):=Option.some.inj bs
    simp only [Option.bind_some]
    have hb:=A0x t p v (S:Int) i
    rw [show idx (twL t p v i e) (S:Int) = some (handled t p v S i) by
     unfold twL
     rw [T6 _ hS,hse]; rfl]
    simp only [Option.bind_some]
    rw [bs,e1]
    have e2:A1w (twL t p v i e) (S:Int) (w64 (handled t p v S i + 1)) = twL t p v i (e + 1):= by
     unfold A1w twL
     rw [Int.toNat_natCast]
     refine A5v _ _ _ _ _ ?_ ?_
     ·rw [zz,beq_self_eq_true,Bool.or_true,D0 (by omega)]; rfl
     ·intro s hs
      have:(S == s) = false:=beq_eq_false_iff_ne.mpr fun c=>hs c.symm
      rw [zz,this,Bool.or_false]
    rw [e2]; rfl) (by
  unfold V9
  simp only []
  rw [if_neg (by rw [hlen]; simp)])]
theorem A7s {t:VaTrain} (h:TOk t) (p:List Int) (hp:p.length = t.Crates.length) (hr:L6 t p) (v:Nat) (hv:v < t.Vans.length) :
  L4 ⟨t⟩ (K2 p) (v:Int) = some (tw t p v):= by
 have hl:=h.crates
 have hvs:=h.vans
 have hs1:=h.stops1; have hs2:=h.stops
 unfold L4
 have em:B8e 8 t.Stops (0:Int) = some (C1h t p v 0):= by
  unfold B8e
  rw [if_pos ⟨by omega,by omega,by omega⟩]
  congr 1
  have:C1h t p v 0 = (List.range t.Stops.toNat).map (fun _=>(0:Int)):=rfl
  rw [this,List.map_const',List.length_range]
 simp only []
 rw [em]
 simp only [Option.bind_some]
 rw [show ((0:Int),C1h t p v 0) = (((0:Nat):Int),C1h t p v 0) from rfl,G4 (b:=A04 ⟨t⟩ (K2 p) (v:Int)) (fun i=>((i:Int),C1h t p v i)) t.Crates.length (r:=C1h t p v p.length) (by omega) (fun i hi=>by
  have r:=hr i (by omega)
  unfold A04
  simp only []
  rw [if_pos (by simpa using hi),E5 hi,B5l (by omega) (show i < p.length by omega)]
  simp only [Option.bind_some]
  have ew:(w64 (p[i]! + 1) != w64 ((v:Int) + 1)) = !(p[i]! == (v:Int)):= by
   rw [D0 (by omega),D0 (by omega),bne]
   congr 1
   rw [Bool.eq_iff_iff,beq_iff_eq,beq_iff_eq]; omega
  rw [ew,D0 (n:=(i:Int) + 1) (by omega),C87 (by omega)]
  simp only [Option.bind_some]
  rw [D1x h p hp hr v hv i (by omega)]
  simp only [Option.bind_some]
  cases q:p[i]! == (v:Int) with
  | false =>
   have:C1h t p v (i + 1) = C1h t p v i:=Y2 fun s _=>by
    rw [Z0]; unfold N4; rw [q]; rfl
   rw [this]; rfl
  | true =>
   have:C1h t p v (i + 1) = twL t p v i i:=Y2 fun s _=>by
    rw [Z0]; unfold N4 N9; rw [q,Bool.true_and]
   rw [this]; rfl) (by
  unfold A04
  simp only []
  rw [if_neg (by simp),hp])]
 rfl
def late (t:VaTrain) (p:List Int) (v:Int) (s:Nat):Int:=iter (fun j a=>a + t.Handle * handled t p v (j:Int) p.length) s 0
def M7 (t:VaTrain) (v s:Nat):Int:=iter (fun j a=>a + (t.Vans[v]!.Legs[j]!).Lo) s 0
def J6 (t:VaTrain) (v s:Nat):Int:=iter (fun j a=>a + (t.Vans[v]!.Legs[j]!).Hi) s 0
def E8 (t:VaTrain) (p:List Int) (v s:Nat):Span:=⟨t.Vans[v]!.Leave + late t p v s + M7 t v (s + 1),t.Vans[v]!.Leave + late t p v s + J6 t v (s + 1)⟩
def tms (t:VaTrain) (p:List Int) (v:Nat):List Span:=(List.range t.Stops.toNat).map fun (s:Nat)=>E8 t p v s
theorem E16 {a b A B:Int} (ha:0≤a∧a≤A) (hb:0≤b∧b≤B):0≤a * b∧a * b≤A * B :=
 ⟨Int.mul_nonneg ha.1 hb.1,Int.mul_le_mul ha.2 hb.2 hb.1 (Int.le_trans ha.1 ha.2)⟩
theorem A18 (t:VaTrain) (p:List Int) (v:Int) (s:Nat):late t p v (s + 1) = late t p v s + t.Handle * handled t p v (s:Int) p.length:=rfl
theorem A2x (t:VaTrain) (v s:Nat):M7 t v (s + 1) = M7 t v s + (t.Vans[v]!.Legs[s]!).Lo:=rfl
theorem S5 (t:VaTrain) (v s:Nat):J6 t v (s + 1) = J6 t v s + (t.Vans[v]!.Legs[s]!).Hi:=rfl
theorem B32 {t:VaTrain} (h:TOk t) (p:List Int) (hp:p.length = t.Crates.length) (v s:Int):0≤t.Handle * handled t p v s p.length∧t.Handle * handled t p v s p.length≤360:= by
 have hl:=h.crates
 have hb:=A0x t p v s p.length
 exact E16 (A:=60) (B:=6) ⟨h.handle0,h.handle⟩ ⟨hb.1,by omega⟩
theorem A6c {t:VaTrain} (h:TOk t) (p:List Int) (hp:p.length = t.Crates.length) (v:Int):∀s:Nat,0≤late t p v s∧late t p v s≤360 * s
 | 0=>⟨Int.le_refl 0,Int.le_refl 0⟩
 | s + 1=>by
  have ih:=A6c h p hp v s
  have:=B32 h p hp v (s:Int)
  rw [A18]; omega
theorem A1n {t:VaTrain} (h:TOk t) (v:Nat) (hv:v < t.Vans.length):∀s:Nat,(s:Int)≤t.Stops→(0≤M7 t v s∧M7 t v s≤600 * s)∧(0≤J6 t v s∧J6 t v s≤600 * s)
 | 0,_=>⟨⟨Int.le_refl 0,Int.le_refl 0⟩,⟨Int.le_refl 0,Int.le_refl 0⟩⟩
 | s + 1,hs=>by
  have ih:=A1n h v hv s (by omega)
  have hw:=h.van v hv
  have hL:=hw.legs
  have hg:=hw.leg s (by omega)
  have:=hg.lo0; have:=hg.lh; have:=hg.hi
  rw [A2x,S5]; omega
theorem B2a {t:VaTrain} (h:TOk t) (p:List Int) (hp:p.length = t.Crates.length) (v:Int) (s:Nat) (hs:(s:Int)≤t.Stops):A6q t p v (s:Int) = some (late t p v s):= by
 have h2:=h.stops
 unfold A6q
 rw [show ((0:Int),(0:Int)) = (late t p v 0,((0:Nat):Int)) from rfl,G4 (b:=A55 t p v (s:Int)) (fun i=>(late t p v i,(i:Int))) s (r:=late t p v s) (by omega) (fun i hi=>by
  unfold A55
  simp only []
  have hb:=A6c h p hp v i
  have hq:=B32 h p hp v (i:Int)
  rw [if_pos (by simpa using hi),A2l h p hp]
  simp only [Option.bind_some]
  rw [D0 (n:=t.Handle * handled t p v (i:Int) p.length) (by omega),D0 (by omega),D0 (by omega)]; rfl) (by
  unfold A55
  simp only []
  rw [if_neg (by simp)])]
 rfl
theorem C53 {t:VaTrain} (h:TOk t) (v:Nat) (hv:v < t.Vans.length) (s:Nat) (hs:(s:Int)≤t.Stops):A3d t (v:Int) 0 (s:Int) = some ⟨M7 t v s,J6 t v s⟩:= by
 have h2:=h.stops
 have hw:=h.van v hv
 have hL:=hw.legs
 unfold A3d
 rw [show ((0:Int),Span.mk 0 0) = (((0:Nat):Int),Span.mk (M7 t v 0) (J6 t v 0)) from rfl,G4 (b:=A0f t (v:Int) (s:Int)) (fun i=>((i:Int),Span.mk (M7 t v i) (J6 t v i))) s (r:=⟨M7 t v s,J6 t v s⟩) (by omega) (fun i hi=>by
  unfold A0f
  simp only []
  have hb:=A1n h v hv i (by omega)
  have hg:=hw.leg i (by omega)
  have:=hg.lo0; have:=hg.lh; have:=hg.hi
  rw [if_pos (by simpa using hi),E5 hv]
  simp only [Option.bind_some]
  rw [E5 (show i < t.Vans[v]!.Legs.length by omega)]
  simp only [Option.bind_some]
  rw [D0 (n:=(i:Int) + 1) (by omega),D0 (by omega),D0 (by omega)]; rfl) (by
  unfold A0f
  simp only []
  rw [if_neg (by simp)])]
 rfl
theorem A8z {t:VaTrain} (h:TOk t) (p:List Int) (hp:p.length = t.Crates.length) (v:Nat) (hv:v < t.Vans.length) (s:Nat) (hs:(s:Int) < t.Stops):A4m t p (v:Int) (s:Int) = some (E8 t p v s):= by
 have h2:=h.stops
 have hw:=h.van v hv
 have:=hw.leave0; have:=hw.leave
 unfold A4m
 have hb:=A1n h v hv (s + 1) (by omega)
 have hq:=A6c h p hp v s
 rw [D0 (n:=(s:Int) + 1) (by omega),show ((s:Int) + 1) = ((s + 1:Nat):Int) from rfl,C53 h v hv (s + 1) (by omega),B2a h p hp v s (by omega),E5 hv]
 simp only [Option.bind_some]
 rw [D0 (n:=t.Vans[v]!.Leave + late t p v s) (by omega),D0 (by omega),D0 (by omega)]; rfl
theorem A7r {t:VaTrain} (h:TOk t) (p:List Int) (hp:p.length = t.Crates.length) (hr:L6 t p) (v:Nat) (hv:v < t.Vans.length):L3 ⟨t⟩ (K2 p) (v:Int) = some (tms t p v):= by
 have h1:=h.stops1; have h2:=h.stops
 have hw:=h.van v hv
 have hL:=hw.legs
 have:=hw.leave0; have:=hw.leave
 have htl:(tw t p v).length = t.Stops.toNat:= by unfold tw; rw [List.length_map,List.length_range]
 unfold L3
 simp only []
 rw [E5 hv,A7s h p hp hr v hv]
 simp only [Option.bind_some]
 rw [show ((0:Int),Span.mk t.Vans[v]!.Leave t.Vans[v]!.Leave,([]:List Span)) = (((0:Nat):Int),Span.mk (t.Vans[v]!.Leave + late t p v 0 + M7 t v 0) (t.Vans[v]!.Leave + late t p v 0 + J6 t v 0),(List.range 0).map fun (s:Nat)=>E8 t p v s) by
  show _ = (_,Span.mk (t.Vans[v]!.Leave + 0 + 0) (t.Vans[v]!.Leave + 0 + 0),_)
  rw [Int.add_zero,Int.add_zero]; rfl]
 rw [G4 (b:=A03 ⟨t⟩ (v:Int) (tw t p v)) (fun i=>((i:Int),Span.mk (t.Vans[v]!.Leave + late t p v i + M7 t v i) (t.Vans[v]!.Leave + late t p v i + J6 t v i),(List.range i).map fun (s:Nat)=>E8 t p v s)) t.Stops.toNat (r:=(Span.mk (t.Vans[v]!.Leave + late t p v t.Stops.toNat + M7 t v t.Stops.toNat) (t.Vans[v]!.Leave + late t p v t.Stops.toNat + J6 t v t.Stops.toNat),tms t p v)) (by omega) (fun i hi=>by
  unfold A03
  simp only []
  have hb:=A1n h v hv i (by omega)
  have hg:=hw.leg i (by omega)
  have:=hg.lo0; have:=hg.lh; have:=hg.hi
  have hq:=A6c h p hp v i
  have hst:=B32 h p hp v (i:Int)
  rw [if_pos (by rw [htl,decide_eq_true_eq]; omega),E5 hv]
  rw [show idx (tw t p v) (i:Int) = some (handled t p v i p.length) by unfold tw; rw [T6 _ hi]]
  simp only [Option.bind_some]
  rw [E5 (show i < t.Vans[v]!.Legs.length by omega)]
  simp only [Option.bind_some]
  rw [Int.mul_comm (handled t p v i p.length) t.Handle]
  have r1:=A2x t v i
  have r2:=S5 t v i
  have r3:=A18 t p v i
  rw [D0 (n:=t.Handle * handled t p v i p.length) (by omega),D0 (n:=t.Vans[v]!.Leave + late t p v i + M7 t v i + t.Vans[v]!.Legs[i]!.Lo) (by omega),D0 (n:=t.Vans[v]!.Leave + late t p v i + J6 t v i + t.Vans[v]!.Legs[i]!.Hi) (by omega),D0 (n:=(i:Int) + 1) (by omega),D0 (by omega),D0 (by omega)]
  have ea:Span.mk (t.Vans[v]!.Leave + late t p v i + M7 t v i + t.Vans[v]!.Legs[i]!.Lo) (t.Vans[v]!.Leave + late t p v i + J6 t v i + t.Vans[v]!.Legs[i]!.Hi) = E8 t p v i:= by
   unfold E8
   rw [r1,r2]
   congr 1 <;> omega
  rw [ea,W4 (by omega) (by simp; omega),A79 (fun (s:Nat)=>E8 t p v s)]
  simp only [Option.bind_some]
  rw [r1,r2,r3]
  rw [show t.Vans[v]!.Leave + late t p v i + M7 t v i + t.Vans[v]!.Legs[i]!.Lo + t.Handle * handled t p v i p.length = t.Vans[v]!.Leave + (late t p v i + t.Handle * handled t p v i p.length) + (M7 t v i + t.Vans[v]!.Legs[i]!.Lo) by omega,show t.Vans[v]!.Leave + late t p v i + J6 t v i + t.Vans[v]!.Legs[i]!.Hi + t.Handle * handled t p v i p.length = t.Vans[v]!.Leave + (late t p v i + t.Handle * handled t p v i p.length) + (J6 t v i + t.Vans[v]!.Legs[i]!.Hi) by omega]
  rfl) (by
  unfold A03
  simp only []
  rw [if_neg (by rw [htl,decide_eq_true_eq]; omega)]; rfl)]
 rfl
def L7 (t:VaTrain) (p:List Int) (a:Nat):Int :=
 if p[a]! == -1 then 2 else
 if (E8 t p p[a]!.toNat t.Crates[a]!.Stop.toNat).Hi≤t.Crates[a]!.By then 1 else
 if (E8 t p p[a]!.toNat t.Crates[a]!.Stop.toNat).Lo > t.Crates[a]!.By then 2 else 0
end Vn
end
section
namespace Vn
theorem P0:G2 = some true:= by decide +kernel
end Vn
end
section
namespace Vn
open Go Am
theorem C8n {t:VaTrain} (p:List Int) (v:Nat) {s:Int} (h0:0≤s) (h:s < t.Stops):idx (tms t p v) s = some (E8 t p v s.toNat):= by
 have e:s = ((s.toNat:Nat):Int):= by omega
 unfold tms
 rw [e,T6 _ (by omega)]; rfl
theorem B04 {t:VaTrain} (h:TOk t) (p:List Int) (hp:p.length = t.Crates.length) (hr:L6 t p) (a:Nat) (ha:a < p.length):P7 ⟨t⟩ (K2 p) (a:Int) = some (L7 t p a):= by
 have hl:=h.crates; have hv:=h.vans
 have r:=hr a ha
 have hc:=h.crate a (by omega)
 unfold P7 L7
 rw [B5l (by omega) ha]
 simp only [Option.bind_some]
 by_cases c:p[a]! = -1
 ·rw [c]; rfl
 have e0:(w64 (p[a]! + 1) == 0) = false:= by rw [D0 (by omega),beq_eq_false_iff_ne]; omega
 have e1:(p[a]! == -1) = false:=beq_eq_false_iff_ne.mpr c
 rw [e0,e1,E5 (show a < t.Crates.length by omega)]
 simp only [Option.bind_some]
 have e2:w64 (w64 (p[a]! + 1) - 1) = ((p[a]!.toNat:Nat):Int):= by rw [D0 (n:=p[a]! + 1) (by omega),D0 (by omega)]; omega
 rw [e2,A7r h p hp hr _ (by omega)]
 simp only [Option.bind_some]
 rw [C8n p _ hc.stop0 hc.stop]
 simp only [Option.bind_some]
 generalize E8 t p p[a]!.toNat t.Crates[a]!.Stop.toNat = g
 generalize t.Crates[a]!.By = b
 by_cases c1:g.Hi≤b <;> by_cases c2:g.Lo > b <;> simp [c1,c2]
theorem B0y {t:VaTrain} (h:TOk t) (p:List Int) (hp:p.length = t.Crates.length) (hr:L6 t p) (a:Nat) (ha:a < p.length):A2w t p (a:Int) = some (L7 t p a):= by
 have hl:=h.crates; have hv:=h.vans
 have r:=hr a ha
 have hc:=h.crate a (by omega)
 have:=hc.stop0; have:=hc.stop
 unfold A2w L7
 rw [E5 ha]
 simp only [Option.bind_some]
 by_cases c:p[a]! = -1
 ·rw [c]; rfl
 have e1:(p[a]! == -1) = false:=beq_eq_false_iff_ne.mpr c
 rw [e1,E5 (show a < t.Crates.length by omega)]
 simp only [Option.bind_some]
 have e2:A4m t p p[a]! t.Crates[a]!.Stop = some (E8 t p p[a]!.toNat t.Crates[a]!.Stop.toNat):= by
  have:=A8z h p hp p[a]!.toNat (by omega) t.Crates[a]!.Stop.toNat (by omega)
  rw [show ((p[a]!.toNat:Nat):Int) = p[a]! by omega,show ((t.Crates[a]!.Stop.toNat:Nat):Int) = t.Crates[a]!.Stop by omega] at this
  exact this
 rw [e2]
 simp only [Option.bind_some]
 generalize E8 t p p[a]!.toNat t.Crates[a]!.Stop.toNat = g
 generalize t.Crates[a]!.By = b
 by_cases c1:g.Hi≤b <;> by_cases c2:g.Lo > b <;> simp [c1,c2]
theorem B01 {α:Type} {l:List Sh} {c:α→List AV} {Q:α→Prop} (h:∀r,SatL l r→∃ x,r = c x∧Q x):∀rows:List (List AV),(∀ r ∈ rows,SatL l r)→∃ xs:List α,rows = xs.map c∧xs.length = rows.length∧∀ x ∈ xs,Q x
 | [],_=>⟨[],rfl,rfl,by simp⟩
 | r :: rows,hr=>by
  obtain ⟨x,hx,hq⟩:=h r (hr r (List.mem_cons_self ..))
  obtain ⟨xs,hxs,hlen,hqs⟩:=B01 h rows fun r' h'=>hr r' (List.mem_cons_of_mem _ h')
  refine ⟨x :: xs,by rw [hx,hxs]; rfl,by rw [List.length_cons,List.length_cons,hlen],?_⟩
  intro y hy
  rcases List.mem_cons.mp hy with rfl | hy
  ·exact hq
  ·exact hqs y hy
theorem E0l (r:List AV) (h:SatL [.int .i64,.int .i64] r):∃x:Span,r = C6 x∧True:= by
 simp only [SatL,Sat] at h
 obtain ⟨x1,q1,rfl,⟨n1,rfl,_⟩,x2,q2,rfl,⟨n2,rfl,_⟩,rfl⟩:=h
 exact ⟨⟨n1,n2⟩,rfl,trivial⟩
theorem D5q (r:List AV) (h:SatL [.int .i64,.int .i64] r):∃x:VaPair,r = C1 x∧True:= by
 simp only [SatL,Sat] at h
 obtain ⟨x1,q1,rfl,⟨n1,rfl,_⟩,x2,q2,rfl,⟨n2,rfl,_⟩,rfl⟩:=h
 exact ⟨⟨n1,n2⟩,rfl,trivial⟩
theorem D2z (r:List AV) (h:SatL [.str,.int .i64,.int .i64,.int .i64] r):∃x:VaCrate,r = A9 x∧x.Name.size≤maxLen:= by
 simp only [SatL,Sat] at h
 obtain ⟨x0,q0,rfl,⟨s,rfl,hs⟩,x1,q1,rfl,⟨n1,rfl,_⟩,x2,q2,rfl,⟨n2,rfl,_⟩,x3,q3,rfl,⟨n3,rfl,_⟩,rfl⟩:=h
 exact ⟨⟨s,n1,n2,n3⟩,rfl,hs⟩
theorem D8c (r:List AV) (h:SatL [.str,.int .i64,.int .i64,.seq 2 [.int .i64,.int .i64]] r):∃x:VaVan,r = C0 x∧x.Name.size≤maxLen:= by
 rw [SatL] at h; obtain ⟨x0,q0,rfl,h0,h⟩:=h
 rw [SatL] at h; obtain ⟨x1,q1,rfl,h1,h⟩:=h
 rw [SatL] at h; obtain ⟨x2,q2,rfl,h2,h⟩:=h
 rw [SatL] at h; obtain ⟨x3,q3,rfl,h3,h⟩:=h
 rw [SatL] at h; subst h
 simp only [Sat] at h0 h1 h2 h3
 obtain ⟨s,rfl,hs⟩:=h0
 obtain ⟨n1,rfl,_⟩:=h1
 obtain ⟨n2,rfl,_⟩:=h2
 obtain ⟨rows,rfl,_,hr⟩:=h3
 obtain ⟨xs,rfl,_,_⟩:=B01 E0l rows hr
 exact ⟨⟨s,n1,n2,xs⟩,rfl,hs⟩
def A9r:List Sh:=[.seq 4 [.str,.int .i64,.int .i64,.seq 2 [.int .i64,.int .i64]],.int .i64,.int .i64,.seq 4 [.str,.int .i64,.int .i64,.int .i64],.seq 2 [.int .i64,.int .i64]]
theorem A6l (r:List AV) (h:SatL A9r r):∃x:VaTrain,r = A3 x∧NB x:= by
 unfold A9r at h
 rw [SatL] at h; obtain ⟨x0,q0,rfl,h0,h⟩:=h
 rw [SatL] at h; obtain ⟨x1,q1,rfl,h1,h⟩:=h
 rw [SatL] at h; obtain ⟨x2,q2,rfl,h2,h⟩:=h
 rw [SatL] at h; obtain ⟨x3,q3,rfl,h3,h⟩:=h
 rw [SatL] at h; obtain ⟨x4,q4,rfl,h4,h⟩:=h
 rw [SatL] at h; subst h
 simp only [Sat] at h0 h1 h2 h3 h4
 obtain ⟨rows0,rfl,_,hr0⟩:=h0
 obtain ⟨n1,rfl,_⟩:=h1
 obtain ⟨n2,rfl,_⟩:=h2
 obtain ⟨rows3,rfl,_,hr3⟩:=h3
 obtain ⟨rows4,rfl,_,hr4⟩:=h4
 obtain ⟨xs,rfl,_,hq0⟩:=B01 D8c rows0 hr0
 obtain ⟨ys,rfl,_,hq3⟩:=B01 D2z rows3 hr3
 obtain ⟨zs,rfl,_,_⟩:=B01 D5q rows4 hr4
 refine ⟨⟨xs,n1,n2,ys,zs⟩,rfl,fun v hv=>?_,fun v hv=>?_⟩
 ·have:=hq0 v hv; simp only [maxLen] at this; omega
 ·have:=hq3 v hv; simp only [maxLen] at this; omega
theorem B1d {g:Ghost} {cs:List Value} {r:List AV} (hr:r.length = cs.length) (h:∀(j:Nat) (x:AV),r[j]? = some x→∃ v,cs[j]? = some v∧Den g.Φ x v∧v.oneCell' = true):V g (.agg r) (.agg cs.toArray):= by
 refine .agg r cs.toArray (by simpa using hr.symm) ?_ ?_
 ·intro j x hx
  obtain ⟨v,hv,hd,_⟩:=h j x hx
  rw [List.getElem?_toArray,hv]; exact .den _ _ hd
 ·intro j x hx
  obtain ⟨v,hv,_,h1⟩:=h j x hx
  rw [List.getElem?_toArray,hv]; exact h1
end Vn
end
section
set_option maxRecDepth 100000
set_option maxHeartbeats 0
namespace Vn
open Go Am Go.Proofs.Ytjjmechghfjbmaa.Cd
end Vn
end
section
namespace Vn
open Go Am
theorem B5u (a b:Int):A5w a b = max a b:= by unfold A5w; split <;> omega
theorem A8n {t:VaTrain} (h:TOk t) (p:List Int) (hp:p.length = t.Crates.length) (v:Nat) (hv:v < t.Vans.length) (s:Nat) (hs:(s:Int) < t.Stops) :
  -1000≤(E8 t p v s).Lo∧(E8 t p v s).Lo≤10000∧-1000≤(E8 t p v s).Hi∧(E8 t p v s).Hi≤10000:= by
 have h2:=h.stops
 have hw:=h.van v hv
 have:=hw.leave0; have:=hw.leave
 have hb:=A1n h v hv (s + 1) (by omega)
 have hq:=A6c h p hp v s
 unfold E8
 simp only []
 omega
end Vn
end
section
set_option maxRecDepth 100000
set_option maxHeartbeats 0
namespace Vn
open Go Am Go.Proofs.Ytjjmechghfjbmaa.Cd
def R9 (a0:VaTrain):Option Bool :=
 (W9 a0).bind fun x1 =>
 some (x1.2.2 == 0)
theorem T3 {c:Sc} {H:A6} {a0:VaTrain} {r:Bool} (h:R9 a0 = some r) :
  F2 tab c H (.fn (.func 40) [] []) [(.agg (A3 a0))] [.b r]:= by
 unfold R9 at h
 refine cE rfl rfl<|sg 0 rfl<|A0 (G0 (cs:=A3 a0) rfl rfl rfl) rfl<|qm rfl<|es (ra1 rfl)<|s0<|oB h fun x1 hx1 h=>A0 (C5 rfl rfl rfl) rfl<|B2 (rs:=[.i x1.1,.i x1.2.1,.i x1.2.2]) rfl rfl (A2 (D2 rfl) B4) ((A0z hx1).frz)<|qm rfl<|A0 (A7 rfl rfl) rfl<|A0 (A7 rfl rfl) rfl<|A0 (A7 rfl rfl) rfl<|qm rfl<|qm rfl<|qm rfl<|es (ra1 rfl)<|s0<|qm rfl<|A0 (G7 rfl rfl) rfl<|qm rfl<|es (ra1 rfl)<|C4 ?_
 obtain rfl:=os h
 exact retq trivial (B1 rfl B7) (A5 rfl B6) (A1 A4 A8)
end Vn
end
section
namespace Vn
open Go Am
theorem C55 {t:VaTrain} (h:TOk t) (p:List Int) (hp:p.length≤t.Crates.length) (v:Int):A6s t p v = some (K6 t p v p.length):= by
 unfold A6s
 have hl:=h.crates
 rw [show ((0:Int),(0:Int)) = (K6 t p v 0,((0:Nat):Int)) from rfl,G4 (b:=A0g t p v) (fun i=>(K6 t p v i,(i:Int))) p.length (r:=K6 t p v p.length) (by omega) (fun i hi=>by
  unfold A0g
  simp only []
  rw [if_pos (by simpa using hi),E5 hi,E5 (show i < t.Crates.length by omega)]
  simp only [Option.bind_some]
  have hb:=B24 h p v i (by omega)
  have hc:=h.crate i (by omega)
  have:=hc.size1; have:=hc.size
  rw [D0 (n:=(i:Int) + 1) (by omega),D0 (by omega)]
  show _ = some (Sum.inl ((if p[i]! == v then K6 t p v i + t.Crates[i]!.Size else K6 t p v i),((i + 1:Nat):Int)))
  cases p[i]! == v <;> rfl) (by
  unfold A0g
  simp only []
  rw [if_neg (by simp)])]
 rfl
def B4o (t:VaTrain) (p:List Int) (i:Nat):Option Bool:=if decide (t.Apart[i]!.B < p.length) && (p[t.Apart[i]!.A.toNat]! == p[t.Apart[i]!.B.toNat]! && p[t.Apart[i]!.A.toNat]! != -1) then some false else none
def B4c (t:VaTrain) (p:List Int):Bool:=(first (A9g t p) t.Vans.length).getD ((first (B4o t p) t.Apart.length).getD true)
theorem B2z {t:VaTrain} (h:TOk t) (p:List Int) (hp:p.length≤t.Crates.length):S9 t p = some (B4c t p):= by
 unfold S9
 have hl:=h.crates
 have hv:=h.vans
 have ha:=h.apart
 rw [R3 (b:=S3 t p) t.Vans.length (fun v=>(A9g t p v).map Sum.inl) (.inr ()) (by omega) (fun i hi _=>by
  unfold S3 A9g
  rw [if_pos (by simpa using hi),C55 h p hp,E5 hi]
  simp only [Option.bind_some]
  by_cases c:K6 t p i p.length > t.Vans[i]!.Room
  ·rw [if_pos (by simpa using c),if_pos c]; rfl
  ·rw [if_neg (by simpa using c),if_neg c]; rfl) (by
  unfold S3
  rw [if_neg (by simp)]),Q8]
 unfold B4c
 cases first (A9g t p) t.Vans.length with
 | some x=>rfl
 | none =>
 simp only [Option.map_none,Option.getD_none,Option.bind_some]
 rw [R3 (b:=S4 t p) t.Apart.length (fun v=>(B4o t p v).map Sum.inl) (.inr ()) (by omega) (fun i hi _=>by
  unfold S4 B4o
  have hq:=h.pair i hi
  rw [if_pos (by simpa using hi),E5 hi]
  generalize t.Apart[i]! = g at hq
  have:=hq.a0; have:=hq.ab; have:=hq.b
  simp only [Option.bind_some]
  by_cases hB:g.B < (p.length:Int)
  ·rw [if_pos (by rw [decide_eq_true_eq]; omega),B78 hq.a0 (by omega),B78 (i:=g.B) (by omega) (by omega),decide_eq_true hB]
   simp only [Option.bind_some]
   generalize p[g.A.toNat]! = x
   generalize p[g.B.toNat]! = y
   cases x == y
   ·rfl
   ·cases x != -1 <;> rfl
  ·rw [if_neg (by rw [decide_eq_true_eq]; omega),decide_eq_false hB]; rfl) (by
  unfold S4
  rw [if_neg (by simp)]),Q8]
 cases first (B4o t p) t.Apart.length <;> rfl
def B0b (t:VaTrain) (p:List Int):Prop :=
 (∀ v:Nat,v < t.Vans.length→K6 t p v p.length≤t.Vans[v]!.Room) ∧
 (∀ i,i < t.Apart.length→t.Apart[i]!.B < p.length→¬ (p[t.Apart[i]!.A.toNat]! = p[t.Apart[i]!.B.toNat]!∧p[t.Apart[i]!.A.toNat]! ≠ -1))
theorem B5r (t:VaTrain) (p:List Int):B4c t p = true↔B0b t p:= by
 unfold B4c B0b
 constructor
 ·intro h
  cases h1:first (A9g t p) t.Vans.length with
  | some x =>
   obtain ⟨i,_,h2,_⟩:=N5 h1
   rw [h1] at h
   have h:x = true:=h
   unfold A9g at h2
   split at h2
   ·rw [← Option.some.inj h2] at h; exact absurd h (by decide)
   ·exact absurd h2 (by simp)
  | none =>
  rw [h1] at h
  cases h2:first (B4o t p) t.Apart.length with
  | some x =>
   obtain ⟨i,_,h3,_⟩:=N5 h2
   rw [h2] at h
   have h:x = true:=h
   unfold B4o at h3
   split at h3
   ·rw [← Option.some.inj h3] at h; exact absurd h (by decide)
   ·exact absurd h3 (by simp)
  | none =>
  refine ⟨fun v hv=>?_,fun i hi hB hc=>?_⟩
  ·have:=F6.mp h1 v hv
   unfold A9g at this
   split at this
   ·exact absurd this (by simp)
   ·omega
  ·have:=F6.mp h2 i hi
   unfold B4o at this
   rw [if_pos (by rw [Bool.and_eq_true,Bool.and_eq_true,beq_iff_eq,bne_iff_ne]; exact ⟨decide_eq_true hB,hc⟩)] at this
   exact absurd this (by simp)
 ·intro h
  rw [F6.mpr fun v hv=>by
   unfold A9g
   have:=h.1 v hv
   rw [if_neg (by omega)],F6.mpr fun i hi=>by
   unfold B4o
   rw [if_neg (by rw [Bool.and_eq_true,Bool.and_eq_true,beq_iff_eq,bne_iff_ne,decide_eq_true_eq]; exact fun ⟨a,b⟩=>h.2 i hi a b)]]
  rfl
theorem B3g {t:VaTrain} (h:TOk t) {p:List Int} (hp:p.length = t.Crates.length):B0b t p↔Good t p:= by
 unfold B0b Good
 constructor
 ·exact fun ⟨a,b⟩=>⟨a,fun i hi=>b i hi (by have:=(h.pair i hi).b; omega)⟩
 ·exact fun ⟨a,b⟩=>⟨a,fun i hi _=>b i hi⟩
theorem A06 {p:List Int} {x:Int} {i:Nat} (h:i < p.length):(p++[x])[i]! = p[i]!:= by
 rw [getElem!_pos (p++[x]) i (by rw [List.length_append]; omega),getElem!_pos p i h,List.getElem_append_left h]
theorem P9 {p:List Int} {x:Int}:(p++[x])[p.length]! = x:= by
 rw [getElem!_pos (p++[x]) p.length (by rw [List.length_append]; simp)]; simp
theorem A9s {t:VaTrain} {p q:List Int} {v:Int}:∀{n:Nat},(∀ i,i < n→p[i]! = q[i]!)→K6 t p v n = K6 t q v n
 | 0,_=>rfl
 | n + 1,h=>by
  rw [A0h,A0h,A9s fun i hi=>h i (by omega),h n (by omega)]
theorem D2n {t:VaTrain} (h:TOk t) {p:List Int} {x:Int} (hp:p.length < t.Crates.length) (hg:B0b t (p++[x])):B0b t p:= by
 have hl:(p++[x]).length = p.length + 1:= by simp
 refine ⟨fun v hv=>?_,fun i hi hB hc=>?_⟩
 ·have h1:=hg.1 v hv
  rw [hl] at h1
  have h2:=B1t h (p++[x]) v p.length 1 (by omega)
  rw [A9s (p:=p++[x]) (q:=p) fun i hi=>A06 hi] at h2
  omega
 ·have hq:=h.pair i hi
  have:=hq.a0; have:=hq.ab
  refine hg.2 i hi (by rw [hl]; omega) ?_
  rw [A06 (by omega),A06 (by omega)]; exact hc
theorem B3h {t:VaTrain} (h:TOk t) {p:List Int} (hp:p.length < t.Crates.length) (hg:B0b t p):B0b t (p++[-1]):= by
 have hl:(p++[(-1:Int)]).length = p.length + 1:= by simp
 refine ⟨fun v hv=>?_,fun i hi hB hc=>?_⟩
 ·have h1:=hg.1 v hv
  rw [hl,A0h,P9,A9s (p:=p++[-1]) (q:=p) fun i hi=>A06 hi]
  rw [if_neg (by rw [beq_iff_eq]; omega)]; exact h1
 ·have hq:=h.pair i hi
  have:=hq.a0; have:=hq.ab
  rw [hl] at hB
  by_cases c:t.Apart[i]!.B < p.length
  ·rw [A06 (by omega),A06 (by omega)] at hc
   exact hg.2 i hi c hc
  ·have e:t.Apart[i]!.B.toNat = p.length:= by omega
   rw [e,P9] at hc
   exact hc.2 hc.1
structure PlanOk (t:VaTrain) (p:List Int):Prop where
 len:p.length = t.Crates.length
 range:L6 t p
 good:good t p = true
theorem B1k {t:VaTrain} {p:List Int} {x:Int} (h:L6 t p) (hx:-1≤x∧x < t.Vans.length):L6 t (p++[x]):= by
 intro i hi
 by_cases c:i < p.length
 ·rw [A06 c]; exact h i c
 ·have:i = p.length:= by simp at hi; omega
  subst this; rw [P9]; exact hx
theorem C3b {σ ρ:Type} {b:σ→Option (σ ⊕ ρ)} (I:Nat→σ→Prop) (n:Nat) (J:ρ→Prop) (hn:n < 9223372036854775808)
  (hs:∀i s,i < n→I i s→∃ s',b s = some (.inl s')∧I (i + 1) s') (he:∀s,I n s→∃ r,b s = some (.inr r)∧J r) (s:σ) (h0:I 0 s):∃r,loop b s = some r∧J r:= by
 have key:∀k i s m,i + k = n→k < m→I i s→∃ r,C29 b m s = some r∧J r:= by
  intro k
  induction k with
  | zero =>
   intro i s m hi hm hI
   obtain ⟨m',rfl⟩:∃m',m = m' + 1:=⟨m - 1,by omega⟩
   have:i = n:= by omega
   subst this
   obtain ⟨r,h1,h2⟩:=he s hI
   exact ⟨r,by rw [A4g,h1],h2⟩
  | succ k ih =>
   intro i s m hi hm hI
   obtain ⟨m',rfl⟩:∃m',m = m' + 1:=⟨m - 1,by omega⟩
   obtain ⟨s',h1,h2⟩:=hs i s (by omega) hI
   obtain ⟨r,h3,h4⟩:=ih (i + 1) s' m' (by omega) (by omega) h2
   exact ⟨r,by rw [A4g,h1]; exact h3,h4⟩
 exact key n 0 s _ (by omega) hn h0
theorem A7t (t:VaTrain):R9 t = some ((check t).2.2 == 0):= by
 unfold R9
 rw [T4]; rfl
section
variable {β:Type} {n:Nat}
theorem B6w (k:IArr n):∀(es:List (IArr n × β)) (i:Nat),mfind k es (i + 1) = (mfind k es i).map fun x=>(x.1 + 1,x.2)
 | [],_=>rfl
 | e :: es,i=>by
  unfold mfind
  split
  ·rfl
  ·exact B6w k es (i + 1)
theorem B2s (k:IArr n) (e:IArr n × β) (es:List (IArr n × β)):mget (e :: es) k = if (k.l == e.1.l) = true then some e.2 else mget es k:= by
 unfold mget
 rw [mfind]
 split
 ·rfl
 ·rw [B6w]; cases mfind k es 0 <;> rfl
theorem D5k (k:IArr n) (v:β) (e:IArr n × β) (es:List (IArr n × β)):mset (e :: es) k v = if (k.l == e.1.l) = true then (k,v) :: es else e :: mset es k v:= by
 have e1:mfind k (e :: es) 0 = if (k.l == e.1.l) = true then some (0,e.2) else (mfind k es 0).map fun x=>(x.1 + 1,x.2):= by
  rw [mfind,B6w]
 unfold mset
 rw [e1]
 by_cases h:(k.l == e.1.l) = true
 ·rw [if_pos h,if_pos h]; rfl
 ·rw [if_neg h,if_neg h]
  cases mfind k es 0 with
  | none=>rfl
  | some x=>rfl
theorem C7d (k:IArr n) (v:β) (q:IArr n):∀es:List (IArr n × β),mget (mset es k v) q = if (q.l == k.l) = true then some v else mget es q
 | []=>by
  show mget [(k,v)] q = _
  rw [B2s]
 | e :: es=>by
  rw [D5k]
  by_cases h:(k.l == e.1.l) = true
  ·rw [if_pos h,B2s,B2s]
   have he:k.l = e.1.l:= by simpa using h
   by_cases h2:(q.l == k.l) = true
   ·rw [if_pos h2,if_pos h2]
   ·rw [if_neg h2,if_neg h2,if_neg (by rw [← he]; exact h2)]
  ·rw [if_neg h,B2s,B2s,C7d k v q es]
   by_cases h2:(q.l == k.l) = true
   ·have hq:q.l = k.l:= by simpa using h2
    rw [if_neg (by rw [hq]; exact h),if_pos h2,if_pos h2]
   ·rw [if_neg h2,if_neg h2]
end
def Inv (t:VaTrain) (ms:List (IArr 6 × van_found)):Prop:=∀ p x,mget ms p = some x→look0 t p = some x
theorem C8r (t:VaTrain):Inv t []:=fun p x h=>by simp [mget,mfind] at h
theorem C27 {t:VaTrain} {ms:List (IArr 6 × van_found)} {p:IArr 6} {x:van_found} (hi:Inv t ms) (h:look0 t p = some x):∃ms',B8a t ms p = some (x,ms')∧Inv t ms':= by
 unfold B8a
 cases hg:mget ms p with
 | some y =>
  have:=hi p y hg
  rw [h] at this
  cases this
  exact ⟨ms,rfl,hi⟩
 | none =>
  rw [h]
  refine ⟨_,rfl,fun q y hq=>?_⟩
  rw [C7d] at hq
  split at hq
  ·next e =>
   have:q = p:=IArr.ext (by simpa using e)
   cases hq; rw [this]; exact h
  ·exact hi q y hq
end Vn
end
section
set_option maxRecDepth 100000
set_option maxHeartbeats 0
namespace Vn
open Go Am Go.Proofs.Ytjjmechghfjbmaa.Cd
def A2o (a0:VaTrain) (s1:((List (List Int)) × Int)) (s4:(Int × (List (List Int)))) (s7:(Int × (List (List Int)))):Option ((Int × (List (List Int))) ⊕ (List (List Int))) :=
 if (decide (s7.1≤(List.length a0.Vans:Int))) = true then
  (if (s7.1 == (List.length a0.Vans:Int)) = true then
   some (-1)
  else
   some s7.1).bind fun (p10:Int) =>
  (idx s1.1 s4.1).bind fun x12 =>
  (app 8 ([]:List Int) x12).bind fun x13 =>
  (app 8 x13 [p10]).bind fun x14 =>
  (S9 a0 x14).bind fun x15 =>
  if x15 = true then
  (app 24 s7.2 [x14]).bind fun x17 =>
  some (.inl ((w64 (s7.1 + 1)),x17))
  else
  some (.inl ((w64 (s7.1 + 1)),s7.2))
 else
  some (.inr s7.2)
def A2p (a0:VaTrain) (s1:((List (List Int)) × Int)) (s4:(Int × (List (List Int)))):Option ((Int × (List (List Int))) ⊕ (List (List Int))) :=
 if (decide (s4.1 < (List.length s1.1:Int))) = true then
  (loop (A2o a0 s1 s4) (0,s4.2)).bind fun (o18:(List (List Int))) =>
  some (.inl ((w64 (s4.1 + 1)),o18))
 else
  some (.inr s4.2)
def A4p (a0:VaTrain) (s1:((List (List Int)) × Int)):Option (((List (List Int)) × Int) ⊕ (List (List Int))) :=
 if (decide (s1.2 < (List.length a0.Crates:Int))) = true then
  (loop (A2p a0 s1) (0,([]:List (List Int)))).bind fun (o19:(List (List Int))) =>
  some (.inl (o19,(w64 (s1.2 + 1))))
 else
  some (.inr s1.1)
def A4o (a0:VaTrain):Option (List (List Int)) :=
 (loop (A4p a0) ([([]:List Int)],0)).bind fun (o20:(List (List Int))) =>
 some o20
end Vn
end
section
namespace Vn
open Go Am
def wheres (t:VaTrain):List Int:=(List.range t.Vans.length).map (fun (v:Nat)=>(v:Int))++[-1]
theorem A3h (t:VaTrain):(wheres t).length = t.Vans.length + 1:= by simp [wheres]
theorem C48 {t:VaTrain} {i:Nat} (hi:i≤t.Vans.length):(wheres t)[i]? = some (if (i:Int) == t.Vans.length then (-1:Int) else (i:Int)):= by
 unfold wheres
 by_cases c:i < t.Vans.length
 ·rw [List.getElem?_append_left (by simpa using c),List.getElem?_map,List.getElem?_range c,if_neg (by rw [beq_iff_eq]; omega)]; rfl
 ·have:i = t.Vans.length:= by omega
  subst this
  rw [List.getElem?_append_right (by simp)]; simp
theorem B6v {t:VaTrain} {v:Int}:v ∈ wheres t↔-1≤v∧v < t.Vans.length:= by
 unfold wheres
 rw [List.mem_append,List.mem_map,List.mem_singleton]
 constructor
 ·rintro (⟨i,hi,rfl⟩ | rfl)
  ·have:=List.mem_range.mp hi; omega
  ·omega
 ·rintro ⟨a,b⟩
  by_cases c:v = -1
  ·exact .inr c
  ·exact .inl ⟨v.toNat,List.mem_range.mpr (by omega),by omega⟩
def ext (t:VaTrain) (p:List Int):List (List Int):=((wheres t).map fun v=>p++[v]).filter (B4c t)
def PLn (t:VaTrain):Nat→List (List Int)
 | 0=>[[]]
 | n + 1=>(PLn t n).flatMap (ext t)
def PL (t:VaTrain):List (List Int):=PLn t t.Crates.length
theorem B8d {t:VaTrain} {p q:List Int}:q ∈ ext t p↔∃ v:Int,(-1≤v∧v < t.Vans.length)∧q = p++[v]∧B0b t q:= by
 unfold ext
 rw [List.mem_filter,List.mem_map,B5r]
 constructor
 ·rintro ⟨⟨v,hv,rfl⟩,hg⟩; exact ⟨v,B6v.mp hv,rfl,hg⟩
 ·rintro ⟨v,hv,rfl,hg⟩; exact ⟨⟨v,B6v.mpr hv,rfl⟩,hg⟩
theorem D3z (t:VaTrain) (p:List Int):(ext t p).length≤t.Vans.length + 1:= by
 unfold ext
 exact Nat.le_trans (List.length_filter_le _ _) (by rw [List.length_map,A3h]; exact Nat.le_refl _)
theorem B9j {t:VaTrain} (h:TOk t):B0b t []:= by
 refine ⟨fun v hv=>(h.van v hv).room0,fun i hi hB=>?_⟩
 have:=(h.pair i hi).a0; have:=(h.pair i hi).ab
 have hB:t.Apart[i]!.B < 0:=hB
 omega
theorem C8p {t:VaTrain} {p:List Int} {x:Int} (h:L6 t (p++[x])):L6 t p:=fun i hi=>by
 have:=h i (by simp; omega)
 rwa [A06 hi] at this
theorem C8u {t:VaTrain} (h:TOk t):∀{n:Nat},n≤t.Crates.length→∀ {p:List Int},p ∈ PLn t n↔p.length = n∧L6 t p∧B0b t p
 | 0,_,p=>by
  show p ∈ [[]]↔_
  rw [List.mem_singleton]
  constructor
  ·rintro rfl; exact ⟨rfl,fun i hi=>by simp at hi,B9j h⟩
  ·exact fun x=>List.length_eq_zero_iff.mp x.1
 | n + 1,hn,p=>by
  show p ∈ (PLn t n).flatMap (ext t)↔_
  rw [List.mem_flatMap]
  constructor
  ·rintro ⟨q,hq,hp⟩
   obtain ⟨a,b,_⟩:=(C8u h (by omega)).mp hq
   obtain ⟨v,hv,rfl,hg⟩:=B8d.mp hp
   exact ⟨by simp; omega,B1k b hv,hg⟩
  ·rintro ⟨a,b,c⟩
   rcases List.eq_nil_or_concat p with rfl | ⟨q,v,rfl⟩
   ·simp at a
   rw [List.concat_eq_append] at a b c ⊢
   have hq:q.length = n:= by simp at a; omega
   refine ⟨q,(C8u h (by omega)).mpr ⟨hq,C8p b,D2n h (by omega) c⟩,B8d.mpr ⟨v,?_,rfl,c⟩⟩
   have:=b q.length (by simp)
   rwa [P9] at this
theorem C74 (t:VaTrain) (hv:t.Vans.length≤3):∀n,(PLn t n).length≤4 ^ n
 | 0=>Nat.le_refl 1
 | n + 1=>by
  show ((PLn t n).flatMap (ext t)).length≤_
  have:∀l:List (List Int),(l.flatMap (ext t)).length≤4 * l.length:= by
   intro l
   induction l with
   | nil=>exact Nat.le_refl 0
   | cons a l ih =>
    rw [List.flatMap_cons,List.length_append,List.length_cons]
    have:=D3z t a
    omega
  have h1:=this (PLn t n)
  have h2:=C74 t hv n
  rw [Nat.pow_succ]; omega
theorem pow4 {n:Nat} (h:n≤6):4 ^ n≤4096:=Nat.pow_le_pow_right (by decide) h
theorem A4h {t:VaTrain} (h:TOk t) {p:List Int}:p ∈ PL t↔PlanOk t p:= by
 unfold PL
 rw [C8u h (Nat.le_refl _)]
 constructor
 ·exact fun ⟨a,b,c⟩=>⟨a,b,(A16 t p).mpr ((B3g h a).mp c)⟩
 ·exact fun x=>⟨x.len,x.range,(B3g h x.len).mpr ((A16 t p).mp x.good)⟩
theorem D15 {t:VaTrain} (h:TOk t):(PL t).length≤4096 :=
 Nat.le_trans (C74 t h.vans _) (pow4 h.crates)
theorem A30 {α:Type} {l:List α} {i:Nat} {x:α} (h:l[i]? = some x):l.take (i + 1) = l.take i++[x]:= by
 rw [List.take_add_one,h]; rfl
theorem D8v {t:VaTrain} (h:TOk t) (out acc:List (List Int)) (i:Int) (k:Nat) (hk:k < out.length) (hl:out[k]!.length < t.Crates.length) (ha:acc.length≤100000) :
  loop (A2o t (out,i) ((k:Int),acc)) (0,acc) = some (acc++ext t out[k]!):= by
 have hv:=h.vans; have hc:=h.crates
 have hx:=E5 hk
 generalize out[k]! = p at *
 refine G4 (b:=A2o t (out,i) ((k:Int),acc)) (fun (j:Nat)=>((j:Int),acc++(((wheres t).take j).map fun v=>p++[v]).filter (B4c t))) (t.Vans.length + 1) (r:=acc++ext t p) (by omega) (fun j hj=>?_) ?_ |> fun x=>by
   rw [List.take_zero,List.map_nil,List.filter_nil,List.append_nil] at x; exact x
 ·unfold A2o
  simp only []
  rw [if_pos (by rw [decide_eq_true_eq]; omega),hx]
  have hw:=C48 (t:=t) (i:=j) (by omega)
  rw [A30 hw]
  generalize hw2:(if (j:Int) == t.Vans.length then (-1:Int) else (j:Int)) = w at *
  have e:(if ((j:Int) == (t.Vans.length:Int)) = true then some (-1:Int) else some (j:Int)) = some w:= by
   rw [← hw2]; split <;> rfl
  rw [e]
  simp only [Option.bind_some]
  rw [W4 (by omega) (by simp; omega)]
  simp only [Option.bind_some,List.nil_append]
  rw [W4 (by omega) (by simp; omega)]
  simp only [Option.bind_some]
  rw [B2z h _ (by simp; omega)]
  simp only [Option.bind_some]
  rw [List.map_append,List.filter_append,List.map_singleton,D0 (n:=(j:Int) + 1) (by omega)]
  have hfl:((((wheres t).take j).map fun v=>p++[v]).filter (B4c t)).length≤4:=Nat.le_trans (List.length_filter_le _ _) (by rw [List.length_map,List.length_take,A3h]; omega)
  cases hg:B4c t (p++[w]) with
  | true =>
   rw [if_pos rfl,W4 (by omega) (by rw [List.length_append]; simp; simp at hfl; omega)]
   simp only [Option.bind_some,List.filter_cons,hg,if_true,List.filter_nil,List.append_assoc]; rfl
  | false =>
   simp only [List.filter_cons,hg,Bool.false_eq_true,if_false,List.filter_nil,List.append_nil]; rfl
 ·unfold A2o
  simp only []
  rw [if_neg (by rw [decide_eq_true_eq]; omega),List.take_of_length_le (by rw [A3h]; exact Nat.le_refl _)]; rfl
theorem C95 {t:VaTrain} {p q:List Int} (h:q ∈ ext t p):q.length = p.length + 1:= by
 obtain ⟨v,_,rfl,_⟩:=B8d.mp h
 simp
theorem D7f (t:VaTrain) (hv:t.Vans.length≤3) (l:List (List Int)):(l.flatMap (ext t)).length≤4 * l.length:= by
 induction l with
 | nil=>exact Nat.le_refl 0
 | cons a l ih =>
  rw [List.flatMap_cons,List.length_append,List.length_cons]
  have:=D3z t a
  omega
theorem D8w {t:VaTrain} (h:TOk t) (out:List (List Int)) (i:Int) (hl:∀q ∈ out,q.length < t.Crates.length) (ho:out.length≤4096) :
  loop (A2p t (out,i)) (0,[]) = some (out.flatMap (ext t)):= by
 have hv:=h.vans
 refine G4 (b:=A2p t (out,i)) (fun (k:Nat)=>((k:Int),(out.take k).flatMap (ext t))) out.length (r:=out.flatMap (ext t)) (by omega) (fun k hk=>?_) ?_
 ·unfold A2p
  simp only []
  have hf:=D7f t hv (out.take k)
  rw [List.length_take] at hf
  rw [if_pos (by rw [decide_eq_true_eq]; omega),D8v h out _ i k hk (hl _ (A07 hk)) (by omega)]
  simp only [Option.bind_some]
  rw [D0 (by omega),A30 (List.getElem?_eq_getElem hk),List.flatMap_append,getElem!_pos out k hk]
  simp
 ·unfold A2p
  simp only []
  rw [if_neg (by rw [decide_eq_true_eq]; omega),List.take_length]
theorem B7g {t:VaTrain}:∀{n:Nat} {q:List Int},q ∈ PLn t n→q.length = n
 | 0,q,hq=>by
  have:q = []:=List.mem_singleton.mp hq
  rw [this]; rfl
 | n + 1,q,hq=>by
  obtain ⟨p,hp,hq⟩:=List.mem_flatMap.mp hq
  rw [C95 hq,B7g hp]
theorem B0x {t:VaTrain} (h:TOk t):A4o t = some (PL t):= by
 have hv:=h.vans; have hc:=h.crates
 unfold A4o
 rw [show (([([]:List Int)],(0:Int)):List (List Int) × Int) = (PLn t 0,((0:Nat):Int)) from rfl,G4 (b:=A4p t) (fun i=>(PLn t i,(i:Int))) t.Crates.length (r:=PL t) (by omega) (fun i hi=>by
  unfold A4p
  simp only []
  rw [if_pos (by rw [decide_eq_true_eq]; omega),D8w h _ _ (fun q hq=>by rw [B7g hq]; exact hi) (Nat.le_trans (C74 t hv i) (pow4 (by omega)))]
  simp only [Option.bind_some]
  rw [D0 (by omega)]; rfl) (by
  unfold A4p
  simp only []
  rw [if_neg (by rw [decide_eq_true_eq]; omega)]; rfl)]
 rfl
section
variable {α σ ρ:Type}
def B4v (f:α→σ→Option (σ ⊕ ρ)):List α→σ→Option (σ ⊕ ρ)
 | [],s=>some (.inl s)
 | a :: l,s=>(f a s).bind fun x=>match x with
  | .inl s'=>B4v f l s'
  | .inr r=>some (.inr r)
theorem B7z (f:α→σ→Option (σ ⊕ ρ)) (m:List α):∀(l:List α) (s:σ),B4v f (l++m) s = (B4v f l s).bind fun x=>match x with
  | .inl s'=>B4v f m s'
  | .inr r=>some (.inr r)
 | [],s=>rfl
 | a :: l,s=>by
  show (f a s).bind _ = ((f a s).bind _).bind _
  cases f a s with
  | none=>rfl
  | some x=>cases x with
   | inl s'=>exact B7z f m l s'
   | inr r=>rfl
theorem D5g {b:σ→Option (σ ⊕ ρ)} (I:Nat→σ→Prop) (n:Nat) (J:ρ→Prop) (hn:n < 9223372036854775808)
  (hs:∀i s,i < n→I i s→(∃ s',b s = some (.inl s')∧I (i + 1) s')∨∃ r,b s = some (.inr r)∧J r) (he:∀s,I n s→∃ r,b s = some (.inr r)∧J r) (s:σ) (h0:I 0 s):∃r,loop b s = some r∧J r:= by
 have key:∀k i s m,i + k = n→k < m→I i s→∃ r,C29 b m s = some r∧J r:= by
  intro k
  induction k with
  | zero =>
   intro i s m hi hm hI
   obtain ⟨m',rfl⟩:∃m',m = m' + 1:=⟨m - 1,by omega⟩
   have:i = n:= by omega
   subst this
   obtain ⟨r,h1,h2⟩:=he s hI
   exact ⟨r,by rw [A4g,h1],h2⟩
  | succ k ih =>
   intro i s m hi hm hI
   obtain ⟨m',rfl⟩:∃m',m = m' + 1:=⟨m - 1,by omega⟩
   rcases hs i s (by omega) hI with ⟨s',h1,h2⟩ | ⟨r,h1,h2⟩
   ·obtain ⟨r,h3,h4⟩:=ih (i + 1) s' m' (by omega) (by omega) h2
    exact ⟨r,by rw [A4g,h1]; exact h3,h4⟩
   ·exact ⟨r,by rw [A4g,h1],h2⟩
 exact key n 0 s _ (by omega) hn h0
end
def DF (t:VaTrain):Nat→List Int→List (List Int)
 | 0,q=>[q]
 | d + 1,q=>(ext t q).flatMap (DF t d)
theorem D6i (t:VaTrain):∀d n,(PLn t n).flatMap (DF t d) = PLn t (n + d)
 | 0,n=>by
  show (PLn t n).flatMap (fun q=>[q]) = _
  rw [List.flatMap_singleton']; rfl
 | d + 1,n=>by
  show (PLn t n).flatMap (fun q=>(ext t q).flatMap (DF t d)) = _
  rw [← List.flatMap_assoc]
  show (PLn t (n + 1)).flatMap (DF t d) = _
  rw [D6i t d (n + 1),show n + 1 + d = n + (d + 1) by omega]
theorem E28 (t:VaTrain):DF t t.Crates.length [] = PL t:= by
 have:=D6i t t.Crates.length 0
 rw [Nat.zero_add] at this
 rw [PL,← this]
 show _ = [[]].flatMap _
 rw [List.flatMap_singleton]
theorem C5k {t:VaTrain} (h:TOk t) {q:List Int} {v:Int} (hq:q.length < t.Crates.length) (hr:L6 t (q++[v])) (hg:B0b t q):B4c t (q++[v]) = A13 t (q++[v]) q.length:= by
 have hlen:(q++[v]).length = q.length + 1:= by simp
 have hv:=hr q.length (by omega)
 rw [P9] at hv
 rw [Bool.eq_iff_iff,B5r,A5p,P9]
 constructor
 ·intro g
  by_cases c:v = -1
  ·exact .inl c
  refine .inr ⟨fun i hi ⟨e,hp⟩=>?_,?_⟩
  ·obtain ⟨j,hj,e1,e2⟩:=(B3s t i q.length).mp hp
   refine g.2 j hj (by rw [hlen]; omega) ?_
   rw [e1,e2,Int.toNat_natCast,Int.toNat_natCast,e,P9]
   exact ⟨rfl,c⟩
  ·have:=g.1 v.toNat (by omega)
   rw [hlen] at this
   rwa [show ((v.toNat:Nat):Int) = v by omega] at this
 ·intro g
  rcases g with rfl | ⟨g1,g2⟩
  ·exact B3h h hq hg
  by_cases c:v = -1
  ·subst c; exact B3h h hq hg
  refine ⟨fun u hu=>?_,fun i hi hB hc=>?_⟩
  ·rw [hlen]
   by_cases e:v = (u:Int)
   ·subst e; simpa using g2
   ·rw [A0h,P9,if_neg (by rw [beq_iff_eq]; exact e),A9s (p:=q++[v]) (q:=q) fun i hi=>A06 hi]
    exact hg.1 u hu
  ·have hp:=h.pair i hi
   have:=hp.a0; have:=hp.ab
   rw [hlen] at hB
   by_cases c2:t.Apart[i]!.B < q.length
   ·rw [A06 (by omega),A06 (by omega)] at hc
    exact hg.2 i hi c2 hc
   ·have e:t.Apart[i]!.B.toNat = q.length:= by omega
    rw [e,P9] at hc
    exact g1 t.Apart[i]!.A.toNat (by omega) ⟨hc.1,(B3s t _ _).mpr ⟨i,hi,by omega,by omega⟩⟩
theorem B4k {q:List Int} {v:Int} (h6:q.length < 6):(K2 q).set (q.length:Int) (w64 (v + 1)) = K2 (q++[v]):= by
 have:=D3r (p:=q++[v]) (i:=q.length) (by simp) (by simp; omega)
 rw [P9,List.take_left,show q.length + 1 = (q++[v]).length by simp,List.take_length] at this
 exact this
theorem D0j {n:Nat} (a:IArr n) (i x y:Int):(a.set i x).set i y = a.set i y:= by
 apply IArr.ext
 show (a.l.set _ _).set _ _ = _
 rw [List.set_set]; rfl
theorem C2y {n:Nat} (a:IArr n) {i:Nat} (hi:i < n):∃x,A0y n a.l (i:Int) = some x :=
 ⟨_,C2r (List.getElem?_eq_getElem (by rw [a.h]; exact hi)) hi⟩
section
variable {σ ρ:Type}
theorem D53 {t:VaTrain} {i:Nat} (hv:t.Vans.length≤3) (hi:i≤t.Vans.length):B56 (w64 ((i:Int) + 1)) (w64 ((t.Vans.length:Int) + 1)) = some (w64 ((if (i:Int) == t.Vans.length then (-1:Int) else (i:Int)) + 1)):= by
 rw [D0 (n:=(i:Int) + 1) (by omega),D0 (n:=(t.Vans.length:Int) + 1) (by omega)]
 unfold B56
 rw [if_neg (by omega)]
 congr 1
 by_cases c:(i:Int) = t.Vans.length
 ·rw [if_pos (by rw [beq_iff_eq]; exact c),c,Int.tmod_self,D0 (by omega)]; rfl
 ·rw [if_neg (by rw [beq_iff_eq]; exact c),D0 (by omega),Int.tmod_eq_of_lt (by omega) (by omega)]
theorem C7n {t:VaTrain} (h:TOk t) (body:IArr 6→σ→Option (σ ⊕ ρ)):∀(d:Nat) (q:List Int) (s:σ) (X:σ ⊕ ρ),q.length + d = t.Crates.length→L6 t q→B0b t q →
  B4v (fun q s=>body (K2 q) s) (DF t d q) s = some X→∀ k,d < k→∃ p',B17 t body k (q.length:Int) (K2 q) s = some (p',X)∧(X.isLeft = true→p' = K2 q)
 | 0,q,s,X,hl,_,_,hf,k,hk=>by
  obtain ⟨k,rfl⟩:∃m,k = m + 1:=⟨k - 1,by omega⟩
  refine ⟨K2 q,?_,fun _=>rfl⟩
  unfold B17
  rw [if_pos (by rw [beq_iff_eq]; omega)]
  have hf:(body (K2 q) s).bind _ = some X:=hf
  cases hb:body (K2 q) s with
  | none=>rw [hb] at hf; exact absurd hf (by simp)
  | some x =>
   rw [hb] at hf
   cases x with
   | inl s' =>
    have:some (Sum.inl s') = some X:=hf
    rw [← Option.some.inj this]; rfl
   | inr r =>
    have:some (Sum.inr r) = some X:=hf
    rw [← Option.some.inj this]; rfl
 | d + 1,q,s,X,hl,hr,hg,hf,k,hk=>by
  obtain ⟨k,rfl⟩:∃m,k = m + 1:=⟨k - 1,by omega⟩
  have hv:=h.vans; have hc:=h.crates
  unfold B17
  rw [if_neg (by rw [beq_iff_eq]; omega)]
  have hW:(w64 ((t.Vans.length:Int) + 1)) = (t.Vans.length:Int) + 1:=D0 (by omega)
  obtain ⟨o,ho,hJ⟩:=D5g (b:=B94 t (B17 t body k) (q.length:Int) (w64 ((t.Vans.length:Int) + 1)))
   (fun i x=>x.1 = (i:Int)∧(∀ y:Int,x.2.1.set (q.length:Int) y = (K2 q).set (q.length:Int) y)∧B4v (fun q s=>body (K2 q) s) (((((wheres t).drop i).map fun v=>q++[v]).filter (B4c t)).flatMap (DF t d)) x.2.2 = some X)
   (t.Vans.length + 1)
   (fun o=>match o with | .inl (_,r)=>X = .inr r | .inr (p',s')=>X = .inl s'∧∀ y:Int,p'.set (q.length:Int) y = (K2 q).set (q.length:Int) y)
   (by omega) (by
    rintro i ⟨n,p,s⟩ hi ⟨e1,e2,e3⟩
    simp only at e1 e2 e3
    subst e1
    have hwg:=C48 (t:=t) (i:=i) (by omega)
    rw [List.drop_eq_getElem_cons (by rw [A3h]; exact hi)] at e3
    rw [List.getElem?_eq_getElem (by rw [A3h]; exact hi)] at hwg
    have hrw:=D53 (t:=t) (i:=i) hv (by omega)
    have hwr:-1≤(wheres t)[i]'(by rw [A3h]; exact hi)∧(wheres t)[i]'(by rw [A3h]; exact hi) < t.Vans.length:=B6v.mp (List.getElem_mem _)
    rw [← Option.some.inj hwg] at hrw
    generalize (wheres t)[i]'(by rw [A3h]; exact hi) = w at *
    rw [List.map_cons,List.filter_cons] at e3
    have hr2:=B1k (x:=w) hr hwr
    obtain ⟨z,hz⟩:=C2y p (i:=q.length) (show q.length < 6 by omega)
    have hal:=B26 h (q++[w]) (by simp; omega) hr2 q.length (by simp)
    rw [← C5k h (by omega) hr2 hg] at hal
    unfold B94
    simp only []
    rw [if_pos (by rw [decide_eq_true_eq]; omega),hrw]
    simp only [Option.bind_some]
    rw [hz]
    simp only [Option.bind_some]
    rw [e2,B4k (by omega),hal]
    simp only [Option.bind_some]
    rw [D0 (n:=(i:Int) + 1) (by omega)]
    cases hgp:B4c t (q++[w]) with
    | false =>
     rw [hgp,if_neg (by simp)] at e3
     rw [if_neg (by simp)]
     exact .inl ⟨_,rfl,rfl,fun y=>by rw [← B4k (by omega),D0j],e3⟩
    | true =>
     rw [hgp,if_pos rfl,List.flatMap_cons,B7z] at e3
     rw [if_pos rfl]
     cases hx:B4v (fun q s=>body (K2 q) s) (DF t d (q++[w])) s with
     | none=>rw [hx] at e3; exact absurd e3 (by simp)
     | some x =>
      rw [hx] at e3
      obtain ⟨p',h1,h2⟩:=C7n h body d (q++[w]) s x (by simp; omega) hr2 ((B5r t _).mp hgp) hx k (by omega)
      have e5:w64 ((q.length:Int) + 1) = (((q++[w]).length:Nat):Int):= by rw [D0 (by omega)]; simp
      rw [e5,h1]
      simp only [Option.bind_some]
      cases x with
      | inl s' =>
       refine .inl ⟨_,rfl,rfl,fun y=>?_,e3⟩
       rw [h2 rfl,← B4k (by omega),D0j]
      | inr r =>
       exact .inr ⟨_,rfl,(Option.some.inj e3).symm⟩)
   (by
    rintro ⟨n,p,s⟩ ⟨e1,e2,e3⟩
    simp only at e1 e2 e3
    subst e1
    unfold B94
    simp only []
    rw [if_neg (by rw [decide_eq_true_eq]; omega)]
    rw [List.drop_of_length_le (by rw [A3h]; exact Nat.le_refl _)] at e3
    exact ⟨_,rfl,(Option.some.inj e3).symm,e2⟩) (0,K2 q,s) ⟨rfl,fun _=>rfl,hf⟩
  rw [ho]
  simp only [Option.bind_some]
  rcases o with ⟨p',r⟩ | ⟨p',s'⟩
  ·have hJ:X = .inr r:=hJ
   subst hJ
   exact ⟨p',rfl,fun e=>absurd e (by simp)⟩
  ·obtain ⟨rfl,hJ⟩:=hJ
   obtain ⟨z,hz⟩:=C2y p' (i:=q.length) (show q.length < 6 by omega)
   simp only []
   rw [hz]
   simp only [Option.bind_some]
   have e0:p'.set (q.length:Int) 0 = K2 q:= by
    rw [hJ]
    apply IArr.ext
    show (K2 q).l.set _ 0 = _
    rw [Int.toNat_natCast]
    apply List.ext_getElem?
    intro j
    rw [List.getElem?_set]
    split
    ·next e=>subst e; rw [if_pos (by rw [B28]; omega),B4j (Nat.le_refl _) (by omega)]
    ·rfl
   exact ⟨_,rfl,fun _=>e0⟩
theorem B68 {t:VaTrain} (h:TOk t) {body:IArr 6→σ→Option (σ ⊕ ρ)} {s:σ} {X:σ ⊕ ρ} (hf:B4v (fun q s=>body (K2 q) s) (PL t) s = some X):A9p t σ ρ body s = some X:= by
 have hc:=h.crates
 rw [← E28] at hf
 obtain ⟨p',h1,_⟩:=C7n h body t.Crates.length [] s X (by simp) (fun i hi=>by simp at hi) (B9j h) hf 64 (by omega)
 unfold A9p
 rw [← C9k]
 have h1:B17 t body 64 0 (K2 []) s = some (p',X):=h1
 rw [h1]; rfl
end
end Vn
end
section
set_option maxRecDepth 100000
set_option maxHeartbeats 0
namespace Vn
open Go Am Go.Proofs.Ytjjmechghfjbmaa.Cd
end Vn
end
section
namespace Vn
open Go Am
def B0c (t:VaTrain) (p:List Int) (v:Int) (n:Nat) (S:Nat):Int:=iter (fun s a=>a + handled t p v (s:Int) n) S 0
theorem A9w (t:VaTrain) (p:List Int) (v:Int) (n S:Nat):B0c t p v n (S + 1) = B0c t p v n S + handled t p v (S:Int) n:=rfl
end Vn
end
section
set_option maxRecDepth 100000
set_option maxHeartbeats 0
namespace Vn
open Go Am Go.Proofs.Ytjjmechghfjbmaa.Cd
def A57 (a0:VaTrain) (a1:(List Int)) (s1:(Int × Int)):Option ((Int × Int) ⊕ Int) :=
 if (decide (s1.2 < (List.length a1:Int))) = true then
  (A2w a0 a1 s1.2).bind fun x4 =>
  if (x4 == 1) = true then
  some (.inl ((w64 (s1.1 + 1)),(w64 (s1.2 + 1))))
  else
  some (.inl (s1.1,(w64 (s1.2 + 1))))
 else
  some (.inr s1.1)
def A4q (a0:VaTrain) (a1:(List Int)):Option Int :=
 (loop (A57 a0 a1) (0,0)).bind fun (o6:Int) =>
 some o6
end Vn
end
section
namespace Vn
open Go Am
theorem B5s {τ:Type} (g:Nat→τ→τ) (n:Nat) (a:τ):iter g (n + 1) a = g n (iter g n a):=rfl
def N3 (t:VaTrain) (p:List Int) (n:Nat):Int:=iter (fun i a=>if L7 t p i == 1 then a + 1 else a) n 0
def J1 (t:VaTrain) (p:List Int):Int:=N3 t p p.length
theorem A2r (t:VaTrain) (p:List Int):∀n:Nat,0≤N3 t p n∧N3 t p n≤n
 | 0=>⟨Int.le_refl 0,Int.le_refl 0⟩
 | n + 1=>by
  have ih:=A2r t p n
  unfold N3 at ih ⊢
  rw [B5s]
  split <;> omega
def A1y (t:VaTrain) (p:List Int) (v:Nat):Int:=iter (fun u a=>a + B0c t p (u:Int) p.length t.Stops.toNat) v 0
def A5o (t:VaTrain) (p:List Int):Int:=A1y t p t.Vans.length
theorem B7k (t:VaTrain) (p:List Int) (v:Int) (n:Nat):∀S:Nat,0≤B0c t p v n S∧B0c t p v n S≤n * S
 | 0=>⟨Int.le_refl 0,by show (0:Int)≤_; rw [Int.natCast_zero,Int.mul_zero]; exact Int.le_refl 0⟩
 | S + 1=>by
  have ih:=B7k t p v n S
  have h:=A0x t p v (S:Int) n
  rw [A9w]
  have:(n:Int) * ((S + 1:Nat):Int) = n * S + n:= by rw [Int.natCast_add,Int.mul_add]; simp
  omega
theorem B4h {t:VaTrain} (h:TOk t) (p:List Int) (hp:p.length≤6):∀v:Nat,0≤A1y t p v∧A1y t p v≤18 * v
 | 0=>⟨Int.le_refl 0,Int.le_refl 0⟩
 | v + 1=>by
  have ih:=B4h h p hp v
  have hb:=B7k t p (v:Int) p.length t.Stops.toNat
  have h2:=h.stops; have h1:=h.stops1
  have:(p.length:Int) * (t.Stops.toNat:Int)≤6 * 3:=Int.mul_le_mul (by omega) (by omega) (by omega) (by omega)
  unfold A1y at ih ⊢
  rw [B5s]
  omega
def A6h (t:VaTrain) (p:List Int) (n:Nat):Int:=iter (fun i a=>if p[i]! == -1 then 301 else max a ((E8 t p p[i]!.toNat t.Crates[i]!.Stop.toNat).Hi - t.Crates[i]!.By)) n 0
def B0l (t:VaTrain) (p:List Int):Int:=A6h t p p.length
theorem B2p {t:VaTrain} (h:TOk t) (p:List Int) (hp:p.length = t.Crates.length) (hr:L6 t p):∀n:Nat,n≤p.length→0≤A6h t p n∧A6h t p n≤20000
 | 0,_=>⟨Int.le_refl 0,show (0:Int)≤20000 by decide⟩
 | n + 1,hn=>by
  have ih:=B2p h p hp hr n (by omega)
  have hc:=h.crate n (by omega)
  have:=hc.by0; have:=hc.stop; have:=hc.stop0
  have r:=hr n (by omega)
  unfold A6h at ih ⊢
  rw [B5s]
  split
  ·omega
  ·next e =>
   have e:p[n]! ≠ -1:= by simpa using e
   have:=A8n h p hp p[n]!.toNat (by omega) t.Crates[n]!.Stop.toNat (by omega)
   omega
theorem A8k {t:VaTrain} (h:TOk t) (p:List Int) (hp:p.length = t.Crates.length) (hr:L6 t p):A4q t p = some (J1 t p):= by
 have hl:=h.crates
 unfold A4q
 rw [show ((0:Int),(0:Int)) = (N3 t p 0,((0:Nat):Int)) from rfl,G4 (b:=A57 t p) (fun i=>(N3 t p i,(i:Int))) p.length (r:=J1 t p) (by omega) (fun i hi=>by
  unfold A57
  simp only []
  have hb:=A2r t p i
  rw [if_pos (by rw [decide_eq_true_eq]; omega),B0y h p hp hr i hi]
  simp only [Option.bind_some]
  rw [D0 (n:=(i:Int) + 1) (by omega),D0 (n:=N3 t p i + 1) (by omega)]
  show _ = some (Sum.inl ((if L7 t p i == 1 then N3 t p i + 1 else N3 t p i),((i + 1:Nat):Int)))
  split <;> rfl) (by
  unfold A57
  simp only []
  rw [if_neg (by rw [decide_eq_true_eq]; omega)]; rfl)]
 rfl
theorem D5f {t:VaTrain} (h:TOk t) (p:List Int) (hp:p.length≤6) (v:Nat) (hv:v < t.Vans.length):loop (B9q (tw t p (v:Int))) (A1y t p v,0) = some (A1y t p (v + 1)):= by
 have hl:=h.crates; have hv3:=h.vans; have h1:=h.stops1; have h2:=h.stops
 have hb:=B4h h p hp v
 have hlen:(tw t p (v:Int)).length = t.Stops.toNat:= by unfold tw; rw [List.length_map,List.length_range]
 have hq:=G4 (b:=B9q (tw t p (v:Int))) (fun s=>(A1y t p v + B0c t p (v:Int) p.length s,(s:Int))) t.Stops.toNat (r:=A1y t p (v + 1)) (by omega) (fun s hs=>by
   unfold B9q
   simp only []
   have hb2:=B7k t p (v:Int) p.length s
   have hb3:=A0x t p (v:Int) (s:Int) p.length
   have:(p.length:Int) * (s:Int)≤6 * 3:=Int.mul_le_mul (by omega) (by omega) (by omega) (by omega)
   rw [if_pos (by rw [decide_eq_true_eq]; omega)]
   unfold tw
   rw [T6 _ hs]
   simp only [Option.bind_some]
   rw [D0 (n:=(s:Int) + 1) (by omega),D0 (by omega),Int.add_assoc]; rfl) (by
   unfold B9q
   simp only []
   rw [if_neg (by rw [decide_eq_true_eq]; omega)]; rfl)
 rw [show A1y t p v + B0c t p (v:Int) p.length 0 = A1y t p v from Int.add_zero _] at hq
 exact hq
def tsT (t:VaTrain) (p:List Int) (v:Nat):List (List Span):=(List.range 3).map fun j=>if j < v then tms t p j else []
theorem C24 {t:VaTrain} (h:TOk t) (p:List Int) (hp:p.length = t.Crates.length) (hr:L6 t p):look0 t (K2 p) = some ⟨J1 t p,A5o t p,B0l t p⟩:= by
 have hl:=h.crates; have hv:=h.vans; have h1:=h.stops1; have h2:=h.stops
 unfold look0
 rw [show (([[],[],[]],0,0):List (List Span) × Int × Int) = (tsT t p 0,A1y t p 0,((0:Nat):Int)) from rfl,G4 (b:=C25 t (K2 p)) (fun v=>(tsT t p v,A1y t p v,(v:Int))) t.Vans.length (r:=(tsT t p t.Vans.length,A5o t p)) (by omega) (fun v hv2=>by
  unfold C25
  simp only []
  rw [if_pos (by rw [decide_eq_true_eq]; omega),A7r h p hp hr v hv2]
  simp only [Option.bind_some]
  rw [show A0y 3 (tsT t p v) (v:Int) = some (if v < v then tms t p v else []) by
   unfold A0y tsT
   rw [if_pos (by omega),Int.toNat_natCast,List.getElem?_map,List.getElem?_range (by omega)]; rfl]
  simp only [Option.bind_some]
  rw [A7s h p hp hr v hv2]
  simp only [Option.bind_some]
  rw [D5f h p (by omega) v hv2]
  simp only [Option.bind_some]
  rw [D0 (by omega),Int.toNat_natCast]
  unfold tsT
  rw [A5v (f:=fun j=>if j < v then tms t p j else []) (g:=fun j=>if j < v + 1 then tms t p j else []) 3 v (tms t p v) (by rw [if_pos (by omega)]) (fun s hs=>by
   by_cases c:s < v
   ·rw [if_pos c,if_pos (by omega)]
   ·rw [if_neg c,if_neg (by omega)])]; rfl) (by
  unfold C25
  simp only []
  rw [if_neg (by rw [decide_eq_true_eq]; omega)]; rfl)]
 simp only [Option.bind_some]
 rw [show ((0,0,0):Int × Int × Int) = (N3 t p 0,A6h t p 0,((0:Nat):Int)) from rfl,G4 (b:=C26 t (K2 p) (tsT t p t.Vans.length)) (fun i=>(N3 t p i,A6h t p i,(i:Int))) p.length (r:=(J1 t p,B0l t p)) (by omega) (fun i hi=>by
  unfold C26
  simp only []
  have hb:=A2r t p i
  have hk:=B2p h p hp hr i (by omega)
  have r:=hr i hi
  have hc:=h.crate i (by omega)
  have:=hc.by0; have:=hc.stop; have:=hc.stop0
  rw [if_pos (by rw [decide_eq_true_eq]; omega),E5 (show i < t.Crates.length by omega),B04 h p hp hr i hi,B5l (by omega) hi]
  simp only [Option.bind_some]
  rw [D0 (n:=(i:Int) + 1) (by omega),D0 (n:=N3 t p i + 1) (by omega),D0 (n:=p[i]! + 1) (by omega)]
  have es:N3 t p (i + 1) = if L7 t p i == 1 then N3 t p i + 1 else N3 t p i:=rfl
  have el:A6h t p (i + 1) = if p[i]! == -1 then 301 else max (A6h t p i) ((E8 t p p[i]!.toNat t.Crates[i]!.Stop.toNat).Hi - t.Crates[i]!.By):=rfl
  rw [es,el]
  by_cases c:p[i]! = -1
  ·rw [c]; rfl
  ·rw [show (p[i]! + 1 == 0) = false from beq_eq_false_iff_ne.mpr (by omega),show (p[i]! == -1) = false from beq_eq_false_iff_ne.mpr c]
   simp only [Bool.false_eq_true,if_false]
   have:=hc.byl
   have htb:=A8n h p hp p[i]!.toNat (by omega) t.Crates[i]!.Stop.toNat (by omega)
   rw [D0 (n:=p[i]! + 1 - 1) (by omega),show p[i]! + 1 - 1 = ((p[i]!.toNat:Nat):Int) by omega]
   have e3:A0y 3 (tsT t p t.Vans.length) ((p[i]!.toNat:Nat):Int) = some (tms t p p[i]!.toNat):= by
    unfold A0y tsT
    rw [if_pos (by omega),Int.toNat_natCast,List.getElem?_map,List.getElem?_range (by omega)]
    show some (if p[i]!.toNat < t.Vans.length then tms t p p[i]!.toNat else []) = _
    rw [if_pos (by omega)]
   rw [e3]
   simp only [Option.bind_some]
   rw [C8n p _ hc.stop0 hc.stop]
   simp only [Option.bind_some]
   rw [D0 (by omega),B5u]; rfl) (by
  unfold C26
  simp only []
  rw [if_neg (by rw [decide_eq_true_eq]; omega)]; rfl)]
 rfl
end Vn
end
section
set_option maxRecDepth 100000
set_option maxHeartbeats 0
namespace Vn
open Go Am Go.Proofs.Ytjjmechghfjbmaa.Cd
end Vn
end
section
namespace Vn
open Go Am
section
variable {α σ ρ τ:Type}
theorem B9f {f:α→σ→Option (σ ⊕ ρ)} {g:τ→α→τ} (R:τ→σ→Prop):∀(l:List α),(∀ a ∈ l,∀ b s,R b s→∃ s',f a s = some (.inl s')∧R (g b a) s')→∀ b s,R b s→∃ s',B4v f l s = some (.inl s')∧R (l.foldl g b) s'
 | [],_,b,s,hs=>⟨s,rfl,hs⟩
 | a :: l,h,b,s,hs=>by
  obtain ⟨s',h1,h2⟩:=h a (List.mem_cons_self) b s hs
  show ∃s',(f a s).bind _ = _∧_
  rw [h1]
  exact B9f R l (fun b hb=>h b (List.mem_cons_of_mem _ hb)) _ _ h2
end
def A1h (t:VaTrain) (b:List Int × Int × Int) (p:List Int):List Int × Int × Int :=
 if (decide (J1 t p > b.2.1) || (J1 t p == b.2.1 && decide (A5o t p < b.2.2))) = true then (p,J1 t p,A5o t p) else b
def I3 (t:VaTrain):List Int × Int × Int:=(PL t).foldl (A1h t) ([],-1,0)
theorem E2e (a b:Int):B0f [a,b] = some (if a = 0 then b else a):= by
 unfold B0f
 have hq:=R3 (b:=A5r [a,b]) 2 (fun i=>if [a,b][i]! = 0 then none else some (.inl [a,b][i]!)) (.inr ()) (by decide) (fun i hi _=>by
  unfold A5r
  rw [if_pos (by rw [decide_eq_true_eq]; show (i:Int) < 2; omega),E5 (show i < [a,b].length from hi)]
  simp only [Option.bind_some]
  generalize [a,b][i]! = x
  by_cases c:x = 0
  ·rw [if_neg (by simpa using c),if_pos c]
  ·rw [if_pos (by simpa using c),if_neg c]) (by
  unfold A5r
  rw [if_neg (by rw [decide_eq_true_eq]; show ¬ ((2:Nat):Int) < 2; omega)])
 rw [hq]
 unfold first first first
 by_cases c:a = 0
 ·by_cases d:b = 0
  ·simp [c,d]
  ·simp [c,d]
 ·simp [c]
theorem D88 (t:VaTrain) (p:List Int) (hp:p.length≤6):0≤J1 t p∧J1 t p≤6:= by
 have:=A2r t p p.length
 unfold J1; omega
theorem D9j {t:VaTrain} (h:TOk t) (p:List Int) (hp:p.length≤6):0≤A5o t p∧A5o t p≤54:= by
 have:=B4h h p hp t.Vans.length
 have:=h.vans
 unfold A5o; omega
structure BestR (t:VaTrain) (b:List Int × Int × Int) (s:List (IArr 6 × van_found) × IArr 6 × van_found):Prop where
 inv:Inv t s.1
 arr:s.2.1 = K2 b.1
 sure:s.2.2.sure_ = b.2.1
 twice:s.2.2.twice_ = b.2.2
 b1:-1≤b.2.1∧b.2.1≤6
 b2:0≤b.2.2∧b.2.2≤54
theorem D4x {t:VaTrain} (h:TOk t):∃s,A9p t ((List (IArr 6 × van_found)) × (IArr 6) × van_found) Unit (A61 t) (([]:(List (IArr 6 × van_found))),(IArr.zero 6),(van_found.mk (-1) 0 0)) = some (.inl s)∧BestR t (I3 t) s:= by
 have hl:=h.crates
 obtain ⟨s,h1,h2⟩:=B9f (ρ:=Unit) (f:=fun q s=>A61 t (K2 q) s) (g:=A1h t) (BestR t) (PL t) (fun p hp b s hb=>by
  have hP:=(A4h h).mp hp
  obtain ⟨ms,h1,h2⟩:=C27 hb.inv (C24 h p hP.len hP.range)
  have hlen:=hP.len
  have q1:=D88 t p (by omega)
  have q2:=D9j h p (by omega)
  have r1:=hb.b1; have r2:=hb.b2
  unfold A61
  simp only []
  rw [h1]
  simp only [Option.bind_some]
  rw [hb.sure,hb.twice,D0 (by omega),D0 (by omega),E2e]
  simp only [Option.bind_some]
  unfold A1h
  by_cases c:(J1 t p > b.2.1∨(J1 t p = b.2.1∧A5o t p < b.2.2))
  ·rw [if_pos (by rw [decide_eq_true_eq]; split <;> omega),if_pos (by simpa using c)]
   exact ⟨_,rfl,h2,rfl,rfl,rfl,by simp only []; omega,by simp only []; omega⟩
  ·rw [if_neg (by rw [decide_eq_true_eq]; split <;> omega),if_neg (by simpa using c)]
   exact ⟨_,rfl,h2,hb.arr,hb.sure,hb.twice,r1,r2⟩) ([],-1,0) ([],IArr.zero 6,⟨-1,0,0⟩) ⟨C8r t,C9k.symm,rfl,rfl,by decide,by decide⟩
 exact ⟨s,B68 h h1,h2⟩
theorem C7u {t:VaTrain} (h:TOk t):∀n,n≤t.Crates.length→B0b t (List.replicate n (-1))
 | 0,_=>B9j h
 | n + 1,hn=>by
  rw [List.replicate_succ']
  exact B3h h (by simp; omega) (C7u h n (by omega))
theorem E01 {t:VaTrain} (h:TOk t):PlanOk t (List.replicate t.Crates.length (-1)):= by
 have hg:=C7u h _ (Nat.le_refl _)
 have hlen:(List.replicate t.Crates.length (-1:Int)).length = t.Crates.length:=List.length_replicate
 refine ⟨hlen,fun i hi=>?_,(A16 t _).mpr ((B3g h hlen).mp hg)⟩
 rw [getElem!_pos _ i hi,List.getElem_replicate]
 omega
theorem B5p {α β:Type} {g:β→α→β} (P:β→Prop):∀(l:List α),(∀ a ∈ l,∀ b,P b→P (g b a))→∀ b,P b→P (l.foldl g b)
 | [],_,b,hb=>hb
 | a :: l,h,b,hb=>B5p P l (fun x hx=>h x (List.mem_cons_of_mem _ hx)) _ (h a List.mem_cons_self b hb)
theorem D6k {t:VaTrain} (h:TOk t):∃p l,PL t = p :: l:= by
 cases e:PL t with
 | nil =>
  have:=(A4h h).mpr (E01 h)
  rw [e] at this; cases this
 | cons p l=>exact ⟨p,l,rfl⟩
theorem B4l {t:VaTrain} {p:List Int}:A1h t ([],-1,0) p = (p,J1 t p,A5o t p):= by
 have:=A2r t p p.length
 unfold A1h
 rw [if_pos]
 simp only [Bool.or_eq_true,decide_eq_true_eq]
 left
 show J1 t p > -1
 unfold J1; omega
theorem A6v {t:VaTrain} (h:TOk t):PlanOk t (I3 t).1∧(I3 t).2.1 = J1 t (I3 t).1∧(I3 t).2.2 = A5o t (I3 t).1:= by
 obtain ⟨p,l,e⟩:=D6k h
 have hin:∀q ∈ p :: l,PlanOk t q:=fun q hq=>(A4h h).mp (by rw [e]; exact hq)
 unfold I3
 rw [e,List.foldl_cons,B4l]
 refine B5p (fun (b:List Int × Int × Int)=>PlanOk t b.1∧b.2.1 = J1 t b.1∧b.2.2 = A5o t b.1) l (fun a ha b hb=>?_) _ ⟨hin p List.mem_cons_self,rfl,rfl⟩
 unfold A1h
 split
 ·exact ⟨hin a (List.mem_cons_of_mem _ ha),rfl,rfl⟩
 ·exact hb
theorem D6w {t:VaTrain} (h:TOk t) (p:List Int) (hp:p.length = t.Crates.length) (hr:L6 t p) (vo:(List (IArr 6 × van_found)) × (IArr 6) × van_found) (hv:vo.2.1 = K2 p) :
  loop (A62 vo (List.replicate t.Crates.length 0)) (0,cpy (List.replicate t.Crates.length 0) (IArr.l vo.2.1)) = some p:= by
 have hl:=h.crates; have hv3:=h.vans
 have e1:cpy (List.replicate t.Crates.length (0:Int)) (K2 p).l = p.map (· + 1):= by
  unfold cpy
  rw [B28,List.length_replicate,Nat.min_eq_right hl,List.drop_of_length_le (by simp),List.append_nil]
  apply List.ext_getElem?
  intro i
  by_cases c:i < t.Crates.length
  ·rw [List.getElem?_take_of_lt c,B27 (by omega) (by omega),List.getElem?_map,List.getElem?_eq_getElem (by omega),getElem!_pos p i (by omega)]
   have:=hr i (by omega)
   rw [getElem!_pos p i (by omega)] at this
   rw [D0 (by omega)]; rfl
  ·rw [List.getElem?_eq_none (by rw [List.length_take,B28]; omega),List.getElem?_eq_none (by rw [List.length_map]; omega)]
 have e2:∀i,i≤p.length→(p.take i++(p.drop i).map (· + 1)).length = p.length:=fun i hi=>by rw [List.length_append,List.length_map,List.length_take,List.length_drop]; omega
 rw [hv,e1]
 have hq:=G4 (b:=A62 vo (List.replicate t.Crates.length 0)) (fun i=>((i:Int),p.take i++(p.drop i).map (· + 1))) p.length (r:=p) (by omega) (fun i hi=>by
  unfold A62
  simp only []
  have hcl:(cpy (List.replicate t.Crates.length (0:Int)) (IArr.l vo.2.1)).length = t.Crates.length:= by rw [B6m,List.length_replicate]
  have hr2:=hr i hi
  rw [getElem!_pos p i hi] at hr2
  have hge:(p.take i++(p.drop i).map (· + 1))[i]? = some (p[i] + 1):= by
   rw [List.getElem?_append_right (by rw [List.length_take]; omega),List.length_take,Nat.min_eq_left (by omega),Nat.sub_self,List.getElem?_map,List.getElem?_drop,Nat.add_zero,List.getElem?_eq_getElem hi]; rfl
  rw [if_pos (by rw [decide_eq_true_eq,hcl]; omega)]
  have hix:idx (p.take i++(p.drop i).map (· + 1)) (i:Int) = some (p[i] + 1):= by
   unfold idx
   rw [if_pos (by omega),Int.toNat_natCast,hge]
  rw [hix]
  simp only [Option.bind_some]
  rw [D0 (n:=(i:Int) + 1) (by omega),D0 (by omega),Int.add_sub_cancel]
  congr 2
  refine Prod.ext rfl ?_
  show (p.take i++(p.drop i).map (· + 1)).set (i:Int).toNat p[i] = _
  rw [Int.toNat_natCast,List.drop_eq_getElem_cons hi,List.map_cons,List.set_append_right _ _ (by rw [List.length_take]; omega),List.length_take,Nat.min_eq_left (by omega),Nat.sub_self,List.set_cons_zero,A30 (List.getElem?_eq_getElem hi),List.append_assoc]
  rfl) (by
  unfold A62
  simp only []
  have hcl:(cpy (List.replicate t.Crates.length (0:Int)) (IArr.l vo.2.1)).length = t.Crates.length:= by rw [B6m,List.length_replicate]
  rw [if_neg (by rw [decide_eq_true_eq,hcl]; omega),List.take_length,List.drop_of_length_le (Nat.le_refl _),List.map_nil,List.append_nil])
 exact hq
theorem A1p {t:VaTrain} (hN:NB t):X2 t = some (if (check t).2.2 == 0 then ((I3 t).1,(I3 t).2.1,(I3 t).2.2,0) else ([],0,0,(check t).2.2)):= by
 unfold X2
 rw [R5 t hN]
 simp only [Option.bind_some]
 by_cases c:(check t).2.2 = 0
 ·have h:=J3 c
  have hl:=h.crates
  rw [if_neg (by rw [c]; decide),if_pos (by rw [c]; rfl)]
  obtain ⟨s,h1,h2⟩:=D4x h
  obtain ⟨k1,k2,k3⟩:=A6v h
  rw [h1]
  simp only [Option.bind_some]
  have hm:B8e 8 (t.Crates.length:Int) (0:Int) = some (List.replicate t.Crates.length 0):= by
   unfold B8e
   rw [if_pos ⟨by omega,by omega,by omega⟩,Int.toNat_natCast]
  rw [hm]
  simp only [Option.bind_some]
  rw [D6w h _ k1.len k1.range s h2.arr]
  simp only [Option.bind_some]
  rw [h2.sure,h2.twice]
 ·rw [if_pos (bne_iff_ne.mpr c),if_neg (by rw [beq_iff_eq]; exact c)]
end Vn
end
section
set_option maxRecDepth 100000
set_option maxHeartbeats 0
namespace Vn
open Go Am Go.Proofs.Ytjjmechghfjbmaa.Cd
end Vn
end
section
namespace Vn
open Go Am
def one (t:VaTrain) (i v:Nat):List Int:=(List.replicate t.Crates.length (-1)).set i (v:Int)
end Vn
end
section
set_option maxRecDepth 100000
set_option maxHeartbeats 0
namespace Vn
open Go Am Go.Proofs.Ytjjmechghfjbmaa.Cd
end Vn
end
section
namespace Vn
open Go Am
def better (a b:List Int × Int × Int):Prop:=a.2.1 > b.2.1∨(a.2.1 = b.2.1∧a.2.2 < b.2.2)
def triple (t:VaTrain) (p:List Int):List Int × Int × Int:=(p,J1 t p,A5o t p)
theorem C9p (t:VaTrain) (b:List Int × Int × Int) (p:List Int):(A1h t b p = triple t p∧better (triple t p) b)∨(A1h t b p = b∧¬ better (triple t p) b):= by
 unfold A1h better triple
 by_cases c:(J1 t p > b.2.1∨(J1 t p = b.2.1∧A5o t p < b.2.2))
 ·rw [if_pos (by simpa using c)]; exact .inl ⟨rfl,c⟩
 ·rw [if_neg (by simpa using c)]; exact .inr ⟨rfl,c⟩
theorem B87 (t:VaTrain):∀(l:List (List Int)) (b:List Int × Int × Int),(l.foldl (A1h t) b = b∧∀ q ∈ l,¬ better (triple t q) b) ∨
  ∃ l1 x l2,l = l1++x :: l2∧l.foldl (A1h t) b = triple t x∧better (triple t x) b∧(∀ q ∈ l1,better (triple t x) (triple t q))∧∀ q ∈ l2,¬ better (triple t q) (triple t x)
 | [],b=>.inl ⟨rfl,fun q hq=>by cases hq⟩
 | a :: l,b=>by
  rw [List.foldl_cons]
  rcases C9p t b a with ⟨e,hb⟩ | ⟨e,hb⟩
  ·rw [e]
   rcases B87 t l (triple t a) with ⟨h1,h2⟩ | ⟨l1,x,l2,h1,h2,h3,h4,h5⟩
   ·exact .inr ⟨[],a,l,rfl,h1,hb,fun q hq=>(by cases hq),h2⟩
   ·refine .inr ⟨a :: l1,x,l2,by rw [h1]; rfl,h2,?_,fun q hq=>?_,h5⟩
    ·unfold better at *; omega
    ·rcases List.mem_cons.mp hq with rfl | hq
     ·exact h3
     ·exact h4 q hq
  ·rw [e]
   rcases B87 t l b with ⟨h1,h2⟩ | ⟨l1,x,l2,h1,h2,h3,h4,h5⟩
   ·refine .inl ⟨h1,fun q hq=>?_⟩
    rcases List.mem_cons.mp hq with rfl | hq
    ·exact hb
    ·exact h2 q hq
   ·refine .inr ⟨a :: l1,x,l2,by rw [h1]; rfl,h2,h3,fun q hq=>?_,h5⟩
    rcases List.mem_cons.mp hq with rfl | hq
    ·unfold better at *; omega
    ·exact h4 q hq
theorem C9o {t:VaTrain} (h:TOk t):∃l1 x l2,PL t = l1++x :: l2∧I3 t = triple t x∧(∀ q ∈ l1,better (triple t x) (triple t q))∧∀ q ∈ l2,¬ better (triple t q) (triple t x):= by
 rcases B87 t (PL t) ([],-1,0) with ⟨_,h2⟩ | ⟨l1,x,l2,h1,h2,_,h4,h5⟩
 ·obtain ⟨p,l,e⟩:=D6k h
  have:=h2 p (by rw [e]; exact List.mem_cons_self)
  exfalso
  apply this
  have:=A2r t p p.length
  left
  show J1 t p > -1
  unfold J1; omega
 ·exact ⟨l1,x,l2,h1,h2,h4,h5⟩
def rank (v:Int):Int:=if v = -1 then 100 else v
def Lt (a b:List Int):Prop:=∃ i,i < a.length∧(∀ j,j < i→a[j]! = b[j]!)∧rank a[i]! < rank b[i]!
theorem C6h {t:VaTrain} (hv:t.Vans.length≤3):(wheres t).Pairwise fun a b=>rank a < rank b:= by
 unfold wheres
 rw [List.pairwise_append]
 refine ⟨?_,List.pairwise_singleton _ _,?_⟩
 ·rw [List.pairwise_map]
  refine List.Pairwise.imp ?_ List.pairwise_lt_range
  intro a b h
  unfold rank
  rw [if_neg (by omega),if_neg (by omega)]; omega
 ·intro a ha b hb
  obtain ⟨i,hi,rfl⟩:=List.mem_map.mp ha
  have:=List.mem_range.mp hi
  rw [List.mem_singleton.mp hb]
  unfold rank
  rw [if_neg (by omega),if_pos rfl]; omega
theorem C11 {t:VaTrain} (hv:t.Vans.length≤3):∀n,(PLn t n).Pairwise Lt
 | 0=>List.pairwise_singleton _ _
 | n + 1=>by
  show ((PLn t n).flatMap (ext t)).Pairwise Lt
  rw [List.pairwise_flatMap]
  constructor
  ·intro p hp
   unfold ext
   refine List.Pairwise.sublist List.filter_sublist ?_
   rw [List.pairwise_map]
   refine List.Pairwise.imp ?_ (C6h hv)
   intro a b hab
   refine ⟨p.length,by simp,fun j hj=>by rw [A06 hj,A06 hj],?_⟩
   rw [P9,P9]; exact hab
  ·refine List.Pairwise.imp_of_mem ?_ (C11 hv n)
   rintro a b ha hb ⟨i,hi,h1,h2⟩ x hx y hy
   obtain ⟨v,_,rfl,_⟩:=B8d.mp hx
   obtain ⟨w,_,rfl,_⟩:=B8d.mp hy
   have la:=B7g ha
   have lb:=B7g hb
   exact ⟨i,by simp; omega,fun j hj=>by rw [A06 (by omega),A06 (by omega),h1 j hj],by rw [A06 hi,A06 (by omega)]; exact h2⟩
def C15 (a b:List Int) (i:Nat):Option Bool:=if (a[i]! != b[i]!) = true then some (b[i]! == -1 || (a[i]! != -1 && decide (a[i]! < b[i]!))) else none
def bef (a b:List Int):Bool:=(first (C15 a b) a.length).getD false
theorem D6u (a:List Int):bef a a = false:= by
 unfold bef
 rw [F6.mpr fun i _=>by unfold C15; simp]; rfl
theorem E1s {t:VaTrain} (hv:t.Vans.length≤3) {a b:List Int} (hr:L6 t a) (hr2:L6 t b) (hl:a.length = b.length) (h:Lt a b):bef b a = false:= by
 obtain ⟨i,hi,h1,h2⟩:=h
 have r1:=hr i hi
 have r2:=hr2 i (by omega)
 have hne:b[i]! ≠ a[i]!:= by intro e; rw [e] at h2; omega
 unfold bef
 rw [B4t (i:=i) (r:=(a[i]! == -1 || (b[i]! != -1 && decide (b[i]! < a[i]!)))) (by omega) (by unfold C15; rw [if_pos (bne_iff_ne.mpr hne)]) (fun j hj=>by unfold C15; rw [h1 j hj]; simp)]
 unfold rank at h2
 have e1:a[i]! ≠ -1:= by
  intro e
  rw [if_pos e] at h2
  split at h2 <;> omega
 rw [if_neg e1] at h2
 rw [show (a[i]! == -1) = false from beq_eq_false_iff_ne.mpr e1]
 by_cases c:b[i]! = -1
 ·rw [c]; rfl
 ·rw [if_neg c] at h2
  rw [decide_eq_false (by omega)]; simp
theorem C38 {α:Type} {R:α→α→Prop} {l1 l2:List α} {x:α} (h:(l1++x :: l2).Pairwise R):∀q ∈ l2,R x q :=
 fun q hq=>(List.pairwise_cons.mp (List.pairwise_append.mp h).2.1).1 q hq
theorem B5w {t:VaTrain} (h:TOk t) {q:List Int} (hq:PlanOk t q):J1 t q < (I3 t).2.1∨(J1 t q = (I3 t).2.1∧(A5o t q > (I3 t).2.2∨(A5o t q = (I3 t).2.2∧bef q (I3 t).1 = false))):= by
 obtain ⟨l1,x,l2,h1,h2,h3,h4⟩:=C9o h
 have hm:=(A4h h).mpr hq
 have hx:PlanOk t x:=(A4h h).mp (by rw [h1]; simp)
 rw [h2]
 show J1 t q < J1 t x∨(J1 t q = J1 t x∧(A5o t q > A5o t x∨(A5o t q = A5o t x∧bef q x = false)))
 have hm':=hm
 rw [h1,List.mem_append,List.mem_cons] at hm'
 rcases hm' with hm' | rfl | hm'
 ·have:J1 t x > J1 t q∨(J1 t x = J1 t q∧A5o t x < A5o t q):=h3 q hm'
  omega
 ·exact .inr ⟨rfl,.inr ⟨rfl,D6u q⟩⟩
 ·have:¬ (J1 t q > J1 t x∨(J1 t q = J1 t x∧A5o t q < A5o t x)):=h4 q hm'
  have hs:Lt x q:=C38 (by rw [← h1]; exact C11 h.vans _) q hm'
  have hb:=E1s h.vans hx.range hq.range (by rw [hx.len,hq.len]) hs
  rw [hb]
  by_cases c:J1 t q < J1 t x
  ·exact .inl c
  by_cases c2:A5o t q = A5o t x
  ·exact .inr ⟨by omega,.inr ⟨c2,rfl⟩⟩
  ·exact .inr ⟨by omega,.inl (by omega)⟩
structure Nm (t:VaTrain):Prop where
 van:∀i,i < t.Vans.length→B34 t i = 0
 crate:∀i,i < t.Crates.length→A72 t i = 0
 leave:∀i,i < t.Vans.length→0≤t.Vans[i]!.Leave
theorem B2d {f:Nat→Int} {n:Nat} (h:∀i,i < n→f i = 0):wrong f n = none :=
 F6.mpr fun i hi=>by rw [h i hi]; rfl
theorem C9w {t:VaTrain} (h:(check t).2.2 = 0):(∀ i,i < t.Vans.length→A0b t i = 0)∧∀ i,i < t.Crates.length→Q7 t i = 0:= by
 unfold check at h
 cases h1:out 1 3 t.Stops || out 0 60 t.Handle with
 | true=>rw [h1] at h; exact absurd (show (7:Int) = 0 from h) (by decide)
 | false =>
 rw [h1] at h
 cases h2:out 1 3 (t.Vans.length:Int) with
 | true=>rw [h2] at h; exact absurd (show (3:Int) = 0 from h) (by decide)
 | false =>
 rw [h2] at h
 cases h3:wrong (A0b t) t.Vans.length with
 | some x =>
  rw [h3] at h
  have h:x.2 = 0:=h
  have:=A4y h3
  rw [h] at this; exact absurd this (by decide)
 | none =>
 rw [h3] at h
 by_cases h4:t.Crates.length > 6
 ·simp only [h4] at h; exact absurd h (by simp)
 simp only [h4] at h
 cases h5:wrong (Q7 t) t.Crates.length with
 | some x =>
  rw [h5] at h
  have h:x.2 = 0:=h
  have:=A4y h5
  rw [h] at this; exact absurd this (by decide)
 | none=>exact ⟨B1a h3,B1a h5⟩
theorem B2j {t:VaTrain} (h:(check t).2.2 = 0):Nm t:= by
 obtain ⟨h1,h2⟩:=C9w h
 refine ⟨fun i hi=>?_,fun i hi=>?_,fun i hi=>?_⟩
 ·have:=h1 i hi
  unfold A0b at this
  split at this
  ·next e=>simpa using e
  ·exact this
 ·have:=h2 i hi
  unfold Q7 at this
  split at this
  ·next e=>simpa using e
  ·exact this
 ·have:=h1 i hi
  unfold A0b at this
  split at this
  ·unfold A8o at this
   split at this
   ·exact absurd this (by decide)
   ·next e =>
    have e:(out 0 20 t.Vans[i]!.Room || out 0 5000 t.Vans[i]!.Leave) = false:= by simpa using e
    exact (I2.mp (Bool.or_eq_false_iff.mp e).2).1
  ·next e=>rw [this] at e; exact absurd rfl e
theorem E10 {g:Span} (h:LegOk g):Z3 g = none:= by
 unfold Z3
 have:=h.lo0; have:=h.lh; have:=h.hi
 rw [if_neg,if_neg (by omega)]
 rw [I2.mpr ⟨by omega,by omega⟩,I2.mpr ⟨by omega,by omega⟩]; decide
theorem D3j {t:VaTrain} {v:VaVan} (h:VanOk t v) (h0:0≤v.Leave):A8o t v = 0:= by
 unfold A8o
 rw [I2.mpr ⟨h.room0,h.room⟩,I2.mpr ⟨h0,h.leave⟩,if_neg (by decide),if_neg (by rw [h.legs]; simp),F6.mpr fun i hi=>E10 (h.leg i hi)]; rfl
theorem B7u {t:VaTrain} (h:TOk t) (hn:Nm t):(check t).2.2 = 0:= by
 have hv:=h.vans; have hv1:=h.vans1; have hc:=h.crates; have ha:=h.apart
 unfold check
 rw [I2.mpr ⟨h.stops1,h.stops⟩,I2.mpr ⟨h.handle0,h.handle⟩,if_neg (by decide),I2.mpr ⟨by omega,by omega⟩,if_neg (by decide)]
 rw [B2d fun i hi=>by
  unfold A0b
  rw [hn.van i hi]
  exact D3j (h.van i hi) (hn.leave i hi)]
 simp only []
 rw [if_neg (by omega),B2d fun i hi=>by
  have hq:=h.crate i hi
  unfold Q7
  rw [hn.crate i hi,I2.mpr ⟨hq.size1,hq.size⟩,I2.mpr ⟨hq.stop0,by have:=hq.stop; omega⟩,I2.mpr ⟨hq.by0,hq.byl⟩]; rfl]
 simp only []
 rw [if_neg (by omega),B2d fun i hi=>by
  have hq:=h.pair i hi
  have:=hq.a0; have:=hq.ab; have:=hq.b
  unfold A2g
  rw [I2.mpr ⟨by omega,by omega⟩,I2.mpr ⟨by omega,by omega⟩,if_neg (by decide),if_neg (by omega)]]
end Vn
end
section
set_option maxRecDepth 100000
set_option maxHeartbeats 0
namespace Vn
open Go Am Go.Proofs.Ytjjmechghfjbmaa.Cd
def A7l (a0:(List Int)) (a1:Int) (s1:Int):Option (Int ⊕ (Bool ⊕ Unit)) :=
 if (decide (s1 < (List.length a0:Int))) = true then
  (idx a0 s1).bind fun x4 =>
  if (x4 == a1) = true then
  some (.inr (.inl true))
  else
  some (.inl (w64 (s1 + 1)))
 else
  some (.inr (.inr ()))
def A95 (a0:(List Int)) (a1:Int):Option Bool :=
 (loop (A7l a0 a1) 0).bind fun (o6:(Bool ⊕ Unit)) =>
 match o6 with
 | (.inl vo6_0) =>
  some vo6_0
 | (.inr vo6_1) =>
  some false
theorem B8k {c:Sc} {H:A6} {a0:(List Int)} {a1:Int} {r:Bool} (h:A95 a0 a1 = some r) :
  F2 tab c H (.fn (.func 50) [] []) [(.seq 1 (List.map cI a0)),.i a1] [.b r]:= by
 unfold A95 at h
 refine cE rfl rfl<|s0<|qm rfl<|es (ra2 rfl rfl)<|B3<|s0<|qm rfl<|es (ra3 rfl rfl rfl)<|B9<|oB h fun o6 ho6 h=>wl (fun s1=>[(0,(.seq 1 (List.map cI a0))),(1,.i a1),(5,.i s1)]) (fun (q2:Unit) s1=>[]) 0 (fun r e s' H'=>(match r with | (.inl v)=>e = .ret∧RetQ H [.tmp 4] [.b v] e s' H' | (.inr v)=>PX 0 [] (H++[]) e s' H':Prop)) () ho6 rfl rfl (fun _ _=>rfl) (fun _=>rfl) rfl (fun s1=>(bdc D8 (bdc A4 (bdc A4 bdn)))) (fun q2 s1 ys1 hs1=>?_) ?_
 ·unfold A7l at hs1
  refine B3<|s0<|qm rfl<|qm rfl<|A0 (D3 (f:=cI) rfl) rfl<|A0 (F4 rfl rfl) rfl<|es (ra4 rfl rfl rfl rfl)<|wi hs1 rfl (fun hc3 hs1=>?_) fun hc3 hs1=>?_
  ·refine C2<|B3<|B9<|s0<|oB hs1 fun x4 hx4 hs1=>qm rfl<|qm rfl<|A0 (D4 (f:=cI) rfl rfl hx4) rfl<|A0 (D6 rfl rfl) rfl<|qm rfl<|A0 (G7 rfl rfl) rfl<|es (ra4 rfl rfl rfl rfl)<|wi hs1 rfl (fun hc5 hs1=>?_) fun hc5 hs1=>?_
   ·refine s0<|qm rfl<|es (ra1 rfl)<|C4 ?_
    obtain rfl:=os hs1
    exact lx rfl (And.intro rfl (retq trivial (B1 rfl B7) (A5 rfl B6) (A1 A4 A8))) (Sub.refl _)
   ·refine C2<|r0<|qm rfl<|A0 (D7 rfl rfl) rfl<|qm rfl<|en (ra3 rfl rfl rfl) ?_
    cases hs1
    exact lnT () rfl (su3 rfl rfl rfl)
  ·refine E3 ?_
   obtain rfl:=os hs1
   exact lx rfl px (.nil _)
 ·rcases o6 with vo6_0 | vo6_1
  ·rintro e s' H' - ⟨rfl,hret⟩
   cases h
   exact hret
  ·rintro e s' H' - ⟨rfl,rfl,rfl⟩
   refine s0<|qm rfl<|es (ra1 rfl)<|C4 ?_
   obtain rfl:=os h
   exact retq trivial (B1 rfl B7) (A5 rfl B6) (A1 A4 A8)
end Vn
end
section
namespace Vn
open Go Am
theorem D7i (l:List Int) (x:Int) (hl:l.length < 9223372036854775808):A95 l x = some (decide (x ∈ l)):= by
 unfold A95
 rw [R3 (b:=A7l l x) l.length (fun i=>(if l[i]! == x then some true else none).map Sum.inl) (.inr ()) hl (fun i hi _=>by
  unfold A7l
  rw [if_pos (by rw [decide_eq_true_eq]; omega),E5 hi]
  simp only [Option.bind_some]
  cases l[i]! == x <;> rfl) (by
  unfold A7l
  rw [if_neg (by rw [decide_eq_true_eq]; omega)]),Q8]
 cases hf:first (fun i=>if l[i]! == x then some true else none) l.length with
 | none =>
  have:¬ x ∈ l:= by
   intro hx
   obtain ⟨i,hi,e⟩:=List.mem_iff_getElem.mp hx
   have:=F6.mp hf i hi
   rw [getElem!_pos l i hi,e] at this
   simp at this
  rw [decide_eq_false this]; rfl
 | some r =>
  obtain ⟨i,hi,e,_⟩:=N5 hf
  split at e
  ·next e2 =>
   have:x ∈ l:= by
    have e2:l[i]! = x:= by simpa using e2
    rw [← e2]; exact A07 hi
   rw [decide_eq_true this,← Option.some.inj e]; rfl
  ·exact absurd e (by simp)
end Vn
end
section
set_option maxRecDepth 100000
set_option maxHeartbeats 0
namespace Vn
open Go Am Go.Proofs.Ytjjmechghfjbmaa.Cd
def B47 (a0:Int) (x2:(List (List Int))) (s3:(Int × (List (List Int)))) (s12:(Int × (List (List Int)))):Option ((Int × (List (List Int))) ⊕ (List (List Int))) :=
 if (decide (s12.1 < a0)) = true then
  (idx x2 s3.1).bind fun x15 =>
  (app 8 ([]:List Int) x15).bind fun x16 =>
  (app 8 x16 [s12.1]).bind fun x17 =>
  (app 24 s12.2 [x17]).bind fun x18 =>
  some (.inl ((w64 (s12.1 + 1)),x18))
 else
  some (.inr s12.2)
def B48 (a0:Int) (x2:(List (List Int))) (s3:(Int × (List (List Int)))):Option ((Int × (List (List Int))) ⊕ (List (List Int))) :=
 if (decide (s3.1 < (List.length x2:Int))) = true then
  (idx x2 s3.1).bind fun x6 =>
  (if (decide ((List.length x6:Int) > 0)) = true then
   (idx x2 s3.1).bind fun x9 =>
   (idx x2 s3.1).bind fun x10 =>
   (idx x9 (w64 ((List.length x10:Int) - 1))).bind fun x11 =>
   some x11
  else
   some (-1)).bind fun (p7:Int) =>
  (loop (B47 a0 x2 s3) ((w64 (p7 + 1)),s3.2)).bind fun (o19:(List (List Int))) =>
  some (.inl ((w64 (s3.1 + 1)),o19))
 else
  some (.inr s3.2)
def B18 (g99:((Int × Int)→Option (List (List Int)))) (a0:Int) (a1:Int):Option (List (List Int)) :=
 if (a1 == 0) = true then
  some [([]:List Int)]
 else
  (g99 (a0,(w64 (a1 - 1)))).bind fun x2 =>
  (loop (B48 a0 x2) (0,([]:List (List Int)))).bind fun (o20:(List (List Int))) =>
  some o20
def B19:Nat→(Int × Int)→Option (List (List Int))
 | 0=>fun _=>none
 | k + 1=>fun y=>B18 (B19 k) y.1 y.2
def A6z (a0:Int) (a1:Int):Option (List (List Int)):=B19 64 (a0,a1)
def A5c (a0:VaTrain) (a1:(List Int)) (s1:(Int × (List VaPair))):Option ((Int × (List VaPair)) ⊕ (List VaPair)) :=
 if (decide (s1.1 < (List.length a0.Apart:Int))) = true then
  (A95 a1 s1.1).bind fun x4 =>
  if (!x4) = true then
  (idx a0.Apart s1.1).bind fun x6 =>
  (app 16 s1.2 [x6]).bind fun x7 =>
  some (.inl ((w64 (s1.1 + 1)),x7))
  else
  some (.inl ((w64 (s1.1 + 1)),s1.2))
 else
  some (.inr s1.2)
def A3y (a0:VaTrain) (a1:(List Int)):Option VaTrain :=
 (loop (A5c a0 a1) (0,([]:List VaPair))).bind fun (o8:(List VaPair)) =>
 some (VaTrain.mk a0.Vans a0.Stops a0.Handle a0.Crates o8)
theorem A9l {c:Sc} {H:A6} {a0:VaTrain} {a1:(List Int)} {r:VaTrain} (h:A3y a0 a1 = some r) :
  F2 tab c H (.fn (.func 51) [] []) [(.agg (A3 a0)),(.seq 1 (List.map cI a1))] [(.agg [(.seq 4 (List.map C0 r.Vans)),.i r.Stops,.i r.Handle,(.seq 4 (List.map A9 r.Crates)),(.fresh 2 (List.map C1 r.Apart))])]:= by
 unfold A3y at h
 refine cE rfl rfl<|sg 0 rfl<|A0 (G0 (cs:=A3 a0) rfl rfl rfl) rfl<|A0 C3k rfl<|es (ra3 rfl rfl rfl)<|sg 4 rfl<|A0 A5y rfl<|es (ra4 rfl rfl rfl rfl)<|B3<|s0<|qm rfl<|es (ra5 rfl rfl rfl rfl rfl)<|B9<|oB h fun o8 ho8 h=>wl (fun s1=>[(1,(.seq 1 (List.map cI a1))),(2,(.ptr (H.length + 0) 0)),(4,(.ptr (H.length + 3) 0)),(5,(.asl (H.length + 4) (List.length s1.2))),(6,.i s1.1)]) (fun (q2:Unit) s1=>[(.cells (A3 a0)),(.arr 4 false (List.map C0 ([]:List VaVan))),(.arr 4 false (List.map A9 ([]:List VaCrate))),(.cells [(.asl (H.length + 1) (List.length ([]:List VaVan))),.i 0,.i 0,(.asl (H.length + 2) (List.length ([]:List VaCrate))),(.seq 2 (List.map C1 ([]:List VaPair)))]),(.arr 2 false (List.map C1 s1.2))]) 5 (fun r e s' H'=>PX 0 [(2,(.ptr (H.length + 0) 0)),(4,(.ptr (H.length + 3) 0)),(5,(.asl (H.length + 4) (List.length r)))] (H++[(.cells (A3 a0)),(.arr 4 false (List.map C0 ([]:List VaVan))),(.arr 4 false (List.map A9 ([]:List VaCrate))),(.cells [(.asl (H.length + 1) (List.length ([]:List VaVan))),.i 0,.i 0,(.asl (H.length + 2) (List.length ([]:List VaCrate))),(.seq 2 (List.map C1 ([]:List VaPair)))]),(.arr 2 false (List.map C1 r))]) e s' H') () ho8 rfl rfl (fun _ _=>rfl) (fun _=>rfl) rfl (fun s1=>(bdc D8 (bdc (D5 rfl) (bdc (D5 rfl) (bdc (U8 rfl) (bdc A4 bdn)))))) (fun q2 s1 ys1 hs1=>?_) ?_
 ·unfold A5c at hs1
  refine B3<|s0<|qm rfl<|A0 (C3 rfl) rfl<|A0 (B5 rfl rfl rfl) rfl<|A0 (D3 (f:=C1) rfl) rfl<|A0 (F4 rfl rfl) rfl<|es (ra6 rfl rfl rfl rfl rfl rfl)<|wi hs1 rfl (fun hc3 hs1=>?_) fun hc3 hs1=>?_
  ·refine C2<|B3<|B9<|s0<|oB hs1 fun x4 hx4 hs1=>qm rfl<|qm rfl<|B2 (rs:=[.b x4]) rfl rfl (A2 rfl (A2 rfl B4)) ((B8k hx4).frz)<|A0 (O3 rfl) rfl<|es (ra6 rfl rfl rfl rfl rfl rfl)<|wi hs1 rfl (fun hc5 hs1=>?_) fun hc5 hs1=>?_
   ·refine r0<|oB hs1 fun x6 hx6 hs1=>oB hs1 fun x7 hx7 hs1=>qm rfl<|A0 (C3 rfl) rfl<|A0 (B5 rfl rfl rfl) rfl<|qm rfl<|A0 (D4 (f:=C1) rfl rfl hx6) rfl<|A0 (K0 rfl rfl) rfl<|A0 (I8 (rows:=List.map C1 [x6]) rfl rfl (E4 (fun _=>rfl) _)) rfl<|A35 (W8 (f:=C1) rfl rfl rfl rfl U0 (fun _=>rfl) hx7) rfl<|qm rfl<|en (ra5 rfl rfl rfl rfl rfl)<|r0<|qm rfl<|A0 (D7 rfl rfl) rfl<|qm rfl<|en (ra5 rfl rfl rfl rfl rfl) ?_
    cases hs1
    exact lnT () rfl (su5 rfl rfl rfl rfl rfl)
   ·refine C2<|r0<|qm rfl<|A0 (D7 rfl rfl) rfl<|qm rfl<|en (ra5 rfl rfl rfl rfl rfl) ?_
    cases hs1
    exact lnT () rfl (su5 rfl rfl rfl rfl rfl)
  ·refine E3 ?_
   obtain rfl:=os hs1
   exact lx rfl px (su3 rfl rfl rfl)
 ·rintro e s' H' - ⟨rfl,rfl,rfl⟩
  refine s0<|qm rfl<|A0 (C3 rfl) rfl<|G6 (E2 (ds:=[(.seq 4 (List.map C0 a0.Vans)),.i a0.Stops,.i a0.Handle,(.seq 4 (List.map A9 a0.Crates)),(.asl (H.length + 4) (List.length o8))]) rfl rfl rfl rfl (U1 (Nat.le_add_right _ _)) rfl) rfl<|es (ra2 rfl rfl)<|s0<|A0 (A08 (ds:=[(.seq 4 (List.map C0 a0.Vans)),.i a0.Stops,.i a0.Handle,(.seq 4 (List.map A9 a0.Crates)),(.asl (H.length + 4) (List.length o8))]) rfl rfl rfl rfl) rfl<|G6 (E2 (ds:=[(.seq 4 (List.map C0 a0.Vans)),.i a0.Stops,.i a0.Handle,(.seq 4 (List.map A9 a0.Crates)),(.asl (H.length + 4) (List.length o8))]) rfl rfl rfl rfl (U1 (Nat.le_add_right _ _)) rfl) rfl<|es (ra1 rfl)<|C4 ?_
  obtain rfl:=os h
  exact retq trivial (M2 (A08 (ds:=[(.seq 4 (List.map C0 a0.Vans)),.i a0.Stops,.i a0.Handle,(.seq 4 (List.map A9 a0.Crates)),(.asl (H.length + 4) (List.length o8))]) rfl rfl rfl rfl) B7) (A5 (B8o (R4 rfl (R4 rfl (R4 rfl (R4 rfl (R4 (B41 rfl (List.length_map _)) C3o)))))) B6) (A1 (A85 rfl) A8)
def A4r (a0:VaTrain) (x1:(List (List Int))) (s2:Int):Option (Int ⊕ (Bool ⊕ Unit)) :=
 if (decide (s2 < (List.length x1:Int))) = true then
  (idx x1 s2).bind fun x5 =>
  (A4q a0 x5).bind fun x6 =>
  if (x6 == (List.length a0.Crates:Int)) = true then
  some (.inr (.inl true))
  else
  some (.inl (w64 (s2 + 1)))
 else
  some (.inr (.inr ()))
def A1m (a0:VaTrain):Option Bool :=
 (A4o a0).bind fun x1 =>
 (loop (A4r a0 x1) 0).bind fun (o8:(Bool ⊕ Unit)) =>
 match o8 with
 | (.inl vo8_0) =>
  some vo8_0
 | (.inr vo8_1) =>
  some false
def A4n (a0:VaTrain) (x6:(List (List Int))) (s7:Int):Option (Int ⊕ (((List Int) × Int) ⊕ Unit)) :=
 if (decide (s7 < (List.length x6:Int))) = true then
  (idx x6 s7).bind fun x10 =>
  (A3y a0 x10).bind fun x11 =>
  (A1m x11).bind fun x12 =>
  if x12 = true then
  (idx x6 s7).bind fun x14 =>
  some (.inr (.inl (x14,0)))
  else
  some (.inl (w64 (s7 + 1)))
 else
  some (.inr (.inr ()))
def A2m (a0:VaTrain) (s3:Int):Option (Int ⊕ (((List Int) × Int) ⊕ Unit)) :=
 if (decide (s3≤(List.length a0.Apart:Int))) = true then
  (A6z (List.length a0.Apart:Int) s3).bind fun x6 =>
  (loop (A4n a0 x6) 0).bind fun (o15:(((List Int) × Int) ⊕ Unit)) =>
  match o15 with
  | (.inl vo15_0) =>
  some (.inr (.inl vo15_0))
  | (.inr vo15_1) =>
  some (.inl (w64 (s3 + 1)))
 else
  some (.inr (.inr ()))
def A2v (a0:VaTrain):Option ((List Int) × Int) :=
 (W9 a0).bind fun x1 =>
 if (x1.2.2 != 0) = true then
  some (([]:List Int),x1.2.2)
 else
  (loop (A2m a0) 0).bind fun (o16:(((List Int) × Int) ⊕ Unit)) =>
  match o16 with
  | (.inl vo16_0) =>
  some vo16_0
  | (.inr vo16_1) =>
  some (([]:List Int),9)
def B6i (a0:(List Int)) (a1:(List Int)) (s1:Int):Option (Int ⊕ (Bool ⊕ Unit)) :=
 if (decide (s1 < (A89 (List.length a0:Int) (List.length a1:Int)))) = true then
  (idx a0 s1).bind fun x4 =>
  (idx a1 s1).bind fun x5 =>
  if (x4 != x5) = true then
  (idx a0 s1).bind fun x7 =>
  (idx a1 s1).bind fun x8 =>
  some (.inr (.inl (decide (x7 < x8))))
  else
  some (.inl (w64 (s1 + 1)))
 else
  some (.inr (.inr ()))
def B69 (a0:(List Int)) (a1:(List Int)):Option Bool :=
 (loop (B6i a0 a1) 0).bind fun (o9:(Bool ⊕ Unit)) =>
 match o9 with
 | (.inl vo9_0) =>
  some vo9_0
 | (.inr vo9_1) =>
  some (decide ((List.length a0:Int) < (List.length a1:Int)))
theorem C5s {c:Sc} {H:A6} {a0:(List Int)} {a1:(List Int)} {r:Bool} (h:B69 a0 a1 = some r) :
  F2 tab c H (.fn (.func 89) [] []) [(.seq 1 (List.map cI a0)),(.seq 1 (List.map cI a1))] [.b r]:= by
 unfold B69 at h
 refine cE rfl rfl<|s0<|qm rfl<|es (ra2 rfl rfl)<|s0<|qm rfl<|A0 (D3 (f:=cI) rfl) rfl<|qm rfl<|A0 (D3 (f:=cI) rfl) rfl<|A0 (B8g rfl rfl) rfl<|qm rfl<|es (ra3 rfl rfl rfl)<|B3<|s0<|qm rfl<|es (ra4 rfl rfl rfl rfl)<|B9<|oB h fun o9 ho9 h=>wl (fun s1=>[(0,(.seq 1 (List.map cI a0))),(1,(.seq 1 (List.map cI a1))),(5,(.i (A89 (List.length a0:Int) (List.length a1:Int)))),(6,.i s1)]) (fun (q2:Unit) s1=>[]) 0 (fun r e s' H'=>(match r with | (.inl v)=>e = .ret∧RetQ H [.tmp 4] [.b v] e s' H' | (.inr v)=>PX 0 [(0,(.seq 1 (List.map cI a0))),(1,(.seq 1 (List.map cI a1)))] (H++[]) e s' H':Prop)) () ho9 rfl rfl (fun _ _=>rfl) (fun _=>rfl) rfl (fun s1=>(bdc D8 (bdc D8 (bdc A4 (bdc A4 bdn))))) (fun q2 s1 ys1 hs1=>?_) ?_
 ·unfold B6i at hs1
  refine B3<|s0<|qm rfl<|qm rfl<|A0 (F4 rfl rfl) rfl<|es (ra5 rfl rfl rfl rfl rfl)<|wi hs1 rfl (fun hc3 hs1=>?_) fun hc3 hs1=>?_
  ·refine C2<|B3<|B9<|s0<|oB hs1 fun x4 hx4 hs1=>oB hs1 fun x5 hx5 hs1=>qm rfl<|qm rfl<|A0 (D4 (f:=cI) rfl rfl hx4) rfl<|A0 (D6 rfl rfl) rfl<|qm rfl<|qm rfl<|A0 (D4 (f:=cI) rfl rfl hx5) rfl<|A0 (D6 rfl rfl) rfl<|A0 (F8 rfl rfl) rfl<|es (ra5 rfl rfl rfl rfl rfl)<|wi hs1 rfl (fun hc6 hs1=>?_) fun hc6 hs1=>?_
   ·refine s0<|oB hs1 fun x7 hx7 hs1=>oB hs1 fun x8 hx8 hs1=>qm rfl<|qm rfl<|A0 (D4 (f:=cI) rfl rfl hx7) rfl<|A0 (D6 rfl rfl) rfl<|qm rfl<|qm rfl<|A0 (D4 (f:=cI) rfl rfl hx8) rfl<|A0 (D6 rfl rfl) rfl<|A0 (F4 rfl rfl) rfl<|qm rfl<|es (ra1 rfl)<|C4 ?_
    obtain rfl:=os hs1
    exact lx rfl (And.intro rfl (retq trivial (B1 rfl B7) (A5 rfl B6) (A1 A4 A8))) (Sub.refl _)
   ·refine C2<|r0<|qm rfl<|A0 (D7 rfl rfl) rfl<|qm rfl<|en (ra4 rfl rfl rfl rfl) ?_
    cases hs1
    exact lnT () rfl (su4 rfl rfl rfl rfl)
  ·refine E3 ?_
   obtain rfl:=os hs1
   exact lx rfl px (su2 rfl rfl)
 ·rcases o9 with vo9_0 | vo9_1
  ·rintro e s' H' - ⟨rfl,hret⟩
   cases h
   exact hret
  ·rintro e s' H' - ⟨rfl,rfl,rfl⟩
   refine s0<|qm rfl<|A0 (D3 (f:=cI) rfl) rfl<|qm rfl<|A0 (D3 (f:=cI) rfl) rfl<|A0 (F4 rfl rfl) rfl<|qm rfl<|es (ra1 rfl)<|C4 ?_
   obtain rfl:=os h
   exact retq trivial (B1 rfl B7) (A5 rfl B6) (A1 A4 A8)
def B1p (a0:(List Int)) (a1:(List Int)):Option Bool :=
 if ((List.length a0:Int) != (List.length a1:Int)) = true then
  some (decide ((List.length a0:Int) < (List.length a1:Int)))
 else
  (B69 a0 a1).bind fun x2 =>
  some x2
theorem C3r {c:Sc} {H:A6} {a0:(List Int)} {a1:(List Int)} {r:Bool} (h:B1p a0 a1 = some r) :
  F2 tab c H (.fn (.func 52) [] []) [(.seq 1 (List.map cI a0)),(.seq 1 (List.map cI a1))] [.b r]:= by
 unfold B1p at h
 refine cE rfl rfl<|s0<|qm rfl<|es (ra2 rfl rfl)<|B3<|s0<|qm rfl<|A0 (D3 (f:=cI) rfl) rfl<|qm rfl<|A0 (D3 (f:=cI) rfl) rfl<|A0 (F8 rfl rfl) rfl<|es (ra3 rfl rfl rfl)<|wi h rfl (fun hc1 h=>?_) fun hc1 h=>?_
 ·refine s0<|qm rfl<|A0 (D3 (f:=cI) rfl) rfl<|qm rfl<|A0 (D3 (f:=cI) rfl) rfl<|A0 (F4 rfl rfl) rfl<|qm rfl<|es (ra1 rfl)<|C4 ?_
  obtain rfl:=os h
  exact retq trivial (B1 rfl B7) (A5 rfl B6) (A1 A4 A8)
 ·refine C2<|s0<|oB h fun x2 hx2 h=>qm rfl<|qm rfl<|B2 (rs:=[.b x2]) rfl rfl (A2 rfl (A2 rfl B4)) ((C5s hx2).frz)<|qm rfl<|es (ra1 rfl)<|C4 ?_
  obtain rfl:=os h
  exact retq trivial (B1 rfl B7) (A5 rfl B6) (A1 A4 A8)
end Vn
end
section
namespace Vn
open Go Am
def F9 (n s:Nat):List Int:=((List.range n).filter fun i=>s / 2 ^ i % 2 == 1).map fun (i:Nat)=>(i:Int)
def pk (n k:Nat):List (List Int):=(A6z (n:Int) (k:Int)).getD []
def pks (n:Nat):List (List Int):=(List.range (n + 1)).flatMap (pk n)
def lexlt:List Int→List Int→Bool
 | [],[]=>false
 | [],_ :: _=>true
 | _ :: _,[]=>false
 | a :: l,b :: m=>decide (a < b) || (a == b && lexlt l m)
def slt (a b:List Int):Bool:=decide (a.length < b.length) || (a.length == b.length && lexlt a b)
theorem E0v {n k:Nat} (hn:n≤4) (hk:k≤n):A6z (n:Int) (k:Int) = some (pk n k):= by
 have:∀n:Nat,n≤4→∀ k:Nat,k≤n→(A6z (n:Int) (k:Int)).isSome = true:= by decide +kernel
 unfold pk
 cases h:A6z (n:Int) (k:Int) with
 | none=>have:=this n hn k hk; rw [h] at this; exact absurd this (by decide)
 | some x=>rfl
theorem D25:∀n,n≤4→(pks n).Pairwise (fun a b=>slt a b = true):= by decide +kernel
theorem C9q:∀n,n≤4→∀ s,s < 2 ^ n→F9 n s ∈ pks n:= by decide +kernel
theorem D08:∀n,n≤4→∀ l ∈ pks n,∃ s,s < 2 ^ n∧F9 n s = l:= by decide +kernel
theorem E0p:∀n:Nat,n≤4→∀ s:Nat,s < 2 ^ n→A12 (IntKind.u64.wrap (s:Int)) = some ((F9 n s).length:Int):= by decide +kernel
theorem D7e:∀n:Nat,n≤4→∀ s:Nat,s < 2 ^ n→∀ r,r < 2 ^ n→B1p (F9 n s) (F9 n r) = some (slt (F9 n s) (F9 n r)):= by decide +kernel
theorem E00:∀n:Nat,n≤4→∀ s:Nat,s < 2 ^ n→∀ r,r < 2 ^ n→slt (F9 n s) (F9 n r) = true∨F9 n s = F9 n r∨slt (F9 n r) (F9 n s) = true:= by decide +kernel
theorem C4t:∀n:Nat,n≤4→∀ s:Nat,s < 2 ^ n→∀ r,r < 2 ^ n→slt (F9 n s) (F9 n r) = true→slt (F9 n r) (F9 n s) = false∧F9 n s ≠ F9 n r:= by decide +kernel
theorem D59 {n:Nat} (hn:n≤4) {s r q:Nat} (hs:s < 2 ^ n) (hr:r < 2 ^ n) (hq:q < 2 ^ n) (h1:slt (F9 n s) (F9 n r) = true) (h2:slt (F9 n r) (F9 n q) = true):slt (F9 n s) (F9 n q) = true:= by
 have:∀n:Nat,n≤4→∀ s:Nat,s < 2 ^ n→∀ r:Nat,r < 2 ^ n→((List.range (2 ^ n)).all fun q=>!slt (F9 n s) (F9 n r) || !slt (F9 n r) (F9 n q) || slt (F9 n s) (F9 n q)) = true:= by decide +kernel
 have:=List.all_eq_true.mp (this n hn s hs r hr) q (List.mem_range.mpr hq)
 rw [h1,h2] at this
 exact this
theorem C9r:∀i:Nat,i < 4→∀ s:Nat,s < 16→(B30 .i64 (s:Int) (i:Int)).map (fun x=>(B7m x 1 == 1,B7m x 1 == 0)) = some (s / 2 ^ i % 2 == 1,!(s / 2 ^ i % 2 == 1)):= by decide +kernel
theorem D4y:∀i:Nat,i < 4→∀ s:Nat,s < 256→(B30 .i64 (s:Int) (i:Int)).map (fun x=>Int.tmod x 2 == 1) = some (s / 2 ^ i % 2 == 1):= by decide +kernel
theorem D61:∀n:Nat,n≤4→D3e .i64 1 (n:Int) = some ((2 ^ n:Nat):Int):= by decide +kernel
def bit (s i:Nat):Bool:=s / 2 ^ i % 2 == 1
def B54 (t:VaTrain) (s n:Nat):List VaPair:=((List.range n).filter fun i=>!bit s i).map fun (i:Nat)=>t.Apart[i]!
def A0i (t:VaTrain) (s:Nat):VaTrain:=⟨t.Vans,t.Stops,t.Handle,t.Crates,B54 t s t.Apart.length⟩
theorem C6o (t:VaTrain) (s n:Nat):B54 t s (n + 1) = if bit s n = true then B54 t s n else B54 t s n++[t.Apart[n]!]:= by
 unfold B54
 rw [List.range_succ,List.filter_append,List.map_append]
 cases h:bit s n <;> simp [h]
theorem C18 (t:VaTrain) (s n:Nat):(B54 t s n).length≤n:= by
 unfold B54
 rw [List.length_map]
 exact Nat.le_trans (List.length_filter_le _ _) (by simp)
theorem C17 (s n:Nat):F9 (n + 1) s = if bit s n = true then F9 n s++[(n:Int)] else F9 n s:= by
 unfold F9
 rw [List.range_succ,List.filter_append,List.map_append]
 have e:(s / 2 ^ n % 2 == 1) = bit s n:=rfl
 cases h:bit s n <;> simp [e,h]
theorem B2i (n s:Nat):(F9 n s).length≤n:= by
 unfold F9
 rw [List.length_map]
 exact Nat.le_trans (List.length_filter_le _ _) (by simp)
theorem C7b {n s i:Nat}:(i:Int) ∈ F9 n s↔i < n∧bit s i = true:= by
 unfold F9
 rw [List.mem_map]
 constructor
 ·rintro ⟨j,hj,e⟩
  have:j = i:= by omega
  subst this
  rw [List.mem_filter,List.mem_range] at hj
  exact hj
 ·rintro ⟨a,b⟩
  exact ⟨i,List.mem_filter.mpr ⟨List.mem_range.mpr a,b⟩,rfl⟩
theorem B29 {t:VaTrain} (h:TOk t) (s:Nat):TOk (A0i t s):= by
 refine ⟨h.stops1,h.stops,h.handle0,h.handle,h.vans1,h.vans,h.crates,Nat.le_trans (C18 t s _) h.apart,fun i hi=>?_,fun i hi=>?_,fun i hi=>?_⟩
 ·have:=h.van i hi
  exact ⟨this.room0,this.room,this.leave0,this.leave,this.legs,this.leg⟩
 ·have:=h.crate i hi
  exact ⟨this.size1,this.size,this.stop0,this.stop,this.by0,this.byl⟩
 ·have hm:(A0i t s).Apart[i]! ∈ B54 t s t.Apart.length:=A07 hi
  obtain ⟨j,hj,e⟩:=List.mem_map.mp hm
  have hj:=List.mem_range.mp (List.mem_filter.mp hj).1
  have:=h.pair j hj
  rw [← e]
  exact ⟨this.a0,this.ab,this.b⟩
theorem C19 {t:VaTrain} (c:(check t).2.2 = 0) (s:Nat):(check (A0i t s)).2.2 = 0 :=
 B7u (B29 (J3 c) s) ⟨(B2j c).van,(B2j c).crate,(B2j c).leave⟩
theorem D9l {t:VaTrain} (h:NB t) (s:Nat):NB (A0i t s):=h
theorem A5d {t:VaTrain} (ha:t.Apart.length≤4) (s:Nat):A3y t (F9 t.Apart.length s) = some (A0i t s):= by
 unfold A3y
 have hq:=G4 (b:=A5c t (F9 t.Apart.length s)) (fun i=>((i:Int),B54 t s i)) t.Apart.length (r:=B54 t s t.Apart.length) (by omega) (fun i hi=>by
  unfold A5c
  simp only []
  have hln:=C18 t s i
  rw [if_pos (by rw [decide_eq_true_eq]; omega),D7i _ _ (by have:=B2i t.Apart.length s; omega)]
  simp only [Option.bind_some]
  rw [D0 (by omega),C6o]
  cases hb:bit s i with
  | true =>
   rw [decide_eq_true (C7b.mpr ⟨hi,hb⟩)]; rfl
  | false =>
   rw [decide_eq_false (by rw [C7b,hb]; simp),E5 hi]
   simp only [Bool.not_false,if_true,Option.bind_some,Bool.false_eq_true,if_false]
   rw [W4 (by omega) (by simp; omega)]; rfl) (by
  unfold A5c
  simp only []
  rw [if_neg (by rw [decide_eq_true_eq]; omega)])
 have hq:loop (A5c t (F9 t.Apart.length s)) (0,[]) = _:=hq
 rw [hq]; rfl
theorem D9c {t:VaTrain} (ha:t.Apart.length≤4) (s:Nat) (hs:s < 16):loop (W0 ⟨t⟩ (s:Int)) (0,[]) = some (B54 t s t.Apart.length):= by
 have hq:=G4 (b:=W0 ⟨t⟩ (s:Int)) (fun i=>((i:Int),B54 t s i)) t.Apart.length (r:=B54 t s t.Apart.length) (by omega) (fun i hi=>by
  unfold W0
  simp only []
  have hln:=C18 t s i
  have hsh:=C9r i (by omega) s hs
  rw [if_pos (by rw [decide_eq_true_eq]; omega),E5 hi]
  simp only [Option.bind_some]
  cases he:B30 .i64 (s:Int) (i:Int) with
  | none=>rw [he] at hsh; exact absurd hsh (by simp)
  | some x =>
   rw [he] at hsh
   have hsh:(B7m x 1 == 0) = !bit s i:=congrArg Prod.snd (Option.some.inj hsh)
   simp only [Option.bind_some]
   rw [D0 (by omega),C6o,hsh]
   cases hb:bit s i with
   | true=>rfl
   | false =>
    simp only [Bool.not_false,if_true,Bool.false_eq_true,if_false]
    rw [W4 (by omega) (by simp; omega)]; rfl) (by
  unfold W0
  simp only []
  rw [if_neg (by rw [decide_eq_true_eq]; omega)])
 exact hq
def X4 (t:VaTrain):Bool:=(PL t).any fun p=>J1 t p == (t.Crates.length:Int)
section
variable {α σ ρ:Type}
theorem C6x {f:α→σ→Option (σ ⊕ ρ)} (I:σ→Prop) (P:α→Bool):∀(l:List α),(∀ a ∈ l,∀ s,I s→if P a = true then ∃r,f a s = some (.inr r) else ∃s',f a s = some (.inl s')∧I s')→∀ s,I s→∃ x,B4v f l s = some x∧x.isLeft = !l.any P
 | [],_,s,_=>⟨_,rfl,rfl⟩
 | a :: l,h,s,hs=>by
  have h1:=h a List.mem_cons_self s hs
  rw [List.any_cons]
  show ∃x,(f a s).bind _ = some x∧_
  cases hp:P a with
  | true =>
   rw [hp,if_pos rfl] at h1
   obtain ⟨r,h1⟩:=h1
   rw [h1]
   exact ⟨_,rfl,rfl⟩
  | false =>
   rw [hp,if_neg (by decide)] at h1
   obtain ⟨s',h1,h2⟩:=h1
   rw [h1,Bool.false_or]
   exact C6x I P l (fun b hb=>h b (List.mem_cons_of_mem _ hb)) s' h2
end
theorem C42 {t:VaTrain} (h:TOk t) (s:Nat) (hs:s < 16):A3w ⟨t⟩ (s:Int) = some (X4 (A0i t s)):= by
 have hB:=B29 h s
 have hl:=h.crates
 unfold A3w
 rw [D9c h.apart s hs]
 simp only [Option.bind_some]
 obtain ⟨x,h1,h2⟩:=C6x (f:=fun q st=>A05 ⟨t⟩ (B54 t s t.Apart.length) (K2 q) st) (Inv (A0i t s)) (fun p=>J1 (A0i t s) p == ((A0i t s).Crates.length:Int)) (PL (A0i t s)) (fun p hp st hi=>by
  have hP:=(A4h hB).mp hp
  obtain ⟨ms,h1,h2⟩:=C27 hi (C24 hB p hP.len hP.range)
  unfold A05
  rw [show (van_train.mk (VaTrain.mk t.Vans t.Stops t.Handle t.Crates (B54 t s t.Apart.length))).VaTrain = A0i t s from rfl,h1]
  simp only [Option.bind_some]
  cases c:(J1 (A0i t s) p == ((A0i t s).Crates.length:Int)) with
  | true=>exact ⟨ms,by rw [show (J1 (A0i t s) p == (t.Crates.length:Int)) = true from c]; rfl⟩
  | false=>exact ⟨ms,by rw [show (J1 (A0i t s) p == (t.Crates.length:Int)) = false from c]; rfl,h2⟩) [] (C8r _)
 have h1:=B68 hB h1
 show (A9p (A0i t s) _ _ _ _).bind _ = _
 rw [h1]
 unfold X4
 generalize (PL (A0i t s)).any (fun p=>J1 (A0i t s) p == ((A0i t s).Crates.length:Int)) = b at h2
 cases x with
 | inl y =>
  cases b with
  | false=>rfl
  | true=>exact absurd (show true = false from h2) (by decide)
 | inr y =>
  cases b with
  | true=>rfl
  | false=>exact absurd (show false = true from h2) (by decide)
theorem A4s {t:VaTrain} (h:TOk t):A1m t = some (X4 t):= by
 have hln:=D15 h
 have hin:∀q ∈ PL t,PlanOk t q:=fun q hq=>(A4h h).mp hq
 unfold A1m
 rw [B0x h]
 simp only [Option.bind_some]
 unfold X4
 generalize PL t = l at *
 rw [R3 (b:=A4r t l) l.length (fun i=>(if (J1 t l[i]! == (t.Crates.length:Int)) = true then some (i:Int) else none).map fun _=>Sum.inl true) (.inr ()) (by omega) (fun i hi _=>by
  unfold A4r
  have hP:=hin _ (A07 hi)
  rw [if_pos (by rw [decide_eq_true_eq]; omega),E5 hi]
  simp only [Option.bind_some]
  rw [A8k h _ hP.len hP.range]
  simp only [Option.bind_some]
  generalize (J1 t l[i]! == (t.Crates.length:Int)) = b
  cases b <;> rfl) (by
  unfold A4r
  rw [if_neg (by rw [decide_eq_true_eq]; omega)]),Q8,← B85]
 cases first (fun i=>if (J1 t l[i]! == (t.Crates.length:Int)) = true then some (i:Int) else none) l.length <;> rfl
theorem B7e {t:VaTrain} (h:TOk t):X4 t = ((I3 t).2.1 == (t.Crates.length:Int)):= by
 obtain ⟨k1,k2,_⟩:=A6v h
 unfold X4
 rw [Bool.eq_iff_iff,List.any_eq_true,beq_iff_eq]
 constructor
 ·rintro ⟨p,hp,e⟩
  have hP:=(A4h h).mp hp
  have hm:=B5w h hP
  have hb:=A2r t (I3 t).1 (I3 t).1.length
  rw [k1.len] at hb
  have e:J1 t p = t.Crates.length:= by simpa using e
  have:J1 t (I3 t).1 = N3 t (I3 t).1 t.Crates.length:= by unfold J1; rw [k1.len]
  omega
 ·intro e
  exact ⟨(I3 t).1,(A4h h).mpr k1,by rw [beq_iff_eq,← k2]; exact e⟩
end Vn
end
section
set_option maxRecDepth 100000
set_option maxHeartbeats 0
namespace Vn
open Go Am Go.Proofs.Ytjjmechghfjbmaa.Cd
def X6 (a0:VaTrain) (a1:Int) (s8:(Int × (List Int))):Option ((Int × (List Int)) ⊕ (List Int)) :=
 if (decide (s8.1 < (List.length a0.Apart:Int))) = true then
  (B30 .i64 (w64 a1) s8.1).bind fun x11 =>
  if ((Int.tmod x11 2) == 1) = true then
  (app 8 s8.2 [s8.1]).bind fun x13 =>
  some (.inl ((w64 (s8.1 + 1)),x13))
  else
  some (.inl ((w64 (s8.1 + 1)),s8.2))
 else
  some (.inr s8.2)
def X7 (a0:VaTrain) (x1:((List Int) × Int)) (s24:Int):Option (Int ⊕ (Bool ⊕ Unit)) :=
 if (decide (s24 < (List.length x1.1:Int))) = true then
  (idx x1.1 s24).bind fun x27 =>
  (if (decide (x27 < 0)) = true then
  some true
  else
  (idx x1.1 s24).bind fun x29 =>
  some (decide (x29 ≥ (List.length a0.Apart:Int)))).bind fun x30 =>
  (if x30 = true then
  some true
  else
  (if (decide (s24 > 0)) = true then
   (idx x1.1 s24).bind fun x33 =>
   (idx x1.1 (w64 (s24 - 1))).bind fun x34 =>
   some (decide (x33≤x34))
  else
   some false).bind fun x35 =>
  some x35).bind fun x36 =>
  if x36 = true then
  some (.inr (.inl false))
  else
  some (.inl (w64 (s24 + 1)))
 else
  some (.inr (.inr ()))
def A4e (a0:VaTrain) (a1:Int):Option Bool :=
 (A0u a0).bind fun x1 =>
 (R9 a0).bind fun x2 =>
 if (!x2) = true then
  (if ((x1.2 != 0) && ((List.length x1.1:Int) == 0)) = true then
  (G2).bind fun x6 =>
  some x6
  else
  some false).bind fun x7 =>
  some x7
 else
  (loop (X6 a0 a1) (0,([]:List Int))).bind fun (o14:(List Int)) =>
  (A3y a0 o14).bind fun x15 =>
  (X2 x15).bind fun x16 =>
  if (x16.2.2.2 != 0) = true then
  some false
  else
  if (x1.2 != 0) = true then
   (if (((x1.2 == 9) && ((List.length x1.1:Int) == 0)) && (decide (x16.2.1 < (List.length a0.Crates:Int)))) = true then
   (G2).bind fun x22 =>
   some x22
   else
   some false).bind fun x23 =>
   some x23
  else
   (loop (X7 a0 x1) 0).bind fun (o38:(Bool ⊕ Unit)) =>
   match o38 with
   | (.inl vo38_0) =>
   some vo38_0
   | (.inr vo38_1) =>
   (A3y a0 x1.1).bind fun x39 =>
   (X2 x39).bind fun x40 =>
   (if ((x40.2.2.2 == 0) && (x40.2.1 == (List.length a0.Crates:Int))) = true then
    (if (decide (x16.2.1 < (List.length a0.Crates:Int))) = true then
    some true
    else
    (B1p o14 x1.1).bind fun x44 =>
    some (!x44)).bind fun x45 =>
    some x45
   else
    some false).bind fun x46 =>
   (if x46 = true then
    (G2).bind fun x48 =>
    some x48
   else
    some false).bind fun x49 =>
   some x49
theorem B8i {c:Sc} {H:A6} (hscv:Z9 c H = true) {a0:VaTrain} {a1:Int} {r:Bool} (h:A4e a0 a1 = some r) :
  F2 tab c H (.fn (.func 13) [] []) [(.agg (A3 a0)),(.lit (.int .u8 a1))] [.b r]:= by
 unfold A4e at h
 refine cE rfl rfl<|sg 0 rfl<|A0 (G0 (cs:=A3 a0) rfl rfl rfl) rfl<|qm rfl<|es (ra2 rfl rfl)<|s0<|oB h fun x1 hx1 h=>A0 (C5 rfl rfl rfl) rfl<|B2 (rs:=[(.seq 1 (List.map cI x1.1)),.i x1.2]) rfl rfl (A2 (D2 rfl) B4) ((A9n (A1c hscv) hx1).frz)<|qm rfl<|A0 (A7 rfl rfl) rfl<|A0 (A7 rfl rfl) rfl<|qm rfl<|qm rfl<|es (ra4 rfl rfl rfl rfl)<|B3<|s0<|oB h fun x2 hx2 h=>A0 (C5 rfl rfl rfl) rfl<|B2 (rs:=[.b x2]) rfl rfl (A2 (D2 rfl) B4) ((T3 hx2).frz)<|A0 (O3 rfl) rfl<|es (ra5 rfl rfl rfl rfl rfl)<|wi h rfl (fun hc3 h=>?_) fun hc3 h=>?_
 ·refine s0<|oB h fun x7 hx7 h=>qm rfl<|A0 (F8 rfl rfl) rfl<|qm rfl<|gp 4 32 (.b ((x1.2 != 0) && ((List.length x1.1:Int) == 0))) 28 rfl rfl (fun hg4=>?_) (fun hg4=>?_) ?_
  ·exact gT rfl hg4<|qm rfl<|gT rfl hg4<|A0 (D3 (f:=cI) rfl) rfl<|gT rfl hg4<|A0 (G7 rfl rfl) rfl<|A0 (C8 rfl hg4 rfl) rfl<|ge 4 (by rw [hg4]; rfl) rfl rfl
  ·exact nT rfl hg4 rfl<|nT rfl hg4 rfl<|nT rfl hg4 rfl<|A0 (C7 rfl hg4 rfl) rfl<|ge 4 (by rw [hg4]; rfl) rfl rfl
  refine qm rfl<|gp 2 35 (.b x7) 33 rfl rfl (fun hg5=>?_) (fun hg5=>?_) ?_
  ·refine oB (bt hx7 hg5) fun x6 hx6 hx7=>?_
   obtain rfl:=os hx7
   exact gT rfl hg5<|B2 (rs:=[.b x6]) rfl rfl B4 ((G5 (A1c hscv) hx6).frz)<|A0 (C8 rfl hg5 rfl) rfl<|ge 2 rfl rfl rfl
  ·obtain rfl:=os (bf hx7 hg5)
   exact H8 (E9 rfl (by rw [hg5]; rfl)) rfl<|A0 (C7 rfl hg5 rfl) rfl<|ge 2 rfl rfl rfl
  refine qm rfl<|es (ra1 rfl)<|C4 ?_
  obtain rfl:=os h
  exact retq trivial (B1 rfl B7) (A5 rfl B6) (A1 A4 A8)
 ·refine C2<|sg 1 rfl<|A0 A5y rfl<|es (ra5 rfl rfl rfl rfl rfl)<|B3<|s0<|qm rfl<|es (ra6 rfl rfl rfl rfl rfl rfl)<|B9<|oB h fun o14 ho14 h=>wl (fun s8=>[(1,(.lit (.int .u8 a1))),(2,(.ptr (H.length + 0) 0)),(5,(.seq 1 (List.map cI x1.1))),(6,.i x1.2),(7,(.asl (H.length + 1) (List.length s8.2))),(8,.i s8.1)]) (fun (q9:Unit) s8=>[(.cells (A3 a0)),(.arr 1 false (List.map cI s8.2))]) 2 (fun r e s' H'=>PX 0 [(2,(.ptr (H.length + 0) 0)),(5,(.seq 1 (List.map cI x1.1))),(6,.i x1.2),(7,(.asl (H.length + 1) (List.length r)))] (H++[(.cells (A3 a0)),(.arr 1 false (List.map cI r))]) e s' H') () ho14 rfl rfl (fun _ _=>rfl) (fun _=>rfl) rfl (fun s8=>(bdc A4 (bdc (D5 rfl) (bdc D8 (bdc A4 (bdc (U8 rfl) (bdc A4 bdn))))))) (fun q9 s8 ys8 hs8=>?_) ?_
  ·unfold X6 at hs8
   refine B3<|s0<|qm rfl<|A0 (C3 rfl) rfl<|A0 (B5 rfl rfl rfl) rfl<|A0 (D3 (f:=C1) rfl) rfl<|A0 (F4 rfl rfl) rfl<|es (ra7 rfl rfl rfl rfl rfl rfl rfl)<|wi hs8 rfl (fun hc10 hs8=>?_) fun hc10 hs8=>?_
   ·refine C2<|B3<|B9<|s0<|oB hs8 fun x11 hx11 hs8=>qm rfl<|A0 (A7e rfl) rfl<|qm rfl<|A0 (B6d rfl rfl hx11) rfl<|A0 (J9 (v:=(.i (Int.tmod x11 2))) rfl rfl rfl) rfl<|A0 (G7 rfl rfl) rfl<|es (ra7 rfl rfl rfl rfl rfl rfl rfl)<|wi hs8 rfl (fun hc12 hs8=>?_) fun hc12 hs8=>?_
    ·refine r0<|oB hs8 fun x13 hx13 hs8=>qm rfl<|qm rfl<|A0 (I8 (rows:=List.map cI [s8.1]) rfl rfl (E4 (fun _=>rfl) _)) rfl<|A35 (W8 (f:=cI) rfl rfl rfl rfl U0 (fun _=>rfl) hx13) rfl<|qm rfl<|en (ra6 rfl rfl rfl rfl rfl rfl)<|r0<|qm rfl<|A0 (D7 rfl rfl) rfl<|qm rfl<|en (ra6 rfl rfl rfl rfl rfl rfl) ?_
     cases hs8
     exact lnT () rfl (su6 rfl rfl rfl rfl rfl rfl)
    ·refine C2<|r0<|qm rfl<|A0 (D7 rfl rfl) rfl<|qm rfl<|en (ra6 rfl rfl rfl rfl rfl rfl) ?_
     cases hs8
     exact lnT () rfl (su6 rfl rfl rfl rfl rfl rfl)
   ·refine E3 ?_
    obtain rfl:=os hs8
    exact lx rfl px (su4 rfl rfl rfl rfl)
  ·rintro e s' H' - ⟨rfl,rfl,rfl⟩
   refine s0<|oB h fun x15 hx15 h=>oB h fun x16 hx16 h=>A0 (C5 rfl rfl rfl) rfl<|qm rfl<|B2 (rs:=[(.agg (A3 x15))]) rfl rfl (A2 (D2 rfl) (A2 (A88 rfl (List.length_map _)) B4)) ((A9l hx15).frz)<|B2 (rs:=[(.seq 1 (List.map cI x16.1)),.i x16.2.1,.i x16.2.2.1,.i x16.2.2.2]) rfl rfl (A2 (D2 rfl) B4) ((A0e (A1c hscv) hx16).frz)<|qm rfl<|A0 (A7 rfl rfl) rfl<|A0 (A7 rfl rfl) rfl<|A0 (A7 rfl rfl) rfl<|A0 (A7 rfl rfl) rfl<|qm rfl<|qm rfl<|qm rfl<|qm rfl<|es (ra6 rfl rfl rfl rfl rfl rfl)<|B3<|s0<|qm rfl<|A0 (F8 rfl rfl) rfl<|es (ra6 rfl rfl rfl rfl rfl rfl)<|wi h rfl (fun hc17 h=>?_) fun hc17 h=>?_
   ·refine s0<|qm rfl<|es (ra1 rfl)<|C4 ?_
    obtain rfl:=os h
    exact retq trivial (B1 rfl B7) (A5 rfl B6) (A1 A4 A8)
   ·refine C2<|B3<|s0<|qm rfl<|A0 (F8 rfl rfl) rfl<|es (ra6 rfl rfl rfl rfl rfl rfl)<|wi h rfl (fun hc18 h=>?_) fun hc18 h=>?_
    ·refine s0<|oB h fun x23 hx23 h=>qm rfl<|A0 (G7 rfl rfl) rfl<|qm rfl<|gp 4 72 (.b ((x1.2 == 9) && ((List.length x1.1:Int) == 0))) 68 rfl rfl (fun hg19=>?_) (fun hg19=>?_) ?_
     ·exact gT rfl hg19<|qm rfl<|gT rfl hg19<|A0 (D3 (f:=cI) rfl) rfl<|gT rfl hg19<|A0 (G7 rfl rfl) rfl<|A0 (C8 rfl hg19 rfl) rfl<|ge 4 (by rw [hg19]; rfl) rfl rfl
     ·exact nT rfl hg19 rfl<|nT rfl hg19 rfl<|nT rfl hg19 rfl<|A0 (C7 rfl hg19 rfl) rfl<|ge 4 (by rw [hg19]; rfl) rfl rfl
     refine qm rfl<|gp 6 79 (.b (((x1.2 == 9) && ((List.length x1.1:Int) == 0)) && (decide (x16.2.1 < (List.length a0.Crates:Int))))) 73 rfl rfl (fun hg20=>?_) (fun hg20=>?_) ?_
     ·exact gT rfl hg20<|qm rfl<|gT rfl hg20<|A0 (C3 rfl) rfl<|gT rfl hg20<|A0 (B5 rfl rfl rfl) rfl<|gT rfl hg20<|A0 (D3 (f:=A9) rfl) rfl<|gT rfl hg20<|A0 (F4 rfl rfl) rfl<|A0 (C8 rfl hg20 rfl) rfl<|ge 6 (by rw [hg20]; rfl) rfl rfl
     ·exact nT rfl hg20 rfl<|nT rfl hg20 rfl<|nT rfl hg20 rfl<|nT rfl hg20 rfl<|nT rfl hg20 rfl<|A0 (C7 rfl hg20 rfl) rfl<|ge 6 (by rw [hg20]; rfl) rfl rfl
     refine qm rfl<|gp 2 82 (.b x23) 80 rfl rfl (fun hg21=>?_) (fun hg21=>?_) ?_
     ·refine oB (bt hx23 hg21) fun x22 hx22 hx23=>?_
      obtain rfl:=os hx23
      exact gT rfl hg21<|B2 (rs:=[.b x22]) rfl rfl B4 ((G5 (A1c hscv) hx22).frz)<|A0 (C8 rfl hg21 rfl) rfl<|ge 2 rfl rfl rfl
     ·obtain rfl:=os (bf hx23 hg21)
      exact H8 (E9 rfl (by rw [hg21]; rfl)) rfl<|A0 (C7 rfl hg21 rfl) rfl<|ge 2 rfl rfl rfl
     refine qm rfl<|es (ra1 rfl)<|C4 ?_
     obtain rfl:=os h
     exact retq trivial (B1 rfl B7) (A5 rfl B6) (A1 A4 A8)
    ·refine C2<|B3<|s0<|qm rfl<|es (ra5 rfl rfl rfl rfl rfl)<|B9<|oB h fun o38 ho38 h=>wl (fun s24=>[(2,(.ptr (H.length + 0) 0)),(5,(.seq 1 (List.map cI x1.1))),(7,(.asl (H.length + 1) (List.length o14))),(10,.i x16.2.1),(13,.i s24)]) (fun (q25:Unit) s24=>[(.cells (A3 a0)),(.arr 1 true (List.map cI o14))]) 2 (fun r e s' H'=>(match r with | (.inl v)=>e = .ret∧RetQ H [.tmp 4] [.b v] e s' H' | (.inr v)=>PX 2 [(2,(.ptr (H.length + 0) 0)),(5,(.seq 1 (List.map cI x1.1))),(7,(.asl (H.length + 1) (List.length o14))),(10,.i x16.2.1)] (H++[(.cells (A3 a0)),(.arr 1 true (List.map cI o14))]) e s' H':Prop)) () ho38 rfl rfl (fun _ _=>rfl) (fun _=>rfl) rfl (fun s24=>(bdc (D5 rfl) (bdc D8 (bdc (U8 rfl) (bdc A4 (bdc A4 bdn)))))) (fun q25 s24 ys24 hs24=>?_) ?_
     ·unfold X7 at hs24
      refine B3<|s0<|qm rfl<|qm rfl<|A0 (D3 (f:=cI) rfl) rfl<|A0 (F4 rfl rfl) rfl<|es (ra6 rfl rfl rfl rfl rfl rfl)<|wi hs24 rfl (fun hc26 hs24=>?_) fun hc26 hs24=>?_
      ·refine C2<|B3<|B9<|s0<|oB hs24 fun x27 hx27 hs24=>oB hs24 fun x30 hx30 hs24=>oB hs24 fun x36 hx36 hs24=>qm rfl<|qm rfl<|A0 (D4 (f:=cI) rfl rfl hx27) rfl<|A0 (D6 rfl rfl) rfl<|A0 (F4 rfl rfl) rfl<|qm rfl<|gp 9 103 (.b x30) 94 rfl rfl (fun hg28=>?_) (fun hg28=>?_) ?_
       ·obtain rfl:=os (bt hx30 hg28)
        exact nF rfl hg28 rfl<|nF rfl hg28 rfl<|nF rfl hg28 rfl<|nF rfl hg28 rfl<|nF rfl hg28 rfl<|nF rfl hg28 rfl<|nF rfl hg28 rfl<|nF rfl hg28 rfl<|A0 (C8 rfl hg28 rfl) rfl<|ge 9 rfl rfl rfl
       ·refine oB (bf hx30 hg28) fun x29 hx29 hx30=>?_
        obtain rfl:=os hx30
        exact gF rfl hg28<|qm rfl<|gF rfl hg28<|qm rfl<|gF rfl hg28<|A0 (D4 (f:=cI) rfl rfl hx29) rfl<|gF rfl hg28<|A0 (D6 rfl rfl) rfl<|gF rfl hg28<|A0 (C3 rfl) rfl<|gF rfl hg28<|A0 (B5 rfl rfl rfl) rfl<|gF rfl hg28<|A0 (D3 (f:=C1) rfl) rfl<|gF rfl hg28<|A0 (B1e rfl rfl) rfl<|A0 (C7 rfl hg28 rfl) rfl<|ge 9 rfl rfl rfl
       refine qm rfl<|gp 15 119 (.b x36) 104 rfl rfl (fun hg31=>?_) (fun hg31=>?_) ?_
       ·obtain rfl:=os (bt hx36 hg31)
        exact nF rfl hg31 rfl<|nF rfl hg31 rfl<|nF rfl hg31 rfl<|nX rfl rfl<|nX rfl rfl<|nX rfl rfl<|nX rfl rfl<|nX rfl rfl<|nX rfl rfl<|nX rfl rfl<|nX rfl rfl<|nX rfl rfl<|nX rfl rfl<|nF rfl hg31 rfl<|A0 (C8 rfl hg31 rfl) rfl<|ge 15 rfl rfl rfl
       ·refine oB (bf hx36 hg31) fun x35 hx35 hx36=>?_
        obtain rfl:=os hx36
        refine gF rfl hg31<|qm rfl<|gF rfl hg31<|A0 (A37 rfl rfl) rfl<|gF rfl hg31<|qm rfl<|gq 11 118 (.b x35) 107 rfl rfl (fun hg32=>?_) (fun hg32=>?_) ?_
        ·refine oB (bt hx35 hg32) fun x33 hx33 hx35=>oB hx35 fun x34 hx34 hx35=>?_
         obtain rfl:=os hx35
         exact gT rfl hg32<|qm rfl<|gT rfl hg32<|qm rfl<|gT rfl hg32<|A0 (D4 (f:=cI) rfl rfl hx33) rfl<|gT rfl hg32<|A0 (D6 rfl rfl) rfl<|gT rfl hg32<|qm rfl<|gT rfl hg32<|qm rfl<|gT rfl hg32<|A0 (O0 rfl rfl) rfl<|gT rfl hg32<|A0 (D4 (f:=cI) rfl rfl hx34) rfl<|gT rfl hg32<|A0 (D6 rfl rfl) rfl<|gT rfl hg32<|A0 (A8p rfl rfl) rfl<|gF rfl hg31<|A0 (C8 rfl hg32 rfl) rfl<|ge 11 rfl rfl rfl
        ·obtain rfl:=os (bf hx35 hg32)
         exact nT rfl hg32 rfl<|nT rfl hg32 rfl<|nT rfl hg32 rfl<|nT rfl hg32 rfl<|nT rfl hg32 rfl<|nT rfl hg32 rfl<|nT rfl hg32 rfl<|nT rfl hg32 rfl<|nT rfl hg32 rfl<|nT rfl hg32 rfl<|gF rfl hg31<|A0 (C7 rfl hg32 rfl) rfl<|ge 11 rfl rfl rfl
        exact A0 (C7 rfl hg31 rfl) rfl<|ge 5 rfl rfl rfl
       refine es (ra6 rfl rfl rfl rfl rfl rfl)<|wi hs24 rfl (fun hc37 hs24=>?_) fun hc37 hs24=>?_
       ·refine s0<|qm rfl<|es (ra1 rfl)<|C4 ?_
        obtain rfl:=os hs24
        exact lx rfl (And.intro rfl (retq trivial (B1 rfl B7) (A5 rfl B6) (A1 A4 A8))) (Sub.refl _)
       ·refine C2<|r0<|qm rfl<|A0 (D7 rfl rfl) rfl<|qm rfl<|en (ra5 rfl rfl rfl rfl rfl) ?_
        cases hs24
        exact lnT () rfl (su5 rfl rfl rfl rfl rfl)
      ·refine E3 ?_
       obtain rfl:=os hs24
       exact lx rfl px (su4 rfl rfl rfl rfl)
     ·rcases o38 with vo38_0 | vo38_1
      ·rintro e s' H' - ⟨rfl,hret⟩
       cases h
       exact hret
      ·rintro e s' H' - ⟨rfl,rfl,rfl⟩
       refine s0<|oB h fun x39 hx39 h=>oB h fun x40 hx40 h=>A0 (C5 rfl rfl rfl) rfl<|qm rfl<|B2 (rs:=[(.agg (A3 x39))]) rfl rfl (A2 (D2 rfl) (A2 rfl B4)) ((A9l hx39).frz)<|B2 (rs:=[(.seq 1 (List.map cI x40.1)),.i x40.2.1,.i x40.2.2.1,.i x40.2.2.2]) rfl rfl (A2 (D2 rfl) B4) ((A0e (A1c hscv) hx40).frz)<|qm rfl<|A0 (A7 rfl rfl) rfl<|A0 (A7 rfl rfl) rfl<|A0 (A7 rfl rfl) rfl<|A0 (A7 rfl rfl) rfl<|qm rfl<|qm rfl<|qm rfl<|qm rfl<|es (ra6 rfl rfl rfl rfl rfl rfl)<|B3<|D4s (C83 rfl (A88 rfl (List.length_map _)))<|r0<|oB h fun x46 hx46 h=>oB h fun x49 hx49 h=>qm rfl<|A0 (G7 rfl rfl) rfl<|qm rfl<|gp 6 137 (.b ((x40.2.2.2 == 0) && (x40.2.1 == (List.length a0.Crates:Int)))) 131 rfl rfl (fun hg41=>?_) (fun hg41=>?_) ?_
       ·exact gT rfl hg41<|qm rfl<|gT rfl hg41<|A0 (C3 rfl) rfl<|gT rfl hg41<|A0 (B5 rfl rfl rfl) rfl<|gT rfl hg41<|A0 (D3 (f:=A9) rfl) rfl<|gT rfl hg41<|A0 (G7 rfl rfl) rfl<|A0 (C8 rfl hg41 rfl) rfl<|ge 6 (by rw [hg41]; rfl) rfl rfl
       ·exact nT rfl hg41 rfl<|nT rfl hg41 rfl<|nT rfl hg41 rfl<|nT rfl hg41 rfl<|nT rfl hg41 rfl<|A0 (C7 rfl hg41 rfl) rfl<|ge 6 (by rw [hg41]; rfl) rfl rfl
       refine qm rfl<|gp 12 150 (.b x46) 138 rfl rfl (fun hg42=>?_) (fun hg42=>?_) ?_
       ·refine oB (bt hx46 hg42) fun x45 hx45 hx46=>?_
        obtain rfl:=os hx46
        refine gT rfl hg42<|qm rfl<|gT rfl hg42<|A0 (C3 rfl) rfl<|gT rfl hg42<|A0 (B5 rfl rfl rfl) rfl<|gT rfl hg42<|A0 (D3 (f:=A9) rfl) rfl<|gT rfl hg42<|A0 (F4 rfl rfl) rfl<|gT rfl hg42<|qm rfl<|gq 5 149 (.b x45) 144 rfl rfl (fun hg43=>?_) (fun hg43=>?_) ?_
        ·obtain rfl:=os (bt hx45 hg43)
         exact nF rfl hg43 rfl<|nF rfl hg43 rfl<|H8 (E9 rfl (by rw [hg43]; rfl)) rfl<|nF rfl hg43 rfl<|gT rfl hg42<|A0 (C8 rfl hg43 rfl) rfl<|ge 5 rfl rfl rfl
        ·refine oB (bf hx45 hg43) fun x44 hx44 hx45=>?_
         obtain rfl:=os hx45
         exact gF rfl hg43<|qm rfl<|gF rfl hg43<|qm rfl<|gF rfl hg43<|B2 (rs:=[.b x44]) rfl rfl (A2 (A88 rfl (List.length_map _)) (A2 rfl B4)) ((C3r hx44).frz)<|gF rfl hg43<|A0 (O3 rfl) rfl<|gT rfl hg42<|A0 (C7 rfl hg43 rfl) rfl<|ge 5 rfl rfl rfl
        exact A0 (C8 rfl hg42 rfl) rfl<|ge 8 rfl rfl rfl
       ·obtain rfl:=os (bf hx46 hg42)
        exact nT rfl hg42 rfl<|nT rfl hg42 rfl<|nT rfl hg42 rfl<|nT rfl hg42 rfl<|nT rfl hg42 rfl<|nT rfl hg42 rfl<|nX rfl rfl<|nX rfl rfl<|H8 (Y3 rfl) rfl<|nX rfl rfl<|nT rfl hg42 rfl<|A0 (C7 rfl hg42 rfl) rfl<|ge 12 rfl rfl rfl
       refine qm rfl<|gp 2 153 (.b x49) 151 rfl rfl (fun hg47=>?_) (fun hg47=>?_) ?_
       ·refine oB (bt hx49 hg47) fun x48 hx48 hx49=>?_
        obtain rfl:=os hx49
        exact gT rfl hg47<|B2 (rs:=[.b x48]) rfl rfl B4 ((G5 (A1c hscv) hx48).frz)<|A0 (C8 rfl hg47 rfl) rfl<|ge 2 rfl rfl rfl
       ·obtain rfl:=os (bf hx49 hg47)
        exact H8 (E9 rfl (by rw [hg47]; rfl)) rfl<|A0 (C7 rfl hg47 rfl) rfl<|ge 2 rfl rfl rfl
       refine qm rfl<|es (ra1 rfl)<|C4 ?_
       obtain rfl:=os h
       exact retq trivial (B1 rfl B7) (A5 rfl B6) (A1 A4 A8)
end Vn
end
section
namespace Vn
open Go Am
def D3o (t:VaTrain) (n s:Nat):Prop:=s < 2 ^ n∧X4 (A0i t s) = true∧∀ r,r < 2 ^ n→X4 (A0i t r) = true→F9 n r = F9 n s∨slt (F9 n s) (F9 n r) = true
theorem pow16 {n:Nat} (h:n≤4):2 ^ n≤16:=Nat.pow_le_pow_right (by decide) h
theorem D7y {t:VaTrain} (ha:t.Apart.length≤4) (s:Nat) (hs:s < 16) (l:List Int) (f:Bool):loop (A5f t (l,f,(s:Int))) (0,[]) = some (F9 t.Apart.length s):= by
 have hq:=G4 (b:=A5f t (l,f,(s:Int))) (fun i=>((i:Int),F9 i s)) t.Apart.length (r:=F9 t.Apart.length s) (by omega) (fun i hi=>by
  unfold A5f
  simp only []
  have hln:=B2i i s
  have hsh:=C9r i (by omega) s hs
  rw [if_pos (by rw [decide_eq_true_eq]; omega)]
  cases he:B30 .i64 (s:Int) (i:Int) with
  | none=>rw [he] at hsh; exact absurd hsh (by simp)
  | some x =>
   rw [he] at hsh
   have hsh:(B7m x 1 == 1) = bit s i:=congrArg Prod.fst (Option.some.inj hsh)
   simp only [Option.bind_some]
   rw [D0 (by omega),C17,hsh]
   cases hb:bit s i with
   | true =>
    simp only [if_true]
    rw [W4 (by omega) (by simp; omega)]; rfl
   | false=>rfl) (by
  unfold A5f
  simp only []
  rw [if_neg (by rw [decide_eq_true_eq]; omega)])
 exact hq
structure LooseR (t:VaTrain) (n m:Nat) (s:List Int × Bool × Int):Prop where
 ix:s.2.2 = (m:Int)
 no:s.2.1 = false→s.1 = []∧∀ r,r < m→X4 (A0i t r) = false
 yes:s.2.1 = true→∃ q,q < m∧X4 (A0i t q) = true∧s.1 = F9 n q∧∀ r,r < m→X4 (A0i t r) = true→F9 n r = F9 n q∨slt (F9 n q) (F9 n r) = true
theorem D85 {n s q:Nat} (hn:n≤4) (hs:s < 2 ^ n) (hq:q < 2 ^ n):(if (decide (((F9 n s).length:Int) > ((F9 n q).length:Int))) = true then some true else
   (if (((F9 n s).length:Int) == ((F9 n q).length:Int)) = true then
   (Q2 (F9 n s) (F9 n q)).bind fun x18 =>
   some (decide (x18 > 0))
   else
   some false).bind fun x19 =>
   some x19) = some (slt (F9 n q) (F9 n s)):= by
 have:∀n:Nat,n≤4→∀ s:Nat,s < 2 ^ n→∀ q:Nat,q < 2 ^ n→(if (decide (((F9 n s).length:Int) > ((F9 n q).length:Int))) = true then some true else
   (if (((F9 n s).length:Int) == ((F9 n q).length:Int)) = true then
   (Q2 (F9 n s) (F9 n q)).bind fun x18 =>
   some (decide (x18 > 0))
   else
   some false).bind fun x19 =>
   some x19) = some (slt (F9 n q) (F9 n s)):= by decide +kernel
 exact this n hn s hs q hq
theorem D2r {t:VaTrain} (h:TOk t) (n:Nat) (hn:t.Apart.length = n) (m:Nat) (hm:m < 2 ^ n) (s:List Int × Bool × Int) (hR:LooseR t n m s):∃s',A5g t ((2 ^ n:Nat):Int) s = some (.inl s')∧LooseR t n (m + 1) s':= by
 have ha:=h.apart
 have hn4:n≤4:= by omega
 have h16:=pow16 hn4
 obtain ⟨l,f,i⟩:=s
 have hi:i = (m:Int):=hR.ix
 subst hi
 subst hn
 have hw:(2:Int) ^ t.Apart.length≤16:= by have:((2 ^ t.Apart.length:Nat):Int)≤16:= by omega
                                          simpa using this
 unfold A5g
 simp only []
 rw [if_pos (by rw [decide_eq_true_eq]; omega),D7y ha m (by omega) l f]
 simp only [Option.bind_some]
 rw [D0 (n:=(m:Int) + 1) (by omega),C42 h m (by omega),E0p _ hn4 m hm]
 simp only [Option.bind_some]
 cases f with
 | false =>
  obtain ⟨k1,k2⟩:=hR.no rfl
  have k1:l = []:=k1
  subst k1
  simp only [Bool.false_eq_true,if_false,Option.bind_some]
  cases hW:X4 (A0i t m) with
  | true =>
   refine ⟨_,rfl,rfl,(fun e:true = false=>absurd e (by decide)),fun _=>⟨m,by omega,hW,rfl,fun r hr hw=>?_⟩⟩
   by_cases c:r = m
   ·rw [c]; exact .inl rfl
   ·rw [k2 r (by omega)] at hw; exact absurd hw (by decide)
  | false =>
   refine ⟨_,rfl,rfl,fun _=>⟨rfl,fun r hr=>?_⟩,(fun e:false = true=>absurd e (by decide))⟩
   by_cases c:r = m
   ·rw [c]; exact hW
   ·exact k2 r (by omega)
 | true =>
  obtain ⟨q,q1,q2,q3,q4⟩:=hR.yes rfl
  have q3:l = F9 t.Apart.length q:=q3
  subst q3
  have hsk:=D85 hn4 hm (q:=q) (by omega)
  have e:∀o:Option Bool,(o.bind fun x=>some x) = o:=fun o=>by cases o <;> rfl
  rw [e] at hsk
  rw [if_pos rfl]
  simp only [e]
  rw [hsk]
  simp only [Option.bind_some]
  cases hk:slt (F9 t.Apart.length q) (F9 t.Apart.length m) with
  | true =>
   refine ⟨_,rfl,rfl,(fun e:true = false=>absurd e (by decide)),fun _=>⟨q,by omega,q2,rfl,fun r hr hw=>?_⟩⟩
   by_cases c:r = m
   ·rw [c]; exact .inr hk
   ·exact q4 r (by omega) hw
  | false =>
   simp only [Bool.false_eq_true,if_false]
   cases hW:X4 (A0i t m) with
   | false =>
    refine ⟨_,rfl,rfl,(fun e:true = false=>absurd e (by decide)),fun _=>⟨q,by omega,q2,rfl,fun r hr hw=>?_⟩⟩
    by_cases c:r = m
    ·rw [c,hW] at hw; exact absurd hw (by decide)
    ·exact q4 r (by omega) hw
   | true =>
    refine ⟨_,rfl,rfl,(fun e:true = false=>absurd e (by decide)),fun _=>⟨m,by omega,hW,rfl,fun r hr hw=>?_⟩⟩
    by_cases c:r = m
    ·rw [c]; exact .inl rfl
    ·have hmq:F9 t.Apart.length m = F9 t.Apart.length q∨slt (F9 t.Apart.length m) (F9 t.Apart.length q) = true:= by
      rcases E00 _ hn4 m hm q (by omega) with a | a | a
      ·exact .inr a
      ·exact .inl a
      ·rw [hk] at a; exact absurd a (by decide)
     rcases q4 r (by omega) hw with a | a <;> rcases hmq with b | b
     ·left; rw [a,b]
     ·right; rw [a]; exact b
     ·right; rw [b]; exact a
     ·right; exact D59 hn4 hm (by omega) (by omega) b a
theorem B81 {t:VaTrain} (hN:NB t) (c:(check t).2.2 = 0):(A0u t = some ([],9)∧∀ r,r < 2 ^ t.Apart.length→X4 (A0i t r) = false)∨∃ s,A0u t = some (F9 t.Apart.length s,0)∧D3o t t.Apart.length s:= by
 have h:=J3 c
 have ha:=h.apart
 have h16:=pow16 ha
 unfold A0u
 rw [R5 t hN,D61 _ ha]
 simp only [Option.bind_some,c,bne_self_eq_false,Bool.false_eq_true,if_false]
 obtain ⟨r,h1,h2⟩:=C3b (b:=A5g t ((2 ^ t.Apart.length:Nat):Int)) (LooseR t t.Apart.length) (2 ^ t.Apart.length) (fun r=>LooseR t t.Apart.length (2 ^ t.Apart.length) (r.1,r.2,((2 ^ t.Apart.length:Nat):Int))) (by omega) (fun i s hi hs=>D2r h _ rfl i hi s hs) (by
   rintro ⟨l,f,i⟩ hR
   have hi:i = ((2 ^ t.Apart.length:Nat):Int):=hR.ix
   subst hi
   unfold A5g
   simp only []
   rw [if_neg (by rw [decide_eq_true_eq]; omega)]
   exact ⟨_,rfl,hR⟩) ([],false,0) ⟨rfl,fun _=>⟨rfl,fun r hr=>absurd hr (by omega)⟩,(fun e:false = true=>absurd e (by decide))⟩
 rw [h1]
 simp only [Option.bind_some]
 obtain ⟨l,f⟩:=r
 cases f with
 | false=>exact .inl ⟨rfl,(h2.no rfl).2⟩
 | true =>
  obtain ⟨q,q1,q2,q3,q4⟩:=h2.yes rfl
  have q3:l = F9 t.Apart.length q:=q3
  subst q3
  exact .inr ⟨q,rfl,q1,q2,q4⟩
def B7d (t:VaTrain) (l:List Int):Bool:=((A3y t l).bind A1m).getD false
theorem B52 {t:VaTrain} (h:TOk t) (s:Nat):B7d t (F9 t.Apart.length s) = X4 (A0i t s):= by
 unfold B7d
 rw [A5d h.apart,Option.bind_some,A4s (B29 h s)]; rfl
theorem D2j {α:Type} [Inhabited α] (P:α→Bool) (l:List α):first (fun i=>if P l[i]! = true then some l[i]! else none) l.length = l.find? P:= by
 cases hf:first (fun i=>if P l[i]! = true then some l[i]! else none) l.length with
 | none =>
  symm
  rw [List.find?_eq_none]
  intro x hx
  obtain ⟨i,hi,e⟩:=List.mem_iff_getElem.mp hx
  have:=F6.mp hf i hi
  rw [getElem!_pos l i hi,e] at this
  intro hp
  rw [if_pos hp] at this; exact absurd this (by simp)
 | some y =>
  obtain ⟨i,hi,e,hj⟩:=N5 hf
  symm
  rw [List.find?_eq_some_iff_getElem]
  by_cases hp:P l[i]! = true
  ·rw [if_pos hp] at e
   have e:=Option.some.inj e
   refine ⟨by rw [← e]; exact hp,i,hi,by rw [← e,getElem!_pos l i hi],fun j hj2=>?_⟩
   have:=hj j hj2
   rw [getElem!_pos l j (by omega)] at this
   by_cases hq:P l[j] = true
   ·rw [if_pos hq] at this; exact absurd this (by simp)
   ·simpa using hq
  ·rw [if_neg hp] at e; exact absurd e (by simp)
theorem C0i {ρ:Type} (f:Nat→Option ρ):∀n,first f n = (List.range n).findSome? f
 | 0=>rfl
 | n + 1=>by
  unfold first
  rw [List.range_succ,List.findSome?_append,C0i f n]
  cases (List.range n).findSome? f with
  | some r=>rfl
  | none=>simp
theorem D1g {t:VaTrain} (h:TOk t):loop (A2m t) 0 = some (match (pks t.Apart.length).find? (B7d t) with | some l=>.inl (l,0) | none=>.inr ()):= by
 have ha:=h.apart
 have hlen:∀n,n≤4→∀ k,k≤n→(pk n k).length≤100:= by decide +kernel
 rw [R3 (b:=A2m t) (t.Apart.length + 1) (fun k=>((pk t.Apart.length k).find? (B7d t)).map fun l=>(.inl (l,(0:Int)))) (.inr ()) (by omega) (fun k hk _=>by
  unfold A2m
  rw [if_pos (by rw [decide_eq_true_eq]; omega),E0v ha (by omega)]
  simp only [Option.bind_some]
  have hlk:=hlen _ ha k (by omega)
  have hmem:∀l ∈ pk t.Apart.length k,∃ s,s < 2 ^ t.Apart.length∧F9 t.Apart.length s = l:=fun l hl=>D08 _ ha l (List.mem_flatMap.mpr ⟨k,List.mem_range.mpr (by omega),hl⟩)
  generalize pk t.Apart.length k = L at *
  rw [R3 (b:=A4n t L) L.length (fun i=>(if B7d t L[i]! = true then some L[i]! else none).map fun l=>(.inl (l,(0:Int)))) (.inr ()) (by omega) (fun i hi _=>by
   unfold A4n
   rw [if_pos (by rw [decide_eq_true_eq]; omega),E5 hi]
   obtain ⟨s,hs,e⟩:=hmem _ (A07 hi)
   generalize L[i]! = l at *
   subst e
   simp only [Option.bind_some]
   rw [A5d ha]
   simp only [Option.bind_some]
   rw [A4s (B29 h s),B52 h]
   simp only [Option.bind_some]
   cases X4 (A0i t s) <;> rfl) (by
   unfold A4n
   rw [if_neg (by rw [decide_eq_true_eq]; omega)]),Q8,D2j]
  simp only [Option.bind_some]
  cases L.find? (B7d t) <;> rfl) (by
  unfold A2m
  rw [if_neg (by rw [decide_eq_true_eq]; omega)]),Q8,C0i]
 unfold pks
 rw [List.find?_flatMap]
 cases List.findSome? _ _ <;> rfl
theorem C7p {t:VaTrain} (c:(check t).2.2 = 0):(A2v t = some ([],9)∧∀ r,r < 2 ^ t.Apart.length→X4 (A0i t r) = false)∨∃ s,A2v t = some (F9 t.Apart.length s,0)∧D3o t t.Apart.length s:= by
 have h:=J3 c
 have ha:=h.apart
 have hf:=D1g h
 unfold A2v
 rw [T4 t]
 simp only [Option.bind_some,c,bne_self_eq_false,Bool.false_eq_true,if_false]
 rw [hf]
 simp only [Option.bind_some]
 cases hx:(pks t.Apart.length).find? (B7d t) with
 | none =>
  refine .inl ⟨rfl,fun r hr=>?_⟩
  have:=List.find?_eq_none.mp hx _ (C9q _ ha r hr)
  rw [B52 h] at this
  simpa using this
 | some l =>
  right
  obtain ⟨hw,i,hi,e,hj⟩:=List.find?_eq_some_iff_getElem.mp hx
  obtain ⟨s,hs,e2⟩:=D08 _ ha l (by rw [← e]; exact List.getElem_mem hi)
  subst e2
  rw [B52 h] at hw
  refine ⟨s,rfl,hs,hw,fun r hr hwr=>?_⟩
  obtain ⟨j,hj2,e3⟩:=List.mem_iff_getElem.mp (C9q _ ha r hr)
  rcases Nat.lt_trichotomy j i with k | k | k
  ·have:=hj j k
   rw [e3,B52 h,hwr] at this
   exact absurd this (by decide)
  ·subst k
   left; rw [← e3,e]
  ·right
   rw [← e3,← e]
   exact List.pairwise_iff_getElem.mp (D25 _ ha) i j hi hj2 k
theorem C8s {t:VaTrain} {n s r:Nat} (hn:n≤4) (h1:D3o t n s) (h2:D3o t n r):F9 n s = F9 n r:= by
 rcases h1.2.2 r h2.1 h2.2.1 with a | a
 ·exact a.symm
 ·rcases h2.2.2 s h1.1 h1.2.1 with b | b
  ·exact b
  ·have:=(C4t n hn s h1.1 r h2.1 a).1
   rw [b] at this; exact absurd this (by decide)
theorem C3d {t:VaTrain} (hN:NB t):∃l e,A0u t = some (l,e)∧A2v t = some (l,e)∧l.length≤4:= by
 by_cases c:(check t).2.2 = 0
 ·have ha:=(J3 c).apart
  rcases B81 hN c with ⟨h1,h2⟩ | ⟨s,h1,h2⟩
  ·rcases C7p c with ⟨k1,k2⟩ | ⟨r,k1,k2⟩
   ·exact ⟨[],9,h1,k1,by decide⟩
   ·have:=k2.2.1; rw [h2 r k2.1] at this; exact absurd this (by decide)
  ·rcases C7p c with ⟨k1,k2⟩ | ⟨r,k1,k2⟩
   ·have:=h2.2.1; rw [k2 s h2.1] at this; exact absurd this (by decide)
   ·exact ⟨_,0,h1,by rw [k1,C8s ha h2 k2],Nat.le_trans (B2i _ _) ha⟩
 ·refine ⟨[],(check t).2.2,?_,?_,by decide⟩
  ·unfold A0u
   rw [R5 t hN]
   simp only [Option.bind_some]
   rw [if_pos (bne_iff_ne.mpr c)]
  ·unfold A2v
   rw [T4 t]
   simp only [Option.bind_some]
   rw [if_pos (bne_iff_ne.mpr c)]
theorem C77 (n s:Nat):(F9 n s).Pairwise (· < ·):= by
 unfold F9
 rw [List.pairwise_map]
 exact ((List.pairwise_lt_range (n:=n)).sublist List.filter_sublist).imp (by intro a b h; omega)
theorem D0r {t:VaTrain} (ha:t.Apart.length≤4) (s:Nat) (e:Int):loop (X7 t (F9 t.Apart.length s,e)) 0 = some (.inr ()):= by
 have hln:=B2i t.Apart.length s
 have hs:=C77 t.Apart.length s
 have hmem:∀x ∈ F9 t.Apart.length s,0≤x∧x < t.Apart.length:= by
  intro x hx
  have hx2:=hx
  unfold F9 at hx2
  obtain ⟨j,hj,e⟩:=List.mem_map.mp hx2
  rw [List.mem_filter,List.mem_range] at hj
  omega
 generalize F9 t.Apart.length s = l at *
 rw [R3 (b:=X7 t (l,e)) l.length (fun _=>none) (.inr ()) (by omega) (fun i hi _=>by
  unfold X7
  simp only []
  have h1:=hmem _ (A07 hi)
  rw [if_pos (by rw [decide_eq_true_eq]; omega),E5 hi]
  simp only [Option.bind_some]
  rw [if_neg (by rw [decide_eq_true_eq]; omega)]
  simp only [Option.bind_some]
  rw [if_neg (by rw [decide_eq_true_eq]; omega)]
  by_cases c:i = 0
  ·subst c
   rw [if_neg (by decide)]; rfl
  ·rw [if_pos (by rw [decide_eq_true_eq]; omega),D0 (n:=(i:Int) - 1) (by omega),show (i:Int) - 1 = ((i - 1:Nat):Int) by omega,E5 (show i - 1 < l.length by omega)]
   simp only [Option.bind_some]
   have:l[i - 1]! < l[i]!:= by
    rw [getElem!_pos l (i - 1) (by omega),getElem!_pos l i hi]
    exact List.pairwise_iff_getElem.mp hs (i - 1) i (by omega) hi (by omega)
   rw [decide_eq_false (by omega)]; rfl) (by
  unfold X7
  simp only []
  rw [if_neg (by rw [decide_eq_true_eq]; omega)])]
 rw [F6.mpr fun _ _=>rfl]; rfl
theorem D0s {t:VaTrain} (ha:t.Apart.length≤4) (s:Nat) (hs:s < 256):loop (X6 t (s:Int)) (0,[]) = some (F9 t.Apart.length s):= by
 have hq:=G4 (b:=X6 t (s:Int)) (fun i=>((i:Int),F9 i s)) t.Apart.length (r:=F9 t.Apart.length s) (by omega) (fun i hi=>by
  unfold X6
  simp only []
  have hln:=B2i i s
  have hsh:=D4y i (by omega) s hs
  rw [if_pos (by rw [decide_eq_true_eq]; omega),D0 (n:=(s:Int)) (by omega)]
  cases he:B30 .i64 (s:Int) (i:Int) with
  | none=>rw [he] at hsh; exact absurd hsh (by simp)
  | some x =>
   rw [he] at hsh
   have hsh:(Int.tmod x 2 == 1) = bit s i:=Option.some.inj hsh
   simp only [Option.bind_some]
   rw [D0 (by omega),C17,hsh]
   cases hb:bit s i with
   | true =>
    simp only [if_true]
    rw [W4 (by omega) (by simp; omega)]; rfl
   | false=>rfl) (by
  unfold X6
  simp only []
  rw [if_neg (by rw [decide_eq_true_eq]; omega)])
 exact hq
theorem D6z:∀n:Nat,n≤4→∀ s:Nat,s < 256→∃ r:Nat,r < 2 ^ n∧F9 n r = F9 n s:= by decide +kernel
theorem D2s {t:VaTrain} (hN:NB t) {w:Int} (hw:0≤w∧w < 256) (hA:G2 = some true):A4e t w = some true:= by
 unfold A4e
 rw [A7t]
 by_cases c:(check t).2.2 = 0
 ·have h:=J3 c
  have ha:=h.apart
  obtain ⟨s,rfl⟩:∃s:Nat,w = (s:Int):=⟨w.toNat,by omega⟩
  obtain ⟨o,ho,eo⟩:=D6z _ ha s (by omega)
  have hbe:∀r:Nat,X2 (A0i t r) = some ((I3 (A0i t r)).1,(I3 (A0i t r)).2.1,(I3 (A0i t r)).2.2,0):=fun r=>by
   rw [A1p (D9l hN r),C19 c r]; rfl
  have hwb:∀r:Nat,X4 (A0i t r) = ((I3 (A0i t r)).2.1 == (t.Crates.length:Int)):=fun r=>B7e (B29 h r)
  have hle:∀r:Nat,(I3 (A0i t r)).2.1≤(t.Crates.length:Int):=fun r=>by
   obtain ⟨k1,k2,_⟩:=A6v (B29 h r)
   have:=A2r (A0i t r) (I3 (A0i t r)).1 (I3 (A0i t r)).1.length
   rw [k2]; unfold J1
   have hl:(I3 (A0i t r)).1.length = t.Crates.length:=k1.len
   omega
  rw [c,D0s ha s (by omega),← eo]
  rcases B81 hN c with ⟨h1,h2⟩ | ⟨m,h1,h2⟩
  ·rw [h1]
   simp only [beq_self_eq_true,Bool.not_true,Bool.false_eq_true,if_false,Option.bind_some]
   rw [A5d ha]
   simp only [Option.bind_some]
   rw [hbe]
   simp only [bne_self_eq_false,Bool.false_eq_true,if_false,Option.bind_some]
   have hz:=h2 o ho
   rw [hwb] at hz
   have hz:(I3 (A0i t o)).2.1 ≠ (t.Crates.length:Int):= by simpa using hz
   have:=hle o
   rw [if_pos (by decide),if_pos (by simp; omega),hA]; rfl
  ·rw [h1]
   simp only [beq_self_eq_true,Bool.not_true,Bool.false_eq_true,if_false,Option.bind_some]
   rw [A5d ha]
   simp only [Option.bind_some]
   rw [hbe]
   simp only [bne_self_eq_false,Bool.false_eq_true,if_false,Option.bind_some]
   rw [D0r ha m]
   simp only [Option.bind_some]
   rw [A5d ha]
   simp only [Option.bind_some]
   rw [hbe]
   simp only [Option.bind_some,beq_self_eq_true,Bool.true_and]
   have hm:=h2.2.1
   rw [hwb] at hm
   rw [if_pos hm]
   by_cases c2:(I3 (A0i t o)).2.1 < (t.Crates.length:Int)
   ·rw [if_pos (by rw [decide_eq_true_eq]; exact c2),hA]; rfl
   ·rw [if_neg (by rw [decide_eq_true_eq]; exact c2),D7e _ ha o ho m h2.1,hA]
    have hz:X4 (A0i t o) = true:= by rw [hwb,beq_iff_eq]; have:=hle o; omega
    have:slt (F9 t.Apart.length o) (F9 t.Apart.length m) = false:= by
     rcases h2.2.2 o ho hz with a | a
     ·cases hs:slt (F9 t.Apart.length o) (F9 t.Apart.length m) with
      | false=>rfl
      | true=>exact absurd a (C4t _ ha o ho m h2.1 hs).2
     ·exact (C4t _ ha m h2.1 o ho a).1
    rw [this]; rfl
 ·obtain ⟨l,e,h1,h2,h3⟩:=C3d hN
  have:(l,e) = ([],(check t).2.2):= by
   unfold A0u at h1
   rw [R5 t hN] at h1
   simp only [Option.bind_some] at h1
   rw [if_pos (bne_iff_ne.mpr c)] at h1
   exact (Option.some.inj h1).symm
  rw [h1]
  obtain ⟨rfl,rfl⟩:=Prod.mk.inj this
  have e:((check t).2.2 == 0) = false:=beq_eq_false_iff_ne.mpr c
  have e2:((check t).2.2 != 0) = true:=bne_iff_ne.mpr c
  rw [e,hA]
  simp [c]
end Vn
end
section
set_option maxRecDepth 100000
set_option maxHeartbeats 0
namespace Vn
open Go Am Go.Proofs.Ytjjmechghfjbmaa.Cd
end Vn
end
section
namespace Vn
open Go Am
structure RoadsOk (t:VaTrain) (v:Nat) (rs:List Int):Prop where
 len:(rs.length:Int) = t.Stops
 lo:∀j,j < rs.length→(t.Vans[v]!.Legs[j]!).Lo≤rs[j]!
 hi:∀j,j < rs.length→rs[j]!≤(t.Vans[v]!.Legs[j]!).Hi
end Vn
end
section
set_option maxRecDepth 100000
set_option maxHeartbeats 0
namespace Vn
open Go Am Go.Proofs.Ytjjmechghfjbmaa.Cd
end Vn
end
section
namespace Vn
open Go Am
end Vn
end
section
set_option maxRecDepth 100000
set_option maxHeartbeats 0
namespace Vn
open Go Am Go.Proofs.Ytjjmechghfjbmaa.Cd
end Vn
end
section
namespace Vn
open Go Am
theorem C08 {n:Int} (h:(Lit.int .u8 n).wf = true):0≤n∧n < 256:= by
 rw [Lit.wf,Bool.and_eq_true,decide_eq_true_eq,decide_eq_true_eq] at h
 have h1:IntKind.u8.min = 0:=rfl
 have h2:IntKind.u8.max = 255:=rfl
 omega
theorem E1n (r:List AV) (h:SatL [.int .u8] r):∃x:Int,r = [.lit (.int .u8 x)]∧(0≤x∧x < 256):= by
 simp only [SatL,Sat] at h
 obtain ⟨x1,q1,rfl,⟨n1,rfl,hw⟩,rfl⟩:=h
 exact ⟨n1,rfl,C08 hw⟩
theorem C6f {t:VaTrain} (hN:NB t) {w:Int} (hw:0≤w∧w < 256):A4e t w = some true:=D2s hN hw P0
end Vn
end
