/- Texts that the claim stands on, one behind another. -/
import Derived.Test.YtdkflofgolehkaaA5
import Derived.Laws.RangeAny
set_option linter.unusedVariables false
set_option linter.unusedSimpArgs false
set_option linter.unnecessarySimpa false
section
namespace Ds
open Go Am
instance:Inhabited DrLook:=⟨⟨ByteArray.empty,[],0⟩⟩
def D2h (s:ByteArray) (i:Nat):Bool :=
 !(decide (97≤s[i]!.toNat) && decide (s[i]!.toNat≤122)) && (i == 0 || !((decide (48≤s[i]!.toNat) && decide (s[i]!.toNat≤57)) || s[i]!.toNat == 46))
def bad (s:ByteArray) (i:Nat):Option Unit:=if D2h s i then some () else none
def A4x (s:ByteArray):Bool:=(!(s.size == 0) && decide (s.size≤16)) && (first (bad s) s.size).isNone
theorem nd97 {x:Nat}:decide ((97:Int)≤(x:Int)) = decide (97≤x):=decide_eq_decide.mpr (by omega)
theorem nd122 {x:Nat}:decide ((x:Int)≤122) = decide (x≤122):=decide_eq_decide.mpr (by omega)
theorem nd48 {x:Nat}:decide ((48:Int)≤(x:Int)) = decide (48≤x):=decide_eq_decide.mpr (by omega)
theorem nd57 {x:Nat}:decide ((x:Int)≤57) = decide (x≤57):=decide_eq_decide.mpr (by omega)
theorem nl48 {x:Nat}:decide ((x:Int) < 48) = !decide (48≤x):= by rw [Bool.eq_iff_iff]; simp; omega
theorem nl57 {x:Nat}:decide ((57:Int) < (x:Int)) = !decide (x≤57):= by rw [Bool.eq_iff_iff]; simp; omega
theorem nz0 {x:Nat}:((x:Int) == 0) = (x == 0):= by rw [Bool.eq_iff_iff]; simp
theorem n46 {x:Nat}:((x:Int) == 46) = (x == 46):= by rw [Bool.eq_iff_iff]; simp; omega
theorem n46' {x:Nat}:((x:Int) == 46) = (x == 46):=n46
theorem D1w {s:ByteArray} {i:Nat} (h:i < s.size):B30 s (i:Int) = some (s[i]!.toNat:Int):= by
 unfold B30
 rw [if_pos (Int.natCast_nonneg i),Int.toNat_natCast,getElem?_pos s i h,getElem!_pos s i h]; rfl
theorem C0c (s:ByteArray):A50 s = some (A4x s):= by
 unfold A50 A4x
 by_cases h0:s.size = 0
 ·rw [if_pos (by simp [h0])]; simp [h0]
 by_cases h1:s.size > 16
 ·rw [if_pos (by simp; omega)]
  have:decide (s.size≤16) = false:= by simp; omega
  rw [this]; simp
 rw [if_neg (by simp only [Bool.or_eq_true,beq_iff_eq,decide_eq_true_eq]; omega)]
 have hl:loop (A13 s) 0 = some ((first (fun i=>(bad s i).map fun _=>(Sum.inl false:Bool ⊕ Unit)) s.size).getD (.inr ())):= by
  refine B0j s.size _ _ (by omega) ?_ ?_
  ·intro i hi _
   unfold A13
   rw [if_pos (by simpa using hi),D1w hi]
   have hb:s[i]!.toNat < 256:=s[i]!.toNat_lt
   generalize hx:s[i]!.toNat = x at hb
   simp only [Option.bind_some,A3h,D9 (n:=(x:Int)) (by omega),ge_iff_le,nd97,nd122,nd48,nd57,nz0,n46]
   unfold bad D2h
   rw [hx]
   generalize decide (97≤x) = b1
   generalize decide (x≤122) = b2
   generalize decide (48≤x) = b3
   generalize decide (x≤57) = b4
   generalize (x == 46) = b5
   generalize (i == 0) = b6
   cases b1 <;> cases b2 <;> cases b3 <;> cases b4 <;> cases b5 <;> cases b6 <;> rfl
  ·unfold A13
   rw [if_neg (by simp)]
 rw [hl]
 cases hf:first (bad s) s.size with
 | none =>
  have:=G1.mp hf
  rw [G1.mpr fun i hi=>by rw [this i hi]; rfl]
  have e1:(s.size == 0) = false:= by rw [beq_eq_false_iff_ne]; exact h0
  have e2:decide (s.size≤16) = true:=decide_eq_true (by omega)
  rw [e1,e2]; rfl
 | some u =>
  obtain ⟨i,hi,h2,h3⟩:=N2 hf
  rw [A26 (r:=.inl false) hi (by rw [h2]; rfl) fun j hj=>by rw [h3 j hj]; rfl]
  simp
theorem B93 (s:ByteArray) (hs:s.size < 9223372036854775808):A5u s = some (A4x s):= by
 unfold A5u A4x
 have hl:loop (A11 s) (0:Nat) = some ((first (fun i=>(bad s i).map fun _=>(Sum.inl false:Bool ⊕ Nat)) s.size).getD (.inr s.size)):= by
  refine A7h (fun i=>i) s.size _ _ hs ?_ ?_
  ·intro i hi _
   unfold A11
   rw [if_pos (by simpa using hi)]
   unfold bad D2h
   rw [getElem!_pos s i hi]
   by_cases ha:(s[i]'hi).toNat < 128
   ·rw [decode_ascii s i hi ha]
    generalize (s[i]'hi).toNat = x at ha ⊢
    simp only [nd97,nd122,gt_iff_lt,nl48,nl57,nz0,n46',bne]
    generalize decide (97≤x) = b1
    generalize decide (x≤122) = b2
    generalize decide (48≤x) = b3
    generalize decide (x≤57) = b4
    generalize (x == 46) = b5
    generalize (i == 0) = b6
    cases b1 <;> cases b2 <;> cases b3 <;> cases b4 <;> cases b5 <;> cases b6 <;> rfl
   ·have hd:=(decode_high s i hi (by omega)).1
    generalize (Utf8.decode s i).1 = y at hd ⊢
    generalize (s[i]'hi).toNat = x at ha ⊢
    rw [if_pos (by simp; omega)]
    have e1:decide (x≤122) = false:= by simp; omega
    have e2:decide (x≤57) = false:= by simp; omega
    have e3:(x == 46) = false:= by simp; omega
    simp [e1,e2,e3]
  ·intro _
   unfold A11
   rw [if_neg (by simp)]
 rw [hl]
 have he:eqS s (ByteArray.mk #[]) = (s.size == 0):= by
  unfold eqS
  cases hz:s.data.toList with
  | nil =>
   have:s.size = 0:= by show s.data.size = 0; rw [← Array.length_toList,hz]; rfl
   rw [this]; rfl
  | cons a t =>
   have:s.size = t.length + 1:= by show s.data.size = _; rw [← Array.length_toList,hz]; rfl
   rw [this]; rfl
 cases hf:first (bad s) s.size with
 | none =>
  have:=G1.mp hf
  rw [G1.mpr fun i hi=>by rw [this i hi]; rfl]
  have e2:decide ((s.size:Int)≤16) = decide (s.size≤16):=decide_eq_decide.mpr (by omega)
  simp [he,e2]
 | some u =>
  obtain ⟨i,hi,h2,h3⟩:=N2 hf
  rw [A26 (r:=.inl false) hi (by rw [h2]; rfl) fun j hj=>by rw [h3 j hj]; rfl]
  simp
theorem B36 {α:Type} [Inhabited α] (l:List α) (p:α→Bool):(first (fun i=>if p l[i]! then some (i:Int) else none) l.length).isSome = l.any p:= by
 cases hf:first (fun i=>if p l[i]! then some (i:Int) else none) l.length with
 | none =>
  have h0:=G1.mp hf
  cases ha:l.any p with
  | false=>rfl
  | true =>
   rw [List.any_eq_true] at ha
   obtain ⟨x,hx,hp⟩:=ha
   obtain ⟨i,hi,e⟩:=List.mem_iff_getElem.mp hx
   have:=h0 i hi
   rw [getElem!_pos l i hi,e,hp] at this
   exact absurd this (by simp)
 | some r =>
  obtain ⟨i,hi,h1,_⟩:=N2 hf
  rw [getElem!_pos l i hi] at h1
  cases hp:p l[i] with
  | false=>rw [hp] at h1; exact absurd h1 (by simp)
  | true=>exact (List.any_eq_true.mpr ⟨l[i],List.getElem_mem hi,hp⟩).symm
theorem B0d {α:Type} [Inhabited α] (l:List α) (p:α→Bool) {b:Int→Option (Int ⊕ (Int ⊕ Unit))} (hl:l.length < 9223372036854775808)
  (hb:∀i:Nat,i < l.length→b i = some (if p l[i]! then .inr (.inl (i:Int)) else .inl (w64 ((i:Int) + 1)))) (he:b l.length = some (.inr (.inr ()))) :
  ∃ o,loop b 0 = some o∧(match o with | .inl i=>0≤i∧l.any p = true | .inr _=>l.any p = false):= by
 have h:=B0j (b:=b) l.length (fun i=>if p l[i]! then some (.inl (i:Int)) else none) (.inr ()) hl (fun i hi _=>by
  rw [hb i hi]; cases p l[i]! <;> rfl) he
 refine ⟨_,h,?_⟩
 have ha:=B36 l p
 cases hf:first (fun i=>if p l[i]! then some (Sum.inl (i:Int):Int ⊕ Unit) else none) l.length with
 | none =>
  have h0:=G1.mp hf
  rw [G1.mpr fun i hi=>by
   have:=h0 i hi
   cases hp:p l[i]! with
   | false=>rfl
   | true=>rw [hp] at this; exact absurd this (by simp)] at ha
  simpa using ha.symm
 | some r =>
  obtain ⟨i,hi,h1,h2⟩:=N2 hf
  cases hp:p l[i]! with
  | false=>rw [hp] at h1; exact absurd h1 (by simp)
  | true =>
   rw [hp] at h1
   have h1:some (Sum.inl (i:Int)) = some r:=h1
   obtain rfl:=Option.some.inj h1
   refine ⟨Int.natCast_nonneg i,?_⟩
   rw [A26 (r:=(i:Int)) hi (by rw [hp]; rfl) fun j hj=>by
    have:=h2 j hj
    cases hq:p l[j]! with
    | false=>rfl
    | true=>rw [hq] at this; exact absurd this (by simp)] at ha
   exact ha.symm
theorem B2h {α:Type} [Inhabited α] (l:List α) (g:α→Option Bool) (p:α→Bool) {b:Int→Option (Int ⊕ (Int ⊕ Unit))} {F:Option Bool} (hl:l.length < 9223372036854775808) (hg:∀x ∈ l,g x = some (p x))
  (hb:∀i:Int,b i = if decide (i < l.length) = true then (idx l i).bind fun x=>(g x).bind fun y=>if y = true then some (.inr (.inl i)) else some (.inl (w64 (i + 1))) else some (.inr (.inr ())))
  (hF:F = ((loop b 0).bind fun o=>match o with | .inl v=>some v | .inr _=>some (-1)).bind fun x=>some (decide (x ≥ 0))):F = some (l.any p):= by
 obtain ⟨o,ho,hc⟩:=B0d l p (b:=b) hl (fun i hi=>by
  rw [hb,if_pos (by simpa using hi),G4 hi]
  simp only [Option.bind_some]
  rw [hg _ (by rw [getElem!_pos l i hi]; exact List.getElem_mem hi)]
  simp only [Option.bind_some]
  cases p l[i]! <;> rfl) (by
  rw [hb,if_neg (by simp)])
 rw [hF,ho]
 rcases o with i | u
 ·simp only [Option.bind_some]
  rw [hc.2,decide_eq_true hc.1]
 ·simp only [Option.bind_some]
  rw [hc]; rfl
theorem C2k (l:List Int) (g:Int→Option Bool) (p:Int→Bool) (hl:l.length < 9223372036854775808) (hg:∀x ∈ l,g x = some (p x)):P0 l g = some (l.any p) :=
 B2h l g p (b:=J4 l g) hl hg (fun _=>rfl) rfl
theorem B9y (l:List DrLook) (g:DrLook→Option Bool) (p:DrLook→Bool) (hl:l.length < 9223372036854775808) (hg:∀x ∈ l,g x = some (p x)):I2 l g = some (l.any p) :=
 B2h l g p (b:=K9 l g) hl hg (fun _=>rfl) rfl
def out (lo hi x:Int):Bool:=decide (x < lo) || decide (x > hi)
theorem A95 (lo hi:Int) (l:List Int) (hl:l.length < 9223372036854775808):J6 lo hi l = some (l.any (out lo hi)):= by
 unfold J6
 exact (congrArg (Option.bind · some) (C2k l (fun y=>A0x y lo hi) (out lo hi) hl fun x _=>rfl)).trans rfl
theorem beyond1 (lo hi x:Int):J6 lo hi [x] = some (out lo hi x):= by
 rw [A95 lo hi [x] (by simp)]; simp
theorem A8a (lo hi x:Int):L8 x lo hi = some (!out lo hi x):= by
 unfold L8 out
 rw [Option.some_inj,Bool.eq_iff_iff]; simp
def V1 (s:ByteArray) (l:List ByteArray):Int:=if A4x s then (if l.any (fun y=>eqS y s) then 5 else 0) else 6
instance:Inhabited ByteArray:=⟨ByteArray.empty⟩
theorem C3d (s:ByteArray) (l:List ByteArray) (hl:l.length < 9223372036854775808):A7p s l = some (V1 s l):= by
 unfold A7p V1
 rw [C0c]
 cases A4x s
 ·rfl
 ·simp only [Option.bind_some]
  unfold A6j
  obtain ⟨o,ho,hc⟩:=B0d l (fun y=>eqS y s) (b:=A07 l s) hl (fun i hi=>by
   unfold A07
   rw [if_pos (by simpa using hi),G4 hi]
   simp only [Option.bind_some]
   cases eqS l[i]! s <;> rfl) (by
   unfold A07
   rw [if_neg (by simp)])
  rw [ho]
  rcases o with i | u
  ·simp only [Option.bind_some]
   rw [hc.2,decide_eq_true hc.1]; rfl
  ·simp only [Option.bind_some]
   rw [hc]; rfl
def wrong (f:Nat→Int) (n:Nat):Option (Int × Int):=first (fun i=>if f i == 0 then none else some ((i:Int),f i)) n
theorem C8l {f:Nat→Int} {n:Nat} {x:Int × Int} (h:wrong f n = some x):(x.2 != 0) = true:= by
 obtain ⟨i,_,h1,_⟩:=N2 h
 cases hb:f i == 0 with
 | true=>rw [hb] at h1; exact absurd h1 (by simp)
 | false =>
  rw [hb] at h1
  have h1:some ((i:Int),f i) = some x:=h1
  rw [← Option.some.inj h1]
  show (f i != 0) = true
  rw [bne,hb]; rfl
theorem B0o (lo hi:Int) (n:Nat):out lo hi (n:Int) = false→lo≤n∧(n:Int)≤hi:= by
 unfold out
 intro h
 rw [Bool.or_eq_false_iff] at h
 have h1:=of_decide_eq_false h.1
 have h2:=of_decide_eq_false h.2
 omega
theorem A9s {lo hi x:Int}:out lo hi x = false↔lo≤x∧x≤hi:= by
 unfold out
 rw [Bool.or_eq_false_iff,decide_eq_false_iff_not,decide_eq_false_iff_not]
 omega
theorem B78 {ρ:Type} {b:Int→Option (Int ⊕ ρ)} (n:Nat) (f:Nat→Int) (k:Int × Int→ρ) (z:ρ) (hn:n < 9223372036854775808)
  (hs:∀i:Nat,i < n→b (i:Int) = some (if f i == 0 then .inl (w64 ((i:Int) + 1)) else .inr (k ((i:Int),f i))))
  (he:b (n:Int) = some (.inr z)) :
  loop b 0 = some (match wrong f n with | some x=>k x | none=>z):= by
 rw [B0j n (fun i=>if f i == 0 then none else some (k ((i:Int),f i))) z hn (fun i hi _=>by rw [hs i hi]; cases f i == 0 <;> rfl) he]
 unfold wrong
 cases hf:first (fun i=>if f i == 0 then none else some ((i:Int),f i)) n with
 | none =>
  have h0:=G1.mp hf
  rw [G1.mpr fun i hi=>by
   have:=h0 i hi
   cases hb:f i == 0 with
   | true=>rfl
   | false=>rw [hb] at this; exact absurd this (by simp)]
  rfl
 | some x =>
  obtain ⟨i,hi,h1,h2⟩:=N2 hf
  rw [A26 (r:=k x) hi (by
   cases hb:f i == 0 with
   | true=>rw [hb] at h1; exact absurd h1 (by simp)
   | false =>
    rw [hb] at h1
    have h1:some ((i:Int),f i) = some x:=h1
    rw [← Option.some.inj h1]; rfl) fun j hj=>by
   have:=h2 j hj
   cases hb:f j == 0 with
   | true=>rfl
   | false=>rw [hb] at this; exact absurd this (by simp)]
  rfl
theorem I4 {α:Type} [Inhabited α] {l:List α} {i:Nat} (h:i < l.length):l[i]! ∈ l:= by
 rw [getElem!_pos l i h]; exact List.getElem_mem h
theorem D1y {α β:Type} [Inhabited α] (k:α→β) {l:List α} {i:Nat} (h:i < l.length):(l.take i).map k++[k l[i]!] = (l.take (i + 1)).map k:= by
 rw [List.take_succ_eq_append_getElem h,getElem!_pos l i h,List.map_append]; rfl
theorem C8k {f:Nat→Int} {n:Nat} (h:wrong f n = none):∀i,i < n→f i = 0:= by
 intro i hi
 have:=G1.mp h i hi
 by_cases c:f i = 0
 ·exact c
 ·have e:(f i == 0) = false:=beq_eq_false_iff_ne.mpr c
  rw [e] at this; exact absurd this (by simp)
def A37 (hi:Int) (l:List Int) (i:Nat):Int:=if out 0 hi l[i]! then 7 else 0
def nums (l:List Int) (many hi:Int):Int × Int:=if out 1 many (l.length:Int) then (0,3) else (wrong (A37 hi l) l.length).getD (0,0)
def B83 (r:DrRoom) (least:Int) (x:DrLook):Int :=
 if x.Looks.length ≠ r.Costs.length then 3 else
 if out least ((r.Ounces.length:Int) - 1) x.Looks[0]! then 4 else
 if (x.Looks.drop 1).any (out least 5) || out 0 50 x.Hair then 7 else 0
def A3b (r:DrRoom) (least:Int) (l:List DrLook) (i:Nat):Int :=
 if V1 l[i]!.Name ((l.take i).map (·.Name)) = 0 then B83 r least l[i]! else V1 l[i]!.Name ((l.take i).map (·.Name))
def peop (r:DrRoom) (l:List DrLook) (many:Nat) (least:Int):Int × Int:=if l.length > many then (0,3) else (wrong (A3b r least l) l.length).getD (0,0)
def chk (r:DrRoom):Int × Int × Int :=
 if (nums r.Costs 4 100).2 ≠ 0 then (1,nums r.Costs 4 100) else
 if (nums r.Ounces 4 50).2 ≠ 0 then (2,nums r.Ounces 4 50) else
 if (peop r r.Figures 6 0).2 ≠ 0 then (3,peop r r.Figures 6 0) else
 if (peop r r.Persons 5 (-1)).2 ≠ 0 then (4,peop r r.Persons 5 (-1)) else (0,0,0)
def NB (r:DrRoom):Prop:=(∀ v ∈ r.Figures,v.Name.size < 9223372036854775808)∧(∀ v ∈ r.Persons,v.Name.size < 9223372036854775808)
theorem D3i (l:List Int) (g:Int→Option Bool) (p:Int→Bool) (hl:l.length < 9223372036854775808) (hg:∀x ∈ l,g x = some (p x)) :
  L3 l g = some ((first (fun i=>if p l[i]! then some (i:Int) else none) l.length).getD (-1)):= by
 unfold L3
 rw [B0j (b:=J4 l g) l.length (fun i=>if p l[i]! then some (.inl (i:Int)) else none) (.inr ()) hl (fun i hi _=>by
  unfold J4
  rw [if_pos (by simpa using hi),G4 hi]
  simp only [Option.bind_some]
  rw [hg _ (I4 hi)]
  simp only [Option.bind_some]
  cases p l[i]! <;> rfl) (by
  unfold J4
  rw [if_neg (by simp)])]
 rw [Option.bind_some]
 cases hf:first (fun i=>if p l[i]! then some (Sum.inl (i:Int):Int ⊕ Unit) else none) l.length with
 | none =>
  rw [G1.mpr fun i hi=>by
   have:=G1.mp hf i hi
   cases hp:p l[i]! with
   | false=>rfl
   | true=>rw [hp] at this; exact absurd this (by simp)]
  rfl
 | some o =>
  obtain ⟨i,hi,h1,h2⟩:=N2 hf
  cases hp:p l[i]! with
  | false=>rw [hp] at h1; exact absurd h1 (by simp)
  | true =>
   rw [hp] at h1
   have h1:some (Sum.inl (i:Int)) = some o:=h1
   obtain rfl:=Option.some.inj h1
   rw [A26 (r:=(i:Int)) hi (by rw [hp]; rfl) fun j hj=>by
    have:=h2 j hj
    cases hq:p l[j]! with
    | false=>rfl
    | true=>rw [hq] at this; exact absurd this (by simp)]
   rfl
theorem B5e (hi:Int) (l:List Int) (n:Nat):first (fun i=>if out 0 hi l[i]! then some (i:Int) else none) n = (wrong (A37 hi l) n).map (·.1)∧∀ x,wrong (A37 hi l) n = some x→x.2 = 7∧0≤x.1:= by
 unfold wrong A37
 induction n with
 | zero=>exact ⟨rfl,fun x h=>by cases h⟩
 | succ n ih =>
  unfold first
  rw [ih.1]
  cases hw:first (fun i=>if (if out 0 hi l[i]! = true then (7:Int) else 0) == 0 then none else some ((i:Int),if out 0 hi l[i]! = true then (7:Int) else 0)) n with
  | some x=>exact ⟨rfl,fun y hy=>by cases hy; exact ih.2 _ hw⟩
  | none =>
   cases hb:out 0 hi l[n]! with
   | false=>exact ⟨rfl,fun y hy=>by simp at hy⟩
   | true=>exact ⟨rfl,fun y hy=>by simp at hy; subst hy; exact ⟨rfl,Int.natCast_nonneg n⟩⟩
theorem B8c (l:List Int) (many hi:Int) (hm:many≤100):A0k l many hi = some (nums l many hi):= by
 unfold A0k nums
 rw [beyond1]
 simp only [Option.bind_some]
 cases ho:out 1 many (l.length:Int) with
 | true=>rfl
 | false =>
  have hl:=(B0o _ _ _ ho).2
  rw [D3i l (fun y=>V5 y hi) (out 0 hi) (by omega) (fun x _=>by unfold V5; rw [beyond1]; rfl),(B5e hi l l.length).1]
  simp only [Option.bind_some,Bool.false_eq_true,if_false]
  cases hw:wrong (A37 hi l) l.length with
  | none=>rfl
  | some x =>
   have:=(B5e hi l l.length).2 x hw
   simp only [Option.map_some,Option.getD_some]
   rw [if_pos (by simpa using this.2),← this.1]
theorem A9w (l:List Int) (many hi:Int) (hm:many≤100):A0p l many hi = some (nums l many hi):= by
 unfold A0p nums
 rw [A8a]
 simp only [Option.bind_some,Bool.not_not]
 cases ho:out 1 many (l.length:Int) with
 | true=>rfl
 | false =>
  have hl:=(B0o _ _ _ ho).2
  rw [if_neg (by simp),B78 (b:=Y6 l hi) l.length (A37 hi l) (fun x=>.inl x) (.inr ()) (by omega) (fun i h=>by
   unfold Y6 A37
   rw [if_pos (by simpa using h),G4 h]
   simp only [Option.bind_some]
   rw [A8a]
   cases out 0 hi l[i]! <;> rfl) (by
   unfold Y6
   rw [if_neg (by simp)])]
  cases wrong (A37 hi l) l.length <;> rfl
theorem C7q (s:ByteArray) (l:List ByteArray):V1 s l = if A4x s then (if l.any (fun y=>eqS y s) then 5 else 0) else 6:=rfl
theorem C1z (r:DrRoom) (l:List DrLook) (many:Nat) (least:Int) (hm:many≤100) (hc:1≤r.Costs.length∧r.Costs.length≤4) (ho:r.Ounces.length≤4) (hb:∀v ∈ l,v.Name.size < 9223372036854775808) :
  A1e r l many least = some (peop r l many least):= by
 unfold A1e peop
 by_cases h:l.length > many
 ·rw [if_pos (by simpa using h),if_pos h]
 rw [if_neg (by simpa using h),if_neg h]
 rw [B78 (b:=A0f r l least) l.length (A3b r least l) (fun x=>.inl x) (.inr ()) (by omega) (fun i hi=>by
  unfold A0f
  rw [if_pos (by simpa using hi),G4 hi]
  simp only [Option.bind_some]
  rw [B93 _ (hb _ (I4 hi))]
  simp only [Option.bind_some]
  unfold A3b
  rw [C7q]
  cases hn:A4x l[i]!.Name with
  | false=>rfl
  | true =>
   rw [B62 (Nat.le_of_lt hi)]
   simp only [Option.bind_some,Bool.not_true,Bool.false_eq_true,if_false]
   rw [B9y _ (fun y=>A0y y l[i]!) (fun y=>eqS y.Name l[i]!.Name) (by rw [List.length_take]; omega) (fun x _=>rfl),List.any_map]
   rw [show ((fun y=>eqS y l[i]!.Name)∘fun (x:DrLook)=>x.Name) = (fun (y:DrLook)=>eqS y.Name l[i]!.Name) from rfl]
   cases (l.take i).any (fun (y:DrLook)=>eqS y.Name l[i]!.Name) with
   | true=>rfl
   | false =>
    simp only [Option.bind_some,if_true,Bool.false_eq_true,if_false]
    generalize l[i]! = x
    unfold B83
    by_cases hk:x.Looks.length = r.Costs.length
    ·have e1:((x.Looks.length:Int) != (r.Costs.length:Int)) = false:= by rw [hk]; exact bne_self_eq_false _
     have e2:∀(a b:Int),(if x.Looks.length ≠ r.Costs.length then a else b) = b:=fun a b=>if_neg (fun c=>c hk)
     rw [e1,e2]
     rw [show idx x.Looks 0 = some x.Looks[0]! from G4 (i:=0) (by omega),D9 (by omega)]
     simp only [Option.bind_some,Bool.false_eq_true,if_false]
     rw [beyond1]
     simp only [Option.bind_some]
     cases out least ((r.Ounces.length:Int) - 1) x.Looks[0]! with
     | true=>rfl
     | false =>
      simp only [Bool.false_eq_true,if_false]
      have hs:slc x.Looks 1 (x.Looks.length:Int) = some (x.Looks.drop 1):= by
       unfold slc
       rw [if_pos ⟨by omega,by omega,by omega⟩,Int.toNat_natCast,List.take_length]; rfl
      rw [hs]
      simp only [Option.bind_some]
      rw [A95 _ _ _ (by rw [List.length_drop]; omega)]
      simp only [Option.bind_some]
      rw [beyond1]
      cases (x.Looks.drop 1).any (out least 5) <;> cases out 0 50 x.Hair <;> rfl
    ·have e1:((x.Looks.length:Int) != (r.Costs.length:Int)) = true:= by
      rw [bne_iff_ne]; omega
     have e2:∀(a b:Int),(if x.Looks.length ≠ r.Costs.length then a else b) = a:=fun a b=>if_pos hk
     rw [e1,e2]
     rfl) (by
  unfold A0f
  rw [if_neg (by simp)])]
 cases wrong (A3b r least l) l.length <;> rfl
theorem D3s (r:DrRoom) (x:DrLook) (any0:Bool) (hc:1≤r.Costs.length∧r.Costs.length≤4) (ho:1≤r.Ounces.length∧r.Ounces.length≤4):A2w r x any0 = some (B83 r (if any0 then -1 else 0) x):= by
 unfold A2w B83
 by_cases hk:x.Looks.length = r.Costs.length
 ·have e1:((x.Looks.length:Int) != (r.Costs.length:Int)) = false:= by rw [hk]; exact bne_self_eq_false _
  have e2:∀(a b:Int),(if x.Looks.length ≠ r.Costs.length then a else b) = b:=fun a b=>if_neg (fun c=>c hk)
  rw [e1,e2]
  simp only [Bool.false_eq_true,if_false]
  have hx:∀(y hi:Int),0≤hi→((if any0 = true then some (y == -1) else some false).bind fun x7=>(if (!x7) = true then (L8 y 0 hi).bind fun x11=>some (!x11) else some false)) = some (out (if any0 then -1 else 0) hi y):= by
   intro y hi hh
   cases any0
   ·simp only [Bool.false_eq_true,if_false,Option.bind_some,Bool.not_false,if_true,A8a,Bool.not_not]
   ·simp only [if_true,Option.bind_some]
    by_cases hy:y = -1
    ·subst hy
     rw [if_neg (by simp)]
     unfold out
     rw [Option.some_inj,Bool.eq_iff_iff]; simp; omega
    ·rw [if_pos (by simpa using hy),A8a]
     simp only [Option.bind_some,Bool.not_not]
     unfold out
     rw [Option.some_inj,Bool.eq_iff_iff]; simp; omega
  have hl1:loop (Y4 r x any0) 0 = some (if out (if any0 then -1 else 0) ((r.Ounces.length:Int) - 1) x.Looks[0]! then .inl 4 else .inr ()):= by
   rw [B0j (b:=Y4 r x any0) x.Looks.length (fun i=>if i = 0∧out (if any0 then -1 else 0) ((r.Ounces.length:Int) - 1) x.Looks[0]! then some (.inl 4) else none) (.inr ()) (by omega) (fun i hi _=>by
    unfold Y4
    rw [if_pos (by simpa using hi),G4 hi,D9 (n:=(r.Ounces.length:Int) - 1) (by omega)]
    simp only [Option.bind_some]
    by_cases h0:i = 0
    ·subst h0
     have:=hx x.Looks[0]! ((r.Ounces.length:Int) - 1) (by omega)
     cases hq:(if any0 = true then some (x.Looks[0]! == -1) else some false) with
     | none=>rw [hq] at this; cases this
     | some q =>
      rw [hq,Option.bind_some] at this
      simp only [Option.bind_some,Int.ofNat_eq_natCast,Int.cast_ofNat_Int,BEq.rfl,Bool.true_and]
      rw [this]
      simp only [Option.bind_some,true_and]
      cases out (if any0 = true then -1 else 0) ((r.Ounces.length:Int) - 1) x.Looks[0]! <;> rfl
    ·have e:((i:Int) == 0) = false:= by simp; omega
     cases any0 <;> simp [e,h0]) (by
    unfold Y4
    rw [if_neg (by simp)])]
   congr 1
   cases hq:out (if any0 = true then -1 else 0) ((r.Ounces.length:Int) - 1) x.Looks[0]! with
   | true =>
    rw [A26 (r:=(.inl 4:Int ⊕ Unit)) (i:=0) (by omega) (by simp) (fun j hj=>absurd hj (Nat.not_lt_zero j))]; rfl
   | false=>rw [G1.mpr fun i _=>by simp]; rfl
  rw [hl1]
  simp only [Option.bind_some]
  cases out (if any0 = true then -1 else 0) ((r.Ounces.length:Int) - 1) x.Looks[0]! with
  | true=>rfl
  | false =>
   simp only [Bool.false_eq_true,if_false]
   have hl2:loop (Y5 x any0) 1 = some (if (x.Looks.drop 1).any (out (if any0 then -1 else 0) 5) then .inl 7 else .inr ()):= by
    have h0:loop (Y5 x any0) 1 = some ((first (fun i=>if out (if any0 then -1 else 0) 5 (x.Looks.drop 1)[i]! then some (.inl 7) else none) (x.Looks.drop 1).length).getD (.inr ())):= by
     refine A7h (fun i=>((i + 1:Nat):Int)) (x.Looks.drop 1).length _ _ (by rw [List.length_drop]; omega) ?_ ?_
     ·intro i hi _
      rw [List.length_drop] at hi
      unfold Y5
      rw [if_pos (by simp; omega),G4 (by omega),D9 (by omega)]
      have:=hx x.Looks[i + 1]! 5 (by omega)
      simp only [Option.bind_some]
      cases hq:(if any0 = true then some (x.Looks[i + 1]! == -1) else some false) with
      | none=>rw [hq] at this; cases this
      | some q =>
       rw [hq,Option.bind_some] at this
       simp only [Option.bind_some]
       rw [this]
       have e:(x.Looks.drop 1)[i]! = x.Looks[i + 1]!:= by
        rw [getElem!_pos _ i (by rw [List.length_drop]; omega),getElem!_pos _ (i + 1) (by omega),List.getElem_drop]; simp [Nat.add_comm]
       rw [e]
       simp only [Option.bind_some]
       cases out (if any0 = true then -1 else 0) 5 x.Looks[i + 1]! <;> rfl
     ·intro _
      unfold Y5
      rw [if_neg (by simp; omega)]
    rw [h0]
    congr 1
    have ha:=B36 (x.Looks.drop 1) (out (if any0 then -1 else 0) 5)
    cases hq:(x.Looks.drop 1).any (out (if any0 then -1 else 0) 5) with
    | false =>
     rw [hq] at ha
     rw [G1.mpr fun i hi=>by
      have h1:((first (fun i=>if out (if any0 then -1 else 0) 5 (x.Looks.drop 1)[i]! then some (i:Int) else none) (x.Looks.drop 1).length)) = none:= by simpa using ha
      have:=G1.mp h1 i hi
      cases hp:out (if any0 = true then -1 else 0) 5 (x.Looks.drop 1)[i]! with
      | false=>rfl
      | true=>rw [hp] at this; exact absurd this (by simp)]
     rfl
    | true =>
     rw [hq] at ha
     obtain ⟨k,hk1⟩:=Option.isSome_iff_exists.mp ha
     obtain ⟨i,hi,h1,h2⟩:=N2 hk1
     rw [A26 (r:=(.inl 7:Int ⊕ Unit)) hi (by
      cases hp:out (if any0 = true then -1 else 0) 5 (x.Looks.drop 1)[i]! with
      | true=>rfl
      | false=>rw [hp] at h1; exact absurd h1 (by simp)) fun j hj=>by
      have:=h2 j hj
      cases hp:out (if any0 = true then -1 else 0) 5 (x.Looks.drop 1)[j]! with
      | false=>rfl
      | true=>rw [hp] at this; exact absurd this (by simp)]
     rfl
   rw [hl2,A8a]
   cases (x.Looks.drop 1).any (out (if any0 = true then -1 else 0) 5) <;> cases out 0 50 x.Hair <;> rfl
 ·have e1:((x.Looks.length:Int) != (r.Costs.length:Int)) = true:= by rw [bne_iff_ne]; omega
  have e2:∀(a b:Int),(if x.Looks.length ≠ r.Costs.length then a else b) = a:=fun a b=>if_pos hk
  rw [e1,e2]; rfl
theorem B1a (r:DrRoom) (l:List DrLook) (many:Nat) (any0:Bool) (hm:many≤100) (hc:1≤r.Costs.length∧r.Costs.length≤4) (ho:1≤r.Ounces.length∧r.Ounces.length≤4) :
  A1o r l many any0 = some (peop r l many (if any0 then -1 else 0)):= by
 unfold A1o peop
 by_cases h:l.length > many
 ·rw [if_pos (by simpa using h),if_pos h]
 rw [if_neg (by simpa using h),if_neg h]
 have key:loop (V8 r l any0) (0,[]) = some (match wrong (A3b r (if any0 then -1 else 0) l) l.length with | some x=>.inl x | none=>.inr (l.map (·.Name))):= by
  have:=A7h (b:=V8 r l any0) (fun i=>((i:Int),(l.take i).map (·.Name))) l.length (fun i=>if A3b r (if any0 then -1 else 0) l i == 0 then none else some (.inl ((i:Int),A3b r (if any0 then -1 else 0) l i))) (.inr (l.map (·.Name))) (by omega) (fun i hi _=>by
   unfold V8
   simp only []
   rw [if_pos (by simpa using hi),G4 hi]
   simp only [Option.bind_some]
   rw [C3d _ _ (by rw [List.length_map,List.length_take]; omega)]
   simp only [Option.bind_some]
   have hcode:(if (V1 l[i]!.Name ((l.take i).map (·.Name)) == 0) = true then (A2w r l[i]! any0).bind fun x10=>some x10 else some (V1 l[i]!.Name ((l.take i).map (·.Name)))) = some (A3b r (if any0 then -1 else 0) l i):= by
    unfold A3b
    by_cases e:V1 l[i]!.Name ((l.take i).map (·.Name)) = 0
    ·rw [if_pos (by simpa using e),if_pos e,D3s r _ _ hc ho]; rfl
    ·rw [if_neg (by simpa using e),if_neg e]
   rw [hcode]
   simp only [Option.bind_some]
   by_cases e:A3b r (if any0 = true then -1 else 0) l i = 0
   ·rw [if_neg (by simp [e]),Q8 (by omega) (by rw [List.length_map,List.length_take]; simp; omega),D9 (by omega)]
    simp only [Option.bind_some,e,BEq.rfl,if_true]
    rw [D1y (fun x:DrLook=>x.Name) hi]
    rfl
   ·generalize A3b r (if any0 = true then -1 else 0) l i = z at e
    have e3:(z == 0) = false:=beq_eq_false_iff_ne.mpr e
    rw [if_pos (by simpa using e),e3]; rfl) (fun _=>by
   unfold V8
   simp only []
   rw [if_neg (by simp),List.take_length])
  rw [show ((0:Int),([]:List ByteArray)) = (((0:Nat):Int),(l.take 0).map (·.Name)) from rfl,this]
  unfold wrong
  cases hf:first (fun i=>if A3b r (if any0 = true then -1 else 0) l i == 0 then none else some ((i:Int),A3b r (if any0 = true then -1 else 0) l i)) l.length with
  | none =>
   rw [G1.mpr fun i hi=>by
    have:=G1.mp hf i hi
    cases hb:A3b r (if any0 = true then -1 else 0) l i == 0 with
    | true=>rfl
    | false=>rw [hb] at this; exact absurd this (by simp)]
   rfl
  | some x =>
   obtain ⟨i,hi,h1,h2⟩:=N2 hf
   rw [A26 (r:=(.inl x:(Int × Int) ⊕ List ByteArray)) hi (by
    cases hb:A3b r (if any0 = true then -1 else 0) l i == 0 with
    | true=>rw [hb] at h1; exact absurd h1 (by simp)
    | false=>rw [hb] at h1; have h1:some ((i:Int),_) = some x:=h1; rw [← Option.some.inj h1]; rfl) fun j hj=>by
    have:=h2 j hj
    cases hb:A3b r (if any0 = true then -1 else 0) l j == 0 with
    | true=>rfl
    | false=>rw [hb] at this; exact absurd this (by simp)]
   rfl
 rw [key]
 cases wrong (A3b r (if any0 = true then -1 else 0) l) l.length <;> rfl
theorem B6x {l:List Int} {many hi:Int} (h:(nums l many hi).2 = 0):out 1 many (l.length:Int) = false:= by
 unfold nums at h
 cases ho:out 1 many (l.length:Int) with
 | false=>rfl
 | true=>rw [ho] at h; exact absurd h (by simp)
theorem A5h (r:DrRoom) (hb:NB r):M0 r = some (chk r):= by
 unfold M0 chk
 rw [B8c _ _ _ (by omega)]
 simp only [Option.bind_some]
 by_cases h1:(nums r.Costs 4 100).2 = 0
 ·rw [if_neg (by simp [h1]),if_neg (by simp [h1]),B8c _ _ _ (by omega)]
  simp only [Option.bind_some]
  by_cases h2:(nums r.Ounces 4 50).2 = 0
  ·have hc:=B0o _ _ _ (B6x h1)
   have ho:=B0o _ _ _ (B6x h2)
   rw [if_neg (by simp [h2]),if_neg (by simp [h2]),show (6:Int) = ((6:Nat):Int) from rfl,C1z r _ 6 0 (by omega) (by omega) (by omega) hb.1]
   simp only [Option.bind_some]
   by_cases h3:(peop r r.Figures 6 0).2 = 0
   ·rw [if_neg (by simp [h3]),if_neg (by simp [h3]),show (5:Int) = ((5:Nat):Int) from rfl,C1z r _ 5 (-1) (by omega) (by omega) (by omega) hb.2]
    simp only [Option.bind_some]
    by_cases h4:(peop r r.Persons 5 (-1)).2 = 0
    ·rw [if_neg (by simp [h4]),if_neg (by simp [h4])]
    ·rw [if_pos (by simpa using h4),if_pos h4]
   ·rw [if_pos (by simpa using h3),if_pos h3]
  ·rw [if_pos (by simpa using h2),if_pos h2]
 ·rw [if_pos (by simpa using h1),if_pos h1]
theorem A0a (r:DrRoom):S6 r = some (chk r):= by
 unfold S6 chk
 rw [A9w _ _ _ (by omega)]
 simp only [Option.bind_some]
 by_cases h1:(nums r.Costs 4 100).2 = 0
 ·rw [if_neg (by simp [h1]),if_neg (by simp [h1]),A9w _ _ _ (by omega)]
  simp only [Option.bind_some]
  by_cases h2:(nums r.Ounces 4 50).2 = 0
  ·have hc:=B0o _ _ _ (B6x h1)
   have ho:=B0o _ _ _ (B6x h2)
   rw [if_neg (by simp [h2]),if_neg (by simp [h2]),show (6:Int) = ((6:Nat):Int) from rfl,B1a r _ 6 false (by omega) (by omega) (by omega)]
   simp only [Option.bind_some,Bool.false_eq_true,if_false]
   by_cases h3:(peop r r.Figures 6 0).2 = 0
   ·rw [if_neg (by simp [h3]),if_neg (by simp [h3]),show (5:Int) = ((5:Nat):Int) from rfl,B1a r _ 5 true (by omega) (by omega) (by omega)]
    simp only [Option.bind_some,if_true]
    by_cases h4:(peop r r.Persons 5 (-1)).2 = 0
    ·rw [if_neg (by simp [h4]),if_neg (by simp [h4])]
    ·rw [if_pos (by simpa using h4),if_pos h4]
   ·rw [if_pos (by simpa using h3),if_pos h3]
  ·rw [if_pos (by simpa using h2),if_pos h2]
 ·rw [if_pos (by simpa using h1),if_pos h1]
structure LkOk (r:DrRoom) (least:Int) (x:DrLook):Prop where
 len:x.Looks.length = r.Costs.length
 col:least≤x.Looks[0]!∧x.Looks[0]!≤(r.Ounces.length:Int) - 1
 look:∀y ∈ x.Looks.drop 1,least≤y∧y≤5
 hair:0≤x.Hair∧x.Hair≤50
structure RmOk (r:DrRoom):Prop where
 costs:1≤r.Costs.length∧r.Costs.length≤4
 cost:∀x ∈ r.Costs,0≤x∧x≤100
 ounces:1≤r.Ounces.length∧r.Ounces.length≤4
 ounce:∀x ∈ r.Ounces,0≤x∧x≤50
 figures:r.Figures.length≤6
 persons:r.Persons.length≤5
 figure:∀x ∈ r.Figures,LkOk r 0 x
 person:∀x ∈ r.Persons,LkOk r (-1) x
theorem D13 {f:Nat→Int} {n:Nat} (h:∀i,i < n→f i = 0):wrong f n = none:= by
 unfold wrong
 rw [G1]
 intro i hi
 rw [h i hi]; rfl
theorem B1c {f:Nat→Int} {n:Nat}:((wrong f n).getD (0,0)).2 = 0↔∀ i,i < n→f i = 0:= by
 cases h:wrong f n with
 | none=>exact ⟨fun _=>C8k h,fun _=>rfl⟩
 | some x =>
  refine ⟨fun q=>?_,fun q=>?_⟩
  ·have:=C8l h
   simp only [Option.getD_some] at q
   rw [q] at this; cases this
  ·rw [D13 q] at h; cases h
theorem B3a {hi:Int} {l:List Int} {i:Nat}:A37 hi l i = 0↔0≤l[i]!∧l[i]!≤hi:= by
 unfold A37
 rw [← A9s]
 cases out 0 hi l[i]! <;> simp
theorem B6w {α:Type} [Inhabited α] {l:List α} {x:α} (h:x ∈ l):∃i,i < l.length∧l[i]! = x:= by
 obtain ⟨i,hi,e⟩:=List.mem_iff_getElem.mp h
 exact ⟨i,hi,by rw [getElem!_pos l i hi,e]⟩
theorem C1m {l:List Int} {many hi:Int}:(nums l many hi).2 = 0↔(1≤(l.length:Int)∧(l.length:Int)≤many)∧∀ x ∈ l,0≤x∧x≤hi:= by
 unfold nums
 rw [← A9s]
 cases ho:out 1 many (l.length:Int) with
 | true=>simp
 | false =>
  simp only [Bool.false_eq_true,if_false,true_and]
  rw [B1c]
  constructor
  ·intro h x hx
   obtain ⟨i,hi,rfl⟩:=B6w hx
   exact B3a.mp (h i hi)
  ·intro h i hi
   exact B3a.mpr (h _ (I4 hi))
theorem B2c {l:List Int} {a b:Int}:l.any (out a b) = false↔∀ y ∈ l,a≤y∧y≤b:= by
 rw [List.any_eq_false]
 refine forall_congr' fun y=>forall_congr' fun _=>?_
 rw [← A9s]
 cases out a b y <;> simp
theorem B84 {r:DrRoom} {least:Int} {x:DrLook}:B83 r least x = 0↔LkOk r least x:= by
 unfold B83
 constructor
 ·intro h
  split at h
  ·cases h
  ·next h1 =>
   split at h
   ·cases h
   ·next h2 =>
    split at h
    ·cases h
    ·next h3 =>
     have h2:out least ((r.Ounces.length:Int) - 1) x.Looks[0]! = false:= by simpa using h2
     have h3:((x.Looks.drop 1).any (out least 5) || out 0 50 x.Hair) = false:=Bool.eq_false_iff.2 h3
     rw [Bool.or_eq_false_iff] at h3
     exact ⟨Decidable.not_not.mp h1,A9s.mp h2,B2c.mp h3.1,A9s.mp h3.2⟩
 ·intro h
  rw [if_neg (fun c=>c h.len),A9s.mpr h.col,B2c.mpr h.look,A9s.mpr h.hair]; rfl
structure NmOk (l:List ByteArray):Prop where
 each:∀s ∈ l,A4x s = true
 two:l.Pairwise fun a b=>eqS a b = false
theorem D2y (a b:ByteArray):eqS a b = eqS b a:= by
 unfold eqS
 rw [Bool.eq_iff_iff,beq_iff_eq,beq_iff_eq]
 exact eq_comm
theorem A8e {s:ByteArray} {l:List ByteArray}:V1 s l = 0↔A4x s = true∧∀ y ∈ l,eqS y s = false:= by
 unfold V1
 cases A4x s with
 | false=>simp
 | true =>
  rw [if_pos rfl]
  cases hl:l.any (fun y=>eqS y s) with
  | true =>
   rw [List.any_eq_true] at hl
   obtain ⟨y,h1,h2⟩:=hl
   refine ⟨fun q=>absurd q (by decide),fun q=>?_⟩
   rw [q.2 y h1] at h2; cases h2
  | false =>
   rw [List.any_eq_false] at hl
   refine ⟨fun _=>⟨rfl,fun y hy=>by have:=hl y hy; simpa using this⟩,fun _=>rfl⟩
theorem D3z (l:List ByteArray):(∀ i,i < l.length→V1 l[i]! (l.take i) = 0)↔NmOk l:= by
 constructor
 ·intro h
  refine ⟨fun s hs=>?_,?_⟩
  ·obtain ⟨i,hi,rfl⟩:=B6w hs
   exact (A8e.mp (h i hi)).1
  ·rw [List.pairwise_iff_getElem]
   intro i j hi hj hij
   have:=(A8e.mp (h j hj)).2 l[i] (by
    rw [List.mem_take_iff_getElem]
    exact ⟨i,by omega,rfl⟩)
   rwa [getElem!_pos l j hj] at this
 ·intro h i hi
  refine A8e.mpr ⟨h.each _ (I4 hi),fun y hy=>?_⟩
  rw [List.mem_take_iff_getElem] at hy
  obtain ⟨j,hj,rfl⟩:=hy
  have:=List.pairwise_iff_getElem.mp h.two j i (by omega) hi (by omega)
  rwa [getElem!_pos l i hi]
theorem D8h {α:Type} [Inhabited α] (k:α→ByteArray) (l:List α):(∀ i,i < l.length→V1 (k l[i]!) ((l.take i).map k) = 0)↔NmOk (l.map k):= by
 rw [← D3z,List.length_map]
 refine forall_congr' fun i=>forall_congr' fun hi=>?_
 rw [List.map_take,getElem!_pos (l.map k) i (by rw [List.length_map]; exact hi),List.getElem_map,getElem!_pos l i hi]
theorem NmOk.reverse {l:List ByteArray} (h:NmOk l):NmOk l.reverse :=
 ⟨fun s hs=>h.each s (List.mem_reverse.mp hs),by
  rw [List.pairwise_reverse]
  exact h.two.imp fun {a b} e=>by rw [D2y]; exact e⟩
theorem C1y {r:DrRoom} {l:List DrLook} {many:Nat} {least:Int}:(peop r l many least).2 = 0↔l.length≤many∧(∀ x ∈ l,LkOk r least x)∧NmOk (l.map (·.Name)):= by
 unfold peop
 by_cases h:l.length > many
 ·rw [if_pos h]
  exact ⟨fun q=>absurd q (by decide:(3:Int) ≠ 0),fun q=>absurd q.1 (by omega)⟩
 rw [if_neg h,B1c,← D8h]
 have key:∀i,A3b r least l i = 0↔V1 l[i]!.Name ((l.take i).map (·.Name)) = 0∧B83 r least l[i]! = 0:=fun i=>by
  unfold A3b
  by_cases c:V1 l[i]!.Name ((l.take i).map (·.Name)) = 0
  ·rw [if_pos c]; exact ⟨fun q=>⟨c,q⟩,fun q=>q.2⟩
  ·rw [if_neg c]; exact ⟨fun q=>absurd q c,fun q=>absurd q.1 c⟩
 constructor
 ·intro q
  refine ⟨by omega,fun x hx=>?_,fun i hi=>((key i).mp (q i hi)).1⟩
  obtain ⟨i,hi,rfl⟩:=B6w hx
  exact B84.mp ((key i).mp (q i hi)).2
 ·intro q i hi
  exact (key i).mpr ⟨q.2.2 i hi,B84.mpr (q.2.1 _ (I4 hi))⟩
theorem M7 (r:DrRoom):(chk r).2.2 = 0↔RmOk r∧NmOk (r.Figures.map (·.Name))∧NmOk (r.Persons.map (·.Name)):= by
 unfold chk
 have n1:=C1m (l:=r.Costs) (many:=4) (hi:=100)
 have n2:=C1m (l:=r.Ounces) (many:=4) (hi:=50)
 have n3:=C1y (r:=r) (l:=r.Figures) (many:=6) (least:=0)
 have n4:=C1y (r:=r) (l:=r.Persons) (many:=5) (least:=-1)
 constructor
 ·intro h
  split at h
  ·next c=>exact absurd h c
  ·next c1 =>
   split at h
   ·next c=>exact absurd h c
   ·next c2 =>
    split at h
    ·next c=>exact absurd h c
    ·next c3 =>
     split at h
     ·next c=>exact absurd h c
     ·next c4 =>
      have a1:=n1.mp (Decidable.not_not.mp c1)
      have a2:=n2.mp (Decidable.not_not.mp c2)
      have a3:=n3.mp (Decidable.not_not.mp c3)
      have a4:=n4.mp (Decidable.not_not.mp c4)
      exact ⟨⟨by omega,a1.2,by omega,a2.2,a3.1,a4.1,a3.2.1,a4.2.1⟩,a3.2.2,a4.2.2⟩
 ·rintro ⟨o,m1,m2⟩
  have a1:=n1.mpr ⟨by have:=o.costs; omega,o.cost⟩
  have a2:=n2.mpr ⟨by have:=o.ounces; omega,o.ounce⟩
  have a3:=n3.mpr ⟨o.figures,o.figure,m1⟩
  have a4:=n4.mpr ⟨o.persons,o.person,m2⟩
  rw [if_neg (fun c=>c a1),if_neg (fun c=>c a2),if_neg (fun c=>c a3),if_neg (fun c=>c a4)]
theorem A4o {α:Type} {l:List Sh} {c:α→List AV} {Q:α→Prop} (h:∀r,SatL l r→∃ x,r = c x∧Q x):∀rows:List (List AV),(∀ r ∈ rows,SatL l r)→∃ xs:List α,rows = xs.map c∧xs.length = rows.length∧∀ x ∈ xs,Q x
 | [],_=>⟨[],rfl,rfl,by simp⟩
 | r :: rows,hr=>by
  obtain ⟨x,hx,hq⟩:=h r (hr r (List.mem_cons_self ..))
  obtain ⟨xs,hxs,hlen,hqs⟩:=A4o h rows fun r' h'=>hr r' (List.mem_cons_of_mem _ h')
  refine ⟨x :: xs,by rw [hx,hxs]; rfl,by rw [List.length_cons,List.length_cons,hlen],?_⟩
  intro y hy
  rcases List.mem_cons.mp hy with rfl | hy
  ·exact hq
  ·exact hqs y hy
theorem C23 (r:List AV) (h:SatL [.int .i64] r):∃x:Int,r = cI x∧True:= by
 simp only [SatL,Sat] at h
 obtain ⟨x1,q1,rfl,⟨n1,rfl,_⟩,rfl⟩:=h
 exact ⟨n1,rfl,trivial⟩
theorem C1p (r:List AV) (h:SatL [.str,.seq 1 [.int .i64],.int .i64] r):∃x:DrLook,r = A6 x∧x.Name.size≤maxLen:= by
 rw [SatL] at h; obtain ⟨x0,q0,rfl,h0,h⟩:=h
 rw [SatL] at h; obtain ⟨x1,q1,rfl,h1,h⟩:=h
 rw [SatL] at h; obtain ⟨x2,q2,rfl,h2,h⟩:=h
 rw [SatL] at h; subst h
 simp only [Sat] at h0 h1 h2
 obtain ⟨s,rfl,hs⟩:=h0
 obtain ⟨rows,rfl,_,hr⟩:=h1
 obtain ⟨n2,rfl,_⟩:=h2
 obtain ⟨xs,rfl,_,_⟩:=A4o C23 rows hr
 exact ⟨⟨s,xs,n2⟩,rfl,hs⟩
def B41:List Sh:=[.seq 1 [.int .i64],.seq 1 [.int .i64],.seq 3 [.str,.seq 1 [.int .i64],.int .i64],.seq 3 [.str,.seq 1 [.int .i64],.int .i64]]
theorem B0n (r:List AV) (h:SatL B41 r):∃x:DrRoom,r = A3 x∧NB x:= by
 unfold B41 at h
 rw [SatL] at h; obtain ⟨x0,q0,rfl,h0,h⟩:=h
 rw [SatL] at h; obtain ⟨x1,q1,rfl,h1,h⟩:=h
 rw [SatL] at h; obtain ⟨x2,q2,rfl,h2,h⟩:=h
 rw [SatL] at h; obtain ⟨x3,q3,rfl,h3,h⟩:=h
 rw [SatL] at h; subst h
 simp only [Sat] at h0 h1 h2 h3
 obtain ⟨rows0,rfl,_,hr0⟩:=h0
 obtain ⟨rows1,rfl,_,hr1⟩:=h1
 obtain ⟨rows2,rfl,_,hr2⟩:=h2
 obtain ⟨rows3,rfl,_,hr3⟩:=h3
 obtain ⟨xs,rfl,_,_⟩:=A4o C23 rows0 hr0
 obtain ⟨ys,rfl,_,_⟩:=A4o C23 rows1 hr1
 obtain ⟨zs,rfl,_,hq2⟩:=A4o C1p rows2 hr2
 obtain ⟨ws,rfl,_,hq3⟩:=A4o C1p rows3 hr3
 refine ⟨⟨xs,ys,zs,ws⟩,rfl,fun v hv=>?_,fun v hv=>?_⟩
 ·have:=hq2 v hv; simp only [maxLen] at this; omega
 ·have:=hq3 v hv; simp only [maxLen] at this; omega
theorem B18 {g:Ghost} {cs:List Value} {r:List AV} (hr:r.length = cs.length) (h:∀(j:Nat) (x:AV),r[j]? = some x→∃ v,cs[j]? = some v∧Den g.Φ x v∧v.oneCell' = true):V g (.agg r) (.agg cs.toArray):= by
 refine .agg r cs.toArray (by simpa using hr.symm) ?_ ?_
 ·intro j x hx
  obtain ⟨v,hv,hd,_⟩:=h j x hx
  rw [List.getElem?_toArray,hv]; exact .den _ _ hd
 ·intro j x hx
  obtain ⟨v,hv,_,h1⟩:=h j x hx
  rw [List.getElem?_toArray,hv]; exact h1
def sm:List Int→Int
 | []=>0
 | x :: l=>x + sm l
theorem A5g:∀l m:List Int,sm (l++m) = sm l + sm m
 | [],m=>by simp [sm]
 | x :: l,m=>by simp only [List.cons_append,sm,A5g l m]; omega
theorem C9z (l:List Int) (x:Int):sm (l++[x]) = sm l + x:= by rw [A5g]; simp [sm]
theorem B9d {a b:Int}:∀{l:List Int},(∀ x ∈ l,a≤x∧x≤b)→a * l.length≤sm l∧sm l≤b * l.length
 | [],_=>by simp [sm]
 | x :: l,h=>by
  have h1:=h x (List.mem_cons_self ..)
  have ih:=B9d (l:=l) fun y hy=>h y (List.mem_cons_of_mem _ hy)
  simp only [sm,List.length_cons,Int.natCast_add,Int.mul_add]
  omega
theorem B12 {α:Type} (f:α→Int) (c:Int):∀l:List α,sm (l.map fun x=>c * f x) = c * sm (l.map f)
 | []=>by simp [sm]
 | x :: l=>by simp only [List.map_cons,sm,B12 f c l,Int.mul_add]
theorem B3y {α:Type} {f g:α→Int} {l:List α} (h:∀x ∈ l,f x = g x):sm (l.map f) = sm (l.map g):= by
 rw [List.map_congr_left h]
theorem D62 {α:Type} {f:α→Int} {l:List α} (h:∀x ∈ l,f x = 0):sm (l.map f) = 0:= by
 induction l with
 | nil=>rfl
 | cons x l ih =>
  simp only [List.map_cons,sm,h x (List.mem_cons_self ..),ih fun y hy=>h y (List.mem_cons_of_mem _ hy)]; rfl
theorem D5t {l:List Int} {k:Nat} (h:l.length≤k):l[k]! = 0:= by
 rw [getElem!_neg l k (by omega)]; rfl
end Ds
end
section
set_option maxRecDepth 100000
namespace Ds
open Go Am Go.Proofs.Ytdkflofgolehkaa.Cd
def cP (f:AV) (x:dress_plan):List AV:=[f,.i x.cost_,.i x.left_.x0,.i x.left_.x1,.i x.left_.x2,.i x.left_.x3]
def U5 (a2:dress_change) (s1:Int × Ar4 Int):Option ((Int × Ar4 Int) ⊕ Ar4 Int) :=
 if (decide (s1.1 < 4)) = true then
  (idx (Ar4.l a2.hair_) s1.1).bind fun x4 =>
  (idx (Ar4.l s1.2) s1.1).bind fun x5 =>
  some (.inl (w64 (s1.1 + 1),Ar4.set s1.2 s1.1 (w64 (x5 + x4))))
 else
  some (.inr s1.2)
def V6 (a0:dress_plan) (a1:Int) (a2:dress_change):Option dress_plan :=
 (app 8 a0.figures_ [a1]).bind fun x1 =>
 (loop (U5 a2) (0,a0.left_)).bind fun o2 =>
 some ⟨x1,w64 (a0.cost_ + a2.cost_),o2⟩
def C6k (H:A1) (f:AV) (a2:dress_change) (r:dress_plan):List AO:=[.cells (cP (.asl (H.length + 3) r.figures_.length) r),.cells (B7 a2),.cells (cP (.asl (H.length + 3) r.figures_.length) r),.stk 1 (r.figures_.map cI) (A2l H f)]
theorem C95 {c:Sc} {H:A1} {f:AV} {a0 r:dress_plan} {a1:Int} {a2:dress_change} (hs:A64 H 1 f (a0.figures_.map cI)) (hy:Young H f) (h:V6 a0 a1 a2 = some r) :
  G8 tab c H (.fn (.func 92) [] []) [.agg (cP f a0),.i a1,.agg (B7 a2)] [.agg (cP (.asl (H.length + 3) r.figures_.length) r)] (H++C6k H f a2 r):= by
 unfold V6 at h
 refine C36 (aq:=[.agg (cP f a0),.i a1,.agg (B7 a2)]) rfl rfl rfl (A4r ?_)
 refine oB h fun x1 hx1 h=>oB h fun o2 ho2 h=>?_
 obtain rfl:=os h
 refine sg 0 rfl<|A0 (F6 (cs:=cP f a0) rfl rfl rfl) rfl<|A0 (F6 (cs:=B7 a2) rfl rfl rfl) rfl<|A0 E4 rfl<|es (ra4 rfl rfl rfl rfl)<|sg 3 rfl<|A0 (D2 rfl) rfl<|A0 (C8 (x:=f) rfl rfl rfl) rfl<|qm rfl<|A0 (G2 (rows:=List.map cI [a1]) rfl rfl (D8 (fun _=>rfl) _)) rfl<|R2 (D8o (f:=cI) rfl rfl hs.app (Young.app hs hy rfl) (fun b n e=>Nat.lt_of_lt_of_le (hs.lt e) (Nat.le_add_right _ _)) Q3 (fun _=>rfl) (fun _=>rfl) rfl rfl hx1) rfl<|A0 (D2 rfl) rfl<|I0 (D1 (ds:=cP (.asl (H.length + 3) x1.length) a0) rfl rfl rfl rfl (Q5 (Nat.le_add_right _ _)) rfl) rfl<|es (ra3 rfl rfl rfl) ?_
 have ha:∀L,A2l (H++L) f = A2l H f:=fun L=>by
  rcases hs with ⟨rfl,_⟩ | ⟨b,anc,rfl,hg⟩
  ·rfl
  ·simp only [A2l,B7y hg,hg]
 rw [ha]
 refine s0<|A0 (D2 rfl) rfl<|A0 (C8 (x:=.i a0.cost_) rfl rfl rfl) rfl<|A0 (D2 rfl) rfl<|A0 (C8 (x:=.i a2.cost_) rfl rfl rfl) rfl<|A0 (E7 rfl rfl) rfl<|A0 (D2 rfl) rfl<|I0 (D1 (ds:=cP (.asl (H.length + 3) x1.length) ⟨x1,w64 (a0.cost_ + a2.cost_),a0.left_⟩) rfl rfl rfl rfl (C5 rfl) rfl) rfl<|es (ra3 rfl rfl rfl)<|B6<|s0<|A0 (D2 rfl) rfl<|A0 (I8 (ds:=(A1d cI) a2.hair_) rfl rfl rfl rfl) rfl<|qm rfl<|es (ra4 rfl rfl rfl rfl)<|C3<|wl (fun s1=>[(3,(.ptr (H.length + 0) 0)),(6,(.ptr (H.length + 2) 0)),(22,(.agg ((A1d cI) a2.hair_))),(23,.i s1.1)]) (fun (q2:Unit) s1=>[(.cells (cP (.asl (H.length + 3) x1.length) ⟨x1,w64 (a0.cost_ + a2.cost_),s1.2⟩)),(.cells (B7 a2)),(.cells [.seq 1 [],.i 0,.i 0,.i 0,.i 0,.i 0]),.stk 1 (x1.map cI) (A2l H f)]) 4 (fun r e s' H'=>PX 0 [(3,(.ptr (H.length + 0) 0)),(6,(.ptr (H.length + 2) 0))] (H++[(.cells (cP (.asl (H.length + 3) x1.length) ⟨x1,w64 (a0.cost_ + a2.cost_),r⟩)),(.cells (B7 a2)),(.cells [.seq 1 [],.i 0,.i 0,.i 0,.i 0,.i 0]),.stk 1 (x1.map cI) (A2l H f)]) e s' H') () ho2 rfl rfl (fun _ _=>rfl) (fun _=>rfl) rfl (fun s1=>(bdc (E8 rfl) (bdc (E8 rfl) (bdc (Z2 rfl) (bdc A8 bdn))))) (fun q2 s1 ys1 hs1=>?_) ?_
 ·unfold U5 at hs1
  refine s0<|A0 (G3 rfl rfl) rfl<|es (ra5 rfl rfl rfl rfl rfl)<|B6<|wi hs1 rfl (fun hc3 hs1=>?_) fun hc3 hs1=>?_
  ·refine C1<|B6<|C3<|s0<|oB hs1 fun x4 hx4 hs1=>oB hs1 fun x5 hx5 hs1=>qm rfl<|A0 (B8d (f:=cI) (g:=fun n=>(.i n)) (e:=Ar4.l a2.hair_) (fun _=>rfl) rfl rfl rfl rfl hx4) rfl<|qm rfl<|qm rfl<|es (ra6 rfl rfl rfl rfl rfl rfl)<|r0<|qm rfl<|A0 (D2 rfl) rfl<|A0 (A3c (e:=Ar4.l s1.2) rfl rfl rfl hx5) rfl<|A0 (A3d (f:=cI) (g:=fun n=>(.i n)) (e:=Ar4.l s1.2) (post:=[]) (fun _=>rfl) rfl (D7 rfl) rfl hx5) rfl<|qm rfl<|A0 (E7 rfl rfl) rfl<|A0 (D2 rfl) rfl<|A0 (A3c (e:=Ar4.l s1.2) rfl rfl rfl hx5) rfl<|I0 (A9n (f:=cI) (e:=Ar4.l s1.2) (e2:=Ar4.l (Ar4.set s1.2 s1.1 (w64 (x5 + x4)))) (z:=(w64 (x5 + x4))) (ds:=cP (.asl (H.length + 3) x1.length) ⟨x1,w64 (a0.cost_ + a2.cost_),Ar4.set s1.2 s1.1 (w64 (x5 + x4))⟩) (post:=[]) rfl rfl rfl rfl rfl rfl (fun _=>rfl) hx5 (Ar4.set_l hx5) rfl (C5 rfl)) rfl<|en (ra4 rfl rfl rfl rfl)<|r0<|A0 (E7 rfl rfl) rfl<|qm rfl<|en (ra4 rfl rfl rfl rfl) ?_
   cases hs1
   exact lnT () rfl (su4 rfl rfl rfl rfl)
  ·refine F3 ?_
   obtain rfl:=os hs1
   exact lx rfl px (su2 rfl rfl)
 ·rintro e s' H' - ⟨rfl,rfl,rfl⟩
  refine s0<|A0 (C2 rfl rfl rfl) rfl<|I0 (D1 (ds:=cP (.asl (H.length + 3) x1.length) ⟨x1,w64 (a0.cost_ + a2.cost_),o2⟩) rfl rfl rfl rfl (Q5 (Nat.le_add_right _ _)) rfl) rfl<|es (ra1 rfl)<|C4 ?_
  refine ⟨trivial,P6 (I8 (ds:=cP (.asl (H.length + 3) x1.length) ⟨x1,w64 (a0.cost_ + a2.cost_),o2⟩) rfl rfl rfl rfl) B8,?_⟩
  have hb:bdL H.length [.agg (cP (.asl (H.length + 3) x1.length) ⟨x1,w64 (a0.cost_ + a2.cost_),o2⟩)] = false:= by
   have:Nat.blt (H.length + 3) H.length = false:= by
    cases hb:Nat.blt (H.length + 3) H.length with
    | false=>rfl
    | true=>have:=Nat.le_of_ble_eq_true hb; omega
   simp only [bdL,AV.bd,cP,this,Bool.false_and]
  unfold trunc
  rw [hb]
  rfl
end Ds
end
section
set_option maxRecDepth 100000
namespace Am
open Go
section
variable {T:Tab} {s:B3} {H0:A1} {l:List AO} {c:Sc} {n0:Nat}
theorem D34 {α:Type} {f:α→List AV} {k j o n:Nat} {x y:Opd} {m:List α} {v:AV} {cs ds:List AV} (hd:ev s x = some (.csl (H0.length + j) o k n)) (hx:ev s y = some v) (hl:l[j]? = some (.cells cs)) (hr:rd (H0++l) v k (m.map f)) (hf:∀a,(f a).all AV.frz = true)
  (hle:Nat.ble (o + n * k) cs.length = true) (e:splice cs o ((m.take n).map f).flatten = ds) :
  One T c n0 s (H0++l) (.copy k x y) (.lit (.int .i64 (min m.length n:Nat))) (H0++l.set j (.cells ds)):=⟨0,by
 have h2:Nat.ble (o + min m.length n * k) cs.length = true:=Nat.ble_eq_true_of_le (by
  have:=Nat.le_of_ble_eq_true hle
  have:=Nat.mul_le_mul_right k (Nat.min_le_right m.length n)
  omega)
 have h3:(m.map f).take (min m.length n) = (m.take n).map f:= by
  rw [← List.map_take]; congr 1
  rw [List.take_eq_take_iff]; omega
 simp only [core,prim,hd,hx,hr.1,hr.2,D8 hf,A4h hl,Nat.beq_refl,List.length_map,h2,Bool.and_self,if_true,h3,e,F2]⟩
end
end Am
namespace Ds
open Go Am Go.Proofs.Ytdkflofgolehkaa.Cd
def A40 (t:DrRoom) (m:Nat):List AV:=[(.seq 1 (List.map cI t.Costs)),(.seq 1 (List.map cI t.Ounces)),(.seq 3 (List.map A6 t.Figures)),(.seq 3 (List.map A6 t.Persons)),.mp m]
abbrev Chg:=List (dress_pair × dress_change)
def B0x (ch:Chg):List (AV × AV):=ch.map (kE (fun x=>.agg (D3 x)) (fun x=>.agg (B7 x)))
def A8w (H:A1) (b:Nat) (t:DrRoom) (ch:Chg):Prop:=∃ m,hcells H b = some (A40 t m)∧hmap H m = some (B0x ch)
def chg0:dress_change:=⟨0,0,⟨0,0,0,0⟩⟩
def A4u (ch:Chg) (f p:Int):dress_change:=(kget ch ⟨f,p⟩).getD chg0
theorem C4z {H L:A1} {b:Nat} {es:List (AV × AV)} (h:hmap H b = some es):hmap (H++L) b = some es:= by
 have:b < H.length:= by
  unfold hmap hget at h
  cases e:H[b]? with
  | none=>rw [e] at h; cases h
  | some o=>exact (List.getElem?_eq_some_iff.1 e).1
 unfold hmap hget at h ⊢
 rw [List.getElem?_append_left this]; exact h
theorem A8w.app {H L:A1} {b:Nat} {t:DrRoom} {ch:Chg} (h:A8w H b t ch):A8w (H++L) b t ch:= by
 obtain ⟨m,h1,h2⟩:=h
 exact ⟨m,N6 h1 _,C4z h2⟩
theorem C8v {c:Sc} {H:A1} {b:Nat} {t:DrRoom} {ch:Chg} (h:A8w H b t ch) (f p:Int):F0 tab c H (.fn (.func 93) [] []) [.ptr b 0,.i f,.i p] [.agg (B7 (A4u ch f p))]:= by
 obtain ⟨m,h1,h2⟩:=h
 refine cE rfl rfl<|sg 0 rfl<|A0 E4 rfl<|es (ra4 rfl rfl rfl rfl)<|s0<|qm rfl<|A0 (A1l rfl rfl) rfl<|A0 (D2 rfl) rfl<|A0 (R5 rfl h1 rfl) rfl<|qm rfl<|qm rfl<|A0 (L6 (cs:=D3 ⟨f,p⟩) rfl rfl) rfl<|A0 (D35 R0 rfl (C4z h2) rfl (z:=chg0) rfl) rfl<|I0 (D1 (ds:=B7 (A4u ch f p)) rfl rfl rfl rfl (C5 rfl) rfl) rfl<|es (ra1 rfl)<|C4 ?_
 exact retq trivial (P6 (I8 (ds:=B7 (A4u ch f p)) rfl rfl rfl rfl) B8) (A7 (A1w rfl) B9) (A4 (Z2 rfl) B2)
def cpy4 (l:List Int):Ar4 Int:=⟨l.getD 0 0,l.getD 1 0,l.getD 2 0,l.getD 3 0⟩
theorem C66 (f:AV):∀l:List Int,splice [f,.i 0,.i 0,.i 0,.i 0,.i 0] 2 ((l.take 4).map cI).flatten = cP f ⟨[],0,cpy4 l⟩
 | []=>rfl
 | [_]=>rfl
 | [_,_]=>rfl
 | [_,_,_]=>rfl
 | _ :: _ :: _ :: _ :: _=>rfl
def begin0 (t:DrRoom):dress_plan:=⟨[],0,cpy4 t.Ounces⟩
theorem C31 {c:Sc} {H:A1} {b:Nat} {t:DrRoom} {ch:Chg} (h:A8w H b t ch):G8 tab c H (.fn (.func 91) [] []) [.ptr b 0] [.agg (cP (.nils 1) (begin0 t))] H:= by
 obtain ⟨m,h1,h2⟩:=h
 refine C36 (aq:=[.ptr b 0]) rfl rfl rfl (A4r ?_)
 refine sg 0 rfl<|A0 E4 rfl<|es (ra2 rfl rfl)<|s0<|A0 (D2 rfl) rfl<|A0 (D09 (b:=H.length + 0) (cs:=[.nils 1,.i 0,.i 0,.i 0,.i 0,.i 0]) rfl (D7 rfl) rfl) rfl<|qm rfl<|A0 (A1l rfl rfl) rfl<|A0 (D2 rfl) rfl<|A0 (D2 rfl) rfl<|A0 (R5 rfl h1 rfl) rfl<|R2 (D34 (f:=cI) (m:=t.Ounces) (ds:=cP (.nils 1) (begin0 t)) rfl rfl rfl Q3 (fun _=>rfl) rfl (C66 _ _)) rfl<|es (ra1 rfl)<|s0<|A0 (C2 rfl rfl rfl) rfl<|I0 (D1 (ds:=cP (.nils 1) (begin0 t)) rfl rfl rfl rfl (Q5 (Nat.le_add_right _ _)) rfl) rfl<|es (ra1 rfl)<|C4 ?_
 refine ⟨trivial,P6 (I8 (ds:=cP (.nils 1) (begin0 t)) rfl rfl rfl rfl) B8,?_⟩
 unfold trunc
 have hb:bdL H.length [.agg (cP (.nils 1) (begin0 t))] = true:= by simp only [bdL,AV.bd,cP,Bool.and_self]
 rw [hb]
 simp
end Ds
end
section
set_option maxRecDepth 100000
set_option maxHeartbeats 0
namespace Ds
open Go Am Go.Proofs.Ytdkflofgolehkaa.Cd
def O7 (a0:dress_room) (a1:DrLook) (a2:DrLook) (s1:(Int × dress_change)):Option ((Int × dress_change) ⊕ dress_change) :=
 if (decide (s1.1 < (List.length a2.Looks:Int))) = true then
  (idx a2.Looks s1.1).bind fun x4 =>
  (if (x4 == (-1)) = true then
  some true
  else
  (idx a1.Looks s1.1).bind fun x6 =>
  some (x4 == x6)).bind fun x7 =>
  if x7 = true then
  some (.inl ((w64 (s1.1 + 1)),s1.2))
  else
  (idx a0.DrRoom.Costs s1.1).bind fun x9 =>
  (C0e .i64 1 s1.1).bind fun x10 =>
  some (.inl ((w64 (s1.1 + 1)),(dress_change.mk (w64 (s1.2.cost_ + x9)) (orI s1.2.kinds_ x10) s1.2.hair_)))
 else
  some (.inr s1.2)
def N5 (a0:dress_room) (a1:DrLook) (a2:DrLook):Option dress_change :=
 (loop (O7 a0 a1 a2) (0,(dress_change.mk 0 0 (Ar4.mk 0 0 0 0)))).bind fun (o11:dress_change) =>
 if ((B1f o11.kinds_ 1) == 1) = true then
  (idx a1.Looks 0).bind fun x13 =>
  (idx (Ar4.l o11.hair_) x13).bind fun x14 =>
  (idx (Ar4.l o11.hair_) x13).bind fun x15 =>
  (idx a2.Looks 0).bind fun x16 =>
  (idx (Ar4.l (Ar4.set o11.hair_ x13 (w64 (x14 + a1.Hair)))) x16).bind fun x17 =>
  (idx (Ar4.l (Ar4.set o11.hair_ x13 (w64 (x14 + a1.Hair)))) x16).bind fun x18 =>
  some (dress_change.mk o11.cost_ o11.kinds_ (Ar4.set (Ar4.set o11.hair_ x13 (w64 (x14 + a1.Hair))) x16 (w64 (x17 - a2.Hair))))
 else
  some o11
theorem S4 {c:Sc} {H:A1} {a0:dress_room} {m0_4:AV} {b0:Nat} (hb0:hcells H b0 = some [(.seq 1 (List.map cI a0.DrRoom.Costs)),(.seq 1 (List.map cI a0.DrRoom.Ounces)),(.seq 3 (List.map A6 a0.DrRoom.Figures)),(.seq 3 (List.map A6 a0.DrRoom.Persons)),m0_4]) {a1:DrLook} {a2:DrLook} {r:dress_change} (h:N5 a0 a1 a2 = some r) :
  F0 tab c H (.fn (.func 88) [] []) [.ptr b0 0,(.agg (A6 a1)),(.agg (A6 a2))] [(.agg (B7 r))]:= by
 unfold N5 at h
 refine cE rfl rfl<|sg 0 rfl<|A0 (F6 (cs:=A6 a1) rfl rfl rfl) rfl<|A0 (F6 (cs:=A6 a2) rfl rfl rfl) rfl<|A0 E4 rfl<|es (ra4 rfl rfl rfl rfl)<|B6<|s0<|A0 (D2 rfl) rfl<|A0 (C8 rfl rfl rfl) rfl<|A0 (D4 (f:=cI) rfl) rfl<|qm rfl<|es (ra7 rfl rfl rfl rfl rfl rfl rfl)<|C3<|oB h fun o11 ho11 h=>wl (fun s1=>[(0,.ptr b0 0),(4,(.ptr (H.length + 0) 0)),(5,(.ptr (H.length + 1) 0)),(6,(.ptr (H.length + 2) 0)),(10,(.seq 1 (List.map cI a2.Looks))),(11,(.i (List.length a2.Looks:Int))),(12,.i s1.1)]) (fun (q2:Unit) s1=>[(.cells (A6 a1)),(.cells (A6 a2)),(.cells (B7 s1.2))]) 3 (fun r e s' H'=>PX 0 [(4,(.ptr (H.length + 0) 0)),(5,(.ptr (H.length + 1) 0)),(6,(.ptr (H.length + 2) 0))] (H++[(.cells (A6 a1)),(.cells (A6 a2)),(.cells (B7 r))]) e s' H') () ho11 rfl rfl (fun _ _=>rfl) (fun _=>rfl) rfl (fun s1=>(bdc (D5i hb0) (bdc (E8 rfl) (bdc (E8 rfl) (bdc (E8 rfl) (bdc E6 (bdc A8 (bdc A8 bdn)))))))) (fun q2 s1 ys1 hs1=>?_) ?_
 ·unfold O7 at hs1
  refine s0<|A0 (G3 rfl rfl) rfl<|es (ra8 rfl rfl rfl rfl rfl rfl rfl rfl)<|B6<|wi hs1 rfl (fun hc3 hs1=>?_) fun hc3 hs1=>?_
  ·refine C1<|B6<|C3<|s0<|oB hs1 fun x4 hx4 hs1=>qm rfl<|A0 (E3 (f:=cI) rfl rfl hx4) rfl<|A0 (E9 rfl rfl) rfl<|qm rfl<|qm rfl<|es (ra9 rfl rfl rfl rfl rfl rfl rfl rfl rfl)<|B6<|s0<|oB hs1 fun x7 hx7 hs1=>qm rfl<|A0 (F7 rfl rfl) rfl<|qm rfl<|gp 8 27 (.b x7) 19 rfl rfl (fun hg5=>?_) (fun hg5=>?_) ?_
   ·obtain rfl:=os (bt hx7 hg5)
    exact nF rfl hg5 rfl<|nF rfl hg5 rfl<|nF rfl hg5 rfl<|nF rfl hg5 rfl<|nF rfl hg5 rfl<|nF rfl hg5 rfl<|nF rfl hg5 rfl<|A0 (C7 rfl hg5 rfl) rfl<|ge 8 rfl rfl rfl
   ·refine oB (bf hx7 hg5) fun x6 hx6 hx7=>?_
    obtain rfl:=os hx7
    exact gF rfl hg5<|qm rfl<|gF rfl hg5<|A0 (D2 rfl) rfl<|gF rfl hg5<|A0 (C8 rfl rfl rfl) rfl<|gF rfl hg5<|qm rfl<|gF rfl hg5<|A0 (E3 (f:=cI) rfl rfl hx6) rfl<|gF rfl hg5<|A0 (E9 rfl rfl) rfl<|gF rfl hg5<|A0 (F7 rfl rfl) rfl<|A0 (C6 rfl hg5 rfl) rfl<|ge 8 rfl rfl rfl
   refine es (ra9 rfl rfl rfl rfl rfl rfl rfl rfl rfl)<|wi hs1 rfl (fun hc8 hs1=>?_) fun hc8 hs1=>?_
   ·refine F3<|r0<|A0 (E7 rfl rfl) rfl<|qm rfl<|en (ra7 rfl rfl rfl rfl rfl rfl rfl) ?_
    cases hs1
    exact lnT () rfl (su7 rfl rfl rfl rfl rfl rfl rfl)
   ·refine C1<|s0<|oB hs1 fun x9 hx9 hs1=>A0 (D2 rfl) rfl<|A0 (C8 rfl rfl rfl) rfl<|qm rfl<|A0 (A1l rfl rfl) rfl<|A0 (D2 rfl) rfl<|A0 (D2 rfl) rfl<|A0 (R5 (x:=(.seq 1 (List.map cI a0.DrRoom.Costs))) rfl hb0 rfl) rfl<|qm rfl<|A0 (E3 (f:=cI) rfl rfl hx9) rfl<|A0 (E9 rfl rfl) rfl<|A0 (E7 rfl rfl) rfl<|A0 (D2 rfl) rfl<|I0 (D1 (ds:=(B7 (dress_change.mk (w64 (s1.2.cost_ + x9)) s1.2.kinds_ s1.2.hair_))) rfl rfl rfl rfl (C5 rfl) rfl) rfl<|es (ra8 rfl rfl rfl rfl rfl rfl rfl rfl)<|r0<|oB hs1 fun x10 hx10 hs1=>A0 (D2 rfl) rfl<|A0 (C8 rfl rfl rfl) rfl<|qm rfl<|A0 (C5j rfl rfl hx10) rfl<|A0 (O4 (v:=(.i (orI s1.2.kinds_ x10))) rfl rfl rfl) rfl<|A0 (D2 rfl) rfl<|I0 (D1 (ds:=(B7 (dress_change.mk (w64 (s1.2.cost_ + x9)) (orI s1.2.kinds_ x10) s1.2.hair_))) rfl rfl rfl rfl (C5 rfl) rfl) rfl<|en (ra7 rfl rfl rfl rfl rfl rfl rfl)<|r0<|A0 (E7 rfl rfl) rfl<|qm rfl<|en (ra7 rfl rfl rfl rfl rfl rfl rfl) ?_
    cases hs1
    exact lnT () rfl (su7 rfl rfl rfl rfl rfl rfl rfl)
  ·refine F3 ?_
   obtain rfl:=os hs1
   exact lx rfl px (su3 rfl rfl rfl)
 ·rintro e s' H' - ⟨rfl,rfl,rfl⟩
  refine B6<|s0<|A0 (D2 rfl) rfl<|A0 (C8 rfl rfl rfl) rfl<|A0 (O4 (v:=(.i (B1f o11.kinds_ 1))) rfl rfl rfl) rfl<|A0 (F7 rfl rfl) rfl<|es (ra4 rfl rfl rfl rfl)<|wi h rfl (fun hc12 h=>?_) fun hc12 h=>?_
  ·refine s0<|oB h fun x13 hx13 h=>oB h fun x14 hx14 h=>oB h fun x15 hx15 h=>A0 (D2 rfl) rfl<|A0 (C8 rfl rfl rfl) rfl<|A0 (E3 (f:=cI) rfl rfl hx13) rfl<|A0 (E9 rfl rfl) rfl<|A0 (D2 rfl) rfl<|A0 (A3c (e:=Ar4.l o11.hair_) rfl rfl rfl hx14) rfl<|A0 (A3d (f:=cI) (g:=fun n=>(.i n)) (e:=Ar4.l o11.hair_) (fun _=>rfl) rfl (D7 rfl) rfl hx14) rfl<|A0 (D2 rfl) rfl<|A0 (C8 rfl rfl rfl) rfl<|A0 (E7 rfl rfl) rfl<|A0 (D2 rfl) rfl<|A0 (A3c (e:=Ar4.l o11.hair_) rfl rfl rfl hx15) rfl<|I0 (A9n (f:=cI) (e:=Ar4.l o11.hair_) (e2:=Ar4.l (Ar4.set o11.hair_ x13 (w64 (x14 + a1.Hair)))) (z:=(w64 (x14 + a1.Hair))) (ds:=(B7 (dress_change.mk o11.cost_ o11.kinds_ (Ar4.set o11.hair_ x13 (w64 (x14 + a1.Hair)))))) rfl rfl rfl rfl rfl rfl (fun _=>rfl) hx15 (Ar4.set_l hx15) rfl (C5 rfl)) rfl<|es (ra2 rfl rfl)<|r0<|oB h fun x16 hx16 h=>oB h fun x17 hx17 h=>oB h fun x18 hx18 h=>A0 (D2 rfl) rfl<|A0 (C8 rfl rfl rfl) rfl<|A0 (E3 (f:=cI) rfl rfl hx16) rfl<|A0 (E9 rfl rfl) rfl<|A0 (D2 rfl) rfl<|A0 (A3c (e:=Ar4.l (Ar4.set o11.hair_ x13 (w64 (x14 + a1.Hair)))) rfl rfl rfl hx17) rfl<|A0 (A3d (f:=cI) (g:=fun n=>(.i n)) (e:=Ar4.l (Ar4.set o11.hair_ x13 (w64 (x14 + a1.Hair)))) (fun _=>rfl) rfl (D7 rfl) rfl hx17) rfl<|A0 (D2 rfl) rfl<|A0 (C8 rfl rfl rfl) rfl<|A0 (Y8 rfl rfl) rfl<|A0 (D2 rfl) rfl<|A0 (A3c (e:=Ar4.l (Ar4.set o11.hair_ x13 (w64 (x14 + a1.Hair)))) rfl rfl rfl hx18) rfl<|I0 (A9n (f:=cI) (e:=Ar4.l (Ar4.set o11.hair_ x13 (w64 (x14 + a1.Hair)))) (e2:=Ar4.l (Ar4.set (Ar4.set o11.hair_ x13 (w64 (x14 + a1.Hair))) x16 (w64 (x17 - a2.Hair)))) (z:=(w64 (x17 - a2.Hair))) (ds:=(B7 (dress_change.mk o11.cost_ o11.kinds_ (Ar4.set (Ar4.set o11.hair_ x13 (w64 (x14 + a1.Hair))) x16 (w64 (x17 - a2.Hair)))))) rfl rfl rfl rfl rfl rfl (fun _=>rfl) hx18 (Ar4.set_l hx18) rfl (C5 rfl)) rfl<|en (ra1 rfl)<|s0<|A0 (C2 rfl rfl rfl) rfl<|I0 (D1 (ds:=(B7 (dress_change.mk o11.cost_ o11.kinds_ (Ar4.set (Ar4.set o11.hair_ x13 (w64 (x14 + a1.Hair))) x16 (w64 (x17 - a2.Hair)))))) rfl rfl rfl rfl (C5 rfl) rfl) rfl<|es (ra1 rfl)<|C4 ?_
   obtain rfl:=os h
   exact retq trivial (P6 (I8 (ds:=B7 (dress_change.mk o11.cost_ o11.kinds_ (Ar4.set (Ar4.set o11.hair_ x13 (w64 (x14 + a1.Hair))) x16 (w64 (x17 - a2.Hair))))) rfl rfl rfl rfl) B8) (A7 (A1w rfl) B9) (A4 (Z2 rfl) B2)
  ·refine C1<|s0<|A0 (C2 rfl rfl rfl) rfl<|I0 (D1 (ds:=(B7 o11)) rfl rfl rfl rfl (C5 rfl) rfl) rfl<|es (ra1 rfl)<|C4 ?_
   obtain rfl:=os h
   exact retq trivial (P6 (I8 (ds:=B7 o11) rfl rfl rfl rfl) B8) (A7 (A1w rfl) B9) (A4 (Z2 rfl) B2)
def W9 (a0:DrRoom) (s3:(Int × (List (dress_pair × dress_change)))) (x6:DrLook) (s7:(Int × (List (dress_pair × dress_change)))):Option ((Int × (List (dress_pair × dress_change))) ⊕ (List (dress_pair × dress_change))) :=
 if (decide (s7.1 < (List.length a0.Persons:Int))) = true then
  (idx a0.Persons s7.1).bind fun x10 =>
  (N5 (dress_room.mk a0) x6 x10).bind fun x11 =>
  some (.inl ((w64 (s7.1 + 1)),(kset s7.2 (dress_pair.mk s3.1 s7.1) x11)))
 else
  some (.inr s7.2)
def L2 (a0:DrRoom) (s3:(Int × (List (dress_pair × dress_change)))):Option ((Int × (List (dress_pair × dress_change))) ⊕ (List (dress_pair × dress_change))) :=
 if (decide (s3.1 < (List.length a0.Figures:Int))) = true then
  (idx a0.Figures s3.1).bind fun x6 =>
  (loop (W9 a0 s3 x6) (0,s3.2)).bind fun (o12:(List (dress_pair × dress_change))) =>
  some (.inl ((w64 (s3.1 + 1)),o12))
 else
  some (.inr s3.2)
def A0j (a0:DrRoom) (a1:Int) (a2:Int) (o13:(List (dress_pair × dress_change))) (s20:(Int × (List Int))):Option ((Int × (List Int)) ⊕ (List Int)) :=
 if (decide (s20.1 < (List.length a0.Costs:Int))) = true then
  (B9b .i64 ((Option.getD (kget o13 (dress_pair.mk a1 a2)) (dress_change.mk 0 0 (Ar4.mk 0 0 0 0))).kinds_) s20.1).bind fun x23 =>
  if ((B1f x23 1) == 1) = true then
  (app 8 s20.2 [s20.1]).bind fun x25 =>
  some (.inl ((w64 (s20.1 + 1)),x25))
  else
  some (.inl ((w64 (s20.1 + 1)),s20.2))
 else
  some (.inr s20.2)
def A0w (a0:DrRoom) (a1:Int) (a2:Int):Option (Int × (List Int) × Int) :=
 (M0 a0).bind fun x1 =>
 if (x1.2.2 != 0) = true then
  some (0,([]:List Int),x1.2.2)
 else
  (loop (L2 a0) (0,([]:(List (dress_pair × dress_change))))).bind fun (o13:(List (dress_pair × dress_change))) =>
  (J6 0 (w64 ((List.length a0.Figures:Int) - 1)) [a1]).bind fun x14 =>
  (if x14 = true then
  some true
  else
  (J6 0 (w64 ((List.length a0.Persons:Int) - 1)) [a2]).bind fun x16 =>
  some x16).bind fun x17 =>
  if x17 = true then
  some (0,([]:List Int),4)
  else
  if (((Option.getD (kget o13 (dress_pair.mk a1 a2)) (dress_change.mk 0 0 (Ar4.mk 0 0 0 0))).cost_ == (dress_change.mk 0 0 (Ar4.mk 0 0 0 0)).cost_) && (((Option.getD (kget o13 (dress_pair.mk a1 a2)) (dress_change.mk 0 0 (Ar4.mk 0 0 0 0))).kinds_ == (dress_change.mk 0 0 (Ar4.mk 0 0 0 0)).kinds_) && (((Option.getD (kget o13 (dress_pair.mk a1 a2)) (dress_change.mk 0 0 (Ar4.mk 0 0 0 0))).hair_.x0 == (dress_change.mk 0 0 (Ar4.mk 0 0 0 0)).hair_.x0) && (((Option.getD (kget o13 (dress_pair.mk a1 a2)) (dress_change.mk 0 0 (Ar4.mk 0 0 0 0))).hair_.x1 == (dress_change.mk 0 0 (Ar4.mk 0 0 0 0)).hair_.x1) && (((Option.getD (kget o13 (dress_pair.mk a1 a2)) (dress_change.mk 0 0 (Ar4.mk 0 0 0 0))).hair_.x2 == (dress_change.mk 0 0 (Ar4.mk 0 0 0 0)).hair_.x2) && (((Option.getD (kget o13 (dress_pair.mk a1 a2)) (dress_change.mk 0 0 (Ar4.mk 0 0 0 0))).hair_.x3 == (dress_change.mk 0 0 (Ar4.mk 0 0 0 0)).hair_.x3) && true)))))) = true then
   some (0,([]:List Int),0)
  else
   (loop (A0j a0 a1 a2 o13) (0,([]:List Int))).bind fun (o26:(List Int)) =>
   some ((Option.getD (kget o13 (dress_pair.mk a1 a2)) (dress_change.mk 0 0 (Ar4.mk 0 0 0 0))).cost_,o26,0)
theorem A38 {c:Sc} {H:A1} {a0:DrRoom} {a1:Int} {a2:Int} {r:(Int × (List Int) × Int)} (h:A0w a0 a1 a2 = some r) :
  F0 tab c H (.fn (.func 18) [] []) [(.agg (A3 a0)),.i a1,.i a2] [.i r.1,(.fresh 1 (List.map cI r.2.1)),.i r.2.2]:= by
 unfold A0w at h
 refine cE rfl rfl<|sg 0 rfl<|A0 (F6 (cs:=A3 a0) rfl rfl rfl) rfl<|qm rfl<|A0 A3e rfl<|qm rfl<|es (ra4 rfl rfl rfl rfl)<|s0<|A0 (C2 rfl rfl rfl) rfl<|A3x (as2:=[(.agg (A3 a0))]) (H1:=(H++[(.cells (A3 a0)),(.arr 1 false (List.map cI ([]:List Int)))])) rfl rfl (A2 (C9 rfl) B5) rfl rfl rfl (A8c rfl)<|sg 2 rfl<|A0 (F6 (cs:=A3 a0) rfl rfl rfl) rfl<|qm rfl<|qm rfl<|es (ra1 rfl)<|B6<|s0<|oB h fun x1 hx1 h=>A0 (C2 rfl rfl rfl) rfl<|B4 (rs:=[.i x1.1,.i x1.2.1,.i x1.2.2]) rfl rfl (A2 (C9 rfl) B5) ((U6 hx1).frz)<|qm rfl<|A0 (A5 rfl rfl) rfl<|A0 (A5 rfl rfl) rfl<|A0 (A5 rfl rfl) rfl<|qm rfl<|qm rfl<|qm rfl<|es (ra2 rfl rfl)<|s0<|qm rfl<|A0 (J1 rfl rfl) rfl<|es (ra3 rfl rfl rfl)<|wi h rfl (fun hc2 h=>?_) fun hc2 h=>?_
 ·refine s0<|qm rfl<|qm rfl<|qm rfl<|es (ra2 rfl rfl)<|C4<|InlQ.mk trivial ⟨_,_,_,[(.lit (.pointer none)),.i x1.2.2],_,(B1 rfl (B1 rfl B8)),(A7 rfl (A7 rfl B9)),(B1n (A4 A8 (A4 A8 B2)) (L1 rfl (L1 rfl A27)) (A0h _ _ _)),?_⟩
  refine qm rfl<|A0 (A5 rfl rfl) rfl<|A0 (A5 rfl rfl) rfl<|qm rfl<|qm rfl<|es (ra6 rfl rfl rfl rfl rfl rfl)<|B6<|C3<|s0<|qm rfl<|A0 (J1 rfl rfl) rfl<|qm rfl<|es (ra7 rfl rfl rfl rfl rfl rfl rfl)<|T0 rfl hc2<|sg 2 rfl<|qm rfl<|qm rfl<|A0 A3e rfl<|qm rfl<|es (ra3 rfl rfl rfl)<|C4 ?_
  obtain rfl:=os h
  exact retq trivial (B1 rfl (B1 rfl (B1 rfl B8))) (A7 rfl (A7 (A2f rfl (List.length_map _)) (A7 rfl B9))) (A4 A8 (A4 V9 (A4 A8 B2)))
 ·refine C1<|sg 3 rfl<|A0 (C2 rfl rfl rfl) rfl<|A0 B3d rfl<|A0 (L6 (cs:=[(.seq 1 (List.map cI a0.Costs)),(.seq 1 (List.map cI a0.Ounces)),(.seq 3 (List.map A6 a0.Figures)),(.seq 3 (List.map A6 a0.Persons)),(.mp (H.length + 3))]) rfl rfl) rfl<|A0 (F6 (cs:=[(.seq 1 (List.map cI a0.Costs)),(.seq 1 (List.map cI a0.Ounces)),(.seq 3 (List.map A6 a0.Figures)),(.seq 3 (List.map A6 a0.Persons)),(.mp (H.length + 3))]) rfl rfl rfl) rfl<|qm rfl<|es (ra2 rfl rfl)<|B6<|s0<|A0 (D2 rfl) rfl<|A0 (C8 rfl rfl rfl) rfl<|A0 (D4 (f:=A6) rfl) rfl<|qm rfl<|es (ra5 rfl rfl rfl rfl rfl)<|C3<|oB h fun o13 ho13 h=>wl (fun s3=>[(1,(.ptr (H.length + 2) 0)),(7,(.ptr (H.length + 4) 0)),(26,(.seq 3 (List.map A6 a0.Figures))),(27,(.i (List.length a0.Figures:Int))),(28,.i s3.1)]) (fun (q4:Unit) s3=>[(.cells (A3 a0)),(.arr 1 false (List.map cI ([]:List Int))),(.cells (A3 a0)),(.map (List.map (kE (fun x=>(.agg (D3 x))) (fun x=>(.agg (B7 x)))) s3.2)),(.cells [(.seq 1 (List.map cI a0.Costs)),(.seq 1 (List.map cI a0.Ounces)),(.seq 3 (List.map A6 a0.Figures)),(.seq 3 (List.map A6 a0.Persons)),(.mp (H.length + 3))])]) 5 (fun r e s' H'=>PX 0 [(7,(.ptr (H.length + 4) 0))] (H++[(.cells (A3 a0)),(.arr 1 false (List.map cI ([]:List Int))),(.cells (A3 a0)),(.map (List.map (kE (fun x=>(.agg (D3 x))) (fun x=>(.agg (B7 x)))) r)),(.cells [(.seq 1 (List.map cI a0.Costs)),(.seq 1 (List.map cI a0.Ounces)),(.seq 3 (List.map A6 a0.Figures)),(.seq 3 (List.map A6 a0.Persons)),(.mp (H.length + 3))])]) e s' H') () ho13 rfl rfl (fun _ _=>rfl) (fun _=>rfl) rfl (fun s3=>(bdc (E8 rfl) (bdc (E8 rfl) (bdc E6 (bdc A8 (bdc A8 bdn)))))) (fun q4 s3 ys3 hs3=>?_) ?_
  ·unfold L2 at hs3
   refine s0<|A0 (G3 rfl rfl) rfl<|es (ra6 rfl rfl rfl rfl rfl rfl)<|B6<|wi hs3 rfl (fun hc5 hs3=>?_) fun hc5 hs3=>?_
   ·refine C1<|B6<|C3<|sg 5 rfl<|oB hs3 fun x6 hx6 hs3=>qm rfl<|A0 (E3 (f:=A6) rfl rfl hx6) rfl<|A0 (M2 rfl rfl) rfl<|A0 E4 rfl<|qm rfl<|I0 (D1 (ds:=(A6 x6)) rfl rfl rfl rfl (C5 rfl) rfl) rfl<|es (ra7 rfl rfl rfl rfl rfl rfl rfl)<|s0<|A0 (D2 rfl) rfl<|A0 (C8 rfl rfl rfl) rfl<|A0 (D4 (f:=A6) rfl) rfl<|qm rfl<|es (ra10 rfl rfl rfl rfl rfl rfl rfl rfl rfl rfl)<|C3<|oB hs3 fun o12 ho12 hs3=>wl (fun s7=>[(1,(.ptr (H.length + 2) 0)),(7,(.ptr (H.length + 4) 0)),(8,.i s3.1),(9,(.ptr (H.length + 5) 0)),(26,(.seq 3 (List.map A6 a0.Figures))),(27,(.i (List.length a0.Figures:Int))),(28,.i s3.1),(34,(.seq 3 (List.map A6 a0.Persons))),(35,(.i (List.length a0.Persons:Int))),(36,.i s7.1)]) (fun (q8:Unit) s7=>[(.cells (A3 a0)),(.arr 1 false (List.map cI ([]:List Int))),(.cells (A3 a0)),(.map (List.map (kE (fun x=>(.agg (D3 x))) (fun x=>(.agg (B7 x)))) s7.2)),(.cells [(.seq 1 (List.map cI a0.Costs)),(.seq 1 (List.map cI a0.Ounces)),(.seq 3 (List.map A6 a0.Figures)),(.seq 3 (List.map A6 a0.Persons)),(.mp (H.length + 3))]),(.cells (A6 x6))]) 6 (fun r e s' H'=>PX 2 [(1,(.ptr (H.length + 2) 0)),(7,(.ptr (H.length + 4) 0)),(26,(.seq 3 (List.map A6 a0.Figures))),(27,(.i (List.length a0.Figures:Int))),(28,.i s3.1)] (H++[(.cells (A3 a0)),(.arr 1 false (List.map cI ([]:List Int))),(.cells (A3 a0)),(.map (List.map (kE (fun x=>(.agg (D3 x))) (fun x=>(.agg (B7 x)))) r)),(.cells [(.seq 1 (List.map cI a0.Costs)),(.seq 1 (List.map cI a0.Ounces)),(.seq 3 (List.map A6 a0.Figures)),(.seq 3 (List.map A6 a0.Persons)),(.mp (H.length + 3))]),(.cells (A6 x6))]) e s' H') () ho12 rfl rfl (fun _ _=>rfl) (fun _=>rfl) rfl (fun s7=>(bdc (E8 rfl) (bdc (E8 rfl) (bdc A8 (bdc (E8 rfl) (bdc E6 (bdc A8 (bdc A8 (bdc E6 (bdc A8 (bdc A8 bdn))))))))))) (fun q8 s7 ys7 hs7=>?_) ?_
    ·unfold W9 at hs7
     refine s0<|A0 (G3 rfl rfl) rfl<|es (ra11 rfl rfl rfl rfl rfl rfl rfl rfl rfl rfl rfl)<|B6<|wi hs7 rfl (fun hc9 hs7=>?_) fun hc9 hs7=>?_
     ·refine C1<|B6<|C3<|sg 6 rfl<|oB hs7 fun x10 hx10 hs7=>qm rfl<|A0 (E3 (f:=A6) rfl rfl hx10) rfl<|A0 (M2 rfl rfl) rfl<|A0 E4 rfl<|qm rfl<|I0 (D1 (ds:=(A6 x10)) rfl rfl rfl rfl (C5 rfl) rfl) rfl<|es (ra12 rfl rfl rfl rfl rfl rfl rfl rfl rfl rfl rfl rfl)<|r0<|oB hs7 fun x11 hx11 hs7=>qm rfl<|A0 (A1l rfl rfl) rfl<|A0 (D2 rfl) rfl<|A0 (C8 (x:=(.mp (H.length + 3))) rfl rfl rfl) rfl<|qm rfl<|qm rfl<|A0 (L6 (cs:=D3 (dress_pair.mk s3.1 s7.1)) rfl rfl) rfl<|qm rfl<|A0 (C2 rfl rfl rfl) rfl<|A0 (C2 rfl rfl rfl) rfl<|A05 (rs:=[(.agg (B7 x11))]) rfl rfl (L7 rfl (L7 rfl (L7 rfl A3z))) (A2 rfl (A2 (C9 rfl) (A2 (C9 rfl) B5))) ((S4 (A01 rfl) hx11).frz)<|I0 (B3b (av:=(fun x=>(.agg (D3 x)))) (gv:=(fun x=>(.agg (B7 x)))) (k:=(dress_pair.mk s3.1 s7.1)) (v:=x11) R0 rfl rfl rfl rfl rfl) rfl<|en (ra10 rfl rfl rfl rfl rfl rfl rfl rfl rfl rfl)<|r0<|A0 (E7 rfl rfl) rfl<|qm rfl<|en (ra10 rfl rfl rfl rfl rfl rfl rfl rfl rfl rfl) ?_
      cases hs7
      exact lnT () rfl (su10 rfl rfl rfl rfl rfl rfl rfl rfl rfl rfl)
     ·refine F3 ?_
      obtain rfl:=os hs7
      exact lx rfl px (su5 rfl rfl rfl rfl rfl)
    ·rintro e s' H' - ⟨rfl,rfl,rfl⟩
     refine r0<|A0 (E7 rfl rfl) rfl<|qm rfl<|en (ra5 rfl rfl rfl rfl rfl) ?_
     cases hs3
     exact lnT () rfl (su5 rfl rfl rfl rfl rfl)
   ·refine F3 ?_
    obtain rfl:=os hs3
    exact lx rfl px (su1 rfl)
  ·rintro e s' H' - ⟨rfl,rfl,rfl⟩
   refine s0<|qm rfl<|qm rfl<|qm rfl<|es (ra2 rfl rfl)<|C4<|InlQ.mk trivial ⟨_,_,_,[(.ptr (H.length + 4) 0),.i 0],_,(B1 rfl (B1 rfl B8)),(A7 rfl (A7 rfl B9)),(A79 (A22 (A7w rfl)) (L1 rfl (L1 rfl A27))),?_⟩
   refine qm rfl<|A0 (A5 rfl rfl) rfl<|A0 (A5 rfl rfl) rfl<|qm rfl<|qm rfl<|es (ra6 rfl rfl rfl rfl rfl rfl)<|B6<|C3<|s0<|qm rfl<|A0 (O4 (v:=(.b false)) rfl rfl rfl) rfl<|qm rfl<|es (ra7 rfl rfl rfl rfl rfl rfl rfl)<|A0e rfl rfl<|s0<|oB h fun x14 hx14 h=>oB h fun x17 hx17 h=>A0 (D2 rfl) rfl<|A0 (C8 rfl rfl rfl) rfl<|A0 (D4 (f:=A6) rfl) rfl<|A0 (Y8 rfl rfl) rfl<|qm rfl<|A0 (G2 (rows:=List.map cI [a1]) rfl rfl (D8 (fun _=>rfl) _)) rfl<|B4 (rs:=[.b x14]) rfl rfl (A2 rfl (A2 rfl (A2 rfl B5))) ((M6 hx14).frz)<|qm rfl<|gp 8 37 (.b x17) 29 rfl rfl (fun hg15=>?_) (fun hg15=>?_) ?_
   ·obtain rfl:=os (bt hx17 hg15)
    exact nF rfl hg15 rfl<|nF rfl hg15 rfl<|nF rfl hg15 rfl<|nF rfl hg15 rfl<|nF rfl hg15 rfl<|nF rfl hg15 rfl<|O0 (G7 rfl (by rw [hg15]; rfl)) rfl<|A0 (C7 rfl hg15 rfl) rfl<|ge 8 rfl rfl rfl
   ·refine oB (bf hx17 hg15) fun x16 hx16 hx17=>?_
    obtain rfl:=os hx17
    exact gF rfl hg15<|A0 (D2 rfl) rfl<|gF rfl hg15<|A0 (C8 rfl rfl rfl) rfl<|gF rfl hg15<|A0 (D4 (f:=A6) rfl) rfl<|gF rfl hg15<|A0 (Y8 rfl rfl) rfl<|gF rfl hg15<|qm rfl<|gF rfl hg15<|A0 (G2 (rows:=List.map cI [a2]) rfl rfl (D8 (fun _=>rfl) _)) rfl<|gF rfl hg15<|B4 (rs:=[.b x16]) rfl rfl (A2 rfl (A2 rfl (A2 rfl B5))) ((M6 hx16).frz)<|A0 (C6 rfl hg15 rfl) rfl<|ge 8 rfl rfl rfl
   refine qm rfl<|es (ra6 rfl rfl rfl rfl rfl rfl)<|wi h rfl (fun hc18 h=>?_) fun hc18 h=>?_
   ·refine sg 5 rfl<|qm rfl<|A0 A3e rfl<|qm rfl<|es (ra3 rfl rfl rfl)<|C4 ?_
    obtain rfl:=os h
    exact retq trivial (B1 rfl (B1 rfl (B1 rfl B8))) (A7 rfl (A7 (A2f rfl (List.length_map _)) (A7 rfl B9))) (A4 A8 (A4 V9 (A4 A8 B2)))
   ·refine C1<|sg 5 rfl<|qm rfl<|A0 (A1l rfl rfl) rfl<|A0 (D2 rfl) rfl<|A0 (C8 (x:=(.mp (H.length + 3))) rfl rfl rfl) rfl<|qm rfl<|qm rfl<|A0 (L6 (cs:=D3 (dress_pair.mk a1 a2)) rfl rfl) rfl<|A0 (D35 (av:=(fun x=>(.agg (D3 x)))) (gv:=(fun x=>(.agg (B7 x)))) (k:=(dress_pair.mk a1 a2)) (z:=(dress_change.mk 0 0 (Ar4.mk 0 0 0 0))) R0 rfl (A1z rfl) rfl rfl) rfl<|A0 E4 rfl<|I0 (D1 (ds:=(B7 (Option.getD (kget o13 (dress_pair.mk a1 a2)) (dress_change.mk 0 0 (Ar4.mk 0 0 0 0))))) rfl rfl rfl rfl (C5 rfl) rfl) rfl<|es (ra3 rfl rfl rfl)<|B6<|s0<|A0 (C2 rfl rfl rfl) rfl<|A0 (L6 (cs:=B7 (dress_change.mk 0 0 (Ar4.mk 0 0 0 0))) rfl rfl) rfl<|A0 (C7r (a:=B7 (Option.getD (kget o13 (dress_pair.mk a1 a2)) (dress_change.mk 0 0 (Ar4.mk 0 0 0 0)))) (b:=B7 (dress_change.mk 0 0 (Ar4.mk 0 0 0 0))) rfl rfl rfl rfl (Z3 (Z3 (Z3 (Z3 (Z3 (Z3 C2p))))))) rfl<|es (ra4 rfl rfl rfl rfl)<|wi h rfl (fun hc19 h=>?_) fun hc19 h=>?_
    ·refine sg 6 rfl<|qm rfl<|A0 A3e rfl<|qm rfl<|es (ra3 rfl rfl rfl)<|C4 ?_
     obtain rfl:=os h
     exact retq trivial (B1 rfl (B1 rfl (B1 rfl B8))) (A7 rfl (A7 (A2f rfl (List.length_map _)) (A7 rfl B9))) (A4 A8 (A4 V9 (A4 A8 B2)))
    ·refine C1<|B6<|s0<|A0 (D2 rfl) rfl<|A0 (C8 rfl rfl rfl) rfl<|A0 (D4 (f:=cI) rfl) rfl<|qm rfl<|es (ra4 rfl rfl rfl rfl)<|C3<|oB h fun o26 ho26 h=>wl (fun s20=>[(7,(.asl (H.length + 1) (List.length s20.2))),(10,(.ptr (H.length + 5) 0)),(51,(.i (List.length a0.Costs:Int))),(52,.i s20.1)]) (fun (q21:Unit) s20=>[(.cells (A3 a0)),(.arr 1 false (List.map cI s20.2)),(.cells (A3 a0)),(.map (List.map (kE (fun x=>(.agg (D3 x))) (fun x=>(.agg (B7 x)))) o13)),(.cells [(.seq 1 (List.map cI a0.Costs)),(.seq 1 (List.map cI a0.Ounces)),(.seq 3 (List.map A6 a0.Figures)),(.seq 3 (List.map A6 a0.Persons)),(.mp (H.length + 3))]),(.cells (B7 (Option.getD (kget o13 (dress_pair.mk a1 a2)) (dress_change.mk 0 0 (Ar4.mk 0 0 0 0)))))]) 6 (fun r e s' H'=>PX 1 [(7,(.asl (H.length + 1) (List.length r))),(10,(.ptr (H.length + 5) 0))] (H++[(.cells (A3 a0)),(.arr 1 false (List.map cI r)),(.cells (A3 a0)),(.map (List.map (kE (fun x=>(.agg (D3 x))) (fun x=>(.agg (B7 x)))) o13)),(.cells [(.seq 1 (List.map cI a0.Costs)),(.seq 1 (List.map cI a0.Ounces)),(.seq 3 (List.map A6 a0.Figures)),(.seq 3 (List.map A6 a0.Persons)),(.mp (H.length + 3))]),(.cells (B7 (Option.getD (kget o13 (dress_pair.mk a1 a2)) (dress_change.mk 0 0 (Ar4.mk 0 0 0 0)))))]) e s' H') () ho26 rfl rfl (fun _ _=>rfl) (fun _=>rfl) rfl (fun s20=>(bdc (A0s rfl) (bdc (E8 rfl) (bdc A8 (bdc A8 bdn))))) (fun q21 s20 ys20 hs20=>?_) ?_
     ·unfold A0j at hs20
      refine s0<|A0 (G3 rfl rfl) rfl<|es (ra5 rfl rfl rfl rfl rfl)<|B6<|wi hs20 rfl (fun hc22 hs20=>?_) fun hc22 hs20=>?_
      ·refine C1<|B6<|C3<|s0<|qm rfl<|qm rfl<|es (ra5 rfl rfl rfl rfl rfl)<|s0<|oB hs20 fun x23 hx23 hs20=>A0 (D2 rfl) rfl<|A0 (C8 rfl rfl rfl) rfl<|qm rfl<|A0 (B8e rfl rfl hx23) rfl<|A0 (O4 (v:=(.i (B1f x23 1))) rfl rfl rfl) rfl<|A0 (F7 rfl rfl) rfl<|es (ra6 rfl rfl rfl rfl rfl rfl)<|wi hs20 rfl (fun hc24 hs20=>?_) fun hc24 hs20=>?_
       ·refine r0<|oB hs20 fun x25 hx25 hs20=>qm rfl<|qm rfl<|A0 (G2 (rows:=List.map cI [s20.1]) rfl rfl (D8 (fun _=>rfl) _)) rfl<|R2 (V3 (f:=cI) rfl rfl rfl rfl Q3 (fun _=>rfl) hx25) rfl<|qm rfl<|en (ra4 rfl rfl rfl rfl)<|r0<|A0 (E7 rfl rfl) rfl<|qm rfl<|en (ra4 rfl rfl rfl rfl) ?_
        cases hs20
        exact lnT () rfl (su4 rfl rfl rfl rfl)
       ·refine C1<|r0<|A0 (E7 rfl rfl) rfl<|qm rfl<|en (ra4 rfl rfl rfl rfl) ?_
        cases hs20
        exact lnT () rfl (su4 rfl rfl rfl rfl)
      ·refine F3 ?_
       obtain rfl:=os hs20
       exact lx rfl px (su2 rfl rfl)
     ·rintro e s' H' - ⟨rfl,rfl,rfl⟩
      refine s0<|A0 (D2 rfl) rfl<|A0 (C8 rfl rfl rfl) rfl<|qm rfl<|qm rfl<|qm rfl<|qm rfl<|es (ra3 rfl rfl rfl)<|C4 ?_
      obtain rfl:=os h
      exact retq trivial (B1 rfl (B1 rfl (B1 rfl B8))) (A7 rfl (A7 (A2f rfl (List.length_map _)) (A7 rfl B9))) (A4 A8 (A4 V9 (A4 A8 B2)))
def A12 (a0:(List Int)) (a1:(List Int)) (s1:(Bool × Int)):Option ((Bool × Int) ⊕ Bool) :=
 if (s1.1 && (decide (s1.2 < (List.length a0:Int)))) = true then
  (idx a0 s1.2).bind fun x5 =>
  (idx a1 s1.2).bind fun x6 =>
  some (.inl ((x5 == x6),(w64 (s1.2 + 1))))
 else
  some (.inr s1.1)
def K5 (a0:(List Int)) (a1:(List Int)):Option Bool :=
 (loop (A12 a0 a1) (((List.length a0:Int) == (List.length a1:Int)),0)).bind fun (o7:Bool) =>
 some o7
theorem K1 {c:Sc} {H:A1} {a0:(List Int)} {a1:(List Int)} {r:Bool} (h:K5 a0 a1 = some r) :
  F0 tab c H (.fn (.func 20) [] []) [(.seq 1 (List.map cI a0)),(.seq 1 (List.map cI a1))] [.b r]:= by
 unfold K5 at h
 refine cE rfl rfl<|s0<|qm rfl<|es (ra2 rfl rfl)<|s0<|qm rfl<|A0 (D4 (f:=cI) rfl) rfl<|qm rfl<|A0 (D4 (f:=cI) rfl) rfl<|A0 (F7 rfl rfl) rfl<|qm rfl<|es (ra3 rfl rfl rfl)<|B6<|s0<|qm rfl<|es (ra4 rfl rfl rfl rfl)<|C3<|oB h fun o7 ho7 h=>wl (fun s1=>[(0,(.seq 1 (List.map cI a0))),(1,(.seq 1 (List.map cI a1))),(5,.b s1.1),(6,.i s1.2)]) (fun (q2:Unit) s1=>[]) 0 (fun r e s' H'=>PX 0 [(5,.b r)] (H++[]) e s' H') () ho7 rfl rfl (fun _ _=>rfl) (fun _=>rfl) rfl (fun s1=>(bdc E6 (bdc E6 (bdc A8 (bdc A8 bdn))))) (fun q2 s1 ys1 hs1=>?_) ?_
 ·unfold A12 at hs1
  refine B6<|s0<|qm rfl<|qm rfl<|gp 5 18 (.b (s1.1 && (decide (s1.2 < (List.length a0:Int))))) 13 rfl rfl (fun hg3=>?_) (fun hg3=>?_) ?_
  ·exact gT rfl hg3<|qm rfl<|gT rfl hg3<|qm rfl<|gT rfl hg3<|A0 (D4 (f:=cI) rfl) rfl<|gT rfl hg3<|A0 (G3 rfl rfl) rfl<|A0 (C7 rfl hg3 rfl) rfl<|ge 5 (by rw [hg3]; rfl) rfl rfl
  ·exact nT rfl hg3 rfl<|nT rfl hg3 rfl<|nT rfl hg3 rfl<|nT rfl hg3 rfl<|A0 (C6 rfl hg3 rfl) rfl<|ge 5 (by rw [hg3]; rfl) rfl rfl
  refine es (ra5 rfl rfl rfl rfl rfl)<|wi hs1 rfl (fun hc4 hs1=>?_) fun hc4 hs1=>?_
  ·refine C1<|B6<|C3<|r0<|oB hs1 fun x5 hx5 hs1=>oB hs1 fun x6 hx6 hs1=>qm rfl<|qm rfl<|A0 (E3 (f:=cI) rfl rfl hx5) rfl<|A0 (E9 rfl rfl) rfl<|qm rfl<|qm rfl<|A0 (E3 (f:=cI) rfl rfl hx6) rfl<|A0 (E9 rfl rfl) rfl<|A0 (F7 rfl rfl) rfl<|qm rfl<|en (ra4 rfl rfl rfl rfl)<|r0<|qm rfl<|A0 (E7 rfl rfl) rfl<|qm rfl<|en (ra4 rfl rfl rfl rfl) ?_
   cases hs1
   exact lnT () rfl (su4 rfl rfl rfl rfl)
  ·refine F3 ?_
   obtain rfl:=os hs1
   exact lx rfl px (su1 rfl)
 ·rintro e s' H' - ⟨rfl,rfl,rfl⟩
  refine s0<|qm rfl<|qm rfl<|es (ra1 rfl)<|C4 ?_
  obtain rfl:=os h
  exact retq trivial (B1 rfl B8) (A7 rfl B9) (A4 A8 B2)
end Ds
end
section
namespace Ds
open Go Am
def mask (p:Nat→Bool):Nat→Nat
 | 0=>0
 | n + 1=>mask p n + if p n then 2 ^ n else 0
theorem B0l (p:Nat→Bool):∀n,mask p n < 2 ^ n
 | 0=>Nat.one_pos
 | n + 1=>by
  have:=B0l p n
  unfold mask
  rw [Nat.pow_succ]
  split <;> omega
theorem A9g (p:Nat→Bool) {k:Nat}:∀{n:Nat},k < n→(mask p n / 2 ^ k % 2 == 1) = p k
 | 0,h=>absurd h (Nat.not_lt_zero k)
 | n + 1,h=>by
  have hm:=B0l p n
  unfold mask
  by_cases e:k = n
  ·subst e
   cases p k
   ·rw [if_neg (by decide),Nat.add_zero,Nat.div_eq_of_lt hm]; rfl
   ·rw [if_pos rfl,show mask p k + 2 ^ k = mask p k + 2 ^ k * 1 by omega,Nat.add_mul_div_left _ _ (Nat.two_pow_pos k),Nat.div_eq_of_lt hm]; rfl
  ·have hk:k < n:= by omega
   have ih:=A9g p hk
   cases p n
   ·rw [if_neg (by decide),Nat.add_zero]; exact ih
   ·rw [if_pos rfl,show 2 ^ n = 2 ^ k * (2 * 2 ^ (n - k - 1)) by
     rw [← Nat.mul_assoc,← Nat.pow_succ,← Nat.pow_add]; congr 1; omega,Nat.add_mul_div_left _ _ (Nat.two_pow_pos k),Nat.add_mul_mod_self_left]; exact ih
theorem C3h (a:Nat) (k:Nat) (hk:k≤64):B9b .i64 (a:Int) (k:Int) = some ((a / 2 ^ k:Nat):Int):= by
 unfold B9b
 rw [if_neg (by omega),Int.toNat_natCast,show min k IntKind.i64.bits = k from Nat.min_eq_left hk,Int.fdiv_eq_ediv_of_nonneg _ (by exact_mod_cast Nat.zero_le _)]
 congr 1
theorem C8r:∀x:Nat,x < 64→B1f (x:Int) 1 = ((x % 2:Nat):Int):= by decide +kernel
theorem and1 {x:Nat} (h:x < 64):(B1f (x:Int) 1 == 1) = (x % 2 == 1):= by
 rw [C8r x h,Bool.eq_iff_iff]; simp; omega
theorem and0 {x:Nat} (h:x < 64):(B1f (x:Int) 1 == 0) = !(x % 2 == 1):= by
 rw [C8r x h,Bool.eq_iff_iff]; simp; omega
theorem B0u:∀n:Nat,n < 7→C0e .i64 1 (n:Int) = some ((2 ^ n:Nat):Int):= by decide +kernel
theorem D4b:∀i:Nat,i < 6→∀ m:Nat,m < 2 ^ i→orI (m:Int) ((2 ^ i:Nat):Int) = ((m + 2 ^ i:Nat):Int):= by decide +kernel
def ck (f p:DrLook) (k:Nat):Bool:=p.Looks[k]! != -1 && p.Looks[k]! != f.Looks[k]!
def O1 (n:Nat) (f p:DrLook):List Nat:=(List.range n).filter (ck f p)
def one (r:DrRoom) (f p:DrLook):Int:=sm ((O1 r.Costs.length f p).map fun k=>r.Costs[k]!)
def A6d (f p:DrLook) (c:Int):Int:=if ck f p 0 then (if f.Looks[0]! = c then f.Hair else 0) - (if p.Looks[0]! = c then p.Hair else 0) else 0
def chg (r:DrRoom) (f p:DrLook):dress_change:=⟨one r f p,mask (ck f p) r.Costs.length,⟨A6d f p 0,A6d f p 1,A6d f p 2,A6d f p 3⟩⟩
theorem P7 (n:Nat) (f p:DrLook):(O1 n f p).length≤n:= by
 unfold O1; exact Nat.le_trans (List.length_filter_le _ _) (by simp)
theorem C2m {r:DrRoom} (ok:RmOk r) (k:Nat):0≤r.Costs[k]!∧r.Costs[k]!≤100:= by
 by_cases h:k < r.Costs.length
 ·exact ok.cost _ (I4 h)
 ·rw [D5t (by omega)]; omega
theorem C8e {r:DrRoom} (ok:RmOk r) (l:List Nat):0≤sm (l.map fun k=>r.Costs[k]!)∧sm (l.map fun k=>r.Costs[k]!)≤100 * l.length:= by
 have:=B9d (a:=0) (b:=100) (l:=l.map fun k=>r.Costs[k]!) fun x hx=>by
  obtain ⟨k,_,rfl⟩:=List.mem_map.mp hx
  exact C2m ok k
 rw [List.length_map] at this; omega
theorem D37 {r:DrRoom} (ok:RmOk r) (f p:DrLook):0≤one r f p∧one r f p≤400:= by
 have h1:=C8e ok (O1 r.Costs.length f p)
 have h2:=P7 r.Costs.length f p
 have h3:=ok.costs
 unfold one; omega
theorem B1o (n:Nat) (f p:DrLook):O1 (n + 1) f p = O1 n f p++if ck f p n then [n] else []:= by
 unfold O1
 rw [List.range_succ,List.filter_append]
 congr 1
 cases h:ck f p n <;> simp [h]
theorem C4b {r:DrRoom} (ok:RmOk r) {f p:DrLook} (hf:LkOk r 0 f) (hp:LkOk r (-1) p) :
  loop (O7 ⟨r⟩ f p) (0,⟨0,0,⟨0,0,0,0⟩⟩) = some ⟨one r f p,(mask (ck f p) r.Costs.length:Nat),⟨0,0,0,0⟩⟩:= by
 have hc:=ok.costs
 have hn:p.Looks.length = r.Costs.length:=hp.len
 have:=H7 (b:=O7 ⟨r⟩ f p) (fun i=>((i:Int),(⟨sm ((O1 i f p).map fun k=>r.Costs[k]!),((mask (ck f p) i:Nat):Int),⟨0,0,0,0⟩⟩:dress_change))) r.Costs.length (r:=⟨one r f p,(mask (ck f p) r.Costs.length:Nat),⟨0,0,0,0⟩⟩) (by omega) (fun i hi=>by
  unfold O7
  simp only []
  rw [if_pos (by simp; omega),G4 (by omega)]
  simp only [Option.bind_some]
  have hb:(if (p.Looks[i]! == -1) = true then some true else (idx f.Looks (i:Int)).bind fun x6=>some (p.Looks[i]! == x6)) = some (!ck f p i):= by
   rw [G4 (by rw [hf.len]; exact hi)]
   unfold ck
   generalize p.Looks[i]! = x
   generalize f.Looks[i]! = y
   simp only [Option.bind_some,bne]
   cases x == -1 <;> cases x == y <;> rfl
  rw [hb]
  simp only [Option.bind_some]
  rw [B1o,show mask (ck f p) (i + 1) = mask (ck f p) i + if ck f p i then 2 ^ i else 0 from rfl]
  cases ck f p i with
  | false=>rw [D9 (by omega)]; simp
  | true =>
   have hs:=C8e ok (O1 i f p)
   have hl:=P7 i f p
   have hx:=C2m ok i
   simp only [Bool.not_true,Bool.false_eq_true,if_false,if_true]
   rw [G4 hi,B0u i (by omega)]
   simp only [Option.bind_some]
   rw [D4b i (by omega) _ (B0l _ _),D9 (n:=(i:Int) + 1) (by omega),D9 (by omega),List.map_append,A5g]
   simp [sm]) (by
  unfold O7
  simp only []
  rw [if_neg (by simp; omega)]; rfl)
 exact this
theorem C4w {x:Int} (h:0≤x∧x≤3):x = 0∨x = 1∨x = 2∨x = 3:= by omega
theorem D0i {r:DrRoom} (ok:RmOk r) {f p:DrLook} (hf:LkOk r 0 f) (hp:LkOk r (-1) p):N5 ⟨r⟩ f p = some (chg r f p):= by
 have hc:=ok.costs
 have ho:=ok.ounces
 unfold N5
 rw [C4b ok hf hp]
 simp only [Option.bind_some]
 have hlt:=B0l (ck f p) r.Costs.length
 have h64:mask (ck f p) r.Costs.length < 64:=Nat.lt_of_lt_of_le hlt (Nat.le_trans (Nat.pow_le_pow_right (by decide) hc.2) (by decide))
 have hbit:=A9g (ck f p) (k:=0) (n:=r.Costs.length) (by omega)
 rw [Nat.pow_zero,Nat.div_one] at hbit
 rw [and1 h64,hbit]
 unfold chg A6d
 cases hck:ck f p 0 with
 | false=>simp
 | true =>
  rw [if_pos rfl,show idx f.Looks 0 = some f.Looks[0]! from G4 (i:=0) (by rw [hf.len]; omega),show idx p.Looks 0 = some p.Looks[0]! from G4 (i:=0) (by rw [hp.len]; omega)]
  have hfc:=hf.col
  have hpc:=hp.col
  have hne:p.Looks[0]! ≠ -1∧p.Looks[0]! ≠ f.Looks[0]!:= by
   unfold ck at hck
   simpa using hck
  have hfh:=hf.hair
  have hph:=hp.hair
  generalize f.Looks[0]! = x at *
  generalize p.Looks[0]! = y at *
  have e1:w64 f.Hair = f.Hair:=D9 (by omega)
  have e2:w64 (-p.Hair) = -p.Hair:=D9 (by omega)
  simp only [if_true]
  rcases C4w (x:=x) (by omega) with rfl | rfl | rfl | rfl <;> rcases C4w (x:=y) (by omega) with rfl | rfl | rfl | rfl <;> first | exact absurd rfl hne.2 | simp [idx,Ar4.l,Ar4.set,e1,e2]
def C3o (r:DrRoom) (ch:Chg):Prop:=∀ i k:Nat,i < r.Figures.length→k < r.Persons.length→kget ch ⟨i,k⟩ = some (chg r r.Figures[i]! r.Persons[k]!)
theorem ch1 {r:DrRoom} (ok:RmOk r) {i:Nat} (hi:i < r.Figures.length) (m0:Chg):∃m,loop (W9 r ((i:Int),m0) r.Figures[i]!) (0,m0) = some m ∧
  (∀ k:Nat,k < r.Persons.length→kget m ⟨i,k⟩ = some (chg r r.Figures[i]! r.Persons[k]!))∧∀ j k:Nat,j ≠ i→kget m ⟨j,k⟩ = kget m0 ⟨j,k⟩:= by
 have hP:=ok.persons
 refine C5b (b:=W9 r ((i:Int),m0) r.Figures[i]!) (fun n s=>s.1 = (n:Int)∧(∀ k:Nat,k < n→kget s.2 ⟨i,k⟩ = some (chg r r.Figures[i]! r.Persons[k]!))∧∀ j k:Nat,j ≠ i→kget s.2 ⟨j,k⟩ = kget m0 ⟨j,k⟩) r.Persons.length _ (by omega) ?_ ?_ (0,m0) ⟨rfl,fun k hk=>absurd hk (Nat.not_lt_zero k),fun _ _ _=>rfl⟩
 ·rintro n ⟨x,m⟩ hn ⟨rfl,h1,h2⟩
  refine ⟨(((n + 1:Nat):Int),kset m ⟨(i:Int),(n:Int)⟩ (chg r r.Figures[i]! r.Persons[n]!)),?_,rfl,?_,?_⟩
  ·unfold W9
   simp only []
   rw [if_pos (by simpa using hn),G4 hn]
   simp only [Option.bind_some]
   rw [D0i ok (ok.figure _ (I4 hi)) (ok.person _ (I4 hn)),D9 (by omega)]
   rfl
  ·intro k hk
   rw [B4l]
   by_cases e:k = n
   ·subst e; rw [if_pos rfl]
   ·rw [if_neg (by simp; omega)]; exact h1 k (by omega)
  ·intro j k hj
   rw [B4l,if_neg (by simp; omega)]; exact h2 j k hj
 ·rintro ⟨x,m⟩ ⟨rfl,h1,h2⟩
  refine ⟨m,?_,h1,h2⟩
  unfold W9
  simp only []
  rw [if_neg (by simp)]
theorem C0q {r:DrRoom} (ok:RmOk r):∃ch,loop (L2 r) (0,[]) = some ch∧C3o r ch:= by
 have hF:=ok.figures
 refine C5b (b:=L2 r) (fun n s=>s.1 = (n:Int)∧∀ i k:Nat,i < n→k < r.Persons.length→kget s.2 ⟨i,k⟩ = some (chg r r.Figures[i]! r.Persons[k]!)) r.Figures.length _ (by omega) ?_ ?_ (0,[]) ⟨rfl,fun i k hi=>absurd hi (Nat.not_lt_zero i)⟩
 ·rintro n ⟨x,m⟩ hn ⟨rfl,h1⟩
  obtain ⟨m',e1,e2,e3⟩:=ch1 ok hn m
  refine ⟨(((n + 1:Nat):Int),m'),?_,rfl,?_⟩
  ·unfold L2
   simp only []
   rw [if_pos (by simpa using hn),G4 hn]
   simp only [Option.bind_some]
   rw [e1,D9 (by omega)]
   rfl
  ·intro i k hi hk
   by_cases e:i = n
   ·subst e; exact e2 k hk
   ·rw [show kget m' ⟨(i:Int),(k:Int)⟩ = kget m ⟨(i:Int),(k:Int)⟩ from e3 i k e]; exact h1 i k (by omega) hk
 ·rintro ⟨x,m⟩ ⟨rfl,h1⟩
  refine ⟨m,?_,h1⟩
  unfold L2
  simp only []
  rw [if_neg (by simp)]
def ints (l:List Nat):List Int:=l.map fun (k:Nat)=>(k:Int)
theorem F5 (l:List Nat):(ints l).length = l.length:=List.length_map _
theorem A7c (l:List Int) (hl:l.length < 9223372036854775808):K5 l l = some true:= by
 unfold K5
 have:=H7 (b:=A12 l l) (fun i=>(true,(i:Int))) l.length (r:=true) (by omega) (fun i hi=>by
  unfold A12
  simp only []
  rw [if_pos (by simpa using hi),G4 hi]
  simp only [Option.bind_some]
  rw [D9 (by omega),beq_self_eq_true]; rfl) (by
  unfold A12
  simp only []
  rw [if_neg (by simp)])
 rw [beq_self_eq_true,show ((true,0):Bool × Int) = (true,((0:Nat):Int)) from rfl,this]; rfl
end Ds
end
section
set_option maxRecDepth 100000
set_option maxHeartbeats 0
namespace Ds
open Go Am Go.Proofs.Ytdkflofgolehkaa.Cd
def J8 (a0:dress_room):Option Int :=
 (C0e .i64 1 (List.length a0.DrRoom.Persons:Int)).bind fun x1 =>
 some (w64 (x1 - 1))
theorem N4 {c:Sc} {H:A1} {a0:dress_room} {m0_4:AV} {b0:Nat} (hb0:hcells H b0 = some [(.seq 1 (List.map cI a0.DrRoom.Costs)),(.seq 1 (List.map cI a0.DrRoom.Ounces)),(.seq 3 (List.map A6 a0.DrRoom.Figures)),(.seq 3 (List.map A6 a0.DrRoom.Persons)),m0_4]) {r:Int} (h:J8 a0 = some r) :
  F0 tab c H (.fn (.func 62) [] []) [.ptr b0 0] [.i r]:= by
 unfold J8 at h
 refine cE rfl rfl<|s0<|qm rfl<|es (ra1 rfl)<|s0<|oB h fun x1 hx1 h=>qm rfl<|A0 (A1l rfl rfl) rfl<|A0 (D2 rfl) rfl<|A0 (D2 rfl) rfl<|A0 (R5 (x:=(.seq 3 (List.map A6 a0.DrRoom.Persons))) rfl hb0 rfl) rfl<|A0 (D4 (f:=A6) rfl) rfl<|A0 (C5j rfl rfl hx1) rfl<|A0 (Y8 rfl rfl) rfl<|qm rfl<|es (ra1 rfl)<|C4 ?_
 obtain rfl:=os h
 exact retq trivial (B1 rfl B8) (A7 rfl B9) (A4 A8 B2)
end Ds
end
section
set_option maxRecDepth 100000
namespace Am
open Go
def A8x (N:Nat) (L:A1) (f:AV) (rows:List (List AV)):Prop :=
 (f = .nils 1∧rows = [])∨∃ j anc,f = .asl (N + j) rows.length∧L[j]? = some (.stk 1 rows anc)∧((L.drop (j + 1)).all fun o=>!o.isS) = true
theorem A8x.shr {H L:A1} {f:AV} {rows:List (List AV)} (h:A8x H.length L f rows):A64 (H++L) 1 f rows:= by
 rcases h with h | ⟨j,anc,e,h,_⟩
 ·exact .inl h
 ·exact .inr ⟨_,anc,e,by rw [N9]; exact h⟩
theorem D07 {o:AO} (h:o.isS = false) (b:Nat):o.grew b = false:= by
 cases o with
 | stk=>cases h
 | ro o=>cases o <;> first | rfl | cases h
 | _=>rfl
theorem A8x.young {H L:A1} {f:AV} {rows:List (List AV)} (h:A8x H.length L f rows):Young (H++L) f:= by
 intro b n e
 rcases h with ⟨rfl,_⟩ | ⟨j,anc,rfl,_,h⟩
 ·cases e
 ·cases e
  rw [show H.length + j + 1 = H.length + (j + 1) by omega,← List.drop_drop,List.drop_left]
  rw [List.all_eq_true] at h ⊢
  intro o ho
  have:=h o ho
  rw [D07 (by simpa using this)]; rfl
theorem C85 {N:Nat} {L M:A1} (h:grL N L = true) (k:grL N M = true):grL N (L++M) = true:= by
 unfold grL at h k ⊢
 rw [List.all_append,h,k]; rfl
theorem A8x.anc {H L:A1} {f:AV} {rows:List (List AV)} (h:A8x H.length L f rows) (hg:grL H.length L = true):((A2l (H++L) f).all fun b=>Nat.ble H.length b) = true:= by
 rcases h with ⟨rfl,_⟩ | ⟨j,anc,rfl,hj,_⟩
 ·rfl
 ·have:=List.all_eq_true.1 hg _ (List.mem_of_getElem? hj)
  simp only [AO.anc] at this
  simp only [A2l,N9,hj,AO.anc,List.all_cons,this,Bool.and_true]
  exact Nat.ble_eq_true_of_le (Nat.le_add_right _ _)
theorem A8x.app {N:Nat} {L M:A1} {f:AV} {rows:List (List AV)} (h:A8x N L f rows) (hM:(M.all fun o=>!o.isS) = true):A8x N (L++M) f rows:= by
 rcases h with h | ⟨j,anc,e,hj,h⟩
 ·exact .inl h
 ·have hlt:=(List.getElem?_eq_some_iff.1 hj).1
  exact .inr ⟨j,anc,e,by rw [List.getElem?_append_left hlt]; exact hj,by rw [List.drop_append_of_le_length hlt,List.all_append,h,hM]; rfl⟩
theorem C7h {H:A1} {b:Nat} {cs:List AV} (h:hcells H b = some cs):hstk H b = none:= by
 unfold hcells at h
 unfold hstk
 split at h <;> first | (rename_i e; rw [e]) | cases h
theorem B5k {H:A1} {b i:Nat} {o:AO} (h:b ≠ i):hget (hset H i o) b = hget H b:= by
 unfold hget hset; rw [List.getElem?_set_ne (fun e=>h e.symm)]
theorem A64.dead {H:A1} {k i:Nat} {v:AV} {rows:List (List AV)} {cs:List AV} (h:A64 H k v rows) (hi:hcells H i = some cs):A64 (hset H i .dead) k v rows:= by
 rcases h with h | ⟨b,anc,e,h⟩
 ·exact .inl h
 ·refine .inr ⟨b,anc,e,?_⟩
  rw [B5k]; exact h
  intro e; subst e; unfold hcells at hi; rw [h] at hi; cases hi
theorem Young.dead {H:A1} {i:Nat} {v:AV} (h:Young H v):Young (hset H i .dead) v:= by
 intro b n e
 have h1:=h b n e
 rw [List.all_eq_true] at h1 ⊢
 intro o ho
 obtain ⟨j,hj⟩:=List.getElem?_of_mem ho
 unfold hset at hj
 rw [List.getElem?_drop,List.getElem?_set] at hj
 split at hj
 ·split at hj
  ·cases hj; rfl
  ·cases hj
 ·exact h1 o (List.mem_of_getElem? (i:=j) (by rw [List.getElem?_drop]; exact hj))
theorem C6z {H:A1} {k i:Nat} {v:AV} {rows:List (List AV)} {cs:List AV} (h:A64 H k v rows) (hi:hcells H i = some cs):A2l (hset H i .dead) v = A2l H v:= by
 rcases h with ⟨rfl,_⟩ | ⟨b,anc,rfl,h⟩
 ·rfl
 ·have:b ≠ i:= by intro e; subst e; unfold hcells at hi; rw [h] at hi; cases hi
  simp only [A2l,B5k this]
theorem C99 {H L:A1} {k:Nat} {v:AV} {rows:List (List AV)} (h:A64 H k v rows):A2l (H++L) v = A2l H v:= by
 rcases h with ⟨rfl,_⟩ | ⟨b,anc,rfl,hg⟩
 ·rfl
 ·simp only [A2l,B7y hg,hg]
def D7d {α:Type} (T:Tab) (i:Nat) (fc:List AV) (sh:Nat→A1→α→AV→Prop) (pre:A1→Prop) (it:∀(σ ρ:Type),(α→σ→Option (σ ⊕ ρ))→σ→Option (σ ⊕ ρ)):Prop :=
 ∀ {σ ρ:Type} (Hm:σ ⊕ ρ→A1) (N:Nat),(∀ x,(Hm x).length = N)→(∀ x,pre (Hm x))→∀ (y:AV),y.bd N = true→y.cellsOf = [y]→∀ (body:α→σ→Option (σ ⊕ ρ)),
  (∀ {L:A1} {c:Sc} {x:α} {s:σ} {o:σ ⊕ ρ} {v:AV},S8 c (Hm (.inl s)++L) = true→grL N L = true→sh N L x v→body x s = some o→G8 T c (Hm (.inl s)++L) y [v] [.b o.isLeft] (Hm o++L)) →
  ∀ {s0:σ} {o:σ ⊕ ρ},it σ ρ body s0 = some o→∀ {c:Sc},S8 c (Hm (.inl s0)) = true→G8 T c (Hm (.inl s0)) (.fn (.func i) [] fc) [y] [] (Hm o)
end Am
namespace Ds
open Go Am Go.Proofs.Ytdkflofgolehkaa.Cd
theorem D5x {H:A1} {b:Nat}:hmap (H.map AO.toRo) b = hmap H b:= by
 unfold hmap hget
 rw [List.getElem?_map]
 cases H[b]? with
 | none=>rfl
 | some o=>cases o with
  | ro o=>cases o <;> rfl
  | _=>rfl
theorem A8w.toRo {H:A1} {b:Nat} {t:DrRoom} {ch:Chg} (h:A8w H b t ch):A8w (H.map AO.toRo) b t ch:= by
 obtain ⟨m,h1,h2⟩:=h
 exact ⟨m,by rw [B0f]; exact h1,by rw [D5x]; exact h2⟩
section
variable {T:Tab} {s:B3} {H0:A1} {l:List AO} {c:Sc} {n0 N:Nat}
theorem C5g {a:Opd} {j k:Nat} {cs:List AV} (hN:H0.length = N) (h:ev s a = some (.ptr (N + j) 0)) (hl:l[j]? = some (.cells cs)) (hk:Nat.beq cs.length k = true):One T c n0 s (H0++l) (.load (some k) a) (.agg cs) (H0++l):= by subst hN; exact C2 h hl hk
end
section
variable {σ ρ:Type}
def B9c (t:DrRoom) (persons:Int) (p:Int):Option (Int ⊕ Int) :=
 (if (decide (p < (List.length t.Persons:Int))) = true then (B9b .i64 persons p).bind fun q=>some (B1f q 1 == 0) else some false).bind fun g =>
 if g = true then some (.inl (w64 (p + 1))) else some (.inr p)
def B91 (t:DrRoom) (ch:Chg) (rec:Int→Int→dress_plan→σ→Option (σ ⊕ ρ)) (person used:Int) (p:dress_plan) (x:Int × σ):Option ((Int × σ) ⊕ (ρ ⊕ σ)) :=
 if (decide (x.1 < (List.length t.Figures:Int))) = true then
  (B9b .i64 used x.1).bind fun q =>
  if (B1f q 1 == 1) = true then some (.inl (w64 (x.1 + 1),x.2))
  else
   (V6 p x.1 (A4u ch x.1 person)).bind fun p' =>
   (C0e .i64 1 x.1).bind fun b =>
   (rec (w64 (person + 1)) (orI used b) p' x.2).bind fun y =>
   match y with
   | .inl s'=>some (.inl (w64 (x.1 + 1),s'))
   | .inr r=>some (.inr (.inl r))
 else some (.inr (.inr x.2))
def A8r (t:DrRoom) (ch:Chg) (persons:Int) (body:dress_plan→σ→Option (σ ⊕ ρ)):Nat→Int→Int→dress_plan→σ→Option (σ ⊕ ρ)
 | 0,_,_,_,_=>none
 | k + 1,person,used,p,s =>
  (loop (B9c t persons) person).bind fun person =>
  if (person == (List.length t.Persons:Int)) = true then body p s
  else (loop (B91 t ch (A8r t ch persons body k) person used p) (0,s)).bind fun o =>
   match o with
   | .inl r=>some (.inr r)
   | .inr s'=>some (.inl s')
end
def A8g (t:DrRoom) (ch:Chg) (persons:Int) (σ ρ:Type) (body:dress_plan→σ→Option (σ ⊕ ρ)) (s:σ):Option (σ ⊕ ρ) :=
 A8r t ch persons body 64 0 0 (begin0 t) s
def caps (N b1 b2:Nat):List AV:=[.ptr b1 0,.ptr b2 0,.ptr (N + 0) 0,.ptr (N + 2) 0,.ptr (N + 1) 0]
def L0 (N b1 b2 b:Nat) (y:AV):List AO:=[.cells [y],.cells [.fn (.func 93) [.ptr b 0] []],.cells [.fn (.func 101) [] (caps N b1 b2)]]
section
variable {σ ρ:Type} {t:DrRoom} {ch:Chg} {persons:Int} {Hm:σ ⊕ ρ→A1} {N b1 b2 b:Nat} {y:AV} {body:dress_plan→σ→Option (σ ⊕ ρ)}
theorem C9m (hN:∀x,(Hm x).length = N) (h1:∀x,hcells (Hm x) b1 = some [.ptr b 0]) (h2:∀x,hcells (Hm x) b2 = some [.i persons]) (ht:∀x,A8w (Hm x) b t ch)
  (hy:∀{L:A1} {c:Sc} {p:dress_plan} {s:σ} {o:σ ⊕ ρ} {f:AV},S8 c (Hm (.inl s)++L) = true→grL N L = true→A8x N L f (p.figures_.map cI)→body p s = some o→G8 tab c (Hm (.inl s)++L) y [.agg (cP f p)] [.b o.isLeft] (Hm o++L)) :
  ∀ (k:Nat) (person used:Int) (p:dress_plan) (s:σ) (x:σ ⊕ ρ),A8r t ch persons body k person used p s = some x→∀ (M:A1) (f:AV) (c:Sc),grL N (L0 N b1 b2 b y++M) = true→A8x N (L0 N b1 b2 b y++M) f (p.figures_.map cI)→S8 c (Hm (.inl s)++(L0 N b1 b2 b y++M)) = true →
   G8 tab c (Hm (.inl s)++(L0 N b1 b2 b y++M)) (.fn (.func 101) [] (caps N b1 b2)) [.i person,.i used,.agg (cP f p)] [.b x.isLeft] (Hm x++(L0 N b1 b2 b y++M))
 | 0,_,_,_,_,_,h,_,_,_,_,_,_=>by cases h
 | k + 1,person,used,p,s,x,h,M,f,c,hgr,hf,hsc=>by
  have ih:=C9m hN h1 h2 ht hy k
  unfold A8r at h
  have hl3:∀z,(Hm z++(L0 N b1 b2 b y++M)).length = N + (M.length + 3):=fun z=>by rw [List.length_append,hN,List.length_append]; simp only [L0,List.length_cons,List.length_nil]; omega
  have hb1:∀z,hcells (Hm z++(L0 N b1 b2 b y++M)) b1 = some [.ptr b 0]:=fun z=>N6 (h1 z) _
  have hb2:∀z,hcells (Hm z++(L0 N b1 b2 b y++M)) b2 = some [.i persons]:=fun z=>N6 (h2 z) _
  have hbt:∀z,A8w (Hm z++(L0 N b1 b2 b y++M)) b t ch:=fun z=>(ht z).app
  have q0:∀z,hcells (Hm z++(L0 N b1 b2 b y++M)) (N + 0) = some [y]:=fun z=>by rw [← hN z]; exact D7 rfl
  have q1:∀z,hcells (Hm z++(L0 N b1 b2 b y++M)) (N + 1) = some [.fn (.func 93) [.ptr b 0] []]:=fun z=>by rw [← hN z]; exact D7 rfl
  have q2:∀z,hcells (Hm z++(L0 N b1 b2 b y++M)) (N + 2) = some [.fn (.func 101) [] (caps N b1 b2)]:=fun z=>by rw [← hN z]; exact D7 rfl
  have hbd1:b1 < N:= by have:=A8d (h1 (.inl s)); rwa [hN] at this
  have hbd2:b2 < N:= by have:=A8d (h2 (.inl s)); rwa [hN] at this
  obtain ⟨m,ht1,ht2⟩:=ht (.inl s)
  refine A84 (aq:=[.i person,.i used,.agg (cP f p),.ptr b1 0,.ptr b2 0,.ptr (N + 0) 0,.ptr (N + 2) 0,.ptr (N + 1) 0]) rfl rfl rfl (A4r ?_)
  refine oB h fun person' hp' h=>?_
  have as1:∀z (Y:A1),Hm z++(L0 N b1 b2 b y++M)++Y = Hm z++((L0 N b1 b2 b y++M)++Y):=fun z Y=>List.append_assoc _ _ _
  have htk:∀z,(Hm z++(L0 N b1 b2 b y++M)++[AO.cells (cP f p)]).take (Hm (.inl s)++(L0 N b1 b2 b y++M)).length = Hm z++(L0 N b1 b2 b y++M):=fun z=>by rw [hl3,← hl3 z]; exact List.take_left
  refine sg 0 rfl<|A0 (F6 (cs:=cP f p) rfl rfl rfl) rfl<|qm rfl<|es (ra8 rfl rfl rfl rfl rfl rfl rfl rfl)<|D68<|B6<|C3<|wl (fun s1=>[(0,.i s1),(1,.i used),(3,.ptr b1 0),(4,.ptr b2 0),(5,.ptr (N + 0) 0),(6,.ptr (N + 2) 0),(7,.ptr (N + 1) 0),(10,.ptr ((Hm (.inl s)++(L0 N b1 b2 b y++M)).length + 0) 0)]) (fun (_:Unit) _=>[.cells (cP f p)]) 1 (fun r e s' H'=>PX 0 [(0,.i r),(1,.i used),(3,.ptr b1 0),(5,.ptr (N + 0) 0),(6,.ptr (N + 2) 0),(7,.ptr (N + 1) 0),(10,.ptr ((Hm (.inl s)++(L0 N b1 b2 b y++M)).length + 0) 0)] (Hm (.inl s)++(L0 N b1 b2 b y++M)++[.cells (cP f p)]) e s' H') () hp' rfl rfl (fun _ _=>rfl) (fun _=>rfl) rfl (fun s1=>?_) (fun q s1 ys1 hs1=>?_) ?_
  ·refine bdc A8 (bdc A8 (bdc ?_ (bdc ?_ (bdc ?_ (bdc ?_ (bdc ?_ (bdc (E8 rfl) bdn)))))))
   all_goals (simp only [AV.bd]; exact Nat.ble_eq_true_of_le (by rw [hl3]; omega))
  ·unfold B9c at hs1
   refine oB hs1 fun g hg hs1=>?_
   refine B6<|s0<|qm rfl<|A0 (R5 rfl (hb1 _) rfl) rfl<|A0 (A1l rfl rfl) rfl<|A0 (D2 rfl) rfl<|A0 (D2 rfl) rfl<|A0 (R5 rfl (N6 ht1 _) rfl) rfl<|A0 (D4 (f:=A6) rfl) rfl<|A0 (G3 rfl rfl) rfl<|qm rfl ?_
   refine gp 6 27 (.b g) 21 rfl rfl (fun hg1=>?_) (fun hg1=>?_) ?_
   ·refine oB (Am.bt hg hg1) fun q hq hg=>?_
    obtain rfl:=os hg
    exact gT rfl hg1<|A0 (R5 rfl (hb2 _) rfl) rfl<|gT rfl hg1<|qm rfl<|gT rfl hg1<|A0 (B8e rfl rfl hq) rfl<|gT rfl hg1<|A0 (O4 (v:=(.i (B1f q 1))) rfl rfl rfl) rfl<|gT rfl hg1<|A0 (F7 rfl rfl) rfl<|A0 (C7 rfl hg1 rfl) rfl<|ge 6 rfl rfl rfl
   ·obtain rfl:=os (Am.bf hg hg1)
    exact nT rfl hg1 rfl<|nT rfl hg1 rfl<|nT rfl hg1 rfl<|nT rfl hg1 rfl<|nT rfl hg1 rfl<|A0 (C6 rfl hg1 rfl) rfl<|ge 6 rfl rfl rfl
   refine es (ra9 rfl rfl rfl rfl rfl rfl rfl rfl rfl)<|wi hs1 rfl (fun hc2 hs1=>?_) fun hc2 hs1=>?_
   ·refine C1<|C3<|r0<|qm rfl<|A0 (E7 rfl rfl) rfl<|qm rfl<|en (ra8 rfl rfl rfl rfl rfl rfl rfl rfl) ?_
    cases hs1
    exact lnT () rfl (su8 rfl rfl rfl rfl rfl rfl rfl rfl)
   ·refine F3 ?_
    obtain rfl:=os hs1
    exact lx rfl px (su7 rfl rfl rfl rfl rfl rfl rfl)
  ·rintro e s' H' - ⟨rfl,rfl,rfl⟩
   refine B6<|s0<|qm rfl<|A0 (R5 rfl (hb1 _) rfl) rfl<|A0 (A1l rfl rfl) rfl<|A0 (D2 rfl) rfl<|A0 (D2 rfl) rfl<|A0 (R5 rfl (N6 ht1 _) rfl) rfl<|A0 (D4 (f:=A6) rfl) rfl<|A0 (F7 rfl rfl) rfl<|es (ra8 rfl rfl rfl rfl rfl rfl rfl rfl)<|wi h rfl (fun hc h=>?_) fun hc h=>?_
   ·have hcall:G8 tab ⟨(Hm (.inl s)++(L0 N b1 b2 b y++M)).length,c.cur :: c.outer⟩ (Hm (.inl s)++(L0 N b1 b2 b y++M)++[.cells (cP f p)]) y [.agg (cP f p)] [.b x.isLeft] (Hm x++(L0 N b1 b2 b y++M)++[.cells (cP f p)]):= by
     have hle:(Hm (.inl s)++(L0 N b1 b2 b y++M)).length≤(Hm (.inl s)++(L0 N b1 b2 b y++M)++[AO.cells (cP f p)]).length:= by have:=@List.length_append AO (Hm (.inl s)++(L0 N b1 b2 b y++M)) [AO.cells (cP f p)]; omega
     have hsc2:=B86 hsc hle hle
     rw [as1] at hsc2
     rw [as1,as1]
     exact hy hsc2 (C85 hgr rfl) (hf.app rfl) h
    refine s0<|A0 (R5 rfl (q0 _) rfl) rfl<|A0 (C2 rfl rfl rfl) rfl<|R2 (U1 rfl rfl hcall rfl) rfl<|qm rfl<|es (ra1 rfl)<|C4 ?_
    show B9t _ _ _ _ .ret _ _
    exact C75 trivial (B1 rfl B8) (A7 (v:=.lit (.bool x.isLeft)) rfl B9) (A4 A8 B2) (htk _)
   ·refine oB h fun o ho h=>?_
    have hK:∀z,(Hm z++(L0 N b1 b2 b y++M)).length = (Hm (.inl s)++(L0 N b1 b2 b y++M)).length:=fun z=>by rw [hl3,hl3]
    generalize hKe:(Hm (.inl s)++(L0 N b1 b2 b y++M)).length = K at hK
    have hK1:∀z,(Hm z++(L0 N b1 b2 b y++M)++[AO.cells (cP f p)]).length = K + 1:=fun z=>by rw [List.length_append,hK]; rfl
    have hKN:K = N + (M.length + 3):= by rw [← hKe,hl3]
    refine C1<|B6<|C1<|B6<|s0<|A0 (R5 rfl (hb1 _) rfl) rfl<|A0 (A1l rfl rfl) rfl<|A0 (D2 rfl) rfl<|A0 (D2 rfl) rfl<|A0 (R5 rfl (N6 ht1 _) rfl) rfl<|A0 (D4 (f:=A6) rfl) rfl<|qm rfl<|es (ra7 rfl rfl rfl rfl rfl rfl rfl)<|C3 ?_
    refine A0r (B9q (γ:=Unit) (live:=[0,1,6,7,10,46,47]) (body:=B91 t ch (A8r t ch persons body k) person' used p) (fun x=>[(0,.i person'),(1,.i used),(6,.ptr (N + 2) 0),(7,.ptr (N + 1) 0),(10,.ptr (K + 0) 0),(46,.i (List.length t.Figures:Int)),(47,.i x.1)]) (fun _ x=>Hm (.inl x.2)++(L0 N b1 b2 b y++M)++[.cells (cP f p)]) (K + 1)
     (fun r e s' H'=>match r with
      | .inl r=>e = .ret∧s' = [(11,.b false)]∧H'.take K = Hm (.inr r)++(L0 N b1 b2 b y++M)
      | .inr r=>e = .exit 2∧s' = []∧H' = Hm (.inl r)++(L0 N b1 b2 b y++M)++[.cells (cP f p)]) (fun _ x=>hK1 _) (fun _=>rfl) (by decide) (fun x _=>?_) ?_ ho ()) ?_
    ·refine bdc A8 (bdc A8 (bdc ?_ (bdc ?_ (bdc ?_ (bdc A8 (bdc A8 bdn))))))
     all_goals (simp only [AV.bd]; exact Nat.ble_eq_true_of_le (by omega))
    ·intro _ x o' hb
     unfold B91 at hb
     have hlx:∀(z:σ ⊕ ρ) (Y:List AO),(Hm z++(L0 N b1 b2 b y++M)++(AO.cells (cP f p) :: Y)).take (K + 1) = Hm z++(L0 N b1 b2 b y++M)++[AO.cells (cP f p)]:=fun z Y=>by
      rw [show Hm z++(L0 N b1 b2 b y++M)++(AO.cells (cP f p) :: Y) = (Hm z++(L0 N b1 b2 b y++M)++[AO.cells (cP f p)])++Y by rw [List.append_assoc (Hm z++(L0 N b1 b2 b y++M))]; rfl,← hK1 z]
      exact List.take_left
     have hlen4:∀(z:σ ⊕ ρ) (Y:List AO),(Hm z++(L0 N b1 b2 b y++M)++(AO.cells (cP f p) :: Y)).length = K + (Y.length + 1):=fun z Y=>by rw [List.length_append,hK]; rfl
     have hlk:∀(z:σ ⊕ ρ) (Y:List AO),(Hm z++(L0 N b1 b2 b y++M)++Y).take K = Hm z++(L0 N b1 b2 b y++M):=fun z Y=>by rw [← hK z]; exact List.take_left
     refine s0<|A0 (G3 rfl rfl) rfl<|es (ra8 rfl rfl rfl rfl rfl rfl rfl rfl)<|B6<|wi hb rfl (fun hc hb=>?_) fun hc hb=>?_
     ·refine oB hb fun q hq hb=>?_
      refine C1<|B6<|C3<|s0<|qm rfl<|qm rfl<|es (ra8 rfl rfl rfl rfl rfl rfl rfl rfl)<|B6<|s0<|qm rfl<|qm rfl<|A0 (B8e rfl rfl hq) rfl<|A0 (O4 (v:=(.i (B1f q 1))) rfl rfl rfl) rfl<|A0 (F7 rfl rfl) rfl<|es (ra9 rfl rfl rfl rfl rfl rfl rfl rfl rfl)<|wi hb rfl (fun hc2 hb=>?_) fun hc2 hb=>?_
      ·refine F3<|r0<|A0 (E7 rfl rfl) rfl<|qm rfl<|en (ra7 rfl rfl rfl rfl rfl rfl rfl) ?_
       cases hb
       exact ⟨rfl,su7 rfl rfl rfl rfl rfl rfl rfl,(),hlx _ []⟩
      ·refine oB hb fun p1 hp1 hb=>oB hb fun b' hb' hb=>oB hb fun o ho hb=>?_
       have hfx:A8x (Hm (.inl x.2)).length (L0 N b1 b2 b y++M) f (p.figures_.map cI):= by rw [hN]; exact hf
       have hgx:grL (Hm (.inl x.2)).length (L0 N b1 b2 b y++M) = true:= by rw [hN]; exact hgr
       have hs1:=hfx.shr
       have hs2:=hs1.dead (q2 _)
       have hs3:=hs2.app (L:=[AO.cells (cP f p)])
       have hy3:=Young.app (L:=[AO.cells (cP f p)]) hs2 hfx.young.dead rfl
       have hlen3:(hset (Hm (.inl x.2)++(L0 N b1 b2 b y++M)) (N + 2) .dead++[AO.cells (cP f p)]).length = K + 1:= by rw [List.length_append,I3,hK]; rfl
       have hanc:((A2l (hset (Hm (.inl x.2)++(L0 N b1 b2 b y++M)) (N + 2) .dead++[AO.cells (cP f p)]) f).all fun b=>Nat.ble N b) = true:= by
        rw [C99 hs2,C6z hs1 (q2 _)]
        have:=hfx.anc hgx
        rwa [hN] at this
       have hw0:=fun c'=>C95 (c:=c') hs3 hy3 hp1
       generalize hX:C6k (hset (Hm (.inl x.2)++(L0 N b1 b2 b y++M)) (N + 2) .dead++[AO.cells (cP f p)]) f (A4u ch x.1 person') p1 = X at hw0
       rw [hlen3] at hw0
       obtain ⟨an,hX3⟩:∃an,X[3]? = some (.stk 1 (p1.figures_.map cI) an):=⟨_,by rw [← hX]; rfl⟩
       have hX4:X.length = 4:= by rw [← hX]; rfl
       have hXg:grL N (AO.cells (cP f p) :: X) = true:= by
        rw [← hX]
        simp only [grL,C6k,List.all_cons,List.all_nil,AO.anc,hanc,Bool.and_self]
       clear hX
       have hw1:∀c',G8 tab c' (hset (Hm (.inl x.2)++(L0 N b1 b2 b y++M)) (N + 2) .dead++[AO.cells (cP f p)]) (.fn (.func 92) [] []) [.agg (cP f p),.i x.1,.agg (B7 (A4u ch x.1 person'))] [.agg (cP (.asl (K + 1 + 3) p1.figures_.length) p1)] (hset (Hm (.inl x.2)++(L0 N b1 b2 b y++M)) (N + 2) .dead++(AO.cells (cP f p) :: X)):=fun c'=>by
        have:=hw0 c'
        rwa [List.append_assoc] at this
       have hb6:N + 2 < (Hm (.inl x.2)++(L0 N b1 b2 b y++M)).length:= by rw [hK]; omega
       have hf1:A8x N (L0 N b1 b2 b y++(M++(AO.cells (cP f p) :: X))) (.asl (K + 1 + 3) p1.figures_.length) (p1.figures_.map cI):= by
        refine .inr ⟨M.length + 7,an,?_,?_,?_⟩
        ·rw [List.length_map,hKN,show N + (M.length + 3) + 1 + 3 = N + (M.length + 7) by omega]
        ·rw [show L0 N b1 b2 b y++(M++(AO.cells (cP f p) :: X)) = (L0 N b1 b2 b y++M++[AO.cells (cP f p)])++X by simp]
         have hll:(L0 N b1 b2 b y++M++[AO.cells (cP f p)]).length = M.length + 4:= by simp [L0]
         rw [List.getElem?_append_right (by rw [hll]; omega),hll,show M.length + 7 - (M.length + 4) = 3 by omega]
         exact hX3
        ·rw [List.drop_of_length_le (by simp [L0,hX4])]; rfl
       have hg1:grL N (L0 N b1 b2 b y++(M++(AO.cells (cP f p) :: X))) = true:= by
        rw [← List.append_assoc]; exact C85 hgr hXg
       have as2:∀z,Hm z++(L0 N b1 b2 b y++(M++(AO.cells (cP f p) :: X))) = Hm z++(L0 N b1 b2 b y++M)++(AO.cells (cP f p) :: X):=fun z=>by
        rw [as1 z,← List.append_assoc (L0 N b1 b2 b y)]
       have hcost:∀c',U2 tab c' ((Hm (.inl x.2)++(L0 N b1 b2 b y++M)++[AO.cells (cP f p)]).map AO.toRo) (.fn (.func 93) [.ptr b 0] []) [.i x.1,.i person'] [.agg (B7 (A4u ch x.1 person'))]:=fun c' =>
        (A83 (a:=[.ptr b 0]) (C8v ((hbt (.inl x.2)).app.toRo) x.1 person')).frz
       have hnext:∀c',S8 c' (Hm (.inl x.2)++(L0 N b1 b2 b y++M)++(AO.cells (cP f p) :: X)) = true→G8 tab c' (Hm (.inl x.2)++(L0 N b1 b2 b y++M)++(AO.cells (cP f p) :: X)) (.fn (.func 101) [] (caps N b1 b2)) [.i (w64 (person' + 1)),.i (orI used b'),.agg (cP (.asl (K + 1 + 3) p1.figures_.length) p1)] [.b o.isLeft] (Hm o++(L0 N b1 b2 b y++M)++(AO.cells (cP f p) :: X)):=fun c' hc'=>by
        have:=ih _ _ _ _ _ ho (M++(AO.cells (cP f p) :: X)) _ c' hg1 hf1 (by rw [as2]; exact hc')
        rwa [as2,as2] at this
       refine C1<|s0<|A0 (C5g (hK _) rfl rfl rfl) rfl<|qm rfl<|A0 (R5 rfl (q1 _) rfl) rfl<|qm rfl<|qm rfl<|A0 (B1v rfl rfl (hcost _)) rfl<|D4i [] (AO.cells (cP f p) :: X) hb6 (D75 [] rfl rfl rfl rfl hb6 (C7h (q2 _))) (seen0 rfl) (U1 rfl rfl (hw1 _) rfl) ?_ rfl rfl<|K4 [] (P1 [] rfl F8 rfl rfl) (A46 (b:=N + 2) rfl (A0q (B9x _ _) A3o)) (R5 rfl (q2 _) rfl) rfl<|qm rfl<|A0 (E7 rfl rfl) rfl<|qm rfl<|qm rfl<|A0 (C5j rfl rfl hb') rfl<|A0 (O4 (v:=(.i (orI used b'))) rfl rfl rfl) rfl<|R2 (U1 rfl rfl (hnext _ ?_) rfl) rfl<|A0 (S7 rfl) rfl<|es (ra8 rfl rfl rfl rfl rfl rfl rfl rfl) ?_
       ·exact Nat.ble_eq_true_of_le (by simp only [List.length_cons,List.length_nil]; omega)
       ·have hkk:=hlen4 (.inl x.2) X
        exact B86 (c:=⟨K,c.cur :: c.outer⟩) (H:=Hm (.inl s)++(L0 N b1 b2 b y++M)++[AO.cells (cP f p)]) (B86 hsc (by rw [hK1,hKe]; omega) (by rw [hK1]; omega)) (by rw [hK1,hkk]; omega) (by rw [hkk]; omega)
       ·cases o with
        | inl s1 =>
         refine A0e rfl rfl<|C1<|r0<|A0 (E7 rfl rfl) rfl<|qm rfl<|en (ra7 rfl rfl rfl rfl rfl rfl rfl) ?_
         cases hb
         exact ⟨rfl,su7 rfl rfl rfl rfl rfl rfl rfl,(),hlx _ _⟩
        | inr r =>
         refine T0 rfl rfl<|s0<|qm rfl<|es (ra1 rfl)<|C4 ?_
         cases hb
         exact ⟨rfl,_,Sub.refl _,rfl,rfl,hlk _ _⟩
     ·refine F3 ?_
      cases hb
      exact ⟨rfl,_,Sub.nil _,rfl,rfl,rfl⟩
    ·intro e s' H' q
     obtain ⟨_,q⟩:=q
     rcases o with r | s1
     ·obtain ⟨rfl,rfl,q⟩:=q
      cases h
      show B9t _ _ _ _ .ret _ _
      exact C75 trivial (B1 rfl B8) (A7 (v:=.lit (.bool false)) rfl B9) (A4 A8 B2) (by rw [hKe]; exact q)
     ·obtain ⟨rfl,rfl,rfl⟩:=q
      cases h
      refine s0<|qm rfl<|es (ra1 rfl)<|C4 ?_
      show B9t _ _ _ _ .ret _ _
      exact C75 trivial (B1 rfl B8) (A7 (v:=.lit (.bool true)) rfl B9) (A4 A8 B2) (htk _)
end
def shP (N:Nat) (L:A1) (x:dress_plan) (v:AV):Prop:=∃ f,v = .agg (cP f x)∧A8x N L f (x.figures_.map cI)
theorem C5x {t:DrRoom} {ch:Chg} {persons:Int} {b1 b2 b:Nat}:D7d tab 100 [.ptr b1 0,.ptr b2 0] shP (fun H=>hcells H b1 = some [.ptr b 0]∧hcells H b2 = some [.i persons]∧A8w H b t ch) (A8g t ch persons):= by
 intro σ ρ Hm N hN hpre y hyb hyc body hy a0 o ho c hc
 unfold A8g at ho
 have h1:∀x,hcells (Hm x) b1 = some [.ptr b 0]:=fun x=>(hpre x).1
 have h2:∀x,hcells (Hm x) b2 = some [.i persons]:=fun x=>(hpre x).2.1
 have ht:∀x,A8w (Hm x) b t ch:=fun x=>(hpre x).2.2
 have e:=hN (.inl a0)
 have hl2:∀x,(Hm x++L0 N b1 b2 b y).length = N + 3:=fun x=>by rw [List.length_append,hN]; rfl
 have htk:∀x,(Hm x++L0 N b1 b2 b y).take (Hm (.inl a0)).length = Hm x:=fun x=>by rw [e,← hN x]; exact List.take_left
 have hcall:∀c',S8 c' (Hm (.inl a0)++L0 N b1 b2 b y) = true→G8 tab c' (Hm (.inl a0)++L0 N b1 b2 b y) (.fn (.func 101) [] (caps N b1 b2)) [.i 0,.i 0,.agg (cP (.nils 1) (begin0 t))] [.b o.isLeft] (Hm o++L0 N b1 b2 b y):=fun c' hc'=>by
  exact C9m hN h1 h2 ht (fun hsc hg hf hb=>hy hsc hg ⟨_,rfl,hf⟩ hb) 64 0 0 (begin0 t) a0 o ho [] (.nils 1) c' rfl (.inl ⟨rfl,rfl⟩) hc'
 have key:WP tab c100 [(0,y),(1,.ptr b1 0),(2,.ptr b2 0)] (Hm (.inl a0)++[]) ⟨(Hm (.inl a0)).length,c.cur :: c.outer⟩ (B9t (Hm (.inl a0)) (Hm o) [] []):= by
  subst e
  refine sg 0 rfl<|A0 (F6 rfl hyc rfl) rfl<|es (ra3 rfl rfl rfl)<|sg 1 rfl<|A0 (R5 rfl (h1 _) rfl) rfl<|A0 (A8f rfl rfl) rfl<|A0 E4 rfl<|I0 (D1 rfl rfl rfl rfl (Q5 ?_) rfl) rfl<|es (ra4 rfl rfl rfl rfl)<|sg 2 rfl<|A0 E4 rfl<|es (ra5 rfl rfl rfl rfl rfl)<|s0<|A0 (A8f rfl rfl) rfl<|I0 (D1 rfl rfl rfl rfl (Q5 ?_) rfl) rfl<|es (ra2 rfl rfl)<|r0<|A0 (R5 rfl (h1 _) rfl) rfl<|A4a [2] (L0 (Hm (.inl a0)).length b1 b2 b y) (P1 [] rfl rfl rfl rfl) (seen0 rfl) (X8 rfl rfl (A2 rfl B5) (C31 (ht _).app) rfl) rfl rfl rfl<|K4 [] (P1 [] rfl F8 rfl rfl) (A46 (b:=(Hm (.inl a0)).length + 2) rfl (A0q (T6 _ rfl) A3o)) (C8 rfl rfl rfl) rfl<|R2 (U1 rfl rfl (hcall _ ?_) rfl) rfl<|en .n ?_
  ·exact Nat.le_add_right _ _
  ·exact Nat.le_add_right _ _
  ·exact B86 hc (by rw [hl2]; omega) (by rw [hl2]; omega)
  ·show B9t _ _ _ _ .normal _ _
   exact C75 trivial rfl rfl rfl (htk _)
 rw [List.append_nil] at key
 exact A84 (aq:=[y,.ptr b1 0,.ptr b2 0]) rfl rfl rfl key
end Ds
end
section
namespace Am
open Go
section
variable {T:Tab} {s:B3} {H0:A1} {l:List AO} {c:Sc} {Q:Ex→B3→A1→Prop}
def E2j {σ ρ:Type} (H0:A1) (k:Nat) (lh:σ→List AO) (lx:ρ→List AO) (ex:ρ→Ex) (b:AO) (L:A1) (o:σ ⊕ ρ) (e:Ex) (_s:B3) (H2:A1):Prop :=
 ∃ l2,H2 = H0++l2∧match o with
  | .inl s'=>e = .normal∧l2.take (k + 1 + L.length) = lh s'++b :: L
  | .inr r=>e = ex r∧l2.take (k + 1 + L.length) = lx r++b :: L
theorem B9i {l lh L:List AO} {k:Nat} {b b':AO} (hk:lh.length = k) (h:l.take (k + 1 + L.length) = lh++b :: L):(l.set k b').take (k + 1 + L.length) = lh++b' :: L:= by
 rw [List.take_set,h]
 rw [List.set_append_right _ _ (by omega),hk,Nat.sub_self]; rfl
theorem D0r {l lh L:List AO} {k:Nat} {b:AO} (hk:lh.length = k) (h:l.take (k + 1 + L.length) = lh++b :: L):l[k]? = some b:= by
 have e:(l.take (k + 1 + L.length))[k]? = l[k]?:=List.getElem?_take_of_lt (by omega)
 rw [← e,h,List.getElem?_append_right (by omega),hk,Nat.sub_self]; rfl
theorem C6i {σ ρ α:Type} {f:Opd} {p i k:Nat} {live:List Nat} {aq bd:ACode} {fc:List AV} {sh:Nat→A1→α→AV→Prop} {pre:A1→Prop} {it:∀(σ ρ:Type),(α→σ→Option (σ ⊕ ρ))→σ→Option (σ ⊕ ρ)} {s0:σ} {o:σ ⊕ ρ} {body:α→σ→Option (σ ⊕ ρ)}
  (hit:D7d T i fc sh pre it) (sl:B3) (lh:σ→List AO) (lx:ρ→List AO) (ex:ρ→Ex) (h:it σ ρ body s0 = some o) (hex:∀r,(ex r).out = true)
  (hf:ev s f = some (.fn (.func i) [] fc)) (hs:∀S,Sub s S→restrict S live = sl) (hl:lh s0 = l) (hk:∀x,(lh x).length = k) (hkx:∀x,(lx x).length = k)
  (hpre:(∀ x b,pre (H0++(lh x++[b])))∧∀ x b,pre (H0++(lx x++[b]))) (hc:S8 c (H0++l) = true)
  (hb:∀c x s o L v,S8 ⟨H0.length + (k + 1 + L.length),c⟩ (H0++(lh s++.dead :: L)) = true→grL (H0.length + (k + 1)) L = true→sh (H0.length + (k + 1)) L x v→body x s = some o→∀ y0 y1:AO,WP T aq ((p,v) :: sl) (H0++(lh s++y0 :: L)) ⟨H0.length + (k + 1 + L.length),c⟩ (AsQ T H0 k y0 y1 bd ⟨H0.length + (k + 1 + L.length),c⟩ (E2j H0 k lh lx ex y1 L o)))
  (kont:match o with | .inl s'=>Q .normal s (H0++(lh s'++[.dead])) | .inr r=>Q (ex r) s (H0++(lx r++[.dead]))):WP T (.rangeFunc f [p] live aq bd) s (H0++l) c Q:= by
 subst hl
 intro S hS
 let Hm:σ ⊕ ρ→A1:=fun o=>match o with
  | .inl x=>H0++(lh x++[.loop 0 sl [p] aq bd false none])
  | .inr r=>H0++(lx r++[.loop 0 sl [p] aq bd false (some (ex r))])
 have hN:∀x,(Hm x).length = H0.length + (k + 1):= by
  intro x
  cases x with
  | inl x=>simp [Hm,hk]
  | inr x=>simp [Hm,hkx]
 have hlen:(H0++lh s0).length = H0.length + k:= by rw [List.length_append,hk]
 have hap:∀(A:List AO) (b:AO) (L:A1),H0++(A++[b])++L = H0++(A++b :: L):=fun A b L=>by simp
 have hy:∀{L:A1} {c:Sc} {x:α} {s:σ} {o:σ ⊕ ρ} {v:AV},S8 c (Hm (.inl s)++L) = true→grL (H0.length + (k + 1)) L = true→sh (H0.length + (k + 1)) L x v→body x s = some o→G8 T c (Hm (.inl s)++L) (.fn (.yield (H0.length + k)) [] []) [v] [.b o.isLeft] (Hm o++L):= by
  intro L c x s o v hsc hgr hsh hbo
  have hml:∀b,(H0++(lh s++b :: L)).length = H0.length + (k + 1 + L.length):=fun b=>by simp [hk]; omega
  have hm:Hm (.inl s)++L = H0++(lh s++.loop 0 sl [p] aq bd false none :: L):=hap _ _ _
  have hsc2:S8 ⟨H0.length + (k + 1 + L.length),c.cur :: c.outer⟩ (H0++(lh s++.dead :: L)) = true:= by
   rw [hm] at hsc
   exact B86 (c:=c) hsc (by rw [hml,hml]; exact Nat.le_refl _) (by rw [hml]; exact Nat.le_refl _)
  obtain ⟨e1,S1,s1,H1,r1,q1,l1,rfl,rfl,hl1,hw⟩:=hb (c.cur :: c.outer) x s o L v hsc2 hgr hsh hbo (.loop 0 sl [p] aq bd false none) (.loop 0 sl [p] aq bd true none) _ (Sub.refl _)
  obtain ⟨e2,S2,s2,H2,r2,q2,l2,rfl,hb2⟩:=hw S1 q1
  rw [hm]
  have g0:hget (H0++(lh s++.loop 0 sl [p] aq bd false none :: L)) (H0.length + k) = some (.loop 0 sl [p] aq bd false none):= by
   rw [N9,List.getElem?_append_right (by rw [hk]; exact Nat.le_refl _),hk,Nat.sub_self]; rfl
  have fin:∀(lb:List AO) (er:Ex),lb.length = k→l2.take (k + 1 + L.length) = lb++.loop 0 sl [p] aq bd true none :: L→e2 = er→G8 T c (H0++(lh s++.loop 0 sl [p] aq bd false none :: L)) (.fn (.yield (H0.length + k)) [] []) [v] [.b (!er.out)] (H0++(lb++.loop 0 sl [p] aq bd false (match er with | .normal=>none | e=>some e) :: L)):= by
   intro lb er hlb tk he
   subst he
   have g2:=D0r hlb tk
   refine G8.yield (ps:=[p]) (st0:=⟨(p,v) :: sl,H0++(lh s++.loop 0 sl [p] aq bd false none :: L),⟨H0.length + (k + 1 + L.length),c.cur :: c.outer⟩⟩) (st1:=⟨S1,H0++l1,⟨H0.length + (k + 1 + L.length),c.cur :: c.outer⟩⟩)
    (st2:=⟨S2,H0++l2,⟨H0.length + (k + 1 + L.length),c.cur :: c.outer⟩⟩) (e:=e2) rfl g0 rfl (by rw [hml]; rfl) r1 (by rw [N9]; exact hl1) (by rw [F2]) r2 (by rw [N9]; exact g2) rfl ?_
   rw [hml,F2]
   simp only [trunc,bdL,if_true]
   rw [A0h,B9i hlb tk]
   cases e2 <;> rfl
  cases o with
  | inl s' =>
   have:=fin (lh s') .normal (hk s') hb2.2 hb2.1
   have hm2:Hm (.inl s')++L = H0++(lh s'++.loop 0 sl [p] aq bd false none :: L):=hap _ _ _
   rw [hm2]; exact this
  | inr r =>
   have:=fin (lx r) (ex r) (hkx r) hb2.2 hb2.1
   have he:(match ex r with | .normal=>none | e=>some e) = some (ex r):= by
    have:=hex r
    cases hq:ex r <;> rw [hq] at this <;> first | rfl | cases this
   rw [he,hex r] at this
   have hm2:Hm (.inr r)++L = H0++(lx r++.loop 0 sl [p] aq bd false (some (ex r)) :: L):=hap _ _ _
   rw [hm2]; exact this
 have hcall:=hit Hm (H0.length + (k + 1)) hN (by
  intro x
  cases x with
  | inl x=>exact hpre.1 x _
  | inr x=>exact hpre.2 x _) (.fn (.yield (H0.length + k)) [] []) (by simp only [AV.bd,bdL,Bool.and_true]; exact Nat.ble_eq_true_of_le (by omega)) rfl body hy h (c:=c) (by
  have hq:=hN (.inl s0)
  unfold S8 at hc ⊢
  rw [List.all_eq_true] at hc ⊢
  intro B hB
  have:=Nat.le_of_ble_eq_true (hc B hB)
  rw [hlen] at this
  exact Nat.ble_eq_true_of_le (by omega))
 have hres:=hs S hS
 have g:∀o:σ ⊕ ρ,hget (Hm o) (H0.length + k) = some (.loop 0 sl [p] aq bd false (C29 ex o)):= by
  intro o
  cases o with
  | inl x=>simp only [Hm]; rw [N9,List.getElem?_append_right (by rw [hk]; exact Nat.le_refl _),hk,Nat.sub_self]; rfl
  | inr x=>simp only [Hm]; rw [N9,List.getElem?_append_right (by rw [hkx]; exact Nat.le_refl _),hkx,Nat.sub_self]; rfl
 have hr:=I5.rangeFunc (T:=T) (ac:=.rangeFunc f [p] live aq bd) (st:=⟨S,H0++lh s0,c⟩) (l:=H0.length + k) (H0:=Hm (.inl s0)) (H':=Hm o) (pend:=C29 ex o) (e:=D99 ex o)
  (st':=⟨S,hset (Hm o) (H0.length + k) .dead,c⟩) rfl (A25 hS hf) hlen.symm (by simp only [hres,Hm,List.append_assoc]) hcall (g o) (by cases o <;> rfl) rfl
 refine ⟨_,S,s,_,hr,hS,?_⟩
 cases o with
 | inl x =>
  have:hset (Hm (.inl x)) (H0.length + k) .dead = H0++(lh x++[.dead]):= by
   simp only [Hm]; rw [F2,List.set_append_right _ _ (by rw [hk]; exact Nat.le_refl _),hk,Nat.sub_self]; rfl
  show Q .normal s (hset (Hm (.inl x)) (H0.length + k) .dead)
  rw [this]; exact kont
 | inr r =>
  have:hset (Hm (.inr r)) (H0.length + k) .dead = H0++(lx r++[.dead]):= by
   simp only [Hm]; rw [F2,List.set_append_right _ _ (by rw [hkx]; exact Nat.le_refl _),hkx,Nat.sub_self]; rfl
  show Q (ex r) s (hset (Hm (.inr r)) (H0.length + k) .dead)
  rw [this]; exact kont
end
end Am
end
section
set_option maxRecDepth 100000
set_option maxHeartbeats 0
namespace Ds
open Go Am Go.Proofs.Ytdkflofgolehkaa.Cd
def T2 (a0:dress_plan) (s1:(Int × Int × (Ar4 Int))):Option ((Int × Int × (Ar4 Int)) ⊕ (Int × (Ar4 Int))) :=
 if (decide (s1.2.1 < 4)) = true then
  (idx (Ar4.l a0.left_) s1.2.1).bind fun x4 =>
  (idx (Ar4.l s1.2.2) s1.2.1).bind fun x5 =>
  (idx (Ar4.l (Ar4.set s1.2.2 s1.2.1 (A9i 0 (w64 (0 - x4))))) s1.2.1).bind fun x6 =>
  some (.inl ((w64 (s1.1 + x6)),(w64 (s1.2.1 + 1)),(Ar4.set s1.2.2 s1.2.1 (A9i 0 (w64 (0 - x4))))))
 else
  some (.inr (s1.1,s1.2.2))
def I1 (a0:dress_plan):Option ((Ar4 Int) × Int) :=
 (loop (T2 a0) (0,0,(Ar4.mk 0 0 0 0))).bind fun (o7:(Int × (Ar4 Int))) =>
 some (o7.2,o7.1)
theorem A4y {c:Sc} {H:A1} {a0:dress_plan} {r:((Ar4 Int) × Int)} (h:I1 a0 = some r) :
  F0 tab c H (.fn (.func 75) [] []) [(.agg (A9 a0))] [(.agg ((A1d cI) r.1)),.i r.2]:= by
 unfold I1 at h
 refine cE rfl rfl<|sg 0 rfl<|A0 (F6 (cs:=A9 a0) rfl rfl rfl) rfl<|A0 E4 rfl<|qm rfl<|es (ra3 rfl rfl rfl)<|B6<|s0<|A0 (D2 rfl) rfl<|A0 (I8 (ds:=(A1d cI) a0.left_) rfl rfl rfl rfl) rfl<|qm rfl<|es (ra4 rfl rfl rfl rfl)<|C3<|oB h fun o7 ho7 h=>wl (fun s1=>[(2,(.ptr (H.length + 1) 0)),(3,.i s1.1),(7,(.agg ((A1d cI) a0.left_))),(8,.i s1.2.1)]) (fun (q2:Unit) s1=>[(.cells (A9 a0)),(.cells ((A1d cI) s1.2.2))]) 2 (fun r e s' H'=>PX 0 [(2,(.ptr (H.length + 1) 0)),(3,.i r.1)] (H++[(.cells (A9 a0)),(.cells ((A1d cI) r.2))]) e s' H') () ho7 rfl rfl (fun _ _=>rfl) (fun _=>rfl) rfl (fun s1=>(bdc (E8 rfl) (bdc A8 (bdc (Z2 rfl) (bdc A8 bdn))))) (fun q2 s1 ys1 hs1=>?_) ?_
 ·unfold T2 at hs1
  refine s0<|A0 (G3 rfl rfl) rfl<|es (ra5 rfl rfl rfl rfl rfl)<|B6<|wi hs1 rfl (fun hc3 hs1=>?_) fun hc3 hs1=>?_
  ·refine C1<|B6<|C3<|s0<|oB hs1 fun x4 hx4 hs1=>qm rfl<|A0 (B8d (f:=cI) (g:=fun n=>(.i n)) (e:=Ar4.l a0.left_) (fun _=>rfl) rfl rfl rfl rfl hx4) rfl<|qm rfl<|qm rfl<|es (ra6 rfl rfl rfl rfl rfl rfl)<|s0<|oB hs1 fun x5 hx5 hs1=>qm rfl<|qm rfl<|A0 (D8p rfl rfl) rfl<|A0 (D6f rfl rfl) rfl<|A0 (A3c (e:=Ar4.l s1.2.2) rfl rfl rfl hx5) rfl<|I0 (A9n (f:=cI) (e:=Ar4.l s1.2.2) (e2:=Ar4.l (Ar4.set s1.2.2 s1.2.1 (A9i 0 (w64 (0 - x4))))) (z:=(A9i 0 (w64 (0 - x4)))) (ds:=((A1d cI) (Ar4.set s1.2.2 s1.2.1 (A9i 0 (w64 (0 - x4)))))) rfl rfl rfl rfl rfl rfl (fun _=>rfl) hx5 (Ar4.set_l hx5) rfl (C5 rfl)) rfl<|es (ra5 rfl rfl rfl rfl rfl)<|r0<|oB hs1 fun x6 hx6 hs1=>qm rfl<|qm rfl<|A0 (A3c (e:=Ar4.l (Ar4.set s1.2.2 s1.2.1 (A9i 0 (w64 (0 - x4))))) rfl rfl rfl hx6) rfl<|A0 (A3d (f:=cI) (g:=fun n=>(.i n)) (e:=Ar4.l (Ar4.set s1.2.2 s1.2.1 (A9i 0 (w64 (0 - x4))))) (fun _=>rfl) rfl (D7 rfl) rfl hx6) rfl<|A0 (E7 rfl rfl) rfl<|qm rfl<|en (ra4 rfl rfl rfl rfl)<|r0<|A0 (E7 rfl rfl) rfl<|qm rfl<|en (ra4 rfl rfl rfl rfl) ?_
   cases hs1
   exact lnT () rfl (su4 rfl rfl rfl rfl)
  ·refine F3 ?_
   obtain rfl:=os hs1
   exact lx rfl px (su2 rfl rfl)
 ·rintro e s' H' - ⟨rfl,rfl,rfl⟩
  refine s0<|A0 (C2 rfl rfl rfl) rfl<|qm rfl<|I0 (D1 (ds:=((A1d cI) o7.2)) rfl rfl rfl rfl (C5 rfl) rfl) rfl<|qm rfl<|es (ra2 rfl rfl)<|C4 ?_
  obtain rfl:=os h
  exact retq trivial (P6 (I8 (ds:=(A1d cI) o7.2) rfl rfl rfl rfl) (B1 rfl B8)) (A7 (A1w rfl) (A7 rfl B9)) (A4 (Z2 rfl) (A4 A8 B2))
def M1 (a0:dress_plan):Option Bool :=
 (I1 a0).bind fun x1 =>
 some ((x1.1.x0 == (Ar4.mk 0 0 0 0).x0) && ((x1.1.x1 == (Ar4.mk 0 0 0 0).x1) && ((x1.1.x2 == (Ar4.mk 0 0 0 0).x2) && ((x1.1.x3 == (Ar4.mk 0 0 0 0).x3) && true))))
def A2q (a0:dress_plan):Option dress_plan :=
 (C1l 8 (List.length a0.figures_:Int) 0).bind fun x1 =>
 some (dress_plan.mk (cpy x1 a0.figures_) a0.cost_ a0.left_)
end Ds
end
section
set_option maxRecDepth 100000
set_option maxHeartbeats 0
namespace Am
open Go
def B17 (H:A1) (k:Nat) (v:AV) (rows:List (List AV)):Prop :=
 (v = .nils k∧rows = [])∨∃ b anc,v = .asl b rows.length∧hstk H b = some (k,rows,anc)
theorem C4x {H:A1} {b:Nat} {x:Nat × List (List AV) × List Nat} (h:hstk H b = some x):harr H b = none:= by
 unfold hstk at h
 unfold harr
 split at h <;> first | (rename_i e; rw [e]) | cases h
theorem A64.toR {H:A1} {k:Nat} {v:AV} {rows:List (List AV)} (h:A64 H k v rows):B17 H k v rows:= by
 rcases h with h | ⟨b,anc,e,h⟩
 ·exact .inl h
 ·exact .inr ⟨b,anc,e,by unfold hstk; rw [h]⟩
theorem B17.toRo {H:A1} {k:Nat} {v:AV} {rows:List (List AV)} (h:B17 H k v rows):B17 (H.map AO.toRo) k v rows:= by
 rcases h with h | ⟨b,anc,e,h⟩
 ·exact .inl h
 ·exact .inr ⟨b,anc,e,by rw [B25]; exact h⟩
theorem B17.app {H L:A1} {k:Nat} {v:AV} {rows:List (List AV)} (h:B17 H k v rows):B17 (H++L) k v rows:= by
 rcases h with h | ⟨b,anc,e,h⟩
 ·exact .inl h
 ·exact .inr ⟨b,anc,e,by rw [A4i (List.getElem?_append_left (C2v h))]; exact h⟩
theorem B17.rd {H:A1} {k:Nat} {v:AV} {rows:List (List AV)} (h:B17 H k v rows):rd H v k rows:= by
 rcases h with ⟨rfl,rfl⟩ | ⟨b,anc,rfl,h2⟩
 ·exact ⟨rfl,rfl⟩
 ·have h1:=C4x h2
  exact ⟨by simp only [Y7,h1,h2,Nat.beq_refl,if_true],by simp only [kOf,h1,h2,Option.map_some]⟩
theorem B17.lenM {α:Type} {g:α→List AV} {T:Tab} {s:B3} {H:A1} {c:Sc} {n0 k:Nat} {x:Opd} {v:AV} {e:List α} (h:B17 H k v (e.map g)) (hx:ev s x = some v):One T c n0 s H (.lenL x) (.lit (.int .i64 e.length)) H:=⟨0,by
 rcases h with ⟨rfl,h⟩ | ⟨b,anc,rfl,h2⟩
 ·have:e = []:=List.map_eq_nil_iff.1 h
  subst this
  simp only [core,prim,hx,List.length_nil]
 ·have h1:=C4x h2
  simp only [core,prim,hx,h1,h2,List.length_map,if_true]⟩
end Am
namespace Ds
open Go Am Go.Proofs.Ytdkflofgolehkaa.Cd
theorem C46 {c:Sc} {H:A1} {f:AV} {a0:dress_plan} {r:((Ar4 Int) × Int)} (h:I1 a0 = some r) :
  F0 tab c H (.fn (.func 75) [] []) [(.agg (cP f a0))] [(.agg ((A1d cI) r.1)),.i r.2]:= by
 unfold I1 at h
 refine cE rfl rfl<|sg 0 rfl<|A0 (F6 (cs:=cP f a0) rfl rfl rfl) rfl<|A0 E4 rfl<|qm rfl<|es (ra3 rfl rfl rfl)<|B6<|s0<|A0 (D2 rfl) rfl<|A0 (I8 (ds:=(A1d cI) a0.left_) rfl rfl rfl rfl) rfl<|qm rfl<|es (ra4 rfl rfl rfl rfl)<|C3<|oB h fun o7 ho7 h=>wl (fun s1=>[(2,(.ptr (H.length + 1) 0)),(3,.i s1.1),(7,(.agg ((A1d cI) a0.left_))),(8,.i s1.2.1)]) (fun (q2:Unit) s1=>[(.cells (cP f a0)),(.cells ((A1d cI) s1.2.2))]) 2 (fun r e s' H'=>PX 0 [(2,(.ptr (H.length + 1) 0)),(3,.i r.1)] (H++[(.cells (cP f a0)),(.cells ((A1d cI) r.2))]) e s' H') () ho7 rfl rfl (fun _ _=>rfl) (fun _=>rfl) rfl (fun s1=>(bdc (E8 rfl) (bdc A8 (bdc (Z2 rfl) (bdc A8 bdn))))) (fun q2 s1 ys1 hs1=>?_) ?_
 ·unfold T2 at hs1
  refine s0<|A0 (G3 rfl rfl) rfl<|es (ra5 rfl rfl rfl rfl rfl)<|B6<|wi hs1 rfl (fun hc3 hs1=>?_) fun hc3 hs1=>?_
  ·refine C1<|B6<|C3<|s0<|oB hs1 fun x4 hx4 hs1=>qm rfl<|A0 (B8d (f:=cI) (g:=fun n=>(.i n)) (e:=Ar4.l a0.left_) (fun _=>rfl) rfl rfl rfl rfl hx4) rfl<|qm rfl<|qm rfl<|es (ra6 rfl rfl rfl rfl rfl rfl)<|s0<|oB hs1 fun x5 hx5 hs1=>qm rfl<|qm rfl<|A0 (D8p rfl rfl) rfl<|A0 (D6f rfl rfl) rfl<|A0 (A3c (e:=Ar4.l s1.2.2) rfl rfl rfl hx5) rfl<|I0 (A9n (f:=cI) (e:=Ar4.l s1.2.2) (e2:=Ar4.l (Ar4.set s1.2.2 s1.2.1 (A9i 0 (w64 (0 - x4))))) (z:=(A9i 0 (w64 (0 - x4)))) (ds:=((A1d cI) (Ar4.set s1.2.2 s1.2.1 (A9i 0 (w64 (0 - x4)))))) rfl rfl rfl rfl rfl rfl (fun _=>rfl) hx5 (Ar4.set_l hx5) rfl (C5 rfl)) rfl<|es (ra5 rfl rfl rfl rfl rfl)<|r0<|oB hs1 fun x6 hx6 hs1=>qm rfl<|qm rfl<|A0 (A3c (e:=Ar4.l (Ar4.set s1.2.2 s1.2.1 (A9i 0 (w64 (0 - x4))))) rfl rfl rfl hx6) rfl<|A0 (A3d (f:=cI) (g:=fun n=>(.i n)) (e:=Ar4.l (Ar4.set s1.2.2 s1.2.1 (A9i 0 (w64 (0 - x4))))) (fun _=>rfl) rfl (D7 rfl) rfl hx6) rfl<|A0 (E7 rfl rfl) rfl<|qm rfl<|en (ra4 rfl rfl rfl rfl)<|r0<|A0 (E7 rfl rfl) rfl<|qm rfl<|en (ra4 rfl rfl rfl rfl) ?_
   cases hs1
   exact lnT () rfl (su4 rfl rfl rfl rfl)
  ·refine F3 ?_
   obtain rfl:=os hs1
   exact lx rfl px (su2 rfl rfl)
 ·rintro e s' H' - ⟨rfl,rfl,rfl⟩
  refine s0<|A0 (C2 rfl rfl rfl) rfl<|qm rfl<|I0 (D1 (ds:=((A1d cI) o7.2)) rfl rfl rfl rfl (C5 rfl) rfl) rfl<|qm rfl<|es (ra2 rfl rfl)<|C4 ?_
  obtain rfl:=os h
  exact retq trivial (P6 (I8 (ds:=(A1d cI) o7.2) rfl rfl rfl rfl) (B1 rfl B8)) (A7 (A1w rfl) (A7 rfl B9)) (A4 (Z2 rfl) (A4 A8 B2))
theorem B7c {c:Sc} {H:A1} {f:AV} {a0:dress_plan} {r:Bool} (h:M1 a0 = some r) :
  F0 tab c H (.fn (.func 60) [] []) [(.agg (cP f a0))] [.b r]:= by
 unfold M1 at h
 refine cE rfl rfl<|sg 0 rfl<|A0 (F6 (cs:=cP f a0) rfl rfl rfl) rfl<|qm rfl<|es (ra1 rfl)<|sg 1 rfl<|oB h fun x1 hx1 h=>A0 (C2 rfl rfl rfl) rfl<|R2 (U1 (rs':=[(.agg ((A1d cI) x1.1)),.i x1.2]) rfl rfl (C46 hx1).1 rfl) rfl<|qm rfl<|A0 (A5 rfl rfl) rfl<|A0 (A5 rfl rfl) rfl<|A0 E4 rfl<|I0 (D1 (ds:=((A1d cI) x1.1)) rfl rfl rfl rfl (C5 rfl) rfl) rfl<|qm rfl<|es (ra1 rfl)<|s0<|A0 (C2 rfl rfl rfl) rfl<|A0 (L6 (cs:=(A1d cI) (Ar4.mk 0 0 0 0)) rfl rfl) rfl<|A0 (C7r (a:=(A1d cI) x1.1) (b:=(A1d cI) (Ar4.mk 0 0 0 0)) rfl rfl rfl rfl (Z3 (Z3 (Z3 (Z3 C2p))))) rfl<|qm rfl<|es (ra1 rfl)<|C4 ?_
 obtain rfl:=os h
 exact retq trivial (B1 rfl B8) (A7 rfl B9) (A4 A8 B2)
theorem D4m {c:Sc} {H:A1} {f:AV} {a0:dress_plan} {r:dress_plan} (hs:B17 H 1 f (a0.figures_.map cI)) (h:A2q a0 = some r) :
  U2 tab c H (.fn (.func 73) [] []) [(.agg (cP f a0))] [(.agg (A9 r))]:= by
 unfold A2q at h
 refine cF rfl rfl<|sg 0 rfl<|A0 (F6 (cs:=cP f a0) rfl rfl rfl) rfl<|A0 E4 rfl<|es (ra2 rfl rfl)<|sg 2 rfl<|oB h fun x1 hx1 h=>A0 (D2 rfl) rfl<|A0 (C8 (x:=f) rfl rfl rfl) rfl<|A0 (hs.app.lenM rfl) rfl<|A0 (C1n (f:=cI) rfl rfl rfl hx1) rfl<|qm rfl<|es (ra3 rfl rfl rfl)<|s0<|qm rfl<|A0 (D2 rfl) rfl<|A0 (C8 (x:=f) rfl rfl rfl) rfl<|R2 (C9n (f:=cI) rfl rfl rfl rfl hs.app.rd (fun _=>rfl)) rfl ?_
 rw [show List.length x1 = List.length (cpy x1 a0.figures_) from (B7h _ _).symm]
 refine es (ra3 rfl rfl rfl)<|s0<|qm rfl<|A0 (D2 rfl) rfl<|I0 (D1 (ds:=[(.asl (H.length + 2) (List.length (cpy x1 a0.figures_))),.i a0.cost_,.i a0.left_.x0,.i a0.left_.x1,.i a0.left_.x2,.i a0.left_.x3]) rfl rfl rfl rfl (Q5 (Nat.le_add_right _ _)) rfl) rfl<|es (ra2 rfl rfl)<|s0<|A0 (I8 (ds:=[(.asl (H.length + 2) (List.length (cpy x1 a0.figures_))),.i a0.cost_,.i a0.left_.x0,.i a0.left_.x1,.i a0.left_.x2,.i a0.left_.x3]) rfl rfl rfl rfl) rfl<|I0 (D1 (ds:=[(.asl (H.length + 2) (List.length (cpy x1 a0.figures_))),.i a0.cost_,.i a0.left_.x0,.i a0.left_.x1,.i a0.left_.x2,.i a0.left_.x3]) rfl rfl rfl rfl (Q5 (Nat.le_add_right _ _)) rfl) rfl<|es (ra1 rfl)<|C4 ?_
 obtain rfl:=os h
 exact ⟨_,retq trivial (P6 (I8 (ds:=[(.asl (H.length + 2) (List.length (cpy x1 a0.figures_))),.i a0.cost_,.i a0.left_.x0,.i a0.left_.x1,.i a0.left_.x2,.i a0.left_.x3]) rfl rfl rfl rfl) B8) (A7 (C28 (X4 (C7t rfl (List.length_map _)) (X4 rfl (X4 rfl (X4 rfl (X4 rfl (X4 rfl C7s))))))) B9) (A4 (Z2 rfl) B2),rfl⟩
end Ds
end
section
set_option maxRecDepth 100000
namespace Am
open Go
theorem C5m {c:Sc} {b a n:Nat} (h:a < b):c.okL b [.asl a n] = true:= by
 have key:∀B,(Nat.ble B b || Nat.blt a B) = true:=fun B=>by
  by_cases hB:B≤b
  ·rw [Nat.ble_eq_true_of_le hB]; rfl
  ·rw [show Nat.blt a B = true from Nat.ble_eq_true_of_le (by omega),Bool.or_true]
 have h2:(c.outer.all fun B=>Nat.ble B b || Nat.blt a B) = true:=List.all_eq_true.2 fun B _=>key B
 have h3:=key c.cur
 simp only [Sc.okL,Sc.ok,AV.plain,AV.bd,h2,h3,Bool.or_false,Bool.and_true,Bool.or_true]
end Am
namespace Ds
open Go Am Go.Proofs.Ytdkflofgolehkaa.Cd
def B0v (x:dress_plan) (s:List dress_plan):Option (List dress_plan ⊕ Unit) :=
 (M1 x).bind fun g =>
 if g = true then
  (A2q x).bind fun q =>
  (app 64 s [q]).bind fun s' =>
  some (.inl s')
 else some (.inl s)
def T1 (t:DrRoom) (ch:Chg) (persons:Int):Option (List dress_plan) :=
 (A8g t ch persons (List dress_plan) Unit B0v []).bind fun o =>
 match o with
 | .inl l=>some l
 | .inr _=>none
def Z1 (N b:Nat) (persons:Int) (s:List dress_plan):List AO:=[.arr 6 false (s.map A9),.cells [.asl (N + 0) s.length],.cells [.ptr b 0],.cells [.i persons]]
theorem C3i {c:Sc} {H:A1} {b:Nat} {t:DrRoom} {ch:Chg} {persons:Int} {r:List dress_plan} (hr:A8w H b t ch) (hscv:S8 c H = true) (h:T1 t ch persons = some r) :
  U2 tab c H (.fn (.func 65) [] []) [.ptr b 0,.i persons] [.seq 6 (r.map A9)]:= by
 unfold T1 at h
 refine cF rfl rfl<|sg 0 rfl<|A0 C5h rfl<|es (ra3 rfl rfl rfl)<|B6<|s0<|qm rfl<|qm rfl<|A3x (as2:=[.ptr b 0,.i persons]) (H1:=(H++[.arr 6 false [],.cells [.asl (H.length + 0) 0]])) rfl rfl (A2 rfl (A2 rfl B5)) rfl rfl rfl (A8c rfl)<|sg 2 rfl<|A0 (F6 (cs:=[.ptr b 0]) rfl rfl rfl) rfl<|A0 (F6 (cs:=[.i persons]) rfl rfl rfl) rfl<|qm rfl<|es (ra2 rfl rfl)<|s0<|A0 (A8f rfl rfl) rfl<|qm rfl<|es (ra1 rfl)<|C4<|InlQ.mk trivial ⟨_,_,_,[(.fn (.func 100) [] [(.ptr (H.length + 2) 0),(.ptr (H.length + 3) 0)])],_,(B1 rfl B8),(A7 rfl B9),(A79 (A22 (D2k (A22 (A7w rfl)))) (L1 rfl A27)),?_⟩
 refine es (ra2 rfl rfl)<|C3<|oB h fun o8 ho8 h=>C6i (σ:=List dress_plan) (ρ:=Unit) (k:=4) (body:=B0v) (sh:=shP) (pre:=fun H1=>hcells H1 (H.length + 2) = some [.ptr b 0]∧hcells H1 (H.length + 3) = some [.i persons]∧A8w H1 b t ch) (C5x (t:=t) (ch:=ch) (persons:=persons) (b1:=H.length + 2) (b2:=H.length + 3) (b:=b)) [(4,(.ptr (H.length + 1) 0))] (Z1 H.length b persons) (fun (_:Unit)=>Z1 H.length b persons []) (fun _=>.ret) ho8 (fun _=>rfl) rfl (fun S hS=>P4 (live:=[4]) rfl (by decide) (Sub.trans (su1 rfl) hS)) rfl (fun _=>rfl) (fun _=>rfl) ⟨fun _ _=>⟨D7 rfl,D7 rfl,hr.app⟩,fun _ _=>⟨D7 rfl,D7 rfl,hr.app⟩⟩ (A1b hscv) (fun c x s o L v hsc hgr hv hbo y0 y1=>?_) ?_
 ·obtain ⟨f,rfl,hf⟩:=hv
  unfold B0v at hbo
  have hlm:∀(z:AO),(Z1 H.length b persons s++z :: L).length = 5 + L.length:=fun z=>by simp [Z1]; omega
  have hlen:(H++(Z1 H.length b persons s++y0 :: L)).length = H.length + (5 + L.length):= by rw [List.length_append,hlm]
  have hfr:A8x (H++(Z1 H.length b persons s++[y1])).length (L++[AO.cells (cP f x)]) f (x.figures_.map cI):= by
   rw [List.length_append]
   exact hf.app rfl
  have hsh:∀(M:A1),B17 (H++(Z1 H.length b persons s++y1 :: (L++[AO.cells (cP f x)]))++M) 1 f (x.figures_.map cI):=fun M=>by
   have:=hfr.shr.toR.app (L:=M)
   simpa using this
  have hg:∀s',(H++(Z1 H.length b persons s'++y1 :: (L++[AO.cells (cP f x)]))).length = H.length + (5 + L.length + 1):=fun s'=>by simp [Z1]; omega
  refine A0r (Q:=fun e s1 H1=>e = .normal∧Sub [(4,(.ptr (H.length + 1) 0)),(5,(.ptr (H.length + (5 + L.length)) 0))] s1∧H1 = H++(Z1 H.length b persons s++y0 :: (L++[AO.cells (cP f x)]))) ?_ ?_
  ·have key:WP tab (.region false 1 [] [⟨some 5,.alloc [.seq 1 [],.i 0,.i 0,.i 0,.i 0,.i 0] [] 0,none,[],[],0,0⟩,⟨none,.store 6 (.t 5) (.t 9),none,[],[],0,1⟩] [4,5]) [(9,.agg (cP f x)),(4,(.ptr (H.length + 1) 0))] (H++(Z1 H.length b persons s++y0 :: L)++[]) ⟨H.length + (4 + 1 + L.length),c⟩ (fun e s1 H1=>e = .normal∧Sub [(4,(.ptr (H.length + 1) 0)),(5,(.ptr (H.length + (5 + L.length)) 0))] s1∧H1 = H++(Z1 H.length b persons s++y0 :: (L++[AO.cells (cP f x)]))):= by
    refine rg 0 rfl<|A0 E4 rfl<|I0 (D1 (ds:=cP f x) rfl rfl rfl rfl (Q5 ?_) rfl) rfl<|en (ra2 rfl rfl) ⟨rfl,?_,?_⟩
    ·show H.length + (4 + 1 + L.length)≤(H++(Z1 H.length b persons s++y0 :: L)).length + 0
     rw [hlen]; omega
    ·rw [← hlen]; exact su2 rfl rfl
    ·show H++(Z1 H.length b persons s++y0 :: L)++[AO.cells (cP f x)] = _
     simp
   rw [List.append_nil] at key
   exact key
  ·rintro e s1 H1 ⟨rfl,hsub,rfl⟩
   refine ⟨_,rfl,rfl,rfl,fun S hS=>?_⟩
   refine (?_:WP tab _ [(4,(.ptr (H.length + 1) 0)),(5,(.ptr (H.length + (5 + L.length)) 0))] (H++(Z1 H.length b persons s++y1 :: (L++[AO.cells (cP f x)]))) _ _) S (Sub.trans hsub hS)
   have hpb:∀s',(Z1 H.length b persons s'++y1 :: (L++[AO.cells (cP f x)]))[5 + L.length]? = some (.cells (cP f x)):=fun s'=>by
    have hl5:(Z1 H.length b persons s'++y1 :: L).length = 5 + L.length:= by simp [Z1]; omega
    rw [show Z1 H.length b persons s'++y1 :: (L++[AO.cells (cP f x)]) = (Z1 H.length b persons s'++y1 :: L)++[AO.cells (cP f x)] by simp,List.getElem?_append_right (by rw [hl5]; exact Nat.le_refl _),hl5,Nat.sub_self]; rfl
   have htk:∀s',(Z1 H.length b persons s'++y1 :: (L++[AO.cells (cP f x)])).take (4 + 1 + L.length) = Z1 H.length b persons s'++y1 :: L:=fun s'=>by
    have hl5:(Z1 H.length b persons s'++y1 :: L).length = 4 + 1 + L.length:= by simp [Z1]; omega
    rw [show Z1 H.length b persons s'++y1 :: (L++[AO.cells (cP f x)]) = (Z1 H.length b persons s'++y1 :: L)++[AO.cells (cP f x)] by simp,← hl5]
    exact List.take_left
   refine oB hbo fun g hg1 hbo=>?_
   refine C3<|s0<|A0 (I8 (ds:=cP f x) rfl (hpb _) rfl rfl) rfl<|R2 (U1 (rs':=[.b g]) rfl rfl (B7c hg1).1 rfl) rfl<|es (ra3 rfl rfl rfl)<|wi hbo rfl (fun hc hbo=>?_) fun hc hbo=>?_
   ·refine oB hbo fun q hq hbo=>oB hbo fun s' hs' hbo=>?_
    have hsh0:=(hsh []).toRo
    rw [List.append_nil] at hsh0
    refine r0<|A0 (C8 (x:=.asl (H.length + 0) s.length) rfl rfl rfl) rfl<|A0 (I8 (ds:=cP f x) rfl (hpb _) rfl rfl) rfl<|A0 (B1v rfl rfl (D4m hsh0 hq)) rfl<|A0 (G2 (rows:=List.map A9 [q]) rfl rfl (D8 (fun _=>rfl) _)) rfl<|R2 (V3 (f:=A9) rfl rfl rfl rfl Q3 (fun _=>rfl) hs') rfl<|I0 (D1 (ds:=[.asl (H.length + 0) s'.length]) rfl rfl rfl rfl (C5m (Nat.lt_succ_self _)) rfl) rfl<|en .n ?_
    cases hbo
    exact ⟨_,rfl,rfl,htk _⟩
   ·refine C1 ?_
    cases hbo
    exact ⟨_,rfl,rfl,htk _⟩
 ·rcases o8 with l8 | l8
  ·refine s0<|A0 (C8 (x:=.asl (H.length + 0) l8.length) rfl rfl rfl) rfl<|I0 (D1 (ds:=[.asl (H.length + 0) l8.length]) rfl rfl rfl rfl (Q5 (Nat.le_add_right _ _)) rfl) rfl<|es (ra1 rfl)<|C4 ?_
   obtain rfl:=os h
   exact ⟨[.fresh 6 (l8.map A9)],retq trivial (P6 (C8 (x:=.asl (H.length + 0) l8.length) rfl rfl rfl) B8) (A7 (A2f rfl (List.length_map _)) B9) (A4 rfl B2),rfl⟩
  ·cases h
end Ds
end
section
set_option maxRecDepth 100000
namespace Ds
open Go Am Go.Proofs.Ytdkflofgolehkaa.Cd
abbrev By:=List (Nat × (dress_plan→Option Int))
def A23 (z:Nat × (dress_plan→Option Int)):List AV:=[.fn (.func z.1) [] []]
def P3 (bs:By) (p q:dress_plan) (i:Int):Option (Int ⊕ (Bool ⊕ Unit)) :=
 if (decide (i < (List.length bs:Int))) = true then
  (idx bs i).bind fun z=>(z.2 p).bind fun a=>(z.2 q).bind fun b =>
  if (a != b) = true then (z.2 p).bind fun a2=>(z.2 q).bind fun b2=>some (.inr (.inl (decide (a2 < b2))))
  else some (.inl (w64 (i + 1)))
 else some (.inr (.inr ()))
def B28 (bs:By) (p q:dress_plan):Option Bool :=
 (loop (P3 bs p q) 0).bind fun o =>
 match o with
 | .inl b=>some b
 | .inr _=>some false
def D7r (bs:By):Prop:=∀ z ∈ bs,∀ (p:dress_plan) (r:Int) (c:Sc) (H:A1),z.2 p = some r→U2 tab c H (.fn (.func z.1) [] []) [.agg (A9 p)] [.i r]
theorem C2f {N:Nat}:∀bs:By,bdR N (bs.map A23) = true
 | []=>rfl
 | z :: bs=>by simp only [List.map_cons,A23,bdR,bdL,AV.bd,C2f bs,Bool.and_self]
theorem C9h {c:Sc} {H:A1} {bs:By} (hbs:D7r bs) {p q:dress_plan} {r:Bool} (h:B28 bs p q = some r) :
  F0 tab c H (.fn (.func 78) [] []) [.agg [.xseq 1 (bs.map A23)],.agg (A9 p),.agg (A9 q)] [.b r]:= by
 unfold B28 at h
 refine oB h fun o ho h=>?_
 refine cE rfl rfl<|sg 0 rfl<|A0 (F6 (cs:=[.xseq 1 (bs.map A23)]) rfl rfl rfl) rfl<|A0 (F6 (cs:=A9 p) rfl rfl rfl) rfl<|A0 (F6 (cs:=A9 q) rfl rfl rfl) rfl<|qm rfl<|es (ra3 rfl rfl rfl)<|B6<|s0<|A0 (D2 rfl) rfl<|A0 (C8 (x:=.xseq 1 (bs.map A23)) rfl rfl rfl) rfl<|A0 (D8m (n:=(List.length bs:Int)) rfl (by rw [List.length_map])) rfl<|qm rfl<|es (ra5 rfl rfl rfl rfl rfl)<|C3<|wl (fun i=>[(4,(.ptr (H.length + 1) 0)),(5,(.ptr (H.length + 2) 0)),(10,.xseq 1 (bs.map A23)),(11,(.i (List.length bs:Int))),(12,.i i)]) (fun (_:Unit) _=>[.cells [.xseq 1 (bs.map A23)],.cells (A9 p),.cells (A9 q)]) 3 (fun r e s' H'=>H' = H++[.cells [.xseq 1 (bs.map A23)],.cells (A9 p),.cells (A9 q)]∧match r with | .inl b=>e = .ret∧s' = [(6,.b b)] | .inr _=>e = .exit 0∧s' = []) () ho rfl rfl (fun _ _=>rfl) (fun _=>rfl) rfl (fun i=>(bdc (E8 rfl) (bdc (E8 rfl) (bdc (D93 (C2f _)) (bdc A8 (bdc A8 bdn)))))) (fun _ i ys hs=>?_) ?_
 ·unfold P3 at hs
  refine s0<|A0 (G3 rfl rfl) rfl<|es (ra6 rfl rfl rfl rfl rfl rfl)<|B6<|wi hs rfl (fun hc hs=>?_) fun hc hs=>?_
  ·refine oB hs fun z hz hs=>oB hs fun a ha hs=>oB hs fun b hb hs=>?_
   have hm:z ∈ bs:=List.mem_of_getElem? (B6t hz).2
   have hrow:(if 0≤i then (bs.map A23)[i.toNat]? else none) = some (A23 z):= by
    unfold idx at hz
    split at hz
    ·next h0=>rw [if_pos h0,List.getElem?_map,hz]; rfl
    ·cases hz
   refine C1<|B6<|C3<|s0<|A0 (D8k rfl rfl hrow) rfl<|A0 (E9 (x:=.fn (.func z.1) [] []) rfl rfl) rfl<|qm rfl<|es (ra6 rfl rfl rfl rfl rfl rfl)<|s0<|qm rfl<|A0 (C2 rfl rfl rfl) rfl<|A05 (rs:=[.i a]) rfl rfl (L7 rfl A3z) (A2 (C9 rfl) B5) (hbs z hm p a _ _ ha)<|qm rfl<|A0 (C2 rfl rfl rfl) rfl<|B4 (rs:=[.i b]) rfl rfl (A2 (C9 rfl) B5) (hbs z hm q b _ _ hb)<|A0 (J1 rfl rfl) rfl<|es (ra7 rfl rfl rfl rfl rfl rfl rfl)<|wi hs rfl (fun hc2 hs=>?_) fun hc2 hs=>?_
   ·refine oB hs fun a2 ha2 hs=>oB hs fun b2 hb2 hs=>?_
    refine s0<|qm rfl<|A0 (C2 rfl rfl rfl) rfl<|A05 (rs:=[.i a2]) rfl rfl (L7 rfl A3z) (A2 (C9 rfl) B5) (hbs z hm p a2 _ _ ha2)<|qm rfl<|A0 (C2 rfl rfl rfl) rfl<|B4 (rs:=[.i b2]) rfl rfl (A2 (C9 rfl) B5) (hbs z hm q b2 _ _ hb2)<|A0 (G3 rfl rfl) rfl<|qm rfl<|es (ra1 rfl)<|C4 ?_
    obtain rfl:=os hs
    exact lx rfl ⟨rfl,rfl,rfl⟩ (Sub.refl _)
   ·refine C1<|r0<|A0 (E7 rfl rfl) rfl<|qm rfl<|en (ra5 rfl rfl rfl rfl rfl) ?_
    cases hs
    exact lnT () rfl (su5 rfl rfl rfl rfl rfl)
  ·refine F3 ?_
   obtain rfl:=os hs
   exact lx rfl ⟨rfl,rfl,rfl⟩ (Sub.nil _)
 ·rintro e s' H' - ⟨rfl,q2⟩
  rcases o with b | b
  ·obtain ⟨rfl,rfl⟩:=q2
   cases h
   show RetQ _ _ _ _ _ _
   exact retq trivial (B1 rfl B8) (A7 rfl B9) (A4 A8 B2)
  ·obtain ⟨rfl,rfl⟩:=q2
   cases h
   refine s0<|qm rfl<|es (ra1 rfl)<|C4 ?_
   exact retq trivial (B1 rfl B8) (A7 rfl B9) (A4 A8 B2)
end Ds
end
section
set_option maxRecDepth 100000
set_option maxHeartbeats 0
namespace Ds
open Go Am Go.Proofs.Ytdkflofgolehkaa.Cd
def I9 (a0:(List dress_plan)) (g1:((dress_plan × dress_plan)→Option Bool)) (s1:(Bool × Int × dress_plan)):Option ((Bool × Int × dress_plan) ⊕ (Bool × dress_plan)) :=
 if (decide (s1.2.1 < (List.length a0:Int))) = true then
  (idx a0 s1.2.1).bind fun x4 =>
  (if (s1.2.1 == 0) = true then
  some true
  else
  (g1 (x4,s1.2.2)).bind fun x6 =>
  some x6).bind fun x7 =>
  if x7 = true then
  some (.inl (true,(w64 (s1.2.1 + 1)),x4))
  else
  some (.inl (s1.1,(w64 (s1.2.1 + 1)),s1.2.2))
 else
  some (.inr (s1.1,s1.2.2))
def M8 (a0:(List dress_plan)) (g1:((dress_plan × dress_plan)→Option Bool)):Option (dress_plan × Bool) :=
 (loop (I9 a0 g1) (false,0,(dress_plan.mk ([]:List Int) 0 (Ar4.mk 0 0 0 0)))).bind fun (o9:(Bool × dress_plan)) =>
 some (o9.2,o9.1)
theorem A1t {c:Sc} {H:A1} {a0:(List dress_plan)} {g1:(dress_plan × dress_plan)→Option Bool} {g1_i:Nat} {g1_f g1_c:List AV} (g1_h:Impl tab H g1_i g1_f g1_c g1 (fun y=>[(.agg (A9 y.1)),(.agg (A9 y.2))]) (fun y=>[.b y])) {r:(dress_plan × Bool)} (h:M8 a0 g1 = some r) :
  F0 tab c H (.fn (.func 77) [] []) [(.seq 6 (List.map A9 a0)),.fn (.func g1_i) g1_f g1_c] [(.agg (A9 r.1)),.b r.2]:= by
 unfold M8 at h
 refine cE rfl rfl<|sg 0 rfl<|A0 E4 rfl<|qm rfl<|es (ra4 rfl rfl rfl rfl)<|B6<|s0<|qm rfl<|A0 (D4 (f:=A9) rfl) rfl<|qm rfl<|es (ra6 rfl rfl rfl rfl rfl rfl)<|C3<|oB h fun o9 ho9 h=>wl (fun s1=>[(1,(.fn (.func g1_i) g1_f g1_c)),(4,(.ptr (H.length + 0) 0)),(5,.b s1.1),(8,(.seq 6 (List.map A9 a0))),(9,(.i (List.length a0:Int))),(10,.i s1.2.1)]) (fun (q2:Unit) s1=>[(.cells (A9 s1.2.2))]) 1 (fun r e s' H'=>PX 0 [(4,(.ptr (H.length + 0) 0)),(5,.b r.1)] (H++[(.cells (A9 r.2))]) e s' H') () ho9 rfl rfl (fun _ _=>rfl) (fun _=>rfl) rfl (fun s1=>(bdc (D2j g1_h.1) (bdc (E8 rfl) (bdc A8 (bdc E6 (bdc A8 (bdc A8 bdn))))))) (fun q2 s1 ys1 hs1=>?_) ?_
 ·unfold I9 at hs1
  refine s0<|A0 (G3 rfl rfl) rfl<|es (ra7 rfl rfl rfl rfl rfl rfl rfl)<|B6<|wi hs1 rfl (fun hc3 hs1=>?_) fun hc3 hs1=>?_
  ·refine C1<|B6<|C3<|sg 1 rfl<|oB hs1 fun x4 hx4 hs1=>qm rfl<|A0 (E3 (f:=A9) rfl rfl hx4) rfl<|A0 (M2 rfl rfl) rfl<|A0 E4 rfl<|qm rfl<|I0 (D1 (ds:=(A9 x4)) rfl rfl rfl rfl (C5 rfl) rfl) rfl<|es (ra8 rfl rfl rfl rfl rfl rfl rfl rfl)<|s0<|oB hs1 fun x7 hx7 hs1=>qm rfl<|A0 (F7 rfl rfl) rfl<|qm rfl<|gp 5 22 (.b x7) 17 rfl rfl (fun hg5=>?_) (fun hg5=>?_) ?_
   ·obtain rfl:=os (bt hx7 hg5)
    exact nF rfl hg5 rfl<|nF rfl hg5 rfl<|nF rfl hg5 rfl<|O0 (G7 rfl (by rw [hg5]; rfl)) rfl<|A0 (C7 rfl hg5 rfl) rfl<|ge 5 rfl rfl rfl
   ·refine oB (bf hx7 hg5) fun x6 hx6 hx7=>?_
    obtain rfl:=os hx7
    exact gF rfl hg5<|qm rfl<|gF rfl hg5<|A0 (C2 rfl rfl rfl) rfl<|gF rfl hg5<|A0 (C2 rfl rfl rfl) rfl<|gF rfl hg5<|B4 (rs:=[.b x6]) rfl rfl (A2 (C9 rfl) (A2 (C9 rfl) B5)) (Impl.call g1_h hx6 _)<|A0 (C6 rfl hg5 rfl) rfl<|ge 5 rfl rfl rfl
   refine es (ra8 rfl rfl rfl rfl rfl rfl rfl rfl)<|wi hs1 rfl (fun hc8 hs1=>?_) fun hc8 hs1=>?_
   ·refine r0<|A0 (C2 rfl rfl rfl) rfl<|I0 (D1 (ds:=(A9 x4)) rfl rfl rfl rfl (C5 rfl) rfl) rfl<|qm rfl<|en (ra6 rfl rfl rfl rfl rfl rfl)<|r0<|A0 (E7 rfl rfl) rfl<|qm rfl<|en (ra6 rfl rfl rfl rfl rfl rfl) ?_
    cases hs1
    exact lnT () rfl (su6 rfl rfl rfl rfl rfl rfl)
   ·refine C1<|r0<|A0 (E7 rfl rfl) rfl<|qm rfl<|en (ra6 rfl rfl rfl rfl rfl rfl) ?_
    cases hs1
    exact lnT () rfl (su6 rfl rfl rfl rfl rfl rfl)
  ·refine F3 ?_
   obtain rfl:=os hs1
   exact lx rfl px (su2 rfl rfl)
 ·rintro e s' H' - ⟨rfl,rfl,rfl⟩
  refine s0<|A0 (C2 rfl rfl rfl) rfl<|qm rfl<|I0 (D1 (ds:=(A9 o9.2)) rfl rfl rfl rfl (C5 rfl) rfl) rfl<|qm rfl<|es (ra2 rfl rfl)<|C4 ?_
  obtain rfl:=os h
  exact retq trivial (P6 (I8 (ds:=A9 o9.2) rfl rfl rfl rfl) (B1 rfl B8)) (A7 (A1w rfl) (A7 rfl B9)) (A4 (Z2 rfl) (A4 A8 B2))
def W0 (a0:dress_plan):Option Int :=
 some a0.cost_
theorem A9o {c:Sc} {H:A1} {a0:dress_plan} {r:Int} (h:W0 a0 = some r) :
  F0 tab c H (.fn (.func 94) [] []) [(.agg (A9 a0))] [.i r]:= by
 unfold W0 at h
 refine cE rfl rfl<|sg 0 rfl<|A0 (F6 (cs:=A9 a0) rfl rfl rfl) rfl<|qm rfl<|es (ra1 rfl)<|s0<|A0 (D2 rfl) rfl<|A0 (C8 rfl rfl rfl) rfl<|qm rfl<|es (ra1 rfl)<|C4 ?_
 obtain rfl:=os h
 exact retq trivial (B1 rfl B8) (A7 rfl B9) (A4 A8 B2)
end Ds
end
section
set_option maxRecDepth 100000
namespace Ds
open Go Am Go.Proofs.Ytdkflofgolehkaa.Cd
def by1:By:=[(94,W0)]
theorem D7z:D7r by1:= by
 intro z hz p r c H h
 obtain rfl:=List.mem_singleton.1 hz
 exact (A9o h).frz
def Q2 (t:DrRoom) (ch:Chg) (persons:Int):Option (dress_plan × Bool) :=
 (T1 t ch persons).bind fun l =>
 M8 l (fun y=>B28 by1 y.1 y.2)
theorem D4x {c:Sc} {H:A1} (h:S8 c H = true):S8 c (H.map AO.toRo) = true:= by
 unfold S8 at h ⊢; rw [List.length_map]; exact h
theorem B6l {c:Sc} {H:A1} {b:Nat} {t:DrRoom} {ch:Chg} {persons:Int} {r:dress_plan × Bool} (hr:A8w H b t ch) (hscv:S8 c H = true) (h:Q2 t ch persons = some r) :
  U2 tab c H (.fn (.func 61) [] []) [.ptr b 0,.i persons] [.agg (A9 r.1),.b r.2]:= by
 unfold Q2 at h
 refine oB h fun l hl h=>?_
 refine cF rfl rfl<|sg 0 rfl<|A0 E4 rfl<|qm rfl<|es (ra3 rfl rfl rfl)<|sg 1 rfl<|A0 (C9o (rows:=by1.map A23) rfl rfl) rfl<|A0 (L6 (cs:=[.xseq 1 (by1.map A23)]) rfl rfl) rfl<|A0 E4 rfl<|I0 (D1 (ds:=[.xseq 1 (by1.map A23)]) rfl rfl rfl rfl (Q5 (Nat.le_add_right _ _)) rfl) rfl<|es (ra4 rfl rfl rfl rfl)<|s0<|qm rfl<|qm rfl<|A05 (rs:=[.seq 6 (l.map A9)]) rfl rfl (L7 rfl (L7 rfl A3z)) (A2 rfl (A2 rfl B5)) (C3i hr.app.toRo (D4x (A1b hscv)) hl)<|A0 (C2 rfl rfl rfl) rfl<|A0 (A8f rfl rfl) rfl<|B4 (rs:=[.agg (A9 r.1),.b r.2]) rfl rfl (A2 rfl (A2 rfl B5)) (A1t ?_ h).frz<|A0 (A5 rfl rfl) rfl<|A0 (A5 rfl rfl) rfl<|I0 (D1 (ds:=A9 r.1) rfl rfl rfl rfl (C5 rfl) rfl) rfl<|qm rfl<|es (ra2 rfl rfl)<|C4 ?_
 ·refine ⟨⟨?_,rfl⟩,fun H' _ _ c x r' e=>?_⟩
  ·simp only [bdL,AV.bd,C2f,Bool.and_self]
  ·exact (A83 (a:=[.agg [.xseq 1 (by1.map A23)]]) (C9h D7z e)).frz
 ·exact ⟨_,retq trivial (P6 (I8 (ds:=A9 r.1) rfl rfl rfl rfl) (B1 rfl B8)) (A7 (A1w rfl) (A7 rfl B9)) (A4 (Z2 rfl) (A4 A8 B2)),rfl⟩
end Ds
end
section
set_option maxRecDepth 100000
set_option maxHeartbeats 0
namespace Ds
open Go Am Go.Proofs.Ytdkflofgolehkaa.Cd
def B03 (a0:DrRoom) (s3:(Int × (List (dress_pair × dress_change)))) (x6:DrLook) (s7:(Int × (List (dress_pair × dress_change)))):Option ((Int × (List (dress_pair × dress_change))) ⊕ (List (dress_pair × dress_change))) :=
 if (decide (s7.1 < (List.length a0.Persons:Int))) = true then
  (idx a0.Persons s7.1).bind fun x10 =>
  (N5 (dress_room.mk a0) x6 x10).bind fun x11 =>
  some (.inl ((w64 (s7.1 + 1)),(kset s7.2 (dress_pair.mk s3.1 s7.1) x11)))
 else
  some (.inr s7.2)
def A6q (a0:DrRoom) (s3:(Int × (List (dress_pair × dress_change)))):Option ((Int × (List (dress_pair × dress_change))) ⊕ (List (dress_pair × dress_change))) :=
 if (decide (s3.1 < (List.length a0.Figures:Int))) = true then
  (idx a0.Figures s3.1).bind fun x6 =>
  (loop (B03 a0 s3 x6) (0,s3.2)).bind fun (o12:(List (dress_pair × dress_change))) =>
  some (.inl ((w64 (s3.1 + 1)),o12))
 else
  some (.inr s3.2)
def W8 (a0:DrRoom):Option ((List Int) × Int × Int) :=
 (M0 a0).bind fun x1 =>
 if (x1.2.2 != 0) = true then
  some (([]:List Int),0,x1.2.2)
 else
  (loop (A6q a0) (0,([]:(List (dress_pair × dress_change))))).bind fun (o13:(List (dress_pair × dress_change))) =>
  (J8 (dress_room.mk a0)).bind fun x14 =>
  (Q2 a0 o13 x14).bind fun x15 =>
  if (!x15.2) = true then
  some (([]:List Int),0,9)
  else
  some (x15.1.figures_,x15.1.cost_,0)
theorem A0l {c:Sc} {H:A1} (hscv:S8 c H = true) {a0:DrRoom} {r:((List Int) × Int × Int)} (h:W8 a0 = some r) :
  F0 tab c H (.fn (.func 26) [] []) [(.agg (A3 a0))] [(.seq 1 (List.map cI r.1)),.i r.2.1,.i r.2.2]:= by
 unfold W8 at h
 refine cE rfl rfl<|sg 0 rfl<|A0 (F6 (cs:=A3 a0) rfl rfl rfl) rfl<|qm rfl<|qm rfl<|qm rfl<|es (ra1 rfl)<|s0<|A0 (C2 rfl rfl rfl) rfl<|A3x (as2:=[(.agg (A3 a0))]) (H1:=(H++[(.cells (A3 a0))])) rfl rfl (A2 (C9 rfl) B5) rfl rfl rfl (A8c rfl)<|sg 1 rfl<|A0 (F6 (cs:=A3 a0) rfl rfl rfl) rfl<|qm rfl<|qm rfl<|es (ra1 rfl)<|B6<|s0<|oB h fun x1 hx1 h=>A0 (C2 rfl rfl rfl) rfl<|B4 (rs:=[.i x1.1,.i x1.2.1,.i x1.2.2]) rfl rfl (A2 (C9 rfl) B5) ((U6 hx1).frz)<|qm rfl<|A0 (A5 rfl rfl) rfl<|A0 (A5 rfl rfl) rfl<|A0 (A5 rfl rfl) rfl<|qm rfl<|qm rfl<|qm rfl<|es (ra2 rfl rfl)<|s0<|qm rfl<|A0 (J1 rfl rfl) rfl<|es (ra3 rfl rfl rfl)<|wi h rfl (fun hc2 h=>?_) fun hc2 h=>?_
 ·refine s0<|qm rfl<|qm rfl<|qm rfl<|es (ra2 rfl rfl)<|C4<|InlQ.mk trivial ⟨_,_,_,[(.lit (.pointer none)),.i x1.2.2],_,(B1 rfl (B1 rfl B8)),(A7 rfl (A7 rfl B9)),(B1n (A4 A8 (A4 A8 B2)) (L1 rfl (L1 rfl A27)) (A0h _ _ _)),?_⟩
  refine qm rfl<|A0 (A5 rfl rfl) rfl<|A0 (A5 rfl rfl) rfl<|qm rfl<|qm rfl<|es (ra2 rfl rfl)<|B6<|s0<|qm rfl<|A0 (J1 rfl rfl) rfl<|es (ra3 rfl rfl rfl)<|T0 rfl hc2<|s0<|qm rfl<|qm rfl<|qm rfl<|qm rfl<|es (ra3 rfl rfl rfl)<|C4 ?_
  obtain rfl:=os h
  exact retq trivial (B1 rfl (B1 rfl (B1 rfl B8))) (A7 rfl (A7 rfl (A7 rfl B9))) (A4 E6 (A4 A8 (A4 A8 B2)))
 ·refine C1<|sg 2 rfl<|A0 (C2 rfl rfl rfl) rfl<|A0 B3d rfl<|A0 (L6 (cs:=[(.seq 1 (List.map cI a0.Costs)),(.seq 1 (List.map cI a0.Ounces)),(.seq 3 (List.map A6 a0.Figures)),(.seq 3 (List.map A6 a0.Persons)),(.mp (H.length + 2))]) rfl rfl) rfl<|A0 (F6 (cs:=[(.seq 1 (List.map cI a0.Costs)),(.seq 1 (List.map cI a0.Ounces)),(.seq 3 (List.map A6 a0.Figures)),(.seq 3 (List.map A6 a0.Persons)),(.mp (H.length + 2))]) rfl rfl rfl) rfl<|qm rfl<|es (ra2 rfl rfl)<|B6<|s0<|A0 (D2 rfl) rfl<|A0 (C8 rfl rfl rfl) rfl<|A0 (D4 (f:=A6) rfl) rfl<|qm rfl<|es (ra5 rfl rfl rfl rfl rfl)<|C3<|oB h fun o13 ho13 h=>wl (fun s3=>[(1,(.ptr (H.length + 1) 0)),(7,(.ptr (H.length + 3) 0)),(26,(.seq 3 (List.map A6 a0.Figures))),(27,(.i (List.length a0.Figures:Int))),(28,.i s3.1)]) (fun (q4:Unit) s3=>[(.cells (A3 a0)),(.cells (A3 a0)),(.map (List.map (kE (fun x=>(.agg (D3 x))) (fun x=>(.agg (B7 x)))) s3.2)),(.cells [(.seq 1 (List.map cI a0.Costs)),(.seq 1 (List.map cI a0.Ounces)),(.seq 3 (List.map A6 a0.Figures)),(.seq 3 (List.map A6 a0.Persons)),(.mp (H.length + 2))])]) 4 (fun r e s' H'=>PX 0 [(7,(.ptr (H.length + 3) 0))] (H++[(.cells (A3 a0)),(.cells (A3 a0)),(.map (List.map (kE (fun x=>(.agg (D3 x))) (fun x=>(.agg (B7 x)))) r)),(.cells [(.seq 1 (List.map cI a0.Costs)),(.seq 1 (List.map cI a0.Ounces)),(.seq 3 (List.map A6 a0.Figures)),(.seq 3 (List.map A6 a0.Persons)),(.mp (H.length + 2))])]) e s' H') () ho13 rfl rfl (fun _ _=>rfl) (fun _=>rfl) rfl (fun s3=>(bdc (E8 rfl) (bdc (E8 rfl) (bdc E6 (bdc A8 (bdc A8 bdn)))))) (fun q4 s3 ys3 hs3=>?_) ?_
  ·unfold A6q at hs3
   refine s0<|A0 (G3 rfl rfl) rfl<|es (ra6 rfl rfl rfl rfl rfl rfl)<|B6<|wi hs3 rfl (fun hc5 hs3=>?_) fun hc5 hs3=>?_
   ·refine C1<|B6<|C3<|sg 4 rfl<|oB hs3 fun x6 hx6 hs3=>qm rfl<|A0 (E3 (f:=A6) rfl rfl hx6) rfl<|A0 (M2 rfl rfl) rfl<|A0 E4 rfl<|qm rfl<|I0 (D1 (ds:=(A6 x6)) rfl rfl rfl rfl (C5 rfl) rfl) rfl<|es (ra7 rfl rfl rfl rfl rfl rfl rfl)<|s0<|A0 (D2 rfl) rfl<|A0 (C8 rfl rfl rfl) rfl<|A0 (D4 (f:=A6) rfl) rfl<|qm rfl<|es (ra10 rfl rfl rfl rfl rfl rfl rfl rfl rfl rfl)<|C3<|oB hs3 fun o12 ho12 hs3=>wl (fun s7=>[(1,(.ptr (H.length + 1) 0)),(7,(.ptr (H.length + 3) 0)),(8,.i s3.1),(9,(.ptr (H.length + 4) 0)),(26,(.seq 3 (List.map A6 a0.Figures))),(27,(.i (List.length a0.Figures:Int))),(28,.i s3.1),(34,(.seq 3 (List.map A6 a0.Persons))),(35,(.i (List.length a0.Persons:Int))),(36,.i s7.1)]) (fun (q8:Unit) s7=>[(.cells (A3 a0)),(.cells (A3 a0)),(.map (List.map (kE (fun x=>(.agg (D3 x))) (fun x=>(.agg (B7 x)))) s7.2)),(.cells [(.seq 1 (List.map cI a0.Costs)),(.seq 1 (List.map cI a0.Ounces)),(.seq 3 (List.map A6 a0.Figures)),(.seq 3 (List.map A6 a0.Persons)),(.mp (H.length + 2))]),(.cells (A6 x6))]) 5 (fun r e s' H'=>PX 2 [(1,(.ptr (H.length + 1) 0)),(7,(.ptr (H.length + 3) 0)),(26,(.seq 3 (List.map A6 a0.Figures))),(27,(.i (List.length a0.Figures:Int))),(28,.i s3.1)] (H++[(.cells (A3 a0)),(.cells (A3 a0)),(.map (List.map (kE (fun x=>(.agg (D3 x))) (fun x=>(.agg (B7 x)))) r)),(.cells [(.seq 1 (List.map cI a0.Costs)),(.seq 1 (List.map cI a0.Ounces)),(.seq 3 (List.map A6 a0.Figures)),(.seq 3 (List.map A6 a0.Persons)),(.mp (H.length + 2))]),(.cells (A6 x6))]) e s' H') () ho12 rfl rfl (fun _ _=>rfl) (fun _=>rfl) rfl (fun s7=>(bdc (E8 rfl) (bdc (E8 rfl) (bdc A8 (bdc (E8 rfl) (bdc E6 (bdc A8 (bdc A8 (bdc E6 (bdc A8 (bdc A8 bdn))))))))))) (fun q8 s7 ys7 hs7=>?_) ?_
    ·unfold B03 at hs7
     refine s0<|A0 (G3 rfl rfl) rfl<|es (ra11 rfl rfl rfl rfl rfl rfl rfl rfl rfl rfl rfl)<|B6<|wi hs7 rfl (fun hc9 hs7=>?_) fun hc9 hs7=>?_
     ·refine C1<|B6<|C3<|sg 5 rfl<|oB hs7 fun x10 hx10 hs7=>qm rfl<|A0 (E3 (f:=A6) rfl rfl hx10) rfl<|A0 (M2 rfl rfl) rfl<|A0 E4 rfl<|qm rfl<|I0 (D1 (ds:=(A6 x10)) rfl rfl rfl rfl (C5 rfl) rfl) rfl<|es (ra12 rfl rfl rfl rfl rfl rfl rfl rfl rfl rfl rfl rfl)<|r0<|oB hs7 fun x11 hx11 hs7=>qm rfl<|A0 (A1l rfl rfl) rfl<|A0 (D2 rfl) rfl<|A0 (C8 (x:=(.mp (H.length + 2))) rfl rfl rfl) rfl<|qm rfl<|qm rfl<|A0 (L6 (cs:=D3 (dress_pair.mk s3.1 s7.1)) rfl rfl) rfl<|qm rfl<|A0 (C2 rfl rfl rfl) rfl<|A0 (C2 rfl rfl rfl) rfl<|A05 (rs:=[(.agg (B7 x11))]) rfl rfl (L7 rfl (L7 rfl (L7 rfl A3z))) (A2 rfl (A2 (C9 rfl) (A2 (C9 rfl) B5))) ((S4 (A01 rfl) hx11).frz)<|I0 (B3b (av:=(fun x=>(.agg (D3 x)))) (gv:=(fun x=>(.agg (B7 x)))) (k:=(dress_pair.mk s3.1 s7.1)) (v:=x11) R0 rfl rfl rfl rfl rfl) rfl<|en (ra10 rfl rfl rfl rfl rfl rfl rfl rfl rfl rfl)<|r0<|A0 (E7 rfl rfl) rfl<|qm rfl<|en (ra10 rfl rfl rfl rfl rfl rfl rfl rfl rfl rfl) ?_
      cases hs7
      exact lnT () rfl (su10 rfl rfl rfl rfl rfl rfl rfl rfl rfl rfl)
     ·refine F3 ?_
      obtain rfl:=os hs7
      exact lx rfl px (su5 rfl rfl rfl rfl rfl)
    ·rintro e s' H' - ⟨rfl,rfl,rfl⟩
     refine r0<|A0 (E7 rfl rfl) rfl<|qm rfl<|en (ra5 rfl rfl rfl rfl rfl) ?_
     cases hs3
     exact lnT () rfl (su5 rfl rfl rfl rfl rfl)
   ·refine F3 ?_
    obtain rfl:=os hs3
    exact lx rfl px (su1 rfl)
  ·rintro e s' H' - ⟨rfl,rfl,rfl⟩
   refine s0<|qm rfl<|qm rfl<|qm rfl<|es (ra2 rfl rfl)<|C4<|InlQ.mk trivial ⟨_,_,_,[(.ptr (H.length + 3) 0),.i 0],_,(B1 rfl (B1 rfl B8)),(A7 rfl (A7 rfl B9)),(A79 (A22 (A7w rfl)) (L1 rfl (L1 rfl A27))),?_⟩
   refine qm rfl<|A0 (A5 rfl rfl) rfl<|A0 (A5 rfl rfl) rfl<|qm rfl<|qm rfl<|es (ra2 rfl rfl)<|B6<|s0<|qm rfl<|A0 (O4 (v:=(.b false)) rfl rfl rfl) rfl<|es (ra3 rfl rfl rfl)<|A0e rfl rfl<|C1<|sg 4 rfl<|oB h fun x14 hx14 h=>oB h fun x15 hx15 h=>qm rfl<|qm rfl<|B4 (rs:=[.i x14]) rfl rfl (A2 rfl B5) ((N4 (D7 rfl) hx14).frz)<|B4 (rs:=[(.agg (A9 x15.1)),.b x15.2]) rfl rfl (A2 rfl (A2 rfl B5)) (B6l (t:=a0) (ch:=o13) ⟨_,D7 rfl,A1z rfl⟩ (A1b hscv) hx15)<|qm rfl<|A0 (A5 rfl rfl) rfl<|A0 (A5 rfl rfl) rfl<|A0 E4 rfl<|I0 (D1 (ds:=(A9 x15.1)) rfl rfl rfl rfl (C5 rfl) rfl) rfl<|qm rfl<|es (ra2 rfl rfl)<|B6<|s0<|qm rfl<|A0 (S7 rfl) rfl<|es (ra2 rfl rfl)<|wi h rfl (fun hc16 h=>?_) fun hc16 h=>?_
   ·refine s0<|qm rfl<|qm rfl<|qm rfl<|es (ra3 rfl rfl rfl)<|C4 ?_
    obtain rfl:=os h
    exact retq trivial (B1 rfl (B1 rfl (B1 rfl B8))) (A7 rfl (A7 rfl (A7 rfl B9))) (A4 E6 (A4 A8 (A4 A8 B2)))
   ·refine C1<|s0<|A0 (D2 rfl) rfl<|A0 (C8 rfl rfl rfl) rfl<|A0 (D2 rfl) rfl<|A0 (C8 rfl rfl rfl) rfl<|qm rfl<|qm rfl<|qm rfl<|es (ra3 rfl rfl rfl)<|C4 ?_
    obtain rfl:=os h
    exact retq trivial (B1 rfl (B1 rfl (B1 rfl B8))) (A7 rfl (A7 rfl (A7 rfl B9))) (A4 E6 (A4 A8 (A4 A8 B2)))
def A0i (a0:Int):Option Bool :=
 some (a0 != a0)
theorem A1m {c:Sc} {H:A1} {a0:Int} {r:Bool} (h:A0i a0 = some r) :
  F0 tab c H (.fn (.func 116) [] []) [.i a0] [.b r]:= by
 unfold A0i at h
 refine cE rfl rfl<|s0<|qm rfl<|es (ra1 rfl)<|s0<|qm rfl<|qm rfl<|A0 (J1 rfl rfl) rfl<|qm rfl<|es (ra1 rfl)<|C4 ?_
 obtain rfl:=os h
 exact retq trivial (B1 rfl B8) (A7 rfl B9) (A4 A8 B2)
def A4t (a0:Int) (a1:Int):Option Int :=
 (A0i a0).bind fun x1 =>
 (A0i a1).bind fun x2 =>
 if x1 = true then
  if x2 = true then
  some 0
  else
  some (-1)
 else
  if x2 = true then
  some 1
  else
  if (decide (a0 < a1)) = true then
   some (-1)
  else
   if (decide (a0 > a1)) = true then
   some 1
   else
   some 0
theorem B1s {c:Sc} {H:A1} {a0:Int} {a1:Int} {r:Int} (h:A4t a0 a1 = some r) :
  F0 tab c H (.fn (.func 98) [] []) [.i a0,.i a1] [.i r]:= by
 unfold A4t at h
 refine cE rfl rfl<|s0<|qm rfl<|es (ra2 rfl rfl)<|s0<|oB h fun x1 hx1 h=>qm rfl<|B4 (rs:=[.b x1]) rfl rfl (A2 rfl B5) ((A1m hx1).frz)<|qm rfl<|es (ra3 rfl rfl rfl)<|s0<|oB h fun x2 hx2 h=>qm rfl<|B4 (rs:=[.b x2]) rfl rfl (A2 rfl B5) ((A1m hx2).frz)<|qm rfl<|es (ra4 rfl rfl rfl rfl)<|B6<|s0<|qm rfl<|es (ra4 rfl rfl rfl rfl)<|wi h rfl (fun hc3 h=>?_) fun hc3 h=>?_
 ·refine B6<|s0<|qm rfl<|es (ra1 rfl)<|wi h rfl (fun hc4 h=>?_) fun hc4 h=>?_
  ·refine s0<|qm rfl<|es (ra1 rfl)<|C4 ?_
   obtain rfl:=os h
   exact retq trivial (B1 rfl B8) (A7 rfl B9) (A4 A8 B2)
  ·refine C1<|s0<|qm rfl<|es (ra1 rfl)<|C4 ?_
   obtain rfl:=os h
   exact retq trivial (B1 rfl B8) (A7 rfl B9) (A4 A8 B2)
 ·refine C1<|B6<|s0<|qm rfl<|es (ra3 rfl rfl rfl)<|wi h rfl (fun hc5 h=>?_) fun hc5 h=>?_
  ·refine s0<|qm rfl<|es (ra1 rfl)<|C4 ?_
   obtain rfl:=os h
   exact retq trivial (B1 rfl B8) (A7 rfl B9) (A4 A8 B2)
  ·refine C1<|B6<|s0<|qm rfl<|qm rfl<|A0 (G3 rfl rfl) rfl<|es (ra3 rfl rfl rfl)<|wi h rfl (fun hc6 h=>?_) fun hc6 h=>?_
   ·refine s0<|qm rfl<|es (ra1 rfl)<|C4 ?_
    obtain rfl:=os h
    exact retq trivial (B1 rfl B8) (A7 rfl B9) (A4 A8 B2)
   ·refine C1<|B6<|s0<|qm rfl<|qm rfl<|A0 (A80 rfl rfl) rfl<|es (ra1 rfl)<|wi h rfl (fun hc7 h=>?_) fun hc7 h=>?_
    ·refine s0<|qm rfl<|es (ra1 rfl)<|C4 ?_
     obtain rfl:=os h
     exact retq trivial (B1 rfl B8) (A7 rfl B9) (A4 A8 B2)
    ·refine C1<|s0<|qm rfl<|es (ra1 rfl)<|C4 ?_
     obtain rfl:=os h
     exact retq trivial (B1 rfl B8) (A7 rfl B9) (A4 A8 B2)
def A1u (a0:(List Int)) (a1:(List Int)) (s1:Int):Option (Int ⊕ (Int ⊕ Unit)) :=
 if (decide (s1 < (List.length a0:Int))) = true then
  (idx a0 s1).bind fun x4 =>
  if (decide (s1 ≥ (List.length a1:Int))) = true then
  some (.inr (.inl 1))
  else
  (idx a1 s1).bind fun x6 =>
  (A4t x4 x6).bind fun x7 =>
  if (x7 != 0) = true then
   some (.inr (.inl x7))
  else
   some (.inl (w64 (s1 + 1)))
 else
  some (.inr (.inr ()))
def A0c (a0:(List Int)) (a1:(List Int)):Option Int :=
 (loop (A1u a0 a1) 0).bind fun (o9:(Int ⊕ Unit)) =>
 match o9 with
 | (.inl vo9_0) =>
  some vo9_0
 | (.inr vo9_1) =>
  if (decide ((List.length a0:Int) < (List.length a1:Int))) = true then
  some (-1)
  else
  some 0
theorem A59 {c:Sc} {H:A1} {a0:(List Int)} {a1:(List Int)} {r:Int} (h:A0c a0 a1 = some r) :
  F0 tab c H (.fn (.func 69) [] []) [(.seq 1 (List.map cI a0)),(.seq 1 (List.map cI a1))] [.i r]:= by
 unfold A0c at h
 refine cE rfl rfl<|s0<|qm rfl<|es (ra2 rfl rfl)<|B6<|s0<|qm rfl<|A0 (D4 (f:=cI) rfl) rfl<|qm rfl<|es (ra5 rfl rfl rfl rfl rfl)<|C3<|oB h fun o9 ho9 h=>wl (fun s1=>[(0,(.seq 1 (List.map cI a0))),(1,(.seq 1 (List.map cI a1))),(9,(.seq 1 (List.map cI a0))),(10,(.i (List.length a0:Int))),(11,.i s1)]) (fun (q2:Unit) s1=>[]) 0 (fun r e s' H'=>(match r with | (.inl v)=>e = .ret∧RetQ H [.tmp 4] [.i v] e s' H' | (.inr v)=>PX 0 [(0,(.seq 1 (List.map cI a0))),(1,(.seq 1 (List.map cI a1)))] (H++[]) e s' H':Prop)) () ho9 rfl rfl (fun _ _=>rfl) (fun _=>rfl) rfl (fun s1=>(bdc E6 (bdc E6 (bdc E6 (bdc A8 (bdc A8 bdn)))))) (fun q2 s1 ys1 hs1=>?_) ?_
 ·unfold A1u at hs1
  refine s0<|A0 (G3 rfl rfl) rfl<|es (ra6 rfl rfl rfl rfl rfl rfl)<|B6<|wi hs1 rfl (fun hc3 hs1=>?_) fun hc3 hs1=>?_
  ·refine C1<|B6<|C3<|s0<|oB hs1 fun x4 hx4 hs1=>qm rfl<|A0 (E3 (f:=cI) rfl rfl hx4) rfl<|A0 (E9 rfl rfl) rfl<|qm rfl<|qm rfl<|es (ra7 rfl rfl rfl rfl rfl rfl rfl)<|B6<|s0<|qm rfl<|qm rfl<|A0 (D4 (f:=cI) rfl) rfl<|A0 (A66 rfl rfl) rfl<|es (ra8 rfl rfl rfl rfl rfl rfl rfl rfl)<|wi hs1 rfl (fun hc5 hs1=>?_) fun hc5 hs1=>?_
   ·refine s0<|qm rfl<|es (ra1 rfl)<|C4 ?_
    obtain rfl:=os hs1
    exact lx rfl (And.intro rfl (retq trivial (B1 rfl B8) (A7 rfl B9) (A4 A8 B2))) (Sub.refl _)
   ·refine C1<|s0<|oB hs1 fun x6 hx6 hs1=>qm rfl<|qm rfl<|A0 (E3 (f:=cI) rfl rfl hx6) rfl<|A0 (E9 rfl rfl) rfl<|qm rfl<|es (ra7 rfl rfl rfl rfl rfl rfl rfl)<|s0<|oB hs1 fun x7 hx7 hs1=>qm rfl<|qm rfl<|B4 (rs:=[.i x7]) rfl rfl (A2 rfl (A2 rfl B5)) ((B1s hx7).frz)<|qm rfl<|es (ra6 rfl rfl rfl rfl rfl rfl)<|s0<|qm rfl<|A0 (J1 rfl rfl) rfl<|es (ra7 rfl rfl rfl rfl rfl rfl rfl)<|wi hs1 rfl (fun hc8 hs1=>?_) fun hc8 hs1=>?_
    ·refine s0<|qm rfl<|qm rfl<|es (ra1 rfl)<|C4 ?_
     obtain rfl:=os hs1
     exact lx rfl (And.intro rfl (retq trivial (B1 rfl B8) (A7 rfl B9) (A4 A8 B2))) (Sub.refl _)
    ·refine C1<|r0<|A0 (E7 rfl rfl) rfl<|qm rfl<|en (ra5 rfl rfl rfl rfl rfl) ?_
     cases hs1
     exact lnT () rfl (su5 rfl rfl rfl rfl rfl)
  ·refine F3 ?_
   obtain rfl:=os hs1
   exact lx rfl px (su2 rfl rfl)
 ·rcases o9 with vo9_0 | vo9_1
  ·rintro e s' H' - ⟨rfl,hret⟩
   cases h
   exact hret
  ·rintro e s' H' - ⟨rfl,rfl,rfl⟩
   refine B6<|s0<|qm rfl<|A0 (D4 (f:=cI) rfl) rfl<|qm rfl<|A0 (D4 (f:=cI) rfl) rfl<|A0 (G3 rfl rfl) rfl<|es (ra1 rfl)<|wi h rfl (fun hc10 h=>?_) fun hc10 h=>?_
   ·refine s0<|qm rfl<|es (ra1 rfl)<|C4 ?_
    obtain rfl:=os h
    exact retq trivial (B1 rfl B8) (A7 rfl B9) (A4 A8 B2)
   ·refine C1<|s0<|qm rfl<|es (ra1 rfl)<|C4 ?_
    obtain rfl:=os h
    exact retq trivial (B1 rfl B8) (A7 rfl B9) (A4 A8 B2)
def B2j (a0:DrRoom) (s3:(Int × (List (dress_pair × dress_change)))) (x6:DrLook) (s7:(Int × (List (dress_pair × dress_change)))):Option ((Int × (List (dress_pair × dress_change))) ⊕ (List (dress_pair × dress_change))) :=
 if (decide (s7.1 < (List.length a0.Persons:Int))) = true then
  (idx a0.Persons s7.1).bind fun x10 =>
  (N5 (dress_room.mk a0) x6 x10).bind fun x11 =>
  some (.inl ((w64 (s7.1 + 1)),(kset s7.2 (dress_pair.mk s3.1 s7.1) x11)))
 else
  some (.inr s7.2)
def B2k (a0:DrRoom) (s3:(Int × (List (dress_pair × dress_change)))):Option ((Int × (List (dress_pair × dress_change))) ⊕ (List (dress_pair × dress_change))) :=
 if (decide (s3.1 < (List.length a0.Figures:Int))) = true then
  (idx a0.Figures s3.1).bind fun x6 =>
  (loop (B2j a0 s3 x6) (0,s3.2)).bind fun (o12:(List (dress_pair × dress_change))) =>
  some (.inl ((w64 (s3.1 + 1)),o12))
 else
  some (.inr s3.2)
def B2l (a0:DrRoom) (s15:((List Int) × Bool × Int)) (s18:(Int × (List Int))):Option ((Int × (List Int)) ⊕ (List Int)) :=
 if (decide (s18.1 < (List.length a0.Persons:Int))) = true then
  (B9b .i64 s15.2.2 s18.1).bind fun x21 =>
  if ((B1f x21 1) == 1) = true then
  (app 8 s18.2 [s18.1]).bind fun x23 =>
  some (.inl ((w64 (s18.1 + 1)),x23))
  else
  some (.inl ((w64 (s18.1 + 1)),s18.2))
 else
  some (.inr s18.2)
def B2m (a0:DrRoom) (o13:(List (dress_pair × dress_change))) (x14:Int) (s15:((List Int) × Bool × Int)):Option (((List Int) × Bool × Int) ⊕ (List Int)) :=
 if (decide (s15.2.2 < x14)) = true then
  (loop (B2l a0 s15) (0,([]:List Int))).bind fun (o24:(List Int)) =>
  (if s15.2.1 = true then
  (if (decide ((List.length o24:Int) > (List.length s15.1:Int))) = true then
   some true
  else
   (if ((List.length o24:Int) == (List.length s15.1:Int)) = true then
   (A0c o24 s15.1).bind fun x28 =>
   some (decide (x28 > 0))
   else
   some false).bind fun x29 =>
   some x29).bind fun x30 =>
  some x30
  else
  some false).bind fun x31 =>
  if x31 = true then
  some (.inl (s15.1,s15.2.1,(w64 (s15.2.2 + 1))))
  else
  (J8 (dress_room.mk a0)).bind fun x33 =>
  (T1 a0 o13 (B2b x33 s15.2.2)).bind fun x34 =>
  if (decide ((List.length x34:Int) > 0)) = true then
   some (.inl (o24,true,(w64 (s15.2.2 + 1))))
  else
   some (.inl (s15.1,s15.2.1,(w64 (s15.2.2 + 1))))
 else
  some (.inr s15.1)
def A99 (a0:DrRoom):Option ((List Int) × Int) :=
 (M0 a0).bind fun x1 =>
 if (x1.2.2 != 0) = true then
  some (([]:List Int),x1.2.2)
 else
  (loop (B2k a0) (0,([]:(List (dress_pair × dress_change))))).bind fun (o13:(List (dress_pair × dress_change))) =>
  (C0e .i64 1 (List.length a0.Persons:Int)).bind fun x14 =>
  (loop (B2m a0 o13 x14) (([]:List Int),false,0)).bind fun (o36:(List Int)) =>
  some (o36,0)
theorem B3f {c:Sc} {H:A1} (hscv:S8 c H = true) {a0:DrRoom} {r:((List Int) × Int)} (h:A99 a0 = some r) :
  F0 tab c H (.fn (.func 32) [] []) [(.agg (A3 a0))] [(.seq 1 (List.map cI r.1)),.i r.2]:= by
 unfold A99 at h
 refine cE rfl rfl<|sg 0 rfl<|A0 (F6 (cs:=A3 a0) rfl rfl rfl) rfl<|qm rfl<|qm rfl<|es (ra2 rfl rfl)<|s0<|A0 (C2 rfl rfl rfl) rfl<|A3x (as2:=[(.agg (A3 a0))]) (H1:=(H++[(.cells (A3 a0))])) rfl rfl (A2 (C9 rfl) B5) rfl rfl rfl (A8c rfl)<|sg 1 rfl<|A0 (F6 (cs:=A3 a0) rfl rfl rfl) rfl<|qm rfl<|qm rfl<|es (ra1 rfl)<|B6<|s0<|oB h fun x1 hx1 h=>A0 (C2 rfl rfl rfl) rfl<|B4 (rs:=[.i x1.1,.i x1.2.1,.i x1.2.2]) rfl rfl (A2 (C9 rfl) B5) ((U6 hx1).frz)<|qm rfl<|A0 (A5 rfl rfl) rfl<|A0 (A5 rfl rfl) rfl<|A0 (A5 rfl rfl) rfl<|qm rfl<|qm rfl<|qm rfl<|es (ra2 rfl rfl)<|s0<|qm rfl<|A0 (J1 rfl rfl) rfl<|es (ra3 rfl rfl rfl)<|wi h rfl (fun hc2 h=>?_) fun hc2 h=>?_
 ·refine s0<|qm rfl<|qm rfl<|qm rfl<|es (ra2 rfl rfl)<|C4<|InlQ.mk trivial ⟨_,_,_,[(.lit (.pointer none)),.i x1.2.2],_,(B1 rfl (B1 rfl B8)),(A7 rfl (A7 rfl B9)),(B1n (A4 A8 (A4 A8 B2)) (L1 rfl (L1 rfl A27)) (A0h _ _ _)),?_⟩
  refine qm rfl<|A0 (A5 rfl rfl) rfl<|A0 (A5 rfl rfl) rfl<|qm rfl<|qm rfl<|es (ra4 rfl rfl rfl rfl)<|B6<|s0<|qm rfl<|A0 (J1 rfl rfl) rfl<|es (ra5 rfl rfl rfl rfl rfl)<|T0 rfl hc2<|s0<|qm rfl<|qm rfl<|qm rfl<|es (ra2 rfl rfl)<|C4 ?_
  obtain rfl:=os h
  exact retq trivial (B1 rfl (B1 rfl B8)) (A7 rfl (A7 rfl B9)) (A4 E6 (A4 A8 B2))
 ·refine C1<|sg 2 rfl<|A0 (C2 rfl rfl rfl) rfl<|A0 B3d rfl<|A0 (L6 (cs:=[(.seq 1 (List.map cI a0.Costs)),(.seq 1 (List.map cI a0.Ounces)),(.seq 3 (List.map A6 a0.Figures)),(.seq 3 (List.map A6 a0.Persons)),(.mp (H.length + 2))]) rfl rfl) rfl<|A0 (F6 (cs:=[(.seq 1 (List.map cI a0.Costs)),(.seq 1 (List.map cI a0.Ounces)),(.seq 3 (List.map A6 a0.Figures)),(.seq 3 (List.map A6 a0.Persons)),(.mp (H.length + 2))]) rfl rfl rfl) rfl<|qm rfl<|es (ra2 rfl rfl)<|B6<|s0<|A0 (D2 rfl) rfl<|A0 (C8 rfl rfl rfl) rfl<|A0 (D4 (f:=A6) rfl) rfl<|qm rfl<|es (ra5 rfl rfl rfl rfl rfl)<|C3<|oB h fun o13 ho13 h=>wl (fun s3=>[(1,(.ptr (H.length + 1) 0)),(7,(.ptr (H.length + 3) 0)),(26,(.seq 3 (List.map A6 a0.Figures))),(27,(.i (List.length a0.Figures:Int))),(28,.i s3.1)]) (fun (q4:Unit) s3=>[(.cells (A3 a0)),(.cells (A3 a0)),(.map (List.map (kE (fun x=>(.agg (D3 x))) (fun x=>(.agg (B7 x)))) s3.2)),(.cells [(.seq 1 (List.map cI a0.Costs)),(.seq 1 (List.map cI a0.Ounces)),(.seq 3 (List.map A6 a0.Figures)),(.seq 3 (List.map A6 a0.Persons)),(.mp (H.length + 2))])]) 4 (fun r e s' H'=>PX 0 [(7,(.ptr (H.length + 3) 0))] (H++[(.cells (A3 a0)),(.cells (A3 a0)),(.map (List.map (kE (fun x=>(.agg (D3 x))) (fun x=>(.agg (B7 x)))) r)),(.cells [(.seq 1 (List.map cI a0.Costs)),(.seq 1 (List.map cI a0.Ounces)),(.seq 3 (List.map A6 a0.Figures)),(.seq 3 (List.map A6 a0.Persons)),(.mp (H.length + 2))])]) e s' H') () ho13 rfl rfl (fun _ _=>rfl) (fun _=>rfl) rfl (fun s3=>(bdc (E8 rfl) (bdc (E8 rfl) (bdc E6 (bdc A8 (bdc A8 bdn)))))) (fun q4 s3 ys3 hs3=>?_) ?_
  ·unfold B2k at hs3
   refine s0<|A0 (G3 rfl rfl) rfl<|es (ra6 rfl rfl rfl rfl rfl rfl)<|B6<|wi hs3 rfl (fun hc5 hs3=>?_) fun hc5 hs3=>?_
   ·refine C1<|B6<|C3<|sg 4 rfl<|oB hs3 fun x6 hx6 hs3=>qm rfl<|A0 (E3 (f:=A6) rfl rfl hx6) rfl<|A0 (M2 rfl rfl) rfl<|A0 E4 rfl<|qm rfl<|I0 (D1 (ds:=(A6 x6)) rfl rfl rfl rfl (C5 rfl) rfl) rfl<|es (ra7 rfl rfl rfl rfl rfl rfl rfl)<|s0<|A0 (D2 rfl) rfl<|A0 (C8 rfl rfl rfl) rfl<|A0 (D4 (f:=A6) rfl) rfl<|qm rfl<|es (ra10 rfl rfl rfl rfl rfl rfl rfl rfl rfl rfl)<|C3<|oB hs3 fun o12 ho12 hs3=>wl (fun s7=>[(1,(.ptr (H.length + 1) 0)),(7,(.ptr (H.length + 3) 0)),(8,.i s3.1),(9,(.ptr (H.length + 4) 0)),(26,(.seq 3 (List.map A6 a0.Figures))),(27,(.i (List.length a0.Figures:Int))),(28,.i s3.1),(34,(.seq 3 (List.map A6 a0.Persons))),(35,(.i (List.length a0.Persons:Int))),(36,.i s7.1)]) (fun (q8:Unit) s7=>[(.cells (A3 a0)),(.cells (A3 a0)),(.map (List.map (kE (fun x=>(.agg (D3 x))) (fun x=>(.agg (B7 x)))) s7.2)),(.cells [(.seq 1 (List.map cI a0.Costs)),(.seq 1 (List.map cI a0.Ounces)),(.seq 3 (List.map A6 a0.Figures)),(.seq 3 (List.map A6 a0.Persons)),(.mp (H.length + 2))]),(.cells (A6 x6))]) 5 (fun r e s' H'=>PX 2 [(1,(.ptr (H.length + 1) 0)),(7,(.ptr (H.length + 3) 0)),(26,(.seq 3 (List.map A6 a0.Figures))),(27,(.i (List.length a0.Figures:Int))),(28,.i s3.1)] (H++[(.cells (A3 a0)),(.cells (A3 a0)),(.map (List.map (kE (fun x=>(.agg (D3 x))) (fun x=>(.agg (B7 x)))) r)),(.cells [(.seq 1 (List.map cI a0.Costs)),(.seq 1 (List.map cI a0.Ounces)),(.seq 3 (List.map A6 a0.Figures)),(.seq 3 (List.map A6 a0.Persons)),(.mp (H.length + 2))]),(.cells (A6 x6))]) e s' H') () ho12 rfl rfl (fun _ _=>rfl) (fun _=>rfl) rfl (fun s7=>(bdc (E8 rfl) (bdc (E8 rfl) (bdc A8 (bdc (E8 rfl) (bdc E6 (bdc A8 (bdc A8 (bdc E6 (bdc A8 (bdc A8 bdn))))))))))) (fun q8 s7 ys7 hs7=>?_) ?_
    ·unfold B2j at hs7
     refine s0<|A0 (G3 rfl rfl) rfl<|es (ra11 rfl rfl rfl rfl rfl rfl rfl rfl rfl rfl rfl)<|B6<|wi hs7 rfl (fun hc9 hs7=>?_) fun hc9 hs7=>?_
     ·refine C1<|B6<|C3<|sg 5 rfl<|oB hs7 fun x10 hx10 hs7=>qm rfl<|A0 (E3 (f:=A6) rfl rfl hx10) rfl<|A0 (M2 rfl rfl) rfl<|A0 E4 rfl<|qm rfl<|I0 (D1 (ds:=(A6 x10)) rfl rfl rfl rfl (C5 rfl) rfl) rfl<|es (ra12 rfl rfl rfl rfl rfl rfl rfl rfl rfl rfl rfl rfl)<|r0<|oB hs7 fun x11 hx11 hs7=>qm rfl<|A0 (A1l rfl rfl) rfl<|A0 (D2 rfl) rfl<|A0 (C8 (x:=(.mp (H.length + 2))) rfl rfl rfl) rfl<|qm rfl<|qm rfl<|A0 (L6 (cs:=D3 (dress_pair.mk s3.1 s7.1)) rfl rfl) rfl<|qm rfl<|A0 (C2 rfl rfl rfl) rfl<|A0 (C2 rfl rfl rfl) rfl<|A05 (rs:=[(.agg (B7 x11))]) rfl rfl (L7 rfl (L7 rfl (L7 rfl A3z))) (A2 rfl (A2 (C9 rfl) (A2 (C9 rfl) B5))) ((S4 (A01 rfl) hx11).frz)<|I0 (B3b (av:=(fun x=>(.agg (D3 x)))) (gv:=(fun x=>(.agg (B7 x)))) (k:=(dress_pair.mk s3.1 s7.1)) (v:=x11) R0 rfl rfl rfl rfl rfl) rfl<|en (ra10 rfl rfl rfl rfl rfl rfl rfl rfl rfl rfl)<|r0<|A0 (E7 rfl rfl) rfl<|qm rfl<|en (ra10 rfl rfl rfl rfl rfl rfl rfl rfl rfl rfl) ?_
      cases hs7
      exact lnT () rfl (su10 rfl rfl rfl rfl rfl rfl rfl rfl rfl rfl)
     ·refine F3 ?_
      obtain rfl:=os hs7
      exact lx rfl px (su5 rfl rfl rfl rfl rfl)
    ·rintro e s' H' - ⟨rfl,rfl,rfl⟩
     refine r0<|A0 (E7 rfl rfl) rfl<|qm rfl<|en (ra5 rfl rfl rfl rfl rfl) ?_
     cases hs3
     exact lnT () rfl (su5 rfl rfl rfl rfl rfl)
   ·refine F3 ?_
    obtain rfl:=os hs3
    exact lx rfl px (su1 rfl)
  ·rintro e s' H' - ⟨rfl,rfl,rfl⟩
   refine s0<|qm rfl<|qm rfl<|qm rfl<|es (ra2 rfl rfl)<|C4<|InlQ.mk trivial ⟨_,_,_,[(.ptr (H.length + 3) 0),.i 0],_,(B1 rfl (B1 rfl B8)),(A7 rfl (A7 rfl B9)),(A79 (A22 (A7w rfl)) (L1 rfl (L1 rfl A27))),?_⟩
   refine qm rfl<|A0 (A5 rfl rfl) rfl<|A0 (A5 rfl rfl) rfl<|qm rfl<|qm rfl<|es (ra4 rfl rfl rfl rfl)<|B6<|s0<|qm rfl<|A0 (O4 (v:=(.b false)) rfl rfl rfl) rfl<|es (ra5 rfl rfl rfl rfl rfl)<|A0e rfl rfl<|C1<|s0<|qm rfl<|es (ra4 rfl rfl rfl rfl)<|B6<|s0<|oB h fun x14 hx14 h=>A0 (D2 rfl) rfl<|A0 (C8 rfl rfl rfl) rfl<|A0 (D4 (f:=A6) rfl) rfl<|A0 (C5j rfl rfl hx14) rfl<|qm rfl<|es (ra6 rfl rfl rfl rfl rfl rfl)<|C3<|oB h fun o36 ho36 h=>wl (fun s15=>[(1,(.ptr (H.length + 0) 0)),(2,(.seq 1 (List.map cI s15.1))),(4,(.ptr (H.length + 3) 0)),(5,.b s15.2.1),(20,.i x14),(21,.i s15.2.2)]) (fun (q16:Unit) s15=>[(.cells (A3 a0)),(.cells (A3 a0)),(.map (List.map (kE (fun x=>(.agg (D3 x))) (fun x=>(.agg (B7 x)))) o13)),(.cells [(.seq 1 (List.map cI a0.Costs)),(.seq 1 (List.map cI a0.Ounces)),(.seq 3 (List.map A6 a0.Figures)),(.seq 3 (List.map A6 a0.Persons)),(.mp (H.length + 2))])]) 4 (fun r e s' H'=>PX 0 [(2,(.seq 1 (List.map cI r)))] (H++[(.cells (A3 a0)),(.cells (A3 a0)),(.map (List.map (kE (fun x=>(.agg (D3 x))) (fun x=>(.agg (B7 x)))) o13)),(.cells [(.seq 1 (List.map cI a0.Costs)),(.seq 1 (List.map cI a0.Ounces)),(.seq 3 (List.map A6 a0.Figures)),(.seq 3 (List.map A6 a0.Persons)),(.mp (H.length + 2))])]) e s' H') () ho36 rfl rfl (fun _ _=>rfl) (fun _=>rfl) rfl (fun s15=>(bdc (E8 rfl) (bdc E6 (bdc (E8 rfl) (bdc A8 (bdc A8 (bdc A8 bdn))))))) (fun q16 s15 ys15 hs15=>?_) ?_
   ·unfold B2m at hs15
    refine s0<|A0 (G3 rfl rfl) rfl<|es (ra7 rfl rfl rfl rfl rfl rfl rfl)<|B6<|wi hs15 rfl (fun hc17 hs15=>?_) fun hc17 hs15=>?_
    ·refine C1<|B6<|C3<|s0<|qm rfl<|qm rfl<|es (ra7 rfl rfl rfl rfl rfl rfl rfl)<|sg 4 rfl<|A0 A3e rfl<|es (ra8 rfl rfl rfl rfl rfl rfl rfl rfl)<|B6<|s0<|A0 (D2 rfl) rfl<|A0 (C8 rfl rfl rfl) rfl<|A0 (D4 (f:=A6) rfl) rfl<|qm rfl<|es (ra10 rfl rfl rfl rfl rfl rfl rfl rfl rfl rfl)<|C3<|oB hs15 fun o24 ho24 hs15=>wl (fun s18=>[(1,(.ptr (H.length + 0) 0)),(2,(.seq 1 (List.map cI s15.1))),(4,(.ptr (H.length + 3) 0)),(5,.b s15.2.1),(6,.i s15.2.2),(7,(.asl (H.length + 4) (List.length s18.2))),(20,.i x14),(21,.i s15.2.2),(26,(.i (List.length a0.Persons:Int))),(27,.i s18.1)]) (fun (q19:Unit) s18=>[(.cells (A3 a0)),(.cells (A3 a0)),(.map (List.map (kE (fun x=>(.agg (D3 x))) (fun x=>(.agg (B7 x)))) o13)),(.cells [(.seq 1 (List.map cI a0.Costs)),(.seq 1 (List.map cI a0.Ounces)),(.seq 3 (List.map A6 a0.Figures)),(.seq 3 (List.map A6 a0.Persons)),(.mp (H.length + 2))]),(.arr 1 false (List.map cI s18.2))]) 5 (fun r e s' H'=>PX 2 [(1,(.ptr (H.length + 0) 0)),(2,(.seq 1 (List.map cI s15.1))),(4,(.ptr (H.length + 3) 0)),(5,.b s15.2.1),(6,.i s15.2.2),(7,(.asl (H.length + 4) (List.length r))),(20,.i x14),(21,.i s15.2.2)] (H++[(.cells (A3 a0)),(.cells (A3 a0)),(.map (List.map (kE (fun x=>(.agg (D3 x))) (fun x=>(.agg (B7 x)))) o13)),(.cells [(.seq 1 (List.map cI a0.Costs)),(.seq 1 (List.map cI a0.Ounces)),(.seq 3 (List.map A6 a0.Figures)),(.seq 3 (List.map A6 a0.Persons)),(.mp (H.length + 2))]),(.arr 1 false (List.map cI r))]) e s' H') () ho24 rfl rfl (fun _ _=>rfl) (fun _=>rfl) rfl (fun s18=>(bdc (E8 rfl) (bdc E6 (bdc (E8 rfl) (bdc A8 (bdc A8 (bdc (A0s rfl) (bdc A8 (bdc A8 (bdc A8 (bdc A8 bdn))))))))))) (fun q19 s18 ys18 hs18=>?_) ?_
     ·unfold B2l at hs18
      refine s0<|A0 (G3 rfl rfl) rfl<|es (ra11 rfl rfl rfl rfl rfl rfl rfl rfl rfl rfl rfl)<|B6<|wi hs18 rfl (fun hc20 hs18=>?_) fun hc20 hs18=>?_
      ·refine C1<|B6<|C3<|s0<|qm rfl<|qm rfl<|es (ra11 rfl rfl rfl rfl rfl rfl rfl rfl rfl rfl rfl)<|s0<|oB hs18 fun x21 hx21 hs18=>qm rfl<|qm rfl<|A0 (B8e rfl rfl hx21) rfl<|A0 (O4 (v:=(.i (B1f x21 1))) rfl rfl rfl) rfl<|A0 (F7 rfl rfl) rfl<|es (ra12 rfl rfl rfl rfl rfl rfl rfl rfl rfl rfl rfl rfl)<|wi hs18 rfl (fun hc22 hs18=>?_) fun hc22 hs18=>?_
       ·refine r0<|oB hs18 fun x23 hx23 hs18=>qm rfl<|qm rfl<|A0 (G2 (rows:=List.map cI [s18.1]) rfl rfl (D8 (fun _=>rfl) _)) rfl<|R2 (V3 (f:=cI) rfl rfl rfl rfl Q3 (fun _=>rfl) hx23) rfl<|qm rfl<|en (ra10 rfl rfl rfl rfl rfl rfl rfl rfl rfl rfl)<|r0<|A0 (E7 rfl rfl) rfl<|qm rfl<|en (ra10 rfl rfl rfl rfl rfl rfl rfl rfl rfl rfl) ?_
        cases hs18
        exact lnT () rfl (su10 rfl rfl rfl rfl rfl rfl rfl rfl rfl rfl)
       ·refine C1<|r0<|A0 (E7 rfl rfl) rfl<|qm rfl<|en (ra10 rfl rfl rfl rfl rfl rfl rfl rfl rfl rfl) ?_
        cases hs18
        exact lnT () rfl (su10 rfl rfl rfl rfl rfl rfl rfl rfl rfl rfl)
      ·refine F3 ?_
       obtain rfl:=os hs18
       exact lx rfl px (su8 rfl rfl rfl rfl rfl rfl rfl rfl)
     ·rintro e s' H' - ⟨rfl,rfl,rfl⟩
      refine B6<|B6<|D7q (C9t rfl (B1i rfl (List.length_map _)))<|r0<|oB hs15 fun x31 hx31 hs15=>qm rfl<|qm rfl<|gp 19 60 (.b x31) 41 rfl rfl (fun hg25=>?_) (fun hg25=>?_) ?_
      ·refine oB (bt hx31 hg25) fun x30 hx30 hx31=>?_
       obtain rfl:=os hx31
       refine gT rfl hg25<|qm rfl<|gT rfl hg25<|A0 (A9m (f:=cI) rfl rfl rfl) rfl<|gT rfl hg25<|qm rfl<|gT rfl hg25<|A0 (D4 (f:=cI) rfl) rfl<|gT rfl hg25<|A0 (A80 rfl rfl) rfl<|gT rfl hg25<|qm rfl<|gq 12 59 (.b x30) 47 rfl rfl (fun hg26=>?_) (fun hg26=>?_) ?_
       ·obtain rfl:=os (bt hx30 hg26)
        exact nF rfl hg26 rfl<|nF rfl hg26 rfl<|nF rfl hg26 rfl<|nF rfl hg26 rfl<|nF rfl hg26 rfl<|nF rfl hg26 rfl<|nX rfl rfl<|nX rfl rfl<|O0 (B15 rfl) rfl<|nX rfl rfl<|nF rfl hg26 rfl<|gT rfl hg25<|A0 (C7 rfl hg26 rfl) rfl<|ge 12 rfl rfl rfl
       ·refine oB (bf hx30 hg26) fun x29 hx29 hx30=>?_
        obtain rfl:=os hx30
        refine gF rfl hg26<|qm rfl<|gF rfl hg26<|A0 (A9m (f:=cI) rfl rfl rfl) rfl<|gF rfl hg26<|qm rfl<|gF rfl hg26<|A0 (D4 (f:=cI) rfl) rfl<|gF rfl hg26<|A0 (F7 rfl rfl) rfl<|gF rfl hg26<|qm rfl<|gq 5 58 (.b x29) 53 rfl rfl (fun hg27=>?_) (fun hg27=>?_) ?_
        ·refine oB (bt hx29 hg27) fun x28 hx28 hx29=>?_
         obtain rfl:=os hx29
         exact gT rfl hg27<|qm rfl<|gT rfl hg27<|qm rfl<|gT rfl hg27<|B4 (rs:=[.i x28]) rfl rfl (A2 (B1i rfl (List.length_map _)) (A2 rfl B5)) ((A59 hx28).frz)<|gT rfl hg27<|A0 (A80 rfl rfl) rfl<|gF rfl hg26<|A0 (C7 rfl hg27 rfl) rfl<|ge 5 rfl rfl rfl
        ·obtain rfl:=os (bf hx29 hg27)
         exact nT rfl hg27 rfl<|nT rfl hg27 rfl<|O0 (G7 rfl (by rw [hg27]; rfl)) rfl<|nT rfl hg27 rfl<|gF rfl hg26<|A0 (C6 rfl hg27 rfl) rfl<|ge 5 rfl rfl rfl
        exact gT rfl hg25<|A0 (C6 rfl hg26 rfl) rfl<|ge 8 rfl rfl rfl
       exact A0 (C7 rfl hg25 rfl) rfl<|ge 8 rfl rfl rfl
      ·obtain rfl:=os (bf hx31 hg25)
       exact nT rfl hg25 rfl<|nT rfl hg25 rfl<|nT rfl hg25 rfl<|nT rfl hg25 rfl<|nT rfl hg25 rfl<|nT rfl hg25 rfl<|nX rfl rfl<|nX rfl rfl<|nX rfl rfl<|nX rfl rfl<|nX rfl rfl<|nX rfl rfl<|nX rfl rfl<|nX rfl rfl<|O0 (B15 rfl) rfl<|nX rfl rfl<|nX rfl rfl<|nT rfl hg25 rfl<|A0 (C6 rfl hg25 rfl) rfl<|ge 19 rfl rfl rfl
      refine es (ra9 rfl rfl rfl rfl rfl rfl rfl rfl rfl)<|wi hs15 rfl (fun hc32 hs15=>?_) fun hc32 hs15=>?_
      ·refine F3<|r0<|A0 (E7 rfl rfl) rfl<|qm rfl<|en (ra6 rfl rfl rfl rfl rfl rfl) ?_
       cases hs15
       exact lnT () rfl (su6 rfl rfl rfl rfl rfl rfl)
      ·refine C1<|s0<|oB hs15 fun x33 hx33 hs15=>oB hs15 fun x34 hx34 hs15=>qm rfl<|qm rfl<|B4 (rs:=[.i x33]) rfl rfl (A2 rfl B5) ((N4 (D7 rfl) hx33).frz)<|qm rfl<|A0 (O4 (v:=(.i (B2b x33 s15.2.2))) rfl rfl rfl) rfl<|B4 (rs:=[(.seq 6 (List.map A9 x34))]) rfl rfl (A2 rfl (A2 rfl B5)) (C3i (t:=a0) (ch:=o13) ⟨_,D7 rfl,A1z rfl⟩ (E1b (k:=4) (l:=[]) rfl (A1b (l:=[]) hscv) rfl) hx34)<|A0 (D4 (f:=A9) rfl) rfl<|A0 (A80 rfl rfl) rfl<|es (ra8 rfl rfl rfl rfl rfl rfl rfl rfl)<|wi hs15 rfl (fun hc35 hs15=>?_) fun hc35 hs15=>?_
       ·refine r0<|qm rfl<|R2 (D8n rfl rfl (List.length_map _)) rfl<|qm rfl<|en (ra6 rfl rfl rfl rfl rfl rfl)<|r0<|A0 (E7 rfl rfl) rfl<|qm rfl<|en (ra6 rfl rfl rfl rfl rfl rfl) ?_
        cases hs15
        exact lnT () rfl (su6 rfl rfl rfl rfl rfl rfl)
       ·refine C1<|r0<|A0 (E7 rfl rfl) rfl<|qm rfl<|en (ra6 rfl rfl rfl rfl rfl rfl) ?_
        cases hs15
        exact lnT () rfl (su6 rfl rfl rfl rfl rfl rfl)
    ·refine F3 ?_
     obtain rfl:=os hs15
     exact lx rfl px (su1 rfl)
   ·rintro e s' H' - ⟨rfl,rfl,rfl⟩
    refine s0<|qm rfl<|qm rfl<|qm rfl<|es (ra2 rfl rfl)<|C4 ?_
    obtain rfl:=os h
    exact retq trivial (B1 rfl (B1 rfl B8)) (A7 rfl (A7 rfl B9)) (A4 E6 (A4 A8 B2))
def A85 (a0:DrRoom) (s3:(Int × (List (dress_pair × dress_change)))) (x6:DrLook) (s7:(Int × (List (dress_pair × dress_change)))):Option ((Int × (List (dress_pair × dress_change))) ⊕ (List (dress_pair × dress_change))) :=
 if (decide (s7.1 < (List.length a0.Persons:Int))) = true then
  (idx a0.Persons s7.1).bind fun x10 =>
  (N5 (dress_room.mk a0) x6 x10).bind fun x11 =>
  some (.inl ((w64 (s7.1 + 1)),(kset s7.2 (dress_pair.mk s3.1 s7.1) x11)))
 else
  some (.inr s7.2)
def A5l (a0:DrRoom) (s3:(Int × (List (dress_pair × dress_change)))):Option ((Int × (List (dress_pair × dress_change))) ⊕ (List (dress_pair × dress_change))) :=
 if (decide (s3.1 < (List.length a0.Figures:Int))) = true then
  (idx a0.Figures s3.1).bind fun x6 =>
  (loop (A85 a0 s3 x6) (0,s3.2)).bind fun (o12:(List (dress_pair × dress_change))) =>
  some (.inl ((w64 (s3.1 + 1)),o12))
 else
  some (.inr s3.2)
def Y9 (a0:DrRoom) (a1:Int):Option (Int × Int) :=
 (M0 a0).bind fun x1 =>
 if (x1.2.2 != 0) = true then
  some (0,x1.2.2)
 else
  (loop (A5l a0) (0,([]:(List (dress_pair × dress_change))))).bind fun (o13:(List (dress_pair × dress_change))) =>
  (J6 0 (w64 ((List.length a0.Persons:Int) - 1)) [a1]).bind fun x14 =>
  if x14 = true then
  some (0,4)
  else
  (J8 (dress_room.mk a0)).bind fun x16 =>
  (Q2 a0 o13 x16).bind fun x17 =>
  if (!x17.2) = true then
   some (0,9)
  else
   (J8 (dress_room.mk a0)).bind fun x19 =>
   (C0e .i64 1 a1).bind fun x20 =>
   (Q2 a0 o13 (B2b x19 x20)).bind fun x21 =>
   if (!x21.2) = true then
   some (0,9)
   else
   some ((w64 (x17.1.cost_ - x21.1.cost_)),0)
theorem A3f {c:Sc} {H:A1} (hscv:S8 c H = true) {a0:DrRoom} {a1:Int} {r:(Int × Int)} (h:Y9 a0 a1 = some r) :
  F0 tab c H (.fn (.func 30) [] []) [(.agg (A3 a0)),.i a1] [.i r.1,.i r.2]:= by
 unfold Y9 at h
 refine cE rfl rfl<|sg 0 rfl<|A0 (F6 (cs:=A3 a0) rfl rfl rfl) rfl<|qm rfl<|qm rfl<|es (ra2 rfl rfl)<|sg 1 rfl<|A0 (C2 rfl rfl rfl) rfl<|qm rfl<|A3x (as2:=[(.agg (A3 a0)),.i a1]) (H1:=(H++[(.cells (A3 a0)),.dead])) rfl rfl (A2 (C9 rfl) (A2 rfl B5)) rfl rfl rfl (A8c rfl)<|sg 2 rfl<|A0 (F6 (cs:=A3 a0) rfl rfl rfl) rfl<|qm rfl<|A0 E4 rfl<|qm rfl<|es (ra3 rfl rfl rfl)<|s0<|A0 (C2 rfl rfl rfl) rfl<|A3x (as2:=[(.agg (A3 a0))]) (H1:=(H++[(.cells (A3 a0)),.dead,(.cells (A3 a0)),(.cells (A9 (dress_plan.mk ([]:List Int) 0 (Ar4.mk 0 0 0 0))))])) rfl rfl (A2 (C9 rfl) B5) rfl rfl rfl (A8c rfl)<|sg 4 rfl<|A0 (F6 (cs:=A3 a0) rfl rfl rfl) rfl<|qm rfl<|qm rfl<|es (ra1 rfl)<|B6<|s0<|oB h fun x1 hx1 h=>A0 (C2 rfl rfl rfl) rfl<|B4 (rs:=[.i x1.1,.i x1.2.1,.i x1.2.2]) rfl rfl (A2 (C9 rfl) B5) ((U6 hx1).frz)<|qm rfl<|A0 (A5 rfl rfl) rfl<|A0 (A5 rfl rfl) rfl<|A0 (A5 rfl rfl) rfl<|qm rfl<|qm rfl<|qm rfl<|es (ra2 rfl rfl)<|s0<|qm rfl<|A0 (J1 rfl rfl) rfl<|es (ra3 rfl rfl rfl)<|wi h rfl (fun hc2 h=>?_) fun hc2 h=>?_
 ·refine s0<|qm rfl<|qm rfl<|qm rfl<|es (ra2 rfl rfl)<|C4<|InlQ.mk trivial ⟨_,_,_,[(.lit (.pointer none)),.i x1.2.2],_,(B1 rfl (B1 rfl B8)),(A7 rfl (A7 rfl B9)),(B1n (A4 A8 (A4 A8 B2)) (L1 rfl (L1 rfl A27)) (A0h _ _ _)),?_⟩
  refine qm rfl<|A0 (A5 rfl rfl) rfl<|A0 (A5 rfl rfl) rfl<|qm rfl<|qm rfl<|es (ra5 rfl rfl rfl rfl rfl)<|B6<|C3<|s0<|qm rfl<|A0 (J1 rfl rfl) rfl<|qm rfl<|es (ra6 rfl rfl rfl rfl rfl rfl)<|T0 rfl hc2<|s0<|A0 (L6 (cs:=A9 (dress_plan.mk ([]:List Int) 0 (Ar4.mk 0 0 0 0))) rfl rfl) rfl<|qm rfl<|qm rfl<|I0 (D1 (ds:=(A9 (dress_plan.mk ([]:List Int) 0 (Ar4.mk 0 0 0 0)))) rfl rfl rfl rfl (C5 rfl) rfl) rfl<|qm rfl<|es (ra3 rfl rfl rfl)<|C4<|InlQ.mk trivial ⟨_,_,_,[(.lit (.pointer none)),(.agg (A9 (dress_plan.mk ([]:List Int) 0 (Ar4.mk 0 0 0 0)))),.i x1.2.2],_,(B1 rfl (P6 (I8 (ds:=A9 (dress_plan.mk ([]:List Int) 0 (Ar4.mk 0 0 0 0))) rfl rfl rfl rfl) (B1 rfl B8))),(A7 rfl (A7 (A1w rfl) (A7 rfl B9))),(B1n (A4 A8 (A4 (Z2 rfl) (A4 A8 B2))) (L1 rfl (L1 rfl (L1 rfl A27))) (A0h _ _ _)),?_⟩
  refine qm rfl<|A0 (A5 rfl rfl) rfl<|A0 (A5 rfl rfl) rfl<|A0 (A5 rfl rfl) rfl<|A0 E4 rfl<|qm rfl<|I0 (D1 (ds:=(A9 (dress_plan.mk ([]:List Int) 0 (Ar4.mk 0 0 0 0)))) rfl rfl rfl rfl (C5 rfl) rfl) rfl<|qm rfl<|es (ra4 rfl rfl rfl rfl)<|B6<|s0<|qm rfl<|A0 (J1 rfl rfl) rfl<|es (ra5 rfl rfl rfl rfl rfl)<|T0 rfl hc2<|s0<|qm rfl<|qm rfl<|qm rfl<|es (ra2 rfl rfl)<|C4 ?_
  obtain rfl:=os h
  exact retq trivial (B1 rfl (B1 rfl B8)) (A7 rfl (A7 rfl B9)) (A4 A8 (A4 A8 B2))
 ·refine C1<|sg 5 rfl<|A0 (C2 rfl rfl rfl) rfl<|A0 B3d rfl<|A0 (L6 (cs:=[(.seq 1 (List.map cI a0.Costs)),(.seq 1 (List.map cI a0.Ounces)),(.seq 3 (List.map A6 a0.Figures)),(.seq 3 (List.map A6 a0.Persons)),(.mp (H.length + 5))]) rfl rfl) rfl<|A0 (F6 (cs:=[(.seq 1 (List.map cI a0.Costs)),(.seq 1 (List.map cI a0.Ounces)),(.seq 3 (List.map A6 a0.Figures)),(.seq 3 (List.map A6 a0.Persons)),(.mp (H.length + 5))]) rfl rfl rfl) rfl<|qm rfl<|es (ra2 rfl rfl)<|B6<|s0<|A0 (D2 rfl) rfl<|A0 (C8 rfl rfl rfl) rfl<|A0 (D4 (f:=A6) rfl) rfl<|qm rfl<|es (ra5 rfl rfl rfl rfl rfl)<|C3<|oB h fun o13 ho13 h=>wl (fun s3=>[(1,(.ptr (H.length + 4) 0)),(7,(.ptr (H.length + 6) 0)),(26,(.seq 3 (List.map A6 a0.Figures))),(27,(.i (List.length a0.Figures:Int))),(28,.i s3.1)]) (fun (q4:Unit) s3=>[(.cells (A3 a0)),.dead,(.cells (A3 a0)),(.cells (A9 (dress_plan.mk ([]:List Int) 0 (Ar4.mk 0 0 0 0)))),(.cells (A3 a0)),(.map (List.map (kE (fun x=>(.agg (D3 x))) (fun x=>(.agg (B7 x)))) s3.2)),(.cells [(.seq 1 (List.map cI a0.Costs)),(.seq 1 (List.map cI a0.Ounces)),(.seq 3 (List.map A6 a0.Figures)),(.seq 3 (List.map A6 a0.Persons)),(.mp (H.length + 5))])]) 7 (fun r e s' H'=>PX 0 [(7,(.ptr (H.length + 6) 0))] (H++[(.cells (A3 a0)),.dead,(.cells (A3 a0)),(.cells (A9 (dress_plan.mk ([]:List Int) 0 (Ar4.mk 0 0 0 0)))),(.cells (A3 a0)),(.map (List.map (kE (fun x=>(.agg (D3 x))) (fun x=>(.agg (B7 x)))) r)),(.cells [(.seq 1 (List.map cI a0.Costs)),(.seq 1 (List.map cI a0.Ounces)),(.seq 3 (List.map A6 a0.Figures)),(.seq 3 (List.map A6 a0.Persons)),(.mp (H.length + 5))])]) e s' H') () ho13 rfl rfl (fun _ _=>rfl) (fun _=>rfl) rfl (fun s3=>(bdc (E8 rfl) (bdc (E8 rfl) (bdc E6 (bdc A8 (bdc A8 bdn)))))) (fun q4 s3 ys3 hs3=>?_) ?_
  ·unfold A5l at hs3
   refine s0<|A0 (G3 rfl rfl) rfl<|es (ra6 rfl rfl rfl rfl rfl rfl)<|B6<|wi hs3 rfl (fun hc5 hs3=>?_) fun hc5 hs3=>?_
   ·refine C1<|B6<|C3<|sg 7 rfl<|oB hs3 fun x6 hx6 hs3=>qm rfl<|A0 (E3 (f:=A6) rfl rfl hx6) rfl<|A0 (M2 rfl rfl) rfl<|A0 E4 rfl<|qm rfl<|I0 (D1 (ds:=(A6 x6)) rfl rfl rfl rfl (C5 rfl) rfl) rfl<|es (ra7 rfl rfl rfl rfl rfl rfl rfl)<|s0<|A0 (D2 rfl) rfl<|A0 (C8 rfl rfl rfl) rfl<|A0 (D4 (f:=A6) rfl) rfl<|qm rfl<|es (ra10 rfl rfl rfl rfl rfl rfl rfl rfl rfl rfl)<|C3<|oB hs3 fun o12 ho12 hs3=>wl (fun s7=>[(1,(.ptr (H.length + 4) 0)),(7,(.ptr (H.length + 6) 0)),(8,.i s3.1),(9,(.ptr (H.length + 7) 0)),(26,(.seq 3 (List.map A6 a0.Figures))),(27,(.i (List.length a0.Figures:Int))),(28,.i s3.1),(34,(.seq 3 (List.map A6 a0.Persons))),(35,(.i (List.length a0.Persons:Int))),(36,.i s7.1)]) (fun (q8:Unit) s7=>[(.cells (A3 a0)),.dead,(.cells (A3 a0)),(.cells (A9 (dress_plan.mk ([]:List Int) 0 (Ar4.mk 0 0 0 0)))),(.cells (A3 a0)),(.map (List.map (kE (fun x=>(.agg (D3 x))) (fun x=>(.agg (B7 x)))) s7.2)),(.cells [(.seq 1 (List.map cI a0.Costs)),(.seq 1 (List.map cI a0.Ounces)),(.seq 3 (List.map A6 a0.Figures)),(.seq 3 (List.map A6 a0.Persons)),(.mp (H.length + 5))]),(.cells (A6 x6))]) 8 (fun r e s' H'=>PX 2 [(1,(.ptr (H.length + 4) 0)),(7,(.ptr (H.length + 6) 0)),(26,(.seq 3 (List.map A6 a0.Figures))),(27,(.i (List.length a0.Figures:Int))),(28,.i s3.1)] (H++[(.cells (A3 a0)),.dead,(.cells (A3 a0)),(.cells (A9 (dress_plan.mk ([]:List Int) 0 (Ar4.mk 0 0 0 0)))),(.cells (A3 a0)),(.map (List.map (kE (fun x=>(.agg (D3 x))) (fun x=>(.agg (B7 x)))) r)),(.cells [(.seq 1 (List.map cI a0.Costs)),(.seq 1 (List.map cI a0.Ounces)),(.seq 3 (List.map A6 a0.Figures)),(.seq 3 (List.map A6 a0.Persons)),(.mp (H.length + 5))]),(.cells (A6 x6))]) e s' H') () ho12 rfl rfl (fun _ _=>rfl) (fun _=>rfl) rfl (fun s7=>(bdc (E8 rfl) (bdc (E8 rfl) (bdc A8 (bdc (E8 rfl) (bdc E6 (bdc A8 (bdc A8 (bdc E6 (bdc A8 (bdc A8 bdn))))))))))) (fun q8 s7 ys7 hs7=>?_) ?_
    ·unfold A85 at hs7
     refine s0<|A0 (G3 rfl rfl) rfl<|es (ra11 rfl rfl rfl rfl rfl rfl rfl rfl rfl rfl rfl)<|B6<|wi hs7 rfl (fun hc9 hs7=>?_) fun hc9 hs7=>?_
     ·refine C1<|B6<|C3<|sg 8 rfl<|oB hs7 fun x10 hx10 hs7=>qm rfl<|A0 (E3 (f:=A6) rfl rfl hx10) rfl<|A0 (M2 rfl rfl) rfl<|A0 E4 rfl<|qm rfl<|I0 (D1 (ds:=(A6 x10)) rfl rfl rfl rfl (C5 rfl) rfl) rfl<|es (ra12 rfl rfl rfl rfl rfl rfl rfl rfl rfl rfl rfl rfl)<|r0<|oB hs7 fun x11 hx11 hs7=>qm rfl<|A0 (A1l rfl rfl) rfl<|A0 (D2 rfl) rfl<|A0 (C8 (x:=(.mp (H.length + 5))) rfl rfl rfl) rfl<|qm rfl<|qm rfl<|A0 (L6 (cs:=D3 (dress_pair.mk s3.1 s7.1)) rfl rfl) rfl<|qm rfl<|A0 (C2 rfl rfl rfl) rfl<|A0 (C2 rfl rfl rfl) rfl<|A05 (rs:=[(.agg (B7 x11))]) rfl rfl (L7 rfl (L7 rfl (L7 rfl A3z))) (A2 rfl (A2 (C9 rfl) (A2 (C9 rfl) B5))) ((S4 (A01 rfl) hx11).frz)<|I0 (B3b (av:=(fun x=>(.agg (D3 x)))) (gv:=(fun x=>(.agg (B7 x)))) (k:=(dress_pair.mk s3.1 s7.1)) (v:=x11) R0 rfl rfl rfl rfl rfl) rfl<|en (ra10 rfl rfl rfl rfl rfl rfl rfl rfl rfl rfl)<|r0<|A0 (E7 rfl rfl) rfl<|qm rfl<|en (ra10 rfl rfl rfl rfl rfl rfl rfl rfl rfl rfl) ?_
      cases hs7
      exact lnT () rfl (su10 rfl rfl rfl rfl rfl rfl rfl rfl rfl rfl)
     ·refine F3 ?_
      obtain rfl:=os hs7
      exact lx rfl px (su5 rfl rfl rfl rfl rfl)
    ·rintro e s' H' - ⟨rfl,rfl,rfl⟩
     refine r0<|A0 (E7 rfl rfl) rfl<|qm rfl<|en (ra5 rfl rfl rfl rfl rfl) ?_
     cases hs3
     exact lnT () rfl (su5 rfl rfl rfl rfl rfl)
   ·refine F3 ?_
    obtain rfl:=os hs3
    exact lx rfl px (su1 rfl)
  ·rintro e s' H' - ⟨rfl,rfl,rfl⟩
   refine s0<|qm rfl<|qm rfl<|qm rfl<|es (ra2 rfl rfl)<|C4<|InlQ.mk trivial ⟨_,_,_,[(.ptr (H.length + 6) 0),.i 0],_,(B1 rfl (B1 rfl B8)),(A7 rfl (A7 rfl B9)),(A79 (A22 (A7w rfl)) (L1 rfl (L1 rfl A27))),?_⟩
   refine qm rfl<|A0 (A5 rfl rfl) rfl<|A0 (A5 rfl rfl) rfl<|qm rfl<|qm rfl<|es (ra5 rfl rfl rfl rfl rfl)<|B6<|C3<|s0<|qm rfl<|A0 (O4 (v:=(.b false)) rfl rfl rfl) rfl<|qm rfl<|es (ra6 rfl rfl rfl rfl rfl rfl)<|A0e rfl rfl<|s0<|oB h fun x14 hx14 h=>A0 (D2 rfl) rfl<|A0 (C8 rfl rfl rfl) rfl<|A0 (D4 (f:=A6) rfl) rfl<|A0 (Y8 rfl rfl) rfl<|qm rfl<|A0 (G2 (rows:=List.map cI [a1]) rfl rfl (D8 (fun _=>rfl) _)) rfl<|B4 (rs:=[.b x14]) rfl rfl (A2 rfl (A2 rfl (A2 rfl B5))) ((M6 hx14).frz)<|qm rfl<|es (ra3 rfl rfl rfl)<|wi h rfl (fun hc15 h=>?_) fun hc15 h=>?_
   ·refine s0<|A0 (L6 (cs:=A9 (dress_plan.mk ([]:List Int) 0 (Ar4.mk 0 0 0 0))) rfl rfl) rfl<|qm rfl<|I0 (D1 (ds:=(A9 (dress_plan.mk ([]:List Int) 0 (Ar4.mk 0 0 0 0)))) rfl rfl rfl rfl (C5 rfl) rfl) rfl<|qm rfl<|es (ra3 rfl rfl rfl)<|C4<|InlQ.mk trivial ⟨_,_,_,[(.lit (.pointer none)),(.agg (A9 (dress_plan.mk ([]:List Int) 0 (Ar4.mk 0 0 0 0)))),.i 4],_,(B1 rfl (P6 (I8 (ds:=A9 (dress_plan.mk ([]:List Int) 0 (Ar4.mk 0 0 0 0))) rfl rfl rfl rfl) (B1 rfl B8))),(A7 rfl (A7 (A1w rfl) (A7 rfl B9))),(B1n (A4 A8 (A4 (Z2 rfl) (A4 A8 B2))) (L1 rfl (L1 rfl (L1 rfl A27))) (A0h _ _ _)),?_⟩
    refine qm rfl<|A0 (A5 rfl rfl) rfl<|A0 (A5 rfl rfl) rfl<|A0 (A5 rfl rfl) rfl<|A0 E4 rfl<|qm rfl<|I0 (D1 (ds:=(A9 (dress_plan.mk ([]:List Int) 0 (Ar4.mk 0 0 0 0)))) rfl rfl rfl rfl (C5 rfl) rfl) rfl<|qm rfl<|es (ra4 rfl rfl rfl rfl)<|B6<|s0<|qm rfl<|A0 (O4 (v:=(.b true)) rfl rfl rfl) rfl<|es (ra5 rfl rfl rfl rfl rfl)<|T0 rfl rfl<|s0<|qm rfl<|qm rfl<|qm rfl<|es (ra2 rfl rfl)<|C4 ?_
    obtain rfl:=os h
    exact retq trivial (B1 rfl (B1 rfl B8)) (A7 rfl (A7 rfl B9)) (A4 A8 (A4 A8 B2))
   ·refine C1<|sg 7 rfl<|oB h fun x16 hx16 h=>oB h fun x17 hx17 h=>qm rfl<|qm rfl<|B4 (rs:=[.i x16]) rfl rfl (A2 rfl B5) ((N4 (D7 rfl) hx16).frz)<|B4 (rs:=[(.agg (A9 x17.1)),.b x17.2]) rfl rfl (A2 rfl (A2 rfl B5)) (B6l (t:=a0) (ch:=o13) ⟨_,D7 rfl,A1z rfl⟩ (E1b (k:=2) (l:=[]) rfl (A1b (l:=[]) hscv) rfl) hx17)<|qm rfl<|A0 (A5 rfl rfl) rfl<|A0 (A5 rfl rfl) rfl<|A0 E4 rfl<|I0 (D1 (ds:=(A9 x17.1)) rfl rfl rfl rfl (C5 rfl) rfl) rfl<|qm rfl<|es (ra4 rfl rfl rfl rfl)<|B6<|s0<|qm rfl<|A0 (S7 rfl) rfl<|es (ra4 rfl rfl rfl rfl)<|wi h rfl (fun hc18 h=>?_) fun hc18 h=>?_
    ·refine s0<|A0 (L6 (cs:=A9 (dress_plan.mk ([]:List Int) 0 (Ar4.mk 0 0 0 0))) rfl rfl) rfl<|qm rfl<|I0 (D1 (ds:=(A9 (dress_plan.mk ([]:List Int) 0 (Ar4.mk 0 0 0 0)))) rfl rfl rfl rfl (C5 rfl) rfl) rfl<|qm rfl<|es (ra3 rfl rfl rfl)<|C4<|InlQ.mk trivial ⟨_,_,_,[(.lit (.pointer none)),(.agg (A9 (dress_plan.mk ([]:List Int) 0 (Ar4.mk 0 0 0 0)))),.i 9],_,(B1 rfl (P6 (I8 (ds:=A9 (dress_plan.mk ([]:List Int) 0 (Ar4.mk 0 0 0 0))) rfl rfl rfl rfl) (B1 rfl B8))),(A7 rfl (A7 (A1w rfl) (A7 rfl B9))),(B1n (A4 A8 (A4 (Z2 rfl) (A4 A8 B2))) (L1 rfl (L1 rfl (L1 rfl A27))) (A0h _ _ _)),?_⟩
     refine qm rfl<|A0 (A5 rfl rfl) rfl<|A0 (A5 rfl rfl) rfl<|A0 (A5 rfl rfl) rfl<|A0 E4 rfl<|qm rfl<|I0 (D1 (ds:=(A9 (dress_plan.mk ([]:List Int) 0 (Ar4.mk 0 0 0 0)))) rfl rfl rfl rfl (C5 rfl) rfl) rfl<|qm rfl<|es (ra4 rfl rfl rfl rfl)<|B6<|s0<|qm rfl<|A0 (O4 (v:=(.b true)) rfl rfl rfl) rfl<|es (ra5 rfl rfl rfl rfl rfl)<|T0 rfl rfl<|s0<|qm rfl<|qm rfl<|qm rfl<|es (ra2 rfl rfl)<|C4 ?_
     obtain rfl:=os h
     exact retq trivial (B1 rfl (B1 rfl B8)) (A7 rfl (A7 rfl B9)) (A4 A8 (A4 A8 B2))
    ·refine C1<|s0<|qm rfl<|A0 (C2 rfl rfl rfl) rfl<|qm rfl<|I0 (D1 (ds:=(A9 x17.1)) rfl rfl rfl rfl (C5 rfl) rfl) rfl<|qm rfl<|es (ra3 rfl rfl rfl)<|C4<|InlQ.mk trivial ⟨_,_,_,[(.ptr (H.length + 6) 0),(.agg (A9 x17.1)),.i 0],_,(B1 rfl (P6 (I8 (ds:=A9 x17.1) rfl rfl rfl rfl) (B1 rfl B8))),(A7 rfl (A7 (A1w rfl) (A7 rfl B9))),(A79 (A22 (A7w rfl)) (L1 rfl (L1 rfl (L1 rfl A27)))),?_⟩
     refine qm rfl<|A0 (A5 rfl rfl) rfl<|A0 (A5 rfl rfl) rfl<|A0 (A5 rfl rfl) rfl<|A0 E4 rfl<|qm rfl<|I0 (D1 (ds:=(A9 x17.1)) rfl rfl rfl rfl (C5 rfl) rfl) rfl<|qm rfl<|es (ra4 rfl rfl rfl rfl)<|B6<|s0<|qm rfl<|A0 (O4 (v:=(.b false)) rfl rfl rfl) rfl<|es (ra5 rfl rfl rfl rfl rfl)<|A0e rfl rfl<|C1<|sg 8 rfl<|oB h fun x19 hx19 h=>oB h fun x20 hx20 h=>oB h fun x21 hx21 h=>qm rfl<|qm rfl<|K4 [8] (P1 [8] rfl F8 rfl rfl) (seen0 rfl) (C1q (rs:=[.i x19]) rfl rfl (L7 rfl A3z) (A2 rfl B5) ((N4 (A01 rfl) hx19).frz)) rfl<|qm rfl<|A0 (C5j rfl rfl hx20) rfl<|A0 (O4 (v:=(.i (B2b x19 x20))) rfl rfl rfl) rfl<|K4 [8] (P1 [8] rfl F8 rfl rfl) (seen0 rfl) (C1q (rs:=[(.agg (A9 x21.1)),.b x21.2]) rfl rfl (L7 rfl (L7 rfl A3z)) (A2 rfl (A2 rfl B5)) (B6l (t:=a0) (ch:=o13) (A8w.toRo ⟨_,D7 rfl,A1z rfl⟩) (D4x (A1b hscv)) hx21)) rfl<|qm rfl<|A0 (A5 rfl rfl) rfl<|A0 E4 rfl<|I0 (D1 (ds:=(A9 x21.1)) rfl rfl rfl rfl (C5 rfl) rfl) rfl<|A0 (A5 rfl rfl) rfl<|qm rfl<|es (ra3 rfl rfl rfl)<|B6<|s0<|qm rfl<|A0 (S7 rfl) rfl<|es (ra3 rfl rfl rfl)<|wi h rfl (fun hc22 h=>?_) fun hc22 h=>?_
     ·refine s0<|qm rfl<|qm rfl<|es (ra2 rfl rfl)<|C4 ?_
      obtain rfl:=os h
      exact retq trivial (B1 rfl (B1 rfl B8)) (A7 rfl (A7 rfl B9)) (A4 A8 (A4 A8 B2))
     ·refine C1<|s0<|A0 (D2 rfl) rfl<|A0 (C8 rfl rfl rfl) rfl<|A0 (D2 rfl) rfl<|A0 (C8 rfl rfl rfl) rfl<|A0 (Y8 rfl rfl) rfl<|qm rfl<|qm rfl<|es (ra2 rfl rfl)<|C4 ?_
      obtain rfl:=os h
      exact retq trivial (B1 rfl (B1 rfl B8)) (A7 rfl (A7 rfl B9)) (A4 A8 (A4 A8 B2))
def A04 (a0:ByteArray) (a1:Int) (a2:(List Int)):Option DrLook :=
 some (DrLook.mk a0 a2 a1)
theorem A0m {c:Sc} {H:A1} {a0:ByteArray} {a1:Int} {a2:(List Int)} {r:DrLook} (h:A04 a0 a1 a2 = some r) :
  F0 tab c H (.fn (.func 80) [] []) [.s a0,.i a1,(.seq 1 (List.map cI a2))] [(.agg (A6 r))]:= by
 unfold A04 at h
 refine cE rfl rfl<|sg 0 rfl<|A0 E4 rfl<|es (ra4 rfl rfl rfl rfl)<|s0<|qm rfl<|qm rfl<|qm rfl<|A0 (L6 (cs:=A6 (DrLook.mk a0 a2 a1)) rfl rfl) rfl<|I0 (D1 (ds:=(A6 (DrLook.mk a0 a2 a1))) rfl rfl rfl rfl (C5 rfl) rfl) rfl<|es (ra1 rfl)<|C4 ?_
 obtain rfl:=os h
 exact retq trivial (P6 (I8 (ds:=A6 (DrLook.mk a0 a2 a1)) rfl rfl rfl rfl) B8) (A7 (A1w rfl) B9) (A4 (Z2 rfl) B2)
def A5r (a0:Int):Option DrRoom :=
 (A04 (ByteArray.mk #[97,100,97]) 3 [0,1,0]).bind fun x1 =>
 (A04 (ByteArray.mk #[98,101,110]) 2 [1,1,2]).bind fun x2 =>
 (A04 (ByteArray.mk #[99,121]) 4 [0,0,2]).bind fun x3 =>
 (A04 (ByteArray.mk #[107,105,110,103]) 3 [1,(-1),2]).bind fun x4 =>
 (A04 (ByteArray.mk #[110,117,110]) 2 [0,1,1]).bind fun x5 =>
 (A04 (ByteArray.mk #[106,117,100,103,101]) 2 [1,0,2]).bind fun x6 =>
 some (DrRoom.mk [4,6,10] [0,a0] [x1,x2,x3] [x4,x5,x6])
theorem A60 {c:Sc} {H:A1} {a0:Int} {r:DrRoom} (h:A5r a0 = some r) :
  F0 tab c H (.fn (.func 36) [] []) [.i a0] [(.agg (A3 r))]:= by
 unfold A5r at h
 refine cE rfl rfl<|sg 0 rfl<|A0 E4 rfl<|es (ra2 rfl rfl)<|s0<|oB h fun x1 hx1 h=>oB h fun x2 hx2 h=>oB h fun x3 hx3 h=>oB h fun x4 hx4 h=>oB h fun x5 hx5 h=>oB h fun x6 hx6 h=>A0 (G2 (rows:=List.map cI [4,6,10]) rfl rfl (D8 (fun _=>rfl) _)) rfl<|qm rfl<|A0 (G2 (rows:=List.map cI [0,a0]) rfl rfl (D8 (fun _=>rfl) _)) rfl<|A0 (G2 (rows:=List.map cI [0,1,0]) rfl rfl (D8 (fun _=>rfl) _)) rfl<|B4 (rs:=[(.agg (A6 x1))]) rfl rfl (A2 rfl (A2 rfl (A2 rfl B5))) ((A0m hx1).frz)<|A0 (G2 (rows:=List.map cI [1,1,2]) rfl rfl (D8 (fun _=>rfl) _)) rfl<|B4 (rs:=[(.agg (A6 x2))]) rfl rfl (A2 rfl (A2 rfl (A2 rfl B5))) ((A0m hx2).frz)<|A0 (G2 (rows:=List.map cI [0,0,2]) rfl rfl (D8 (fun _=>rfl) _)) rfl<|B4 (rs:=[(.agg (A6 x3))]) rfl rfl (A2 rfl (A2 rfl (A2 rfl B5))) ((A0m hx3).frz)<|A0 (G2 (rows:=List.map A6 [x1,x2,x3]) rfl rfl (D8 (fun _=>rfl) _)) rfl<|A0 (G2 (rows:=List.map cI [1,(-1),2]) rfl rfl (D8 (fun _=>rfl) _)) rfl<|B4 (rs:=[(.agg (A6 x4))]) rfl rfl (A2 rfl (A2 rfl (A2 rfl B5))) ((A0m hx4).frz)<|A0 (G2 (rows:=List.map cI [0,1,1]) rfl rfl (D8 (fun _=>rfl) _)) rfl<|B4 (rs:=[(.agg (A6 x5))]) rfl rfl (A2 rfl (A2 rfl (A2 rfl B5))) ((A0m hx5).frz)<|A0 (G2 (rows:=List.map cI [1,0,2]) rfl rfl (D8 (fun _=>rfl) _)) rfl<|B4 (rs:=[(.agg (A6 x6))]) rfl rfl (A2 rfl (A2 rfl (A2 rfl B5))) ((A0m hx6).frz)<|A0 (G2 (rows:=List.map A6 [x4,x5,x6]) rfl rfl (D8 (fun _=>rfl) _)) rfl<|A0 (L6 (cs:=A3 (DrRoom.mk [4,6,10] [0,a0] [x1,x2,x3] [x4,x5,x6])) rfl rfl) rfl<|I0 (D1 (ds:=(A3 (DrRoom.mk [4,6,10] [0,a0] [x1,x2,x3] [x4,x5,x6]))) rfl rfl rfl rfl (C5 rfl) rfl) rfl<|es (ra1 rfl)<|C4 ?_
 obtain rfl:=os h
 exact retq trivial (P6 (I8 (ds:=A3 (DrRoom.mk [4,6,10] [0,a0] [x1,x2,x3] [x4,x5,x6])) rfl rfl rfl rfl) B8) (A7 (A1w rfl) B9) (A4 (Z2 rfl) B2)
end Ds
end
section
set_option maxRecDepth 100000
namespace Am
open Go
theorem C4a {T:Tab} {c:Sc} {H:A1} {i:Nat} {af:AFunc} {first cap args aq rs:List AV} {H':A1} (haf:T i = some af) (has:first++args++cap = aq) (hn:(Nat.beq aq.length af.nargs && Nat.blt af.nargs 1000) = true)
  (h:WP T af.body (J0 0 aq) H ⟨H.length,c.cur :: c.outer⟩ (fun e s H2=>(match e with | .exit _=>False | _=>True)∧∃ rs0 H1,results s H2 af.results = some rs0∧Q7 H.length H2 rs0 = some (rs,H1)∧trunc H.length rs H1 = H')):G8 T c H (.fn (.func i) first cap) args rs H':= by
 obtain ⟨e,S',s',H2,h1,h2,h3,rs0,H1,h4,h5,h6⟩:=h _ (Sub.refl _)
 exact G8.fn (af:=af) (bd:=af.body) (aq:=aq) (rs0:=rs0) (rs1:=rs) (H1:=H1) (e:=e) (st':=⟨S',H2,⟨H.length,c.cur :: c.outer⟩⟩) rfl haf rfl has.symm hn rfl h1 (by cases e <;> first | rfl | exact h3.elim) (P5 h2 h4) h5 rfl h6.symm
end Am
namespace Ds
open Go Am Go.Proofs.Ytdkflofgolehkaa.Cd
def C9j (N:Nat) (t:DrRoom) (ch:Chg):List AO:=[.cells (A3 t),.map (B0x ch),.cells (A40 t (N + 1))]
theorem B75 {c:Sc} {H:A1} {a0:DrRoom} {x1:Int × Int × Int} (hx1:M0 a0 = some x1) (hc2:(x1.2.2 != 0) = true) :
  G8 tab c H (.fn (.func 52) [] []) [(.agg (A3 a0))] [.lit (.pointer none),.i x1.2.2] H:= by
 refine C4a (aq:=[(.agg (A3 a0))]) rfl rfl rfl (A4r ?_)
 refine sg 0 rfl<|A0 (F6 (cs:=A3 a0) rfl rfl rfl) rfl<|qm rfl<|qm rfl<|es (ra1 rfl)<|B6<|s0<|A0 (C2 rfl rfl rfl) rfl<|B4 (rs:=[.i x1.1,.i x1.2.1,.i x1.2.2]) rfl rfl (A2 (C9 rfl) B5) ((U6 hx1).frz)<|qm rfl<|A0 (A5 rfl rfl) rfl<|A0 (A5 rfl rfl) rfl<|A0 (A5 rfl rfl) rfl<|qm rfl<|qm rfl<|qm rfl<|es (ra2 rfl rfl)<|s0<|qm rfl<|A0 (J1 rfl rfl) rfl<|es (ra3 rfl rfl rfl)<|T0 rfl hc2<|s0<|qm rfl<|qm rfl<|qm rfl<|es (ra2 rfl rfl)<|C4 ?_
 exact ⟨trivial,_,_,B1 rfl (B1 rfl B8),A7 rfl (A7 rfl B9),by unfold trunc; rw [show bdL H.length [AV.lit (.pointer none),.i x1.2.2] = true from rfl,if_pos rfl]; exact List.take_left⟩
theorem B76 {c:Sc} {H:A1} {a0:DrRoom} {x1:Int × Int × Int} {o13:Chg} (hx1:M0 a0 = some x1) (hc2:(x1.2.2 != 0) = false) (ho13:loop (L2 a0) (0,[]) = some o13) :
  G8 tab c H (.fn (.func 52) [] []) [(.agg (A3 a0))] [.ptr (H.length + 2) 0,.i 0] (H++C9j H.length a0 o13):= by
 refine C4a (aq:=[(.agg (A3 a0))]) rfl rfl rfl (A4r ?_)
 refine sg 0 rfl<|A0 (F6 (cs:=A3 a0) rfl rfl rfl) rfl<|qm rfl<|qm rfl<|es (ra1 rfl)<|B6<|s0<|A0 (C2 rfl rfl rfl) rfl<|B4 (rs:=[.i x1.1,.i x1.2.1,.i x1.2.2]) rfl rfl (A2 (C9 rfl) B5) ((U6 hx1).frz)<|qm rfl<|A0 (A5 rfl rfl) rfl<|A0 (A5 rfl rfl) rfl<|A0 (A5 rfl rfl) rfl<|qm rfl<|qm rfl<|qm rfl<|es (ra2 rfl rfl)<|s0<|qm rfl<|A0 (J1 rfl rfl) rfl<|es (ra3 rfl rfl rfl)<|A0e rfl hc2 ?_
 ·refine C1<|sg 1 rfl<|A0 (C2 rfl rfl rfl) rfl<|A0 B3d rfl<|A0 (L6 (cs:=[(.seq 1 (List.map cI a0.Costs)),(.seq 1 (List.map cI a0.Ounces)),(.seq 3 (List.map A6 a0.Figures)),(.seq 3 (List.map A6 a0.Persons)),(.mp (H.length + 1))]) rfl rfl) rfl<|A0 (F6 (cs:=[(.seq 1 (List.map cI a0.Costs)),(.seq 1 (List.map cI a0.Ounces)),(.seq 3 (List.map A6 a0.Figures)),(.seq 3 (List.map A6 a0.Persons)),(.mp (H.length + 1))]) rfl rfl rfl) rfl<|qm rfl<|es (ra2 rfl rfl)<|B6<|s0<|A0 (D2 rfl) rfl<|A0 (C8 rfl rfl rfl) rfl<|A0 (D4 (f:=A6) rfl) rfl<|qm rfl<|es (ra5 rfl rfl rfl rfl rfl)<|C3<|wl (fun s3=>[(1,(.ptr (H.length + 0) 0)),(7,(.ptr (H.length + 2) 0)),(26,(.seq 3 (List.map A6 a0.Figures))),(27,(.i (List.length a0.Figures:Int))),(28,.i s3.1)]) (fun (q4:Unit) s3=>[(.cells (A3 a0)),(.map (List.map (kE (fun x=>(.agg (D3 x))) (fun x=>(.agg (B7 x)))) s3.2)),(.cells [(.seq 1 (List.map cI a0.Costs)),(.seq 1 (List.map cI a0.Ounces)),(.seq 3 (List.map A6 a0.Figures)),(.seq 3 (List.map A6 a0.Persons)),(.mp (H.length + 1))])]) 3 (fun r e s' H'=>PX 0 [(7,(.ptr (H.length + 2) 0))] (H++[(.cells (A3 a0)),(.map (List.map (kE (fun x=>(.agg (D3 x))) (fun x=>(.agg (B7 x)))) r)),(.cells [(.seq 1 (List.map cI a0.Costs)),(.seq 1 (List.map cI a0.Ounces)),(.seq 3 (List.map A6 a0.Figures)),(.seq 3 (List.map A6 a0.Persons)),(.mp (H.length + 1))])]) e s' H') () ho13 rfl rfl (fun _ _=>rfl) (fun _=>rfl) rfl (fun s3=>(bdc (E8 rfl) (bdc (E8 rfl) (bdc E6 (bdc A8 (bdc A8 bdn)))))) (fun q4 s3 ys3 hs3=>?_) ?_
  ·unfold L2 at hs3
   refine s0<|A0 (G3 rfl rfl) rfl<|es (ra6 rfl rfl rfl rfl rfl rfl)<|B6<|wi hs3 rfl (fun hc5 hs3=>?_) fun hc5 hs3=>?_
   ·refine C1<|B6<|C3<|sg 3 rfl<|oB hs3 fun x6 hx6 hs3=>qm rfl<|A0 (E3 (f:=A6) rfl rfl hx6) rfl<|A0 (M2 rfl rfl) rfl<|A0 E4 rfl<|qm rfl<|I0 (D1 (ds:=(A6 x6)) rfl rfl rfl rfl (C5 rfl) rfl) rfl<|es (ra7 rfl rfl rfl rfl rfl rfl rfl)<|s0<|A0 (D2 rfl) rfl<|A0 (C8 rfl rfl rfl) rfl<|A0 (D4 (f:=A6) rfl) rfl<|qm rfl<|es (ra10 rfl rfl rfl rfl rfl rfl rfl rfl rfl rfl)<|C3<|oB hs3 fun o12 ho12 hs3=>wl (fun s7=>[(1,(.ptr (H.length + 0) 0)),(7,(.ptr (H.length + 2) 0)),(8,.i s3.1),(9,(.ptr (H.length + 3) 0)),(26,(.seq 3 (List.map A6 a0.Figures))),(27,(.i (List.length a0.Figures:Int))),(28,.i s3.1),(34,(.seq 3 (List.map A6 a0.Persons))),(35,(.i (List.length a0.Persons:Int))),(36,.i s7.1)]) (fun (q8:Unit) s7=>[(.cells (A3 a0)),(.map (List.map (kE (fun x=>(.agg (D3 x))) (fun x=>(.agg (B7 x)))) s7.2)),(.cells [(.seq 1 (List.map cI a0.Costs)),(.seq 1 (List.map cI a0.Ounces)),(.seq 3 (List.map A6 a0.Figures)),(.seq 3 (List.map A6 a0.Persons)),(.mp (H.length + 1))]),(.cells (A6 x6))]) 4 (fun r e s' H'=>PX 2 [(1,(.ptr (H.length + 0) 0)),(7,(.ptr (H.length + 2) 0)),(26,(.seq 3 (List.map A6 a0.Figures))),(27,(.i (List.length a0.Figures:Int))),(28,.i s3.1)] (H++[(.cells (A3 a0)),(.map (List.map (kE (fun x=>(.agg (D3 x))) (fun x=>(.agg (B7 x)))) r)),(.cells [(.seq 1 (List.map cI a0.Costs)),(.seq 1 (List.map cI a0.Ounces)),(.seq 3 (List.map A6 a0.Figures)),(.seq 3 (List.map A6 a0.Persons)),(.mp (H.length + 1))]),(.cells (A6 x6))]) e s' H') () ho12 rfl rfl (fun _ _=>rfl) (fun _=>rfl) rfl (fun s7=>(bdc (E8 rfl) (bdc (E8 rfl) (bdc A8 (bdc (E8 rfl) (bdc E6 (bdc A8 (bdc A8 (bdc E6 (bdc A8 (bdc A8 bdn))))))))))) (fun q8 s7 ys7 hs7=>?_) ?_
    ·unfold W9 at hs7
     refine s0<|A0 (G3 rfl rfl) rfl<|es (ra11 rfl rfl rfl rfl rfl rfl rfl rfl rfl rfl rfl)<|B6<|wi hs7 rfl (fun hc9 hs7=>?_) fun hc9 hs7=>?_
     ·refine C1<|B6<|C3<|sg 4 rfl<|oB hs7 fun x10 hx10 hs7=>qm rfl<|A0 (E3 (f:=A6) rfl rfl hx10) rfl<|A0 (M2 rfl rfl) rfl<|A0 E4 rfl<|qm rfl<|I0 (D1 (ds:=(A6 x10)) rfl rfl rfl rfl (C5 rfl) rfl) rfl<|es (ra12 rfl rfl rfl rfl rfl rfl rfl rfl rfl rfl rfl rfl)<|r0<|oB hs7 fun x11 hx11 hs7=>qm rfl<|A0 (A1l rfl rfl) rfl<|A0 (D2 rfl) rfl<|A0 (C8 (x:=(.mp (H.length + 1))) rfl rfl rfl) rfl<|qm rfl<|qm rfl<|A0 (L6 (cs:=D3 (dress_pair.mk s3.1 s7.1)) rfl rfl) rfl<|qm rfl<|A0 (C2 rfl rfl rfl) rfl<|A0 (C2 rfl rfl rfl) rfl<|A05 (rs:=[(.agg (B7 x11))]) rfl rfl (L7 rfl (L7 rfl (L7 rfl A3z))) (A2 rfl (A2 (C9 rfl) (A2 (C9 rfl) B5))) ((S4 (A01 rfl) hx11).frz)<|I0 (B3b (av:=(fun x=>(.agg (D3 x)))) (gv:=(fun x=>(.agg (B7 x)))) (k:=(dress_pair.mk s3.1 s7.1)) (v:=x11) R0 rfl rfl rfl rfl rfl) rfl<|en (ra10 rfl rfl rfl rfl rfl rfl rfl rfl rfl rfl)<|r0<|A0 (E7 rfl rfl) rfl<|qm rfl<|en (ra10 rfl rfl rfl rfl rfl rfl rfl rfl rfl rfl) ?_
      cases hs7
      exact lnT () rfl (su10 rfl rfl rfl rfl rfl rfl rfl rfl rfl rfl)
     ·refine F3 ?_
      obtain rfl:=os hs7
      exact lx rfl px (su5 rfl rfl rfl rfl rfl)
    ·rintro e s' H' - ⟨rfl,rfl,rfl⟩
     refine r0<|A0 (E7 rfl rfl) rfl<|qm rfl<|en (ra5 rfl rfl rfl rfl rfl) ?_
     cases hs3
     exact lnT () rfl (su5 rfl rfl rfl rfl rfl)
   ·refine F3 ?_
    obtain rfl:=os hs3
    exact lx rfl px (su1 rfl)
  ·rintro e s' H' - ⟨rfl,rfl,rfl⟩
   refine s0<|qm rfl<|qm rfl<|qm rfl<|es (ra2 rfl rfl)<|C4 ?_
   refine ⟨trivial,_,_,B1 rfl (B1 rfl B8),A7 rfl (A7 rfl B9),?_⟩
   have hb:bdL H.length [AV.ptr (H.length + 2) 0,.i 0] = false:= by
    have:Nat.blt (H.length + 2) H.length = false:= by
     cases hb:Nat.blt (H.length + 2) H.length with
     | false=>rfl
     | true=>have:=Nat.le_of_ble_eq_true hb; omega
    simp only [bdL,AV.bd,this,Bool.false_and]
   unfold trunc
   rw [hb]
   rfl
end Ds
end
section
namespace Am
open Go
section
variable {T:Tab} {s:B3} {H0:A1} {l:List AO} {c:Sc} {Q:Ex→B3→A1→Prop}
def D9w {γ σ ρ:Type} (I:γ→σ→Prop) (st:γ→σ→B3) (hp:γ→σ→A1) (P:ρ→Ex→B3→A1→Prop):σ ⊕ ρ→Ex→B3→A1→Prop
 | .inl x,e,s',H'=>e = .normal∧∃ g',I g' x∧Sub (st g' x) s'∧H' = hp g' x
 | .inr r,e,s',H'=>e.out = true∧∃ s0,Sub s0 s'∧P r e s0 H'
theorem C6p {γ σ ρ:Type} {live:List Nat} {bd:ACode} {body:σ→Option (σ ⊕ ρ)} (I:γ→σ→Prop) (st:γ→σ→B3) (hp:γ→σ→A1) (P:ρ→Ex→B3→A1→Prop)
  (hlive:∀g x,(st g x).map (·.1) = live) (hnd:live.Nodup)
  (hbody:∀g x o,I g x→body x = some o→WP T bd (st g x) (hp g x) c (D9w I st hp P o))
  {x0:σ} {r:ρ} (h:loop body x0 = some r) (g0:γ) (hI:I g0 x0):WP T (.loop false live bd) (st g0 x0) (hp g0 x0) c (fun e s' H'=>e.out = true∧P r e s' H'):= by
 have key:∀n g0 x0,I g0 x0→A3s body n x0 = some r→WP T (.loop false live bd) (st g0 x0) (hp g0 x0) c (fun e s' H'=>e.out = true∧P r e s' H'):= by
  intro n
  induction n with
  | zero=>intro g0 x0 _ h; cases h
  | succ n ih =>
   intro g0 x0 hI h S hS
   rw [H9] at h
   have hr:restrict S live = st g0 x0:=P4 (hlive g0 x0) hnd hS
   have hin:A4v false live ⟨S,hp g0 x0,c⟩ = ⟨st g0 x0,hp g0 x0,c⟩:= by
    unfold A4v; simp [hr]
   split at h
   ·next x' hb =>
    obtain ⟨e,S1,s1,H1,h1,h2,rfl,g',hI',h4,h5⟩:=hbody g0 x0 _ hI hb _ (Sub.refl _)
    have hr1:restrict S1 live = st g' x':=P4 (hlive g' x') hnd (h4.trans h2)
    obtain ⟨e2,S2,s2,H2,g1,g2,g3⟩:=ih g' x' hI' h _ (Sub.refl _)
    refine ⟨e2,S2,s2,H2,I5.loop (st1:=⟨S1,H1,c⟩) rfl hin.symm h1 ?_ g1,g2,g3⟩
    unfold A7g
    simp only [Bool.false_eq_true,if_false,hr1,h5]
   ·next r' hb =>
    simp only [Option.some.injEq] at h
    subst h
    obtain ⟨e,S1,s1,H1,h1,h2,h3,s2,h4,h5⟩:=hbody g0 x0 _ hI hb _ (Sub.refl _)
    exact ⟨e,S1,s2,H1,I5.loopOut (st1:=⟨S1,H1,c⟩) rfl hin.symm h3 h1 rfl,h4.trans h2,h3,h5⟩
   ·cases h
 exact key _ _ _ hI h
end
end Am
end
section
set_option maxRecDepth 100000
set_option maxHeartbeats 0
namespace Ds
open Go Am Go.Proofs.Ytdkflofgolehkaa.Cd
def G6 (a0:(List Int)) (a1:Int) (s1:Int):Option (Int ⊕ (Int ⊕ Unit)) :=
 if (decide (s1 < (List.length a0:Int))) = true then
  (idx a0 s1).bind fun x4 =>
  if (a1 == x4) = true then
  some (.inr (.inl s1))
  else
  some (.inl (w64 (s1 + 1)))
 else
  some (.inr (.inr ()))
def M5 (a0:(List Int)) (a1:Int):Option Int :=
 (loop (G6 a0 a1) 0).bind fun (o6:(Int ⊕ Unit)) =>
 match o6 with
 | (.inl vo6_0) =>
  some vo6_0
 | (.inr vo6_1) =>
  some (-1)
theorem A7l {c:Sc} {H:A1} {a0:(List Int)} {a1:Int} {r:Int} (h:M5 a0 a1 = some r) :
  F0 tab c H (.fn (.func 95) [] []) [(.seq 1 (List.map cI a0)),.i a1] [.i r]:= by
 unfold M5 at h
 refine cE rfl rfl<|s0<|qm rfl<|es (ra2 rfl rfl)<|B6<|s0<|qm rfl<|A0 (D4 (f:=cI) rfl) rfl<|qm rfl<|es (ra4 rfl rfl rfl rfl)<|C3<|oB h fun o6 ho6 h=>wl (fun s1=>[(0,(.seq 1 (List.map cI a0))),(1,.i a1),(7,(.i (List.length a0:Int))),(8,.i s1)]) (fun (q2:Unit) s1=>[]) 0 (fun r e s' H'=>(match r with | (.inl v)=>e = .ret∧RetQ H [.tmp 4] [.i v] e s' H' | (.inr v)=>PX 0 [] (H++[]) e s' H':Prop)) () ho6 rfl rfl (fun _ _=>rfl) (fun _=>rfl) rfl (fun s1=>(bdc E6 (bdc A8 (bdc A8 (bdc A8 bdn))))) (fun q2 s1 ys1 hs1=>?_) ?_
 ·unfold G6 at hs1
  refine s0<|A0 (G3 rfl rfl) rfl<|es (ra5 rfl rfl rfl rfl rfl)<|B6<|wi hs1 rfl (fun hc3 hs1=>?_) fun hc3 hs1=>?_
  ·refine C1<|B6<|C3<|s0<|qm rfl<|qm rfl<|es (ra5 rfl rfl rfl rfl rfl)<|s0<|oB hs1 fun x4 hx4 hs1=>qm rfl<|qm rfl<|qm rfl<|A0 (E3 (f:=cI) rfl rfl hx4) rfl<|A0 (E9 rfl rfl) rfl<|A0 (F7 rfl rfl) rfl<|es (ra6 rfl rfl rfl rfl rfl rfl)<|wi hs1 rfl (fun hc5 hs1=>?_) fun hc5 hs1=>?_
   ·refine s0<|qm rfl<|qm rfl<|es (ra1 rfl)<|C4 ?_
    obtain rfl:=os hs1
    exact lx rfl (And.intro rfl (retq trivial (B1 rfl B8) (A7 rfl B9) (A4 A8 B2))) (Sub.refl _)
   ·refine C1<|r0<|A0 (E7 rfl rfl) rfl<|qm rfl<|en (ra4 rfl rfl rfl rfl) ?_
    cases hs1
    exact lnT () rfl (su4 rfl rfl rfl rfl)
  ·refine F3 ?_
   obtain rfl:=os hs1
   exact lx rfl px (.nil _)
 ·rcases o6 with vo6_0 | vo6_1
  ·rintro e s' H' - ⟨rfl,hret⟩
   cases h
   exact hret
  ·rintro e s' H' - ⟨rfl,rfl,rfl⟩
   refine s0<|qm rfl<|es (ra1 rfl)<|C4 ?_
   obtain rfl:=os h
   exact retq trivial (B1 rfl B8) (A7 rfl B9) (A4 A8 B2)
def F9 (a0:(List Int)) (a1:Int):Option Bool :=
 (M5 a0 a1).bind fun x1 =>
 some (decide (x1 ≥ 0))
theorem A5y {c:Sc} {H:A1} {a0:(List Int)} {a1:Int} {r:Bool} (h:F9 a0 a1 = some r) :
  F0 tab c H (.fn (.func 66) [] []) [(.seq 1 (List.map cI a0)),.i a1] [.b r]:= by
 unfold F9 at h
 refine cE rfl rfl<|s0<|qm rfl<|es (ra2 rfl rfl)<|s0<|oB h fun x1 hx1 h=>qm rfl<|qm rfl<|R2 (A5z (rs:=[.i x1]) rfl rfl ((A7l hx1).frz)) rfl<|A0 (A66 rfl rfl) rfl<|qm rfl<|es (ra1 rfl)<|C4 ?_
 obtain rfl:=os h
 exact retq trivial (B1 rfl B8) (A7 rfl B9) (A4 A8 B2)
end Ds
end
section
set_option maxRecDepth 100000
namespace Ds
open Go Am Go.Proofs.Ytdkflofgolehkaa.Cd
def plan0:dress_plan:=⟨[],0,⟨0,0,0,0⟩⟩
def A2g (t:DrRoom) (ch:Chg) (figs:List Int) (s:Int × dress_plan):Option ((Int × dress_plan) ⊕ (Unit ⊕ dress_plan)) :=
 if (decide (s.1 < (List.length figs:Int))) = true then
  (idx figs s.1).bind fun f=>(slc figs 0 s.1).bind fun pre=>(F9 pre f).bind fun k =>
  if k = true then some (.inr (.inl ()))
  else (V6 s.2 f (A4u ch f s.1)).bind fun p=>some (.inl (w64 (s.1 + 1),p))
 else some (.inr (.inr s.2))
def A7o (t:DrRoom) (figs:List Int):Option (dress_plan × Int) :=
 (M0 t).bind fun x1 =>
 if (x1.2.2 != 0) = true then some (plan0,x1.2.2)
 else (loop (L2 t) (0,[])).bind fun ch =>
  if ((List.length figs:Int) != (List.length t.Persons:Int)) = true then some (plan0,3)
  else (J6 0 (w64 ((List.length t.Figures:Int) - 1)) figs).bind fun k =>
   if k = true then some (plan0,4)
   else (loop (A2g t ch figs) (0,begin0 t)).bind fun o =>
    match o with
    | .inl _=>some (plan0,5)
    | .inr p=>some (p,0)
theorem B9k {N:Nat} {rs:List AV} {H:A1} (h:bdL N rs = false):trunc N rs H = H:= by unfold trunc; rw [h]; rfl
theorem C8t {N j o:Nat} {rs:List AV}:bdL N (.ptr (N + j) o :: rs) = false:= by
 have:Nat.blt (N + j) N = false:= by
  cases hb:Nat.blt (N + j) N with
  | false=>rfl
  | true=>have:=Nat.le_of_ble_eq_true hb; omega
 simp only [bdL,AV.bd,this,Bool.false_and]
theorem C15 {H:A1} {l:List AO} {rs:List AV} (h:bdL H.length rs = true):trunc H.length rs (H++l) = H++[]:= by
 unfold trunc; rw [h,if_pos rfl,List.append_nil]; exact List.take_left
def PlQ (H:A1) (r:dress_plan × Int) (e:Ex) (s:B3) (H1:A1):Prop :=
 (match e with | .exit _=>False | _=>True)∧∃ v0 f L,fzA v0 = v0∧fz1 f = f∧results s H1 [.tmp 4,.cell 5 (some 6),.tmp 6] = some [v0,.agg (cP f r.1),.i r.2]∧trunc H.length [v0,.agg (cP f r.1),.i r.2] H1 = H++L
theorem B61 {H:A1} {l:List AO} {s:B3} {e:Int} (h4:sget s 4 = some (.lit (.pointer none))) (h5:sget s 5 = some (.ptr (H.length + 1) 0)) (h6:sget s 6 = some (.i e)) (hl:l[1]? = some (.cells (A9 plan0))):PlQ H (plan0,e) .ret s (H++l) :=
 ⟨trivial,_,.seq 1 [],[],rfl,rfl,B1 h4 (P6 (I8 (ds:=A9 plan0) h5 hl rfl rfl) (B1 h6 B8)),C15 rfl⟩
theorem D2r {T:Tab} {c:Sc} {H:A1} {i:Nat} {af:AFunc} {first cap args aq:List AV} {r:dress_plan × Int} (haf:T i = some af) (has:first++args++cap = aq) (hn:Nat.beq (aq.length + 1000) af.nargs = true) (hres:af.results = [.tmp 4,.cell 5 (some 6),.tmp 6])
  (h:WP T af.body (J0 0 aq) H ⟨H.length,c.cur :: c.outer⟩ (PlQ H r)):∃v0 f L,fzA v0 = v0∧fz1 f = f∧G8 T c H (.fn (.func i) first cap) args [v0,.agg (cP f r.1),.i r.2] (H++L):= by
 obtain ⟨e,S',s',H2,⟨n,h1⟩,h2,h3,v0,f,L,hv,hf',h4,h5⟩:=h _ (Sub.refl _)
 have hf:(Nat.beq aq.length af.nargs && Nat.blt af.nargs 1000) = false:= by
  have:=Nat.eq_of_beq_eq_true hn
  cases hb:Nat.blt af.nargs 1000 with
  | false=>rw [Bool.and_false]
  | true=>have:=Nat.le_of_ble_eq_true hb; omega
 refine ⟨v0,f,L,hv,hf',n + 1,?_⟩
 rw [S9]
 unfold K7
 simp only [haf,has,hf,hn,Bool.false_eq_true,if_false,if_true,h1]
 have hr:=P5 h2 h4
 cases e with
 | exit i=>exact h3.elim
 | normal=>simp only [hres,hr,h5]
 | ret=>simp only [hres,hr,h5]
theorem B8s {c:Sc} {H:A1} {t:DrRoom} {figs:List Int} {r:dress_plan × Int} (h:A7o t figs = some r) :
  ∃ v0 f L,fzA v0 = v0∧fz1 f = f∧G8 tab c H (.fn (.func 57) [] []) [.agg (A3 t),.seq 1 (figs.map cI)] [v0,.agg (cP f r.1),.i r.2] (H++L):= by
 unfold A7o at h
 refine oB h fun x1 hx1 h=>?_
 refine D2r (aq:=[.agg (A3 t),.seq 1 (figs.map cI)]) rfl rfl rfl rfl (A4r ?_)
 refine sg 0 rfl<|A0 (F6 (cs:=A3 t) rfl rfl rfl) rfl<|qm rfl<|A0 E4 rfl<|qm rfl<|es (ra3 rfl rfl rfl) ?_
 by_cases hc1:(x1.2.2 != 0) = true
 ·rw [if_pos hc1] at h
  obtain rfl:=os h
  refine s0<|A0 (C2 rfl rfl rfl) rfl<|R2 (X8 rfl rfl (A2 (C9 rfl) B5) (B75 hx1 hc1) rfl) rfl<|qm rfl<|A0 (A5 rfl rfl) rfl<|A0 (A5 rfl rfl) rfl<|qm rfl<|qm rfl<|es (ra5 rfl rfl rfl rfl rfl)<|B6<|C3<|s0<|qm rfl<|A0 (J1 rfl rfl) rfl<|qm rfl<|es (ra6 rfl rfl rfl rfl rfl rfl)<|T0 rfl hc1<|s0<|A0 (L6 (cs:=A9 plan0) rfl rfl) rfl<|qm rfl<|qm rfl<|I0 (D1 (ds:=A9 plan0) rfl rfl rfl rfl (C5 rfl) rfl) rfl<|qm rfl<|es (ra3 rfl rfl rfl)<|C4<|B61 rfl rfl rfl rfl
 ·rw [if_neg hc1] at h
  have hc1:(x1.2.2 != 0) = false:=Bool.eq_false_iff.2 hc1
  refine oB h fun ch hch h=>?_
  have hlook:G8 tab ⟨H.length,c.cur :: c.outer⟩ (H++[.cells (A3 t),.cells (A9 plan0)]) (.fn (.func 52) [] []) [(.agg (A3 t))] [.ptr (H.length + 4) 0,.i 0] (H++[.cells (A3 t),.cells (A9 plan0),.cells (A3 t),.map (B0x ch),.cells (A40 t (H.length + 3))]):= by
   have:=B76 (c:=⟨H.length,c.cur :: c.outer⟩) (H:=H++[.cells (A3 t),.cells (A9 plan0)]) hx1 hc1 hch
   unfold C9j at this
   rw [List.length_append,List.append_assoc] at this
   exact this
  refine s0<|A0 (C2 rfl rfl rfl) rfl<|R2 (X8 rfl rfl (A2 (C9 rfl) B5) hlook rfl) rfl<|qm rfl<|A0 (A5 rfl rfl) rfl<|A0 (A5 rfl rfl) rfl<|qm rfl<|qm rfl<|es (ra5 rfl rfl rfl rfl rfl)<|B6<|C3<|s0<|qm rfl<|A0 (O4 (v:=(.b false)) rfl rfl rfl) rfl<|qm rfl<|es (ra6 rfl rfl rfl rfl rfl rfl)<|A0e rfl rfl<|s0<|qm rfl<|A0 (D4 (f:=cI) rfl) rfl<|A0 (D2 rfl) rfl<|A0 (C8 rfl rfl rfl) rfl<|A0 (D4 (f:=A6) rfl) rfl<|A0 (J1 rfl rfl) rfl<|qm rfl<|es (ra5 rfl rfl rfl rfl rfl)<|wi h rfl (fun hc2 h=>?_) fun hc2 h=>?_
  ·obtain rfl:=os h
   exact s0<|A0 (L6 (cs:=A9 plan0) rfl rfl) rfl<|qm rfl<|I0 (D1 (ds:=A9 plan0) rfl rfl rfl rfl (C5 rfl) rfl) rfl<|qm rfl<|es (ra3 rfl rfl rfl)<|C4<|B61 rfl rfl rfl rfl
  refine oB h fun k hk h=>?_
  refine s0<|A0 (D2 rfl) rfl<|A0 (C8 rfl rfl rfl) rfl<|A0 (D4 (f:=A6) rfl) rfl<|A0 (Y8 rfl rfl) rfl<|qm rfl<|B4 (rs:=[.b k]) rfl rfl (A2 rfl (A2 rfl (A2 rfl B5))) ((M6 hk).frz)<|qm rfl<|es (ra4 rfl rfl rfl rfl)<|wi h rfl (fun hc3 h=>?_) fun hc3 h=>?_
  ·obtain rfl:=os h
   exact s0<|A0 (L6 (cs:=A9 plan0) rfl rfl) rfl<|qm rfl<|I0 (D1 (ds:=A9 plan0) rfl rfl rfl rfl (C5 rfl) rfl) rfl<|qm rfl<|es (ra3 rfl rfl rfl)<|C4<|B61 rfl rfl rfl rfl
  refine oB h fun o ho h=>?_
  have hroom:∀X:List AO,A8w (H++(.cells (A3 t) :: .cells (A9 plan0) :: .cells (A3 t) :: .map (B0x ch) :: .cells (A40 t (H.length + 3)) :: X)) (H.length + 4) t ch:=fun X=>⟨_,D7 rfl,A1z rfl⟩
  refine C1<|sg 5 rfl<|qm rfl<|R2 (X8 rfl rfl (A2 rfl B5) (C31 (hroom _)) rfl) rfl<|A0 E4 rfl<|I0 (D1 (ds:=cP (.nils 1) (begin0 t)) rfl rfl rfl rfl (Q5 (Nat.le_add_right _ _)) rfl) rfl<|es (ra4 rfl rfl rfl rfl)<|B6<|s0<|qm rfl<|A0 (D4 (f:=cI) rfl) rfl<|qm rfl<|es (ra7 rfl rfl rfl rfl rfl rfl rfl)<|C3 ?_
  refine A0r (C6p (fun (g:AV × List AO) (s:Int × dress_plan)=>fz1 g.1 = g.1∧A8x H.length (.cells (A3 t) :: .cells (A9 plan0) :: .cells (A3 t) :: .map (B0x ch) :: .cells (A40 t (H.length + 3)) :: .cells (cP g.1 s.2) :: g.2) g.1 (s.2.figures_.map cI))
   (fun g s=>[(1,.seq 1 (figs.map cI)),(5,.ptr (H.length + 1) 0),(7,.ptr (H.length + 4) 0),(9,.ptr (H.length + 5) 0),(40,.seq 1 (figs.map cI)),(41,.i (List.length figs:Int)),(42,.i s.1)])
   (fun g s=>H++(.cells (A3 t) :: .cells (A9 plan0) :: .cells (A3 t) :: .map (B0x ch) :: .cells (A40 t (H.length + 3)) :: .cells (cP g.1 s.2) :: g.2))
   (fun o e s' H'=>match o with
    | .inl _=>e = .ret∧PlQ H (plan0,5) e s' H'
    | .inr p=>∃ g:AV × List AO,fz1 g.1 = g.1∧PX 1 [(5,.ptr (H.length + 1) 0),(7,.ptr (H.length + 4) 0),(9,.ptr (H.length + 5) 0)] (H++(.cells (A3 t) :: .cells (A9 plan0) :: .cells (A3 t) :: .map (B0x ch) :: .cells (A40 t (H.length + 3)) :: .cells (cP g.1 p) :: g.2)) e s' H')
   (fun _ _=>rfl) (by decide) (fun g s o hI hs=>?_) ho (.nils 1,[]) ⟨rfl,.inl ⟨rfl,rfl⟩⟩) ?_
  ·obtain ⟨hfz,hfig⟩:=hI
   unfold A2g at hs
   refine s0<|A0 (G3 rfl rfl) rfl<|es (ra8 rfl rfl rfl rfl rfl rfl rfl rfl)<|B6<|wi hs rfl (fun hc hs=>?_) fun hc hs=>?_
   ·refine oB hs fun f hf hs=>oB hs fun pre hpre hs=>oB hs fun k hk hs=>?_
    refine C1<|B6<|C3<|s0<|qm rfl<|A0 (E3 (f:=cI) rfl rfl hf) rfl<|A0 (E9 rfl rfl) rfl<|qm rfl<|qm rfl<|es (ra9 rfl rfl rfl rfl rfl rfl rfl rfl rfl)<|B6<|s0<|qm rfl<|qm rfl<|A0 (B3e (f:=cI) rfl rfl rfl hpre) rfl<|qm rfl<|B4 (rs:=[.b k]) rfl rfl (A2 rfl (A2 rfl B5)) ((A5y hk).frz)<|es (ra10 rfl rfl rfl rfl rfl rfl rfl rfl rfl rfl)<|wi hs rfl (fun hc4 hs=>?_) fun hc4 hs=>?_
    ·obtain rfl:=os hs
     refine s0<|A0 (L6 (cs:=A9 plan0) rfl rfl) rfl<|qm rfl<|I0 (D1 (ds:=A9 plan0) rfl rfl rfl rfl (C5 rfl) rfl) rfl<|qm rfl<|es (ra3 rfl rfl rfl)<|C4 ?_
     exact ⟨rfl,_,Sub.refl _,rfl,B61 rfl rfl rfl rfl⟩
    ·refine oB hs fun p hp hs=>?_
     have hw:=fun c'=>C95 (c:=c') hfig.shr hfig.young hp
     refine C1<|r0<|A0 (I8 (ds:=cP g.1 s.2) rfl rfl rfl rfl) rfl<|qm rfl<|qm rfl<|qm rfl<|qm rfl<|A05 (rs:=[.agg (B7 (A4u ch f s.1))]) rfl rfl (L7 rfl (L7 rfl (L7 rfl A3z))) (A2 rfl (A2 rfl (A2 rfl B5))) ((C8v (hroom _).toRo f s.1).frz)<|R2 (U1 rfl rfl (hw _) rfl) rfl ?_
     rw [List.append_assoc]
     refine I0 (D1 (ds:=cP (.asl (H.length + (g.2.length + 6 + 3)) p.figures_.length) p) rfl rfl rfl rfl (Q5 (Nat.le_add_right _ _)) ?_) rfl<|en (ra7 rfl rfl rfl rfl rfl rfl rfl)<|r0<|A0 (E7 rfl rfl) rfl<|qm rfl<|en (ra7 rfl rfl rfl rfl rfl rfl rfl) ?_
     ·refine congrArg (fun n=>cP (.asl n p.figures_.length) p) (?_:(H++_).length + 3 = H.length + (g.2.length + 6 + 3))
      rw [List.length_append]
      simp only [List.length_cons]
      omega
     ·cases hs
      refine ⟨rfl,(.asl (H.length + (g.2.length + 6 + 3)) p.figures_.length,g.2++C6k (H++(.cells (A3 t) :: .cells (A9 plan0) :: .cells (A3 t) :: .map (B0x ch) :: .cells (A40 t (H.length + 3)) :: .cells (cP g.1 s.2) :: g.2)) g.1 (A4u ch f s.1) p),⟨rfl,.inr ⟨g.2.length + 6 + 3,A2l (H++(.cells (A3 t) :: .cells (A9 plan0) :: .cells (A3 t) :: .map (B0x ch) :: .cells (A40 t (H.length + 3)) :: .cells (cP g.1 s.2) :: g.2)) g.1,?_,?_,?_⟩⟩,su7 rfl rfl rfl rfl rfl rfl rfl,rfl⟩
      ·rw [List.length_map]
      ·rw [show g.2.length + 6 + 3 = (g.2.length + 3) + 6 by omega]
       simp only [List.getElem?_cons_succ]
       rw [List.getElem?_append_right (by omega),Nat.add_sub_cancel_left]
       rfl
      ·rw [List.drop_of_length_le (by simp [C6k])]; rfl
   ·refine F3 ?_
    obtain rfl:=os hs
    exact ⟨rfl,_,su3 rfl rfl rfl,g,hfz,px⟩
  ·rintro e s' H' ⟨-,q⟩
   rcases o with o | p
   ·obtain ⟨rfl,q⟩:=q
    cases h
    exact q
   ·obtain ⟨g,hfz,rfl,rfl,rfl⟩:=q
    cases h
    refine s0<|qm rfl<|A0 (I8 (ds:=cP g.1 p) rfl rfl rfl rfl) rfl<|qm rfl<|I0 (D1 (ds:=cP g.1 p) rfl rfl rfl rfl (Q5 (Nat.le_add_right _ _)) rfl) rfl<|qm rfl<|es (ra3 rfl rfl rfl)<|C4 ?_
    exact ⟨trivial,_,g.1,_,rfl,hfz,B1 rfl (P6 (I8 (ds:=cP g.1 p) rfl rfl rfl rfl) (B1 rfl B8)),B9k C8t⟩
theorem C4f {c:Sc} {H:A1} {b o n:Nat} {l r:List Int} (hr:∀M,rd (H++M) (.csl b o 1 n) 1 (l.map cI)) (h:app 8 ([]:List Int) l = some r) :
  U2 tab c H (.fn (.func 58) [] []) [.csl b o 1 n] [.seq 1 (r.map cI)]:= by
 refine cF rfl rfl<|s0<|qm rfl<|es (ra1 rfl)<|B6<|s0<|qm rfl<|A0 (D6i rfl) rfl<|es (ra2 rfl rfl)<|A0e rfl rfl<|C1<|sg 0 rfl<|A0 (B3c (rows:=List.map cI []) rfl rfl rfl) rfl<|qm rfl<|R2 (B6y (f:=cI) (d:=[]) rfl rfl rfl rfl (hr _) (fun _=>rfl) h) rfl<|qm rfl<|es (ra1 rfl)<|C4 ?_
 exact ⟨_,retq trivial (B1 rfl B8) (A7 rfl B9) (A4 E6 B2),rfl⟩
def A2b (t:DrRoom) (figs:List Int):Option (List Int × Int) :=
 (A7o t figs).bind fun x =>
 if (x.2 != 0) = true then some ([],x.2)
 else (slc (Ar4.l x.1.left_) 0 (List.length t.Ounces:Int)).bind fun v=>(app 8 ([]:List Int) v).bind fun w=>some (w,0)
def A2c (t:DrRoom) (figs:List Int):Option (Int × Int) :=
 (A7o t figs).bind fun x =>
 if (x.2 != 0) = true then some (0,x.2)
 else (M1 x.1).bind fun k=>if (!k) = true then some (0,9) else some (x.1.cost_,0)
theorem B3l {c:Sc} {H:A1} {l:List AO} {T:Tab} {s:B3} {n0:Nat} {v0 f:AV} {L:List AO} {p:dress_plan} {e:Int} {args:List Opd} {t:DrRoom} {figs:List Int} (hv:fzA v0 = v0) (hf:fz1 f = f) (ha:evs s args = some [.agg (A3 t),.seq 1 (figs.map cI)])
  (h:G8 T c (H++l) (.fn (.func 57) [] []) [.agg (A3 t),.seq 1 (figs.map cI)] [v0,.agg (cP f p),.i e] (H++l++L)):One T c n0 s (H++l) (.call (.f 57) args [] false) (packed [v0,.agg (cP f p),.i e]) (H++(l++L)):= by
 rw [← List.append_assoc]
 refine X8 rfl ha (A2 (C9 rfl) (A2 rfl B5)) h ?_
 show [fzA v0,AV.agg [fz1 f,.i p.cost_,.i p.left_.x0,.i p.left_.x1,.i p.left_.x2,.i p.left_.x3],.i e] = _
 rw [hv,hf]; rfl
theorem A6y {c:Sc} {H:A1} {a0:DrRoom} {a1:List Int} {r:List Int × Int} (h:A2b a0 a1 = some r) :
  F0 tab c H (.fn (.func 22) [] []) [(.agg (A3 a0)),(.seq 1 (List.map cI a1))] [(.seq 1 (List.map cI r.1)),.i r.2]:= by
 unfold A2b at h
 refine oB h fun x hx h=>?_
 obtain ⟨v0,f,L,hv,hf,hp⟩:=B8s (c:=⟨H.length,c.cur :: c.outer⟩) (H:=H++[.cells (A3 a0),.dead]) hx
 refine cE rfl rfl<|sg 0 rfl<|A0 (F6 (cs:=A3 a0) rfl rfl rfl) rfl<|qm rfl<|qm rfl<|es (ra2 rfl rfl)<|sg 1 rfl<|A0 (C2 rfl rfl rfl) rfl<|qm rfl<|R2 (B3l hv hf rfl hp) rfl<|qm rfl<|A0 (A5 rfl rfl) rfl<|A0 (A5 rfl rfl) rfl<|A0 (A5 rfl rfl) rfl<|A0 E4 rfl<|qm rfl<|I0 (D1 (ds:=cP f x.1) rfl rfl rfl rfl (Q5 (Nat.le_add_right _ _)) rfl) rfl<|qm rfl<|es (ra3 rfl rfl rfl)<|B6<|s0<|qm rfl<|A0 (J1 rfl rfl) rfl<|es (ra4 rfl rfl rfl rfl)<|wi h rfl (fun hc h=>?_) fun hc h=>?_
 ·obtain rfl:=os h
  refine s0<|qm rfl<|qm rfl<|qm rfl<|es (ra2 rfl rfl)<|C4 ?_
  exact retq trivial (B1 rfl (B1 rfl B8)) (A7 rfl (A7 rfl B9)) (A4 E6 (A4 A8 B2))
 ·refine oB h fun v hv2 h=>oB h fun w hw h=>?_
  obtain rfl:=os h
  refine C1<|s0<|A0 (D2 rfl) rfl<|A0 (D2 rfl) rfl<|A0 (C8 rfl rfl rfl) rfl<|A0 (D4 (f:=cI) rfl) rfl<|A0 (C5k (cs:=cP f x.1) (e:=Ar4.l x.1.left_) (m':=v) rfl (D7 rfl) rfl rfl rfl hv2) rfl<|B4 (rs:=[.seq 1 (w.map cI)]) rfl rfl (A2 rfl B5) (C4f (fun M=>?_) hw)<|qm rfl<|qm rfl<|es (ra2 rfl rfl)<|C4 ?_
  ·exact D7p (f:=cI) (cs:=cP f x.1) (e:=Ar4.l x.1.left_) (p:=Int.toNat (List.length a0.Ounces:Int)) (post:=[]) (N6 (D7 rfl) _) rfl rfl (fun _=>rfl) (slc0 hv2) rfl
  ·exact retq trivial (B1 rfl (B1 rfl B8)) (A7 rfl (A7 rfl B9)) (A4 E6 (A4 A8 B2))
theorem A6z {c:Sc} {H:A1} {a0:DrRoom} {a1:List Int} {r:Int × Int} (h:A2c a0 a1 = some r) :
  F0 tab c H (.fn (.func 24) [] []) [(.agg (A3 a0)),(.seq 1 (List.map cI a1))] [.i r.1,.i r.2]:= by
 unfold A2c at h
 refine oB h fun x hx h=>?_
 obtain ⟨v0,f,L,hv,hf,hp⟩:=B8s (c:=⟨H.length,c.cur :: c.outer⟩) (H:=H++[.cells (A3 a0),.dead]) hx
 refine cE rfl rfl<|sg 0 rfl<|A0 (F6 (cs:=A3 a0) rfl rfl rfl) rfl<|qm rfl<|qm rfl<|es (ra2 rfl rfl)<|sg 1 rfl<|A0 (C2 rfl rfl rfl) rfl<|qm rfl<|R2 (B3l hv hf rfl hp) rfl<|qm rfl<|A0 (A5 rfl rfl) rfl<|A0 (A5 rfl rfl) rfl<|A0 (A5 rfl rfl) rfl<|A0 E4 rfl<|qm rfl<|I0 (D1 (ds:=cP f x.1) rfl rfl rfl rfl (Q5 (Nat.le_add_right _ _)) rfl) rfl<|qm rfl<|es (ra2 rfl rfl)<|B6<|C3<|s0<|qm rfl<|A0 (J1 rfl rfl) rfl<|qm rfl<|es (ra3 rfl rfl rfl)<|wi h rfl (fun hc h=>?_) fun hc h=>?_
 ·obtain rfl:=os h
  refine s0<|qm rfl<|qm rfl<|qm rfl<|es (ra2 rfl rfl)<|C4 ?_
  exact retq trivial (B1 rfl (B1 rfl B8)) (A7 rfl (A7 rfl B9)) (A4 A8 (A4 A8 B2))
 ·refine oB h fun k hk h=>?_
  refine s0<|A0 (I8 (ds:=cP f x.1) rfl rfl rfl rfl) rfl<|R2 (U1 (rs':=[.b k]) rfl rfl (B7c hk).1 rfl) rfl<|A0 (S7 rfl) rfl<|qm rfl<|es (ra2 rfl rfl)<|wi h rfl (fun hc2 h=>?_) fun hc2 h=>?_
  ·obtain rfl:=os h
   refine s0<|qm rfl<|qm rfl<|es (ra2 rfl rfl)<|C4 ?_
   exact retq trivial (B1 rfl (B1 rfl B8)) (A7 rfl (A7 rfl B9)) (A4 A8 (A4 A8 B2))
  ·obtain rfl:=os h
   refine C1<|s0<|A0 (D2 rfl) rfl<|A0 (C8 (x:=.i x.1.cost_) rfl rfl rfl) rfl<|qm rfl<|qm rfl<|es (ra2 rfl rfl)<|C4 ?_
   exact retq trivial (B1 rfl (B1 rfl B8)) (A7 rfl (A7 rfl B9)) (A4 A8 (A4 A8 B2))
end Ds
end
section
set_option maxRecDepth 100000
set_option maxHeartbeats 0
namespace Ds
open Go Am Go.Proofs.Ytdkflofgolehkaa.Cd
def A2p (a0:dress_plan):Option Int :=
 (I1 a0).bind fun x1 =>
 some x1.2
theorem B8h {c:Sc} {H:A1} {a0:dress_plan} {r:Int} (h:A2p a0 = some r) :
  F0 tab c H (.fn (.func 74) [] []) [(.agg (A9 a0))] [.i r]:= by
 unfold A2p at h
 refine cE rfl rfl<|sg 0 rfl<|A0 (F6 (cs:=A9 a0) rfl rfl rfl) rfl<|qm rfl<|es (ra1 rfl)<|sg 1 rfl<|oB h fun x1 hx1 h=>A0 (C2 rfl rfl rfl) rfl<|R2 (A5z (rs:=[(.agg ((A1d cI) x1.1)),.i x1.2]) rfl rfl ((A4y hx1).frz)) rfl<|qm rfl<|A0 (A5 rfl rfl) rfl<|A0 (A5 rfl rfl) rfl<|A0 E4 rfl<|I0 (D1 (ds:=((A1d cI) x1.1)) rfl rfl rfl rfl (C5 rfl) rfl) rfl<|qm rfl<|es (ra1 rfl)<|s0<|qm rfl<|qm rfl<|es (ra1 rfl)<|C4 ?_
 obtain rfl:=os h
 exact retq trivial (B1 rfl B8) (A7 rfl B9) (A4 A8 B2)
def A4e (a0:dress_plan):Option Int :=
 some a0.cost_
theorem B8i {c:Sc} {H:A1} {a0:dress_plan} {r:Int} (h:A4e a0 = some r) :
  F0 tab c H (.fn (.func 76) [] []) [(.agg (A9 a0))] [.i r]:= by
 unfold A4e at h
 refine cE rfl rfl<|sg 0 rfl<|A0 (F6 (cs:=A9 a0) rfl rfl rfl) rfl<|qm rfl<|es (ra1 rfl)<|s0<|A0 (D2 rfl) rfl<|A0 (C8 rfl rfl rfl) rfl<|qm rfl<|es (ra1 rfl)<|C4 ?_
 obtain rfl:=os h
 exact retq trivial (B1 rfl B8) (A7 rfl B9) (A4 A8 B2)
end Ds
end
section
set_option maxRecDepth 100000
namespace Ds
open Go Am Go.Proofs.Ytdkflofgolehkaa.Cd
def by2:By:=[(74,A2p),(76,A4e)]
theorem D70:D7r by2:= by
 intro z hz p r c H h
 rcases List.mem_cons.1 hz with rfl | hz
 ·exact (B8h h).frz
 ·obtain rfl:=List.mem_singleton.1 hz
  exact (B8i h).frz
def B1g (x:dress_plan) (s:List dress_plan):Option (List dress_plan ⊕ Unit) :=
 (A2q x).bind fun q=>(app 64 s [q]).bind fun s'=>some (.inl s')
def A2o (t:DrRoom):Option (List Int × Int × Int) :=
 (M0 t).bind fun x1 =>
 if (x1.2.2 != 0) = true then some ([],0,x1.2.2)
 else (loop (L2 t) (0,[])).bind fun ch =>
  (J8 ⟨t⟩).bind fun w =>
  (A8g t ch w (List dress_plan) Unit B1g []).bind fun o =>
  match o with
  | .inr _=>none
  | .inl all =>
   (M8 all (fun y=>B28 by2 y.1 y.2)).bind fun z =>
   if (!z.2) = true then some ([],0,9)
   else (I1 z.1).bind fun u=>(slc (Ar4.l u.1) 0 (List.length t.Ounces:Int)).bind fun v=>(app 8 ([]:List Int) v).bind fun o=>some (o,z.1.cost_,0)
def A41 (N:Nat) (t:DrRoom) (ch:Chg) (persons:Int) (s:List dress_plan):List AO:=[.cells (A3 t),.cells (A3 t),.map (B0x ch),.cells (A40 t (N + 2)),.arr 6 false (s.map A9),.cells [.asl (N + 4) s.length],.cells [.ptr (N + 3) 0],.cells [.i persons]]
theorem A42 {c:Sc} {H:A1} (hscv:S8 c H = true) {a0:DrRoom} {r:List Int × Int × Int} (h:A2o a0 = some r) :
  F0 tab c H (.fn (.func 34) [] []) [(.agg (A3 a0))] [(.seq 1 (List.map cI r.1)),.i r.2.1,.i r.2.2]:= by
 unfold A2o at h
 refine oB h fun x1 hx1 h=>?_
 refine cE rfl rfl<|sg 0 rfl<|A0 (F6 (cs:=A3 a0) rfl rfl rfl) rfl<|qm rfl<|qm rfl<|qm rfl<|es (ra1 rfl) ?_
 by_cases hc1:(x1.2.2 != 0) = true
 ·rw [if_pos hc1] at h
  obtain rfl:=os h
  refine s0<|A0 (C2 rfl rfl rfl) rfl<|R2 (X8 rfl rfl (A2 (C9 rfl) B5) (B75 hx1 hc1) rfl) rfl<|qm rfl<|A0 (A5 rfl rfl) rfl<|A0 (A5 rfl rfl) rfl<|qm rfl<|qm rfl<|es (ra3 rfl rfl rfl)<|B6<|s0<|qm rfl<|A0 (J1 rfl rfl) rfl<|es (ra4 rfl rfl rfl rfl)<|T0 rfl hc1<|s0<|qm rfl<|qm rfl<|qm rfl<|qm rfl<|es (ra3 rfl rfl rfl)<|C4 ?_
  exact retq trivial (B1 rfl (B1 rfl (B1 rfl B8))) (A7 rfl (A7 rfl (A7 rfl B9))) (A4 E6 (A4 A8 (A4 A8 B2)))
 ·rw [if_neg hc1] at h
  have hc1:(x1.2.2 != 0) = false:=Bool.eq_false_iff.2 hc1
  refine oB h fun ch hch h=>oB h fun w hw h=>oB h fun o8 ho8 h=>?_
  have hlook:G8 tab ⟨H.length,c.cur :: c.outer⟩ (H++[.cells (A3 a0)]) (.fn (.func 52) [] []) [(.agg (A3 a0))] [.ptr (H.length + 3) 0,.i 0] (H++[.cells (A3 a0),.cells (A3 a0),.map (B0x ch),.cells (A40 a0 (H.length + 2))]):= by
   have:=B76 (c:=⟨H.length,c.cur :: c.outer⟩) (H:=H++[.cells (A3 a0)]) hx1 hc1 hch
   unfold C9j at this
   rw [List.length_append,List.append_assoc] at this
   exact this
  refine s0<|A0 (C2 rfl rfl rfl) rfl<|R2 (X8 rfl rfl (A2 (C9 rfl) B5) hlook rfl) rfl<|qm rfl<|A0 (A5 rfl rfl) rfl<|A0 (A5 rfl rfl) rfl<|qm rfl<|qm rfl<|es (ra3 rfl rfl rfl)<|B6<|s0<|qm rfl<|A0 (O4 (v:=(.b false)) rfl rfl rfl) rfl<|es (ra4 rfl rfl rfl rfl)<|A0e rfl rfl<|C1<|sg 4 rfl<|A0 C5h rfl<|es (ra3 rfl rfl rfl)<|B6<|s0<|qm rfl<|qm rfl<|B4 (rs:=[.i w]) rfl rfl (A2 rfl B5) ((N4 (a0:=⟨a0⟩) (D7 rfl) hw).frz)<|A3x (as2:=[.ptr (H.length + 3) 0,.i w]) (H1:=(H++[.cells (A3 a0),.cells (A3 a0),.map (B0x ch),.cells (A40 a0 (H.length + 2)),.arr 6 false [],.cells [.asl (H.length + 4) 0]])) rfl rfl (A2 rfl (A2 rfl B5)) rfl rfl rfl (A8c rfl)<|sg 6 rfl<|A0 (F6 (cs:=[.ptr (H.length + 3) 0]) rfl rfl rfl) rfl<|A0 (F6 (cs:=[.i w]) rfl rfl rfl) rfl<|qm rfl<|es (ra2 rfl rfl)<|s0<|A0 (A8f rfl rfl) rfl<|qm rfl<|es (ra1 rfl)<|C4<|InlQ.mk trivial ⟨_,_,_,[(.fn (.func 100) [] [(.ptr (H.length + 6) 0),(.ptr (H.length + 7) 0)])],_,(B1 rfl B8),(A7 rfl B9),(A79 (A22 (D2k (A22 (A7w rfl)))) (L1 rfl A27)),?_⟩
  refine es (ra3 rfl rfl rfl)<|C3<|C6i (σ:=List dress_plan) (ρ:=Unit) (k:=8) (body:=B1g) (sh:=shP) (pre:=fun H1=>hcells H1 (H.length + 6) = some [.ptr (H.length + 3) 0]∧hcells H1 (H.length + 7) = some [.i w]∧A8w H1 (H.length + 3) a0 ch) (C5x (t:=a0) (ch:=ch) (persons:=w) (b1:=H.length + 6) (b2:=H.length + 7) (b:=H.length + 3)) [(6,(.ptr (H.length + 5) 0))] (A41 H.length a0 ch w) (fun (_:Unit)=>A41 H.length a0 ch w []) (fun _=>.ret) ho8 (fun _=>rfl) rfl (fun S hS=>P4 (live:=[6]) rfl (by decide) (Sub.trans (su1 rfl) hS)) rfl (fun _=>rfl) (fun _=>rfl) ⟨fun _ _=>⟨D7 rfl,D7 rfl,⟨_,D7 rfl,A1z rfl⟩⟩,fun _ _=>⟨D7 rfl,D7 rfl,⟨_,D7 rfl,A1z rfl⟩⟩⟩ (A1b hscv) (fun c x s o L v hsc hgr hv hbo y0 y1=>?_) ?_
  ·obtain ⟨f,rfl,hf⟩:=hv
   unfold B1g at hbo
   have hlm:∀(z:AO),(A41 H.length a0 ch w s++z :: L).length = 9 + L.length:=fun z=>by simp [A41]; omega
   have hlen:(H++(A41 H.length a0 ch w s++y0 :: L)).length = H.length + (9 + L.length):= by rw [List.length_append,hlm]
   have hfr:A8x (H++(A41 H.length a0 ch w s++[y1])).length (L++[AO.cells (cP f x)]) f (x.figures_.map cI):= by
    rw [List.length_append]
    exact hf.app rfl
   have hsh:∀(M:A1),B17 (H++(A41 H.length a0 ch w s++y1 :: (L++[AO.cells (cP f x)]))++M) 1 f (x.figures_.map cI):=fun M=>by
    have:=hfr.shr.toR.app (L:=M)
    simpa using this
   refine A0r (Q:=fun e s1 H1=>e = .normal∧Sub [(6,(.ptr (H.length + 5) 0)),(7,(.ptr (H.length + (9 + L.length)) 0))] s1∧H1 = H++(A41 H.length a0 ch w s++y0 :: (L++[AO.cells (cP f x)]))) ?_ ?_
   ·have key:WP tab (.region false 1 [] [⟨some 7,.alloc [.seq 1 [],.i 0,.i 0,.i 0,.i 0,.i 0] [] 0,none,[],[],0,0⟩,⟨none,.store 6 (.t 7) (.t 25),none,[],[],0,1⟩] [6,7]) [(25,.agg (cP f x)),(6,(.ptr (H.length + 5) 0))] (H++(A41 H.length a0 ch w s++y0 :: L)++[]) ⟨H.length + (8 + 1 + L.length),c⟩ (fun e s1 H1=>e = .normal∧Sub [(6,(.ptr (H.length + 5) 0)),(7,(.ptr (H.length + (9 + L.length)) 0))] s1∧H1 = H++(A41 H.length a0 ch w s++y0 :: (L++[AO.cells (cP f x)]))):= by
     refine rg 0 rfl<|A0 E4 rfl<|I0 (D1 (ds:=cP f x) rfl rfl rfl rfl (Q5 ?_) rfl) rfl<|en (ra2 rfl rfl) ⟨rfl,?_,?_⟩
     ·show H.length + (8 + 1 + L.length)≤(H++(A41 H.length a0 ch w s++y0 :: L)).length + 0
      rw [hlen]; omega
     ·rw [← hlen]; exact su2 rfl rfl
     ·show H++(A41 H.length a0 ch w s++y0 :: L)++[AO.cells (cP f x)] = _
      simp
    rw [List.append_nil] at key
    exact key
   ·rintro e s1 H1 ⟨rfl,hsub,rfl⟩
    refine ⟨_,rfl,rfl,rfl,fun S hS=>?_⟩
    refine (?_:WP tab _ [(6,(.ptr (H.length + 5) 0)),(7,(.ptr (H.length + (9 + L.length)) 0))] (H++(A41 H.length a0 ch w s++y1 :: (L++[AO.cells (cP f x)]))) _ _) S (Sub.trans hsub hS)
    have hpb:∀s',(A41 H.length a0 ch w s'++y1 :: (L++[AO.cells (cP f x)]))[9 + L.length]? = some (.cells (cP f x)):=fun s'=>by
     have hl5:(A41 H.length a0 ch w s'++y1 :: L).length = 9 + L.length:= by simp [A41]; omega
     rw [show A41 H.length a0 ch w s'++y1 :: (L++[AO.cells (cP f x)]) = (A41 H.length a0 ch w s'++y1 :: L)++[AO.cells (cP f x)] by simp,List.getElem?_append_right (by rw [hl5]; exact Nat.le_refl _),hl5,Nat.sub_self]; rfl
    have htk:∀s',(A41 H.length a0 ch w s'++y1 :: (L++[AO.cells (cP f x)])).take (8 + 1 + L.length) = A41 H.length a0 ch w s'++y1 :: L:=fun s'=>by
     have hl5:(A41 H.length a0 ch w s'++y1 :: L).length = 8 + 1 + L.length:= by simp [A41]; omega
     rw [show A41 H.length a0 ch w s'++y1 :: (L++[AO.cells (cP f x)]) = (A41 H.length a0 ch w s'++y1 :: L)++[AO.cells (cP f x)] by simp,← hl5]
     exact List.take_left
    refine oB hbo fun q hq hbo=>oB hbo fun s' hs' hbo=>?_
    have hsh0:=(hsh []).toRo
    rw [List.append_nil] at hsh0
    refine C3<|r0<|A0 (C8 (x:=.asl (H.length + 4) s.length) rfl rfl rfl) rfl<|A0 (I8 (ds:=cP f x) rfl (hpb _) rfl rfl) rfl<|A0 (B1v rfl rfl (D4m hsh0 hq)) rfl<|A0 (G2 (rows:=List.map A9 [q]) rfl rfl (D8 (fun _=>rfl) _)) rfl<|R2 (V3 (f:=A9) rfl rfl rfl rfl Q3 (fun _=>rfl) hs') rfl<|I0 (D1 (ds:=[.asl (H.length + 4) s'.length]) rfl rfl rfl rfl (C5m (Nat.lt_succ_self _)) rfl) rfl<|en .n ?_
    cases hbo
    exact ⟨_,rfl,rfl,htk _⟩
  ·rcases o8 with all | l8
   ·refine oB h fun z hz h=>?_
    have himp:∀l:List AO,Impl tab (H++l) 78 [.agg [.xseq 1 (by2.map A23)]] [] (fun y:dress_plan × dress_plan=>B28 by2 y.1 y.2) (fun y=>[(.agg (A9 y.1)),(.agg (A9 y.2))]) (fun y=>[.b y]):=fun l=>by
     refine ⟨⟨?_,rfl⟩,fun H' _ _ c x r' e=>?_⟩
     ·simp only [bdL,AV.bd,C2f,Bool.and_self]
     ·exact (A83 (a:=[.agg [.xseq 1 (by2.map A23)]]) (C9h D70 e)).frz
    refine sg 9 rfl<|A0 (C9o (rows:=by2.map A23) rfl rfl) rfl<|A0 (L6 (cs:=[.xseq 1 (by2.map A23)]) rfl rfl) rfl<|A0 E4 rfl<|I0 (D1 (ds:=[.xseq 1 (by2.map A23)]) rfl rfl rfl rfl (Q5 (Nat.le_add_right _ _)) rfl) rfl<|es (ra3 rfl rfl rfl)<|sg 10 rfl<|A0 (C8 (x:=.asl (H.length + 4) all.length) rfl rfl rfl) rfl<|A0 (C2 rfl rfl rfl) rfl<|A0 (A8f rfl rfl) rfl<|B4 (rs:=[.agg (A9 z.1),.b z.2]) rfl rfl (A2 (B1i rfl (List.length_map _)) (A2 rfl B5)) (A1t (himp _) hz).frz<|qm rfl<|A0 (A5 rfl rfl) rfl<|A0 (A5 rfl rfl) rfl<|A0 E4 rfl<|I0 (D1 (ds:=A9 z.1) rfl rfl rfl rfl (C5 rfl) rfl) rfl<|qm rfl<|es (ra3 rfl rfl rfl)<|B6<|s0<|qm rfl<|A0 (S7 rfl) rfl<|es (ra3 rfl rfl rfl)<|wi h rfl (fun hc2 h=>?_) fun hc2 h=>?_
    ·obtain rfl:=os h
     refine s0<|qm rfl<|qm rfl<|qm rfl<|es (ra3 rfl rfl rfl)<|C4 ?_
     exact retq trivial (B1 rfl (B1 rfl (B1 rfl B8))) (A7 rfl (A7 rfl (A7 rfl B9))) (A4 E6 (A4 A8 (A4 A8 B2)))
    ·refine oB h fun u hu h=>oB h fun v hv h=>oB h fun q hq h=>?_
     obtain rfl:=os h
     refine C1<|sg 11 rfl<|A0 (C2 rfl rfl rfl) rfl<|R2 (U1 (rs':=[(.agg ((A1d cI) u.1)),.i u.2]) rfl rfl (C46 hu).1 rfl) rfl<|qm rfl<|A0 (A5 rfl rfl) rfl<|A0 (A5 rfl rfl) rfl<|A0 E4 rfl<|I0 (D1 (ds:=((A1d cI) u.1)) rfl rfl rfl rfl (C5 rfl) rfl) rfl<|qm rfl<|es (ra3 rfl rfl rfl)<|s0<|A0 (D2 rfl) rfl<|A0 (C8 rfl rfl rfl) rfl<|A0 (D4 (f:=cI) rfl) rfl<|A0 (C5k (cs:=(A1d cI) u.1) (e:=Ar4.l u.1) (m':=v) rfl (D7 rfl) rfl rfl rfl hv) rfl<|A05 (rs:=[.seq 1 (q.map cI)]) rfl rfl (L7 rfl A3z) (A2 rfl B5) (C4f (fun M=>?_) hq)<|A0 (D2 rfl) rfl<|A0 (C8 (x:=.i z.1.cost_) rfl rfl rfl) rfl<|qm rfl<|qm rfl<|qm rfl<|es (ra3 rfl rfl rfl)<|C4 ?_
     ·exact D7p (f:=cI) (cs:=(A1d cI) u.1) (e:=Ar4.l u.1) (p:=Int.toNat (List.length a0.Ounces:Int)) (post:=[]) (N6 (A01 rfl) _) rfl rfl (fun _=>rfl) (slc0 hv) rfl
     ·exact retq trivial (B1 rfl (B1 rfl (B1 rfl B8))) (A7 rfl (A7 rfl (A7 rfl B9))) (A4 E6 (A4 A8 (A4 A8 B2)))
   ·cases h
end Ds
end
section
set_option maxRecDepth 100000
set_option maxHeartbeats 0
namespace Ds
open Go Am Go.Proofs.Ytdkflofgolehkaa.Cd
def A70 (a0:Int) (a1:Int):Option Bool :=
 (A0i a0).bind fun x1 =>
 (if x1 = true then
  (A0i a1).bind fun x3 =>
  some (!x3)
 else
  some false).bind fun x4 =>
 some (x4 || (decide (a0 < a1)))
theorem B6d {c:Sc} {H:A1} {a0:Int} {a1:Int} {r:Bool} (h:A70 a0 a1 = some r) :
  F0 tab c H (.fn (.func 111) [] []) [.i a0,.i a1] [.b r]:= by
 unfold A70 at h
 refine cE rfl rfl<|s0<|qm rfl<|es (ra2 rfl rfl)<|s0<|oB h fun x1 hx1 h=>oB h fun x4 hx4 h=>qm rfl<|B4 (rs:=[.b x1]) rfl rfl (A2 rfl B5) ((A1m hx1).frz)<|qm rfl<|gp 4 11 (.b x4) 7 rfl rfl (fun hg2=>?_) (fun hg2=>?_) ?_
 ·refine oB (bt hx4 hg2) fun x3 hx3 hx4=>?_
  obtain rfl:=os hx4
  exact gT rfl hg2<|qm rfl<|gT rfl hg2<|B4 (rs:=[.b x3]) rfl rfl (A2 rfl B5) ((A1m hx3).frz)<|gT rfl hg2<|A0 (S7 rfl) rfl<|A0 (C7 rfl hg2 rfl) rfl<|ge 4 rfl rfl rfl
 ·obtain rfl:=os (bf hx4 hg2)
  exact nT rfl hg2 rfl<|O0 (G7 rfl (by rw [hg2]; rfl)) rfl<|nT rfl hg2 rfl<|A0 (C6 rfl hg2 rfl) rfl<|ge 4 rfl rfl rfl
 refine qm rfl<|gp 4 16 (.b (x4 || (decide (a0 < a1)))) 12 rfl rfl (fun hg5=>?_) (fun hg5=>?_) ?_
 ·exact nF rfl hg5 rfl<|nF rfl hg5 rfl<|nF rfl hg5 rfl<|A0 (C7 rfl hg5 rfl) rfl<|ge 4 (by rw [hg5]; rfl) rfl rfl
 ·exact gF rfl hg5<|qm rfl<|gF rfl hg5<|qm rfl<|gF rfl hg5<|A0 (G3 rfl rfl) rfl<|A0 (C6 rfl hg5 rfl) rfl<|ge 4 (by rw [hg5]; rfl) rfl rfl
 refine qm rfl<|es (ra1 rfl)<|C4 ?_
 obtain rfl:=os h
 exact retq trivial (B1 rfl B8) (A7 rfl B9) (A4 A8 B2)
def A4w (a0:Int):Option Int :=
 (if (decide (a0 ≥ 4294967296)) = true then
  (B9b .u64 a0 32).bind fun x3 =>
  some (x3,32)
  else
  some (a0,0)).bind fun (p1:(Int × Int)) =>
 (if (decide (p1.1 ≥ 65536)) = true then
  (B9b .u64 p1.1 16).bind fun x6 =>
  some (x6,(w64 (p1.2 + 16)))
  else
  some (p1.1,p1.2)).bind fun (p4:(Int × Int)) =>
 if (decide (p4.1 ≥ 256)) = true then
  (B9b .u64 p4.1 8).bind fun x8 =>
  (B30 (ByteArray.mk #[0,1,2,2,3,3,3,3,4,4,4,4,4,4,4,4,5,5,5,5,5,5,5,5,5,5,5,5,5,5,5,5,6,6,6,6,6,6,6,6,6,6,6,6,6,6,6,6,6,6,6,6,6,6,6,6,6,6,6,6,6,6,6,6,7,7,7,7,7,7,7,7,7,7,7,7,7,7,7,7,7,7,7,7,7,7,7,7,7,7,7,7,7,7,7,7,7,7,7,7,7,7,7,7,7,7,7,7,7,7,7,7,7,7,7,7,7,7,7,7,7,7,7,7,7,7,7,7,8,8,8,8,8,8,8,8,8,8,8,8,8,8,8,8,8,8,8,8,8,8,8,8,8,8,8,8,8,8,8,8,8,8,8,8,8,8,8,8,8,8,8,8,8,8,8,8,8,8,8,8,8,8,8,8,8,8,8,8,8,8,8,8,8,8,8,8,8,8,8,8,8,8,8,8,8,8,8,8,8,8,8,8,8,8,8,8,8,8,8,8,8,8,8,8,8,8,8,8,8,8,8,8,8,8,8,8,8,8,8,8,8,8,8,8,8,8,8,8,8,8,8,8,8,8,8,8]) (IntKind.u8.wrap x8)).bind fun x9 =>
  some (w64 ((w64 (p4.2 + 8)) + (w64 x9)))
 else
  (B30 (ByteArray.mk #[0,1,2,2,3,3,3,3,4,4,4,4,4,4,4,4,5,5,5,5,5,5,5,5,5,5,5,5,5,5,5,5,6,6,6,6,6,6,6,6,6,6,6,6,6,6,6,6,6,6,6,6,6,6,6,6,6,6,6,6,6,6,6,6,7,7,7,7,7,7,7,7,7,7,7,7,7,7,7,7,7,7,7,7,7,7,7,7,7,7,7,7,7,7,7,7,7,7,7,7,7,7,7,7,7,7,7,7,7,7,7,7,7,7,7,7,7,7,7,7,7,7,7,7,7,7,7,7,8,8,8,8,8,8,8,8,8,8,8,8,8,8,8,8,8,8,8,8,8,8,8,8,8,8,8,8,8,8,8,8,8,8,8,8,8,8,8,8,8,8,8,8,8,8,8,8,8,8,8,8,8,8,8,8,8,8,8,8,8,8,8,8,8,8,8,8,8,8,8,8,8,8,8,8,8,8,8,8,8,8,8,8,8,8,8,8,8,8,8,8,8,8,8,8,8,8,8,8,8,8,8,8,8,8,8,8,8,8,8,8,8,8,8,8,8,8,8,8,8,8,8,8,8,8,8,8]) (IntKind.u8.wrap p4.1)).bind fun x10 =>
  some (w64 (p4.2 + (w64 x10)))
theorem B1u {c:Sc} {H:A1} {a0:Int} {r:Int} (h:A4w a0 = some r) :
  F0 tab c H (.fn (.func 115) [] []) [(.lit (.int .u64 a0))] [.i r]:= by
 unfold A4w at h
 refine cE rfl rfl<|s0<|qm rfl<|es (ra2 rfl rfl)<|B6<|s0<|qm rfl<|A0 (A66 rfl rfl) rfl<|es (ra3 rfl rfl rfl)<|oB h fun p1 hp1 h=>B48 (Q1:=fun e s' H'=>e = .normal∧s' = [(0,(.lit (.int .u64 p1.1))),(2,.i p1.2)]∧H' = (H++[])) ?_ ?_
 ·refine wi hp1 rfl (fun hc2 hp1=>?_) fun hc2 hp1=>?_
  ·refine s0<|oB hp1 fun x3 hx3 hp1=>qm rfl<|A0 (B8e rfl rfl hx3) rfl<|qm rfl<|es (ra1 rfl)<|r0<|qm rfl<|en (ra2 rfl rfl) ?_
   obtain rfl:=os hp1
   exact me (And.intro rfl (And.intro rfl rfl)) (su2 rfl rfl)
  ·refine C1 ?_
   obtain rfl:=os hp1
   exact me (And.intro rfl (And.intro rfl rfl)) (su2 rfl rfl)
 ·rintro e s' H' ⟨rfl,rfl,rfl⟩
  refine B6<|s0<|qm rfl<|A0 (A66 rfl rfl) rfl<|es (ra3 rfl rfl rfl)<|oB h fun p4 hp4 h=>B48 (Q1:=fun e s' H'=>e = .normal∧s' = [(0,(.lit (.int .u64 p4.1))),(2,.i p4.2)]∧H' = (H++[])) ?_ ?_
  ·refine wi hp4 rfl (fun hc5 hp4=>?_) fun hc5 hp4=>?_
   ·refine s0<|oB hp4 fun x6 hx6 hp4=>qm rfl<|A0 (B8e rfl rfl hx6) rfl<|qm rfl<|es (ra2 rfl rfl)<|r0<|qm rfl<|A0 (E7 rfl rfl) rfl<|qm rfl<|en (ra2 rfl rfl) ?_
    obtain rfl:=os hp4
    exact me (And.intro rfl (And.intro rfl rfl)) (su2 rfl rfl)
   ·refine C1 ?_
    obtain rfl:=os hp4
    exact me (And.intro rfl (And.intro rfl rfl)) (su2 rfl rfl)
  ·rintro e s' H' ⟨rfl,rfl,rfl⟩
   refine B6<|s0<|qm rfl<|A0 (A66 rfl rfl) rfl<|es (ra3 rfl rfl rfl)<|wi h rfl (fun hc7 h=>?_) fun hc7 h=>?_
   ·refine s0<|oB h fun x8 hx8 h=>qm rfl<|A0 (B8e rfl rfl hx8) rfl<|qm rfl<|es (ra2 rfl rfl)<|r0<|qm rfl<|A0 (E7 rfl rfl) rfl<|qm rfl<|en (ra2 rfl rfl)<|s0<|oB h fun x9 hx9 h=>qm rfl<|qm rfl<|A0 (A9j rfl) rfl<|A0 (A9l rfl rfl hx9) rfl<|A0 (A9j rfl) rfl<|A0 (E7 rfl rfl) rfl<|qm rfl<|es (ra1 rfl)<|C4 ?_
    obtain rfl:=os h
    exact retq trivial (B1 rfl B8) (A7 rfl B9) (A4 A8 B2)
   ·refine C1<|s0<|oB h fun x10 hx10 h=>qm rfl<|qm rfl<|A0 (A9j rfl) rfl<|A0 (A9l rfl rfl hx10) rfl<|A0 (A9j rfl) rfl<|A0 (E7 rfl rfl) rfl<|qm rfl<|es (ra1 rfl)<|C4 ?_
    obtain rfl:=os h
    exact retq trivial (B1 rfl B8) (A7 rfl B9) (A4 A8 B2)
def A6w (a0:Int):Option Int :=
 (A4w a0).bind fun x1 =>
 some x1
theorem B4r {c:Sc} {H:A1} {a0:Int} {r:Int} (h:A6w a0 = some r) :
  F0 tab c H (.fn (.func 97) [] []) [(.lit (.int .u64 a0))] [.i r]:= by
 unfold A6w at h
 refine cE rfl rfl<|s0<|qm rfl<|es (ra1 rfl)<|B6<|A0e rfl rfl<|C1<|s0<|oB h fun x1 hx1 h=>qm rfl<|B4 (rs:=[.i x1]) rfl rfl (A2 rfl B5) ((B1u hx1).frz)<|qm rfl<|es (ra1 rfl)<|C4 ?_
 obtain rfl:=os h
 exact retq trivial (B1 rfl B8) (A7 rfl B9) (A4 A8 B2)
end Ds
end
section
set_option maxRecDepth 100000
namespace Am
open Go
theorem C1j {σ ρ:Type} {b:σ→Option (σ ⊕ ρ)} (I:σ→Prop) (J:ρ→Prop) (hs:∀x y,I x→b x = some (.inl y)→I y) (he:∀x r,I x→b x = some (.inr r)→J r) {x0:σ} {r:ρ} (h0:I x0) (h:loop b x0 = some r):J r:= by
 have key:∀n x0,I x0→A3s b n x0 = some r→J r:= by
  intro n
  induction n with
  | zero=>intro x0 _ h; cases h
  | succ n ih =>
   intro x0 hI h
   rw [H9] at h
   split at h
   ·next x' hb=>exact ih x' (hs _ _ hI hb) h
   ·next r' hb=>simp only [Option.some.injEq] at h; subst h; exact he _ _ hI hb
   ·cases h
 exact key _ _ h0 h
end Am
namespace Ds
open Go Am Go.Proofs.Ytdkflofgolehkaa.Cd
def B64 (a:Int) (s:Int × List Int):Option ((Int × List Int) ⊕ List Int) :=
 (if (decide (s.1 > a)) = true then (idx s.2 s.1).bind fun x=>(idx s.2 (w64 (s.1 - 1))).bind fun y=>(A70 x y).bind fun z=>some z else some false).bind fun g =>
 if g = true then
  (idx s.2 (w64 (s.1 - 1))).bind fun y=>(idx s.2 s.1).bind fun x =>
  (idx (B11 s.2 s.1 y) (w64 (s.1 - 1))).bind fun _ =>
  some (.inl (w64 (s.1 - 1),B11 (B11 s.2 s.1 y) (w64 (s.1 - 1)) x))
 else some (.inr s.2)
def B63 (a b:Int) (s:Int × List Int):Option ((Int × List Int) ⊕ List Int) :=
 if (decide (s.1 < b)) = true then
  (loop (B64 a) (s.1,s.2)).bind fun l=>some (.inl (w64 (s.1 + 1),l))
 else some (.inr s.2)
def C6d (a b:Int) (l:List Int):Option (List Int):=loop (B63 a b) (w64 (a + 1),l)
def ar1 (l:List Int):AO:=.arr 1 false (l.map cI)
theorem D41 {c:Sc} {A B:A1} {a b:Int} {l r:List Int} (h:C6d a b l = some r) :
  G8 tab c (A++(ar1 l :: B)) (.fn (.func 105) [] []) [.asl (A.length + 0) l.length,.i a,.i b] [] (A++(ar1 r :: B)):= by
 unfold C6d at h
 have htk:∀x:AO,(x :: B).take (B.length + 1) = x :: B:=fun x=>List.take_of_length_le (Nat.le_refl _)
 refine A84 (aq:=[.asl (A.length + 0) l.length,.i a,.i b]) rfl rfl rfl ?_
 refine s0<|qm rfl<|A0 (E7 rfl rfl) rfl<|qm rfl<|es (ra4 rfl rfl rfl rfl)<|C3<|wl (fun s=>[(0,.asl (A.length + 0) s.2.length),(1,.i a),(2,.i b),(6,.i s.1)]) (fun (_:Unit) s=>ar1 s.2 :: B) (B.length + 1) (fun r e s' H'=>PX 0 [] (A++(ar1 r :: B)) e s' H') () h rfl rfl (fun _ _=>rfl) (fun _=>rfl) rfl (fun s=>bdc (A0s (Nat.ble_eq_true_of_le (by omega))) (bdc A8 (bdc A8 (bdc A8 bdn)))) (fun _ s o hs=>?_) ?_
 ·unfold B63 at hs
  refine B6<|s0<|qm rfl<|qm rfl<|A0 (G3 rfl rfl) rfl<|es (ra5 rfl rfl rfl rfl rfl)<|wi hs rfl (fun hc hs=>?_) fun hc hs=>?_
  ·refine oB hs fun l1 hl1 hs=>?_
   refine C1<|B6<|C3<|s0<|qm rfl<|qm rfl<|es (ra5 rfl rfl rfl rfl rfl)<|C3<|wl (fun t=>[(0,.asl (A.length + 0) t.2.length),(1,.i a),(2,.i b),(6,.i s.1),(7,.i t.1)]) (fun (_:Unit) t=>ar1 t.2 :: B) (B.length + 1) (fun r e s' H'=>PX 2 [(0,.asl (A.length + 0) r.length),(1,.i a),(2,.i b),(6,.i s.1)] (A++(ar1 r :: B)) e s' H') () hl1 rfl rfl (fun _ _=>rfl) (fun _=>rfl) rfl (fun t=>bdc (A0s (Nat.ble_eq_true_of_le (by omega))) (bdc A8 (bdc A8 (bdc A8 (bdc A8 bdn))))) (fun _ t o' ht=>?_) ?_
   ·unfold B64 at ht
    refine oB ht fun g hg ht=>?_
    refine B6<|s0<|qm rfl<|qm rfl<|A0 (A80 rfl rfl) rfl<|qm rfl<|gp 11 30 (.b g) 19 rfl rfl (fun hb=>?_) (fun hb=>?_) ?_
    ·refine oB (bt hg hb) fun x hx hg=>oB hg fun y hy hg=>oB hg fun z hz hg=>?_
     obtain rfl:=os hg
     exact gT rfl hb<|qm rfl<|gT rfl hb<|qm rfl<|gT rfl hb<|A0 (A9k (f:=cI) rfl rfl rfl rfl hx) rfl<|gT rfl hb<|A0 (B0m (x:=.i x) rfl rfl (List.length_map _) (A9x hx) rfl) rfl<|gT rfl hb<|qm rfl<|gT rfl hb<|qm rfl<|gT rfl hb<|A0 (Y8 rfl rfl) rfl<|gT rfl hb<|A0 (A9k (f:=cI) rfl rfl rfl rfl hy) rfl<|gT rfl hb<|A0 (B0m (x:=.i y) rfl rfl (List.length_map _) (A9x hy) rfl) rfl<|gT rfl hb<|B4 (rs:=[.b z]) rfl rfl (A2 rfl (A2 rfl B5)) ((B6d hz).frz)<|A0 (C7 rfl hb rfl) rfl<|ge 11 rfl rfl rfl
    ·obtain rfl:=os (bf hg hb)
     exact nT rfl hb rfl<|nT rfl hb rfl<|nT rfl hb rfl<|nT rfl hb rfl<|nT rfl hb rfl<|nT rfl hb rfl<|nT rfl hb rfl<|nT rfl hb rfl<|nT rfl hb rfl<|O0 (G7 rfl (by rw [hb]; rfl)) rfl<|A0 (C6 rfl hb rfl) rfl<|ge 11 rfl rfl rfl
    ·refine es (ra6 rfl rfl rfl rfl rfl rfl)<|wi ht rfl (fun hc2 ht=>?_) fun hc2 ht=>?_
     ·refine oB ht fun y hy ht=>oB ht fun x hx ht=>oB ht fun w hw ht=>?_
      refine C1<|B6<|C3<|r0<|qm rfl<|qm rfl<|qm rfl<|qm rfl<|A0 (Y8 rfl rfl) rfl<|A0 (A9k (f:=cI) rfl rfl rfl rfl hy) rfl<|A0 (B0m (x:=.i y) rfl rfl (List.length_map _) (A9x hy) rfl) rfl<|qm rfl<|qm rfl<|A0 (A9k (f:=cI) rfl rfl rfl rfl hx) rfl<|A0 (B0m (x:=.i x) rfl rfl (List.length_map _) (A9x hx) rfl) rfl<|A0 (A9k (f:=cI) rfl rfl rfl rfl hx) rfl<|I0 (C5l (ds:=cI y) rfl rfl rfl rfl rfl (List.length_map _) (A9x hx) rfl rfl) rfl ?_
      rw [C5e]
      refine qm rfl<|qm rfl<|A0 (Y8 rfl rfl) rfl<|A0 (A9k (f:=cI) (e:=B11 t.2 t.1 y) rfl rfl rfl (A6m _ _ _) hw) rfl<|I0 (C5l (ds:=cI x) rfl rfl rfl rfl rfl (by rw [List.length_map,A6m]) (A9x hw) rfl rfl) rfl ?_
      rw [C5e]
      refine en (ra5 rfl rfl rfl rfl rfl)<|r0<|qm rfl<|A0 (Y8 rfl rfl) rfl<|qm rfl<|en (ra5 rfl rfl rfl rfl rfl) ?_
      cases ht
      exact lnT () (htk _) (su5 (by simp only [A6m]; rfl) rfl rfl rfl rfl)
     ·refine F3 ?_
      obtain rfl:=os ht
      exact lx rfl px (su4 rfl rfl rfl rfl)
   ·rintro e s' H' - ⟨rfl,rfl,rfl⟩
    refine r0<|qm rfl<|A0 (E7 rfl rfl) rfl<|qm rfl<|en (ra4 rfl rfl rfl rfl) ?_
    cases hs
    exact lnT () (htk _) (su4 rfl rfl rfl rfl)
  ·refine F3 ?_
   obtain rfl:=os hs
   exact lx rfl px (Sub.nil _)
 ·rintro e s' H' - ⟨rfl,rfl,rfl⟩
  show B9t _ _ _ _ .normal _ _
  exact C75 trivial B8 B9 B2 (List.take_of_length_le (by simp))
def D6w (a b:Int) (l:List Int):Option (List Int):=if (decide (w64 (b - a)≤12)) = true then C6d a b l else none
theorem D6x {c:Sc} {A B:A1} {a b k:Int} {l r:List Int} (h:D6w a b l = some r) :
  G8 tab c (A++(ar1 l :: B)) (.fn (.func 96) [] []) [.asl (A.length + 0) l.length,.i a,.i b,.i k] [] (A++(ar1 r :: B)):= by
 unfold D6w at h
 split at h
 ·next hc =>
  refine A84 (aq:=[.asl (A.length + 0) l.length,.i a,.i b,.i k]) rfl rfl rfl ?_
  refine s0<|qm rfl<|es (ra5 rfl rfl rfl rfl rfl)<|s0<|qm rfl<|es (ra6 rfl rfl rfl rfl rfl rfl)<|C3<|D44 (B.length + 1) rfl _ (fun S hS=>P4 (live:=[0,1,2,3,8,9]) rfl (by decide) (Sub.trans (su6 rfl rfl rfl rfl rfl rfl) hS))<|C3<|s0<|qm rfl<|qm rfl<|A0 (Y8 rfl rfl) rfl<|qm rfl<|es (ra7 rfl rfl rfl rfl rfl rfl rfl)<|B6<|s0<|qm rfl<|A0 (C0k rfl rfl) rfl<|es (ra8 rfl rfl rfl rfl rfl rfl rfl rfl)<|T0 rfl hc<|s0<|qm rfl<|qm rfl<|qm rfl<|R2 (U1 rfl rfl (D41 h) rfl) rfl<|es .n<|C4 ?_
  refine .out rfl ?_
  show B9t _ _ _ _ .ret _ _
  exact C75 trivial B8 B9 B2 (List.take_of_length_le (by simp))
 ·cases h
def B9e (l:List Int):Option (List Int) :=
 (A6w (IntKind.u64.wrap (List.length l:Int))).bind fun _=>D6w 0 (List.length l:Int) l
theorem D64 {c:Sc} {A B:A1} {l r:List Int} (h:B9e l = some r) :
  G8 tab c (A++(ar1 l :: B)) (.fn (.func 67) [] []) [.asl (A.length + 0) l.length] [] (A++(ar1 r :: B)):= by
 unfold B9e at h
 refine oB h fun k hk h=>?_
 refine A84 (aq:=[.asl (A.length + 0) l.length]) rfl rfl rfl ?_
 refine s0<|qm rfl<|A0 (A9m (f:=cI) rfl rfl rfl) rfl<|qm rfl<|es (ra2 rfl rfl)<|r0<|qm rfl<|qm rfl<|qm rfl<|A0 (A9j rfl) rfl<|B4 (rs:=[.i k]) rfl rfl (A2 rfl B5) ((B4r hk).frz)<|R2 (U1 rfl rfl (D6x h) rfl) rfl<|en .n ?_
 show B9t _ _ _ _ .normal _ _
 exact C75 trivial B8 B9 B2 (List.take_of_length_le (by simp))
theorem D1r {a b:Int} {l r:List Int} (h:C6d a b l = some r):r.length = l.length:= by
 unfold C6d at h
 refine C1j (fun s=>s.2.length = l.length) (fun r=>r.length = l.length) (fun x y hx hy=>?_) (fun x r hx hr=>?_) rfl h
 ·unfold B63 at hy
  split at hy
  ·refine oB hy fun l1 hl1 hy=>?_
   cases hy
   refine C1j (fun s=>s.2.length = l.length) (fun r=>r.length = l.length) (fun x y hx hy=>?_) (fun x r hx hr=>?_) hx hl1
   ·unfold B64 at hy
    refine oB hy fun g _ hy=>?_
    split at hy
    ·refine oB hy fun _ _ hy=>oB hy fun _ _ hy=>oB hy fun _ _ hy=>?_
     cases hy
     simpa only [A6m] using hx
    ·cases hy
   ·unfold B64 at hr
    refine oB hr fun g _ hr=>?_
    split at hr
    ·refine oB hr fun _ _ hr=>oB hr fun _ _ hr=>oB hr fun _ _ hr=>?_
     cases hr
    ·cases hr; exact hx
  ·cases hy
 ·unfold B63 at hr
  split at hr
  ·refine oB hr fun _ _ hr=>?_
   cases hr
  ·cases hr; exact hx
theorem D1s {l r:List Int} (h:B9e l = some r):r.length = l.length:= by
 unfold B9e D6w at h
 refine oB h fun _ _ h=>?_
 split at h
 ·exact D1r h
 ·cases h
end Ds
end
