/- Texts that the claim stands on, one behind another. -/
import Derived.Test.YtbheamjhjgoccaaDoorA6
import Derived.Laws.RangeAny
import Derived.KernelRfl
set_option linter.unusedVariables false
set_option linter.unusedSimpArgs false
set_option linter.unnecessarySimpa false
section
namespace Rm
open Go Am
instance:Inhabited Span:=⟨⟨0,0⟩⟩
instance:Inhabited RoPlace:=⟨⟨ByteArray.empty,false,[],0⟩⟩
instance:Inhabited RoFigure:=⟨⟨ByteArray.empty,0,0,0,0,0⟩⟩
instance:Inhabited RoPlan:=⟨⟨0,[]⟩⟩
def D4k (s:ByteArray) (i:Nat):Bool :=
 !(decide (97≤s[i]!.toNat) && decide (s[i]!.toNat≤122)) && (i == 0 || !((decide (48≤s[i]!.toNat) && decide (s[i]!.toNat≤57)) || s[i]!.toNat == 46))
def bad (s:ByteArray) (i:Nat):Option Unit:=if D4k s i then some () else none
def A7m (s:ByteArray):Bool:=(!(s.size == 0) && decide (s.size≤16)) && (first (bad s) s.size).isNone
theorem nd97 {x:Nat}:decide ((97:Int)≤(x:Int)) = decide (97≤x):=decide_eq_decide.mpr (by omega)
theorem nd122 {x:Nat}:decide ((x:Int)≤122) = decide (x≤122):=decide_eq_decide.mpr (by omega)
theorem nd48 {x:Nat}:decide ((48:Int)≤(x:Int)) = decide (48≤x):=decide_eq_decide.mpr (by omega)
theorem nd57 {x:Nat}:decide ((x:Int)≤57) = decide (x≤57):=decide_eq_decide.mpr (by omega)
theorem nl48 {x:Nat}:decide ((x:Int) < 48) = !decide (48≤x):= by rw [Bool.eq_iff_iff]; simp; omega
theorem nl57 {x:Nat}:decide ((57:Int) < (x:Int)) = !decide (x≤57):= by rw [Bool.eq_iff_iff]; simp; omega
theorem nz0 {x:Nat}:((x:Int) == 0) = (x == 0):= by rw [Bool.eq_iff_iff]; simp
theorem n46 {x:Nat}:((x:Int) == 46) = (x == 46):= by rw [Bool.eq_iff_iff]; simp; omega
theorem n46' {x:Nat}:((x:Int) == 46) = (x == 46):=n46
theorem D3y {s:ByteArray} {i:Nat} (h:i < s.size):C2r s (i:Int) = some (s[i]!.toNat:Int):= by
 unfold C2r
 rw [if_pos (Int.natCast_nonneg i),Int.toNat_natCast,getElem?_pos s i h,getElem!_pos s i h]; rfl
theorem C3g (s:ByteArray):A8y s = some (A7m s):= by
 unfold A8y A7m
 by_cases h0:s.size = 0
 ·rw [if_pos (by simp [h0])]; simp [h0]
 by_cases h1:s.size > 16
 ·rw [if_pos (by simp; omega)]
  have:decide (s.size≤16) = false:= by simp; omega
  rw [this]; simp
 rw [if_neg (by simp only [Bool.or_eq_true,beq_iff_eq,decide_eq_true_eq]; omega)]
 have hl:loop (A4r s) 0 = some ((first (fun i=>(bad s i).map fun _=>(Sum.inl false:Bool ⊕ Unit)) s.size).getD (.inr ())):= by
  refine B1j s.size _ _ (by omega) ?_ ?_
  ·intro i hi _
   unfold A4r
   rw [if_pos (by simpa using hi),D3y hi]
   have hb:s[i]!.toNat < 256:=s[i]!.toNat_lt
   generalize hx:s[i]!.toNat = x at hb
   simp only [Option.bind_some,A06,E0 (n:=(x:Int)) (by omega),ge_iff_le,nd97,nd122,nd48,nd57,nz0,n46]
   unfold bad D4k
   rw [hx]
   generalize decide (97≤x) = b1
   generalize decide (x≤122) = b2
   generalize decide (48≤x) = b3
   generalize decide (x≤57) = b4
   generalize (x == 46) = b5
   generalize (i == 0) = b6
   cases b1 <;> cases b2 <;> cases b3 <;> cases b4 <;> cases b5 <;> cases b6 <;> rfl
  ·unfold A4r
   rw [if_neg (by simp)]
 rw [hl]
 cases hf:first (bad s) s.size with
 | none =>
  have:=L2.mp hf
  rw [L2.mpr fun i hi=>by rw [this i hi]; rfl]
  have e1:(s.size == 0) = false:= by rw [beq_eq_false_iff_ne]; exact h0
  have e2:decide (s.size≤16) = true:=decide_eq_true (by omega)
  rw [e1,e2]; rfl
 | some u =>
  obtain ⟨i,hi,h2,h3⟩:=A0b hf
  rw [B2r (r:=.inl false) hi (by rw [h2]; rfl) fun j hj=>by rw [h3 j hj]; rfl]
  simp
theorem B4m (s:ByteArray) (hs:s.size < 9223372036854775808):A6p s = some (A7m s):= by
 unfold A6p A7m
 have hl:loop (A4n s) (0:Nat) = some ((first (fun i=>(bad s i).map fun _=>(Sum.inl false:Bool ⊕ Nat)) s.size).getD (.inr s.size)):= by
  refine B0n (fun i=>i) s.size _ _ hs ?_ ?_
  ·intro i hi _
   unfold A4n
   rw [if_pos (by simpa using hi)]
   unfold bad D4k
   rw [getElem!_pos s i hi]
   by_cases ha:(s[i]'hi).toNat < 128
   ·rw [decode_ascii s i hi ha]
    generalize (s[i]'hi).toNat = x at ha ⊢
    simp only [nd97,nd122,gt_iff_lt,nl48,nl57,nz0,n46',bne]
    generalize decide (97≤x) = b1
    generalize decide (x≤122) = b2
    generalize decide (48≤x) = b3
    generalize decide (x≤57) = b4
    generalize (x == 46) = b5
    generalize (i == 0) = b6
    cases b1 <;> cases b2 <;> cases b3 <;> cases b4 <;> cases b5 <;> cases b6 <;> rfl
   ·have hd:=(decode_high s i hi (by omega)).1
    generalize (Utf8.decode s i).1 = y at hd ⊢
    generalize (s[i]'hi).toNat = x at ha ⊢
    rw [if_pos (by simp; omega)]
    have e1:decide (x≤122) = false:= by simp; omega
    have e2:decide (x≤57) = false:= by simp; omega
    have e3:(x == 46) = false:= by simp; omega
    simp [e1,e2,e3]
  ·intro _
   unfold A4n
   rw [if_neg (by simp)]
 rw [hl]
 have he:eqS s (ByteArray.mk #[]) = (s.size == 0):= by
  unfold eqS
  cases hz:s.data.toList with
  | nil =>
   have:s.size = 0:= by show s.data.size = 0; rw [← Array.length_toList,hz]; rfl
   rw [this]; rfl
  | cons a t =>
   have:s.size = t.length + 1:= by show s.data.size = _; rw [← Array.length_toList,hz]; rfl
   rw [this]; rfl
 cases hf:first (bad s) s.size with
 | none =>
  have:=L2.mp hf
  rw [L2.mpr fun i hi=>by rw [this i hi]; rfl]
  have e2:decide ((s.size:Int)≤16) = decide (s.size≤16):=decide_eq_decide.mpr (by omega)
  simp [he,e2]
 | some u =>
  obtain ⟨i,hi,h2,h3⟩:=A0b hf
  rw [B2r (r:=.inl false) hi (by rw [h2]; rfl) fun j hj=>by rw [h3 j hj]; rfl]
  simp
theorem C3w {α:Type} [Inhabited α] (l:List α) (p:α→Bool):(first (fun i=>if p l[i]! then some (i:Int) else none) l.length).isSome = l.any p:= by
 cases hf:first (fun i=>if p l[i]! then some (i:Int) else none) l.length with
 | none =>
  have h0:=L2.mp hf
  cases ha:l.any p with
  | false=>rfl
  | true =>
   rw [List.any_eq_true] at ha
   obtain ⟨x,hx,hp⟩:=ha
   obtain ⟨i,hi,e⟩:=List.mem_iff_getElem.mp hx
   have:=h0 i hi
   rw [getElem!_pos l i hi,e,hp] at this
   exact absurd this (by simp)
 | some r =>
  obtain ⟨i,hi,h1,_⟩:=A0b hf
  rw [getElem!_pos l i hi] at h1
  cases hp:p l[i] with
  | false=>rw [hp] at h1; exact absurd h1 (by simp)
  | true=>exact (List.any_eq_true.mpr ⟨l[i],List.getElem_mem hi,hp⟩).symm
theorem B7t {α:Type} [Inhabited α] (l:List α) (p:α→Bool) {b:Int→Option (Int ⊕ (Int ⊕ Unit))} (hl:l.length < 9223372036854775808)
  (hb:∀i:Nat,i < l.length→b i = some (if p l[i]! then .inr (.inl (i:Int)) else .inl (w64 ((i:Int) + 1)))) (he:b l.length = some (.inr (.inr ()))) :
  ∃ o,loop b 0 = some o∧(match o with | .inl i=>0≤i∧l.any p = true | .inr _=>l.any p = false):= by
 have h:=B1j (b:=b) l.length (fun i=>if p l[i]! then some (.inl (i:Int)) else none) (.inr ()) hl (fun i hi _=>by
  rw [hb i hi]; cases p l[i]! <;> rfl) he
 refine ⟨_,h,?_⟩
 have ha:=C3w l p
 cases hf:first (fun i=>if p l[i]! then some (Sum.inl (i:Int):Int ⊕ Unit) else none) l.length with
 | none =>
  have h0:=L2.mp hf
  rw [L2.mpr fun i hi=>by
   have:=h0 i hi
   cases hp:p l[i]! with
   | false=>rfl
   | true=>rw [hp] at this; exact absurd this (by simp)] at ha
  simpa using ha.symm
 | some r =>
  obtain ⟨i,hi,h1,h2⟩:=A0b hf
  cases hp:p l[i]! with
  | false=>rw [hp] at h1; exact absurd h1 (by simp)
  | true =>
   rw [hp] at h1
   have h1:some (Sum.inl (i:Int)) = some r:=h1
   obtain rfl:=Option.some.inj h1
   refine ⟨Int.natCast_nonneg i,?_⟩
   rw [B2r (r:=(i:Int)) hi (by rw [hp]; rfl) fun j hj=>by
    have:=h2 j hj
    cases hq:p l[j]! with
    | false=>rfl
    | true=>rw [hq] at this; exact absurd this (by simp)] at ha
   exact ha.symm
theorem B1b {α:Type} [Inhabited α] (l:List α) (g:α→Option Bool) (p:α→Bool) {b:Int→Option (Int ⊕ (Int ⊕ Unit))} {F:Option Bool} (hl:l.length < 9223372036854775808) (hg:∀x ∈ l,g x = some (p x))
  (hb:∀i:Int,b i = if decide (i < l.length) = true then (idx l i).bind fun x=>(g x).bind fun y=>if y = true then some (.inr (.inl i)) else some (.inl (w64 (i + 1))) else some (.inr (.inr ())))
  (hF:F = ((loop b 0).bind fun o=>match o with | .inl v=>some v | .inr _=>some (-1)).bind fun x=>some (decide (x ≥ 0))):F = some (l.any p):= by
 obtain ⟨o,ho,hc⟩:=B7t l p (b:=b) hl (fun i hi=>by
  rw [hb,if_pos (by simpa using hi),F5 hi]
  simp only [Option.bind_some]
  rw [hg _ (by rw [getElem!_pos l i hi]; exact List.getElem_mem hi)]
  simp only [Option.bind_some]
  cases p l[i]! <;> rfl) (by
  rw [hb,if_neg (by simp)])
 rw [hF,ho]
 rcases o with i | u
 ·simp only [Option.bind_some]
  rw [hc.2,decide_eq_true hc.1]
 ·simp only [Option.bind_some]
  rw [hc]; rfl
theorem C5s (l:List Int) (g:Int→Option Bool) (p:Int→Bool) (hl:l.length < 9223372036854775808) (hg:∀x ∈ l,g x = some (p x)):R4 l g = some (l.any p) :=
 B1b l g p (b:=Z1 l g) hl hg (fun _=>rfl) rfl
theorem B7o (l:List RoPlace) (g:RoPlace→Option Bool) (p:RoPlace→Bool) (hl:l.length < 9223372036854775808) (hg:∀x ∈ l,g x = some (p x)):J3 l g = some (l.any p) :=
 B1b l g p (b:=M5 l g) hl hg (fun _=>rfl) rfl
theorem B5v (l:List RoFigure) (g:RoFigure→Option Bool) (p:RoFigure→Bool) (hl:l.length < 9223372036854775808) (hg:∀x ∈ l,g x = some (p x)):I7 l g = some (l.any p) :=
 B1b l g p (b:=L9 l g) hl hg (fun _=>rfl) rfl
def out (lo hi x:Int):Bool:=decide (x < lo) || decide (x > hi)
theorem B3r (lo hi:Int) (l:List Int) (hl:l.length < 9223372036854775808):H7 lo hi l = some (l.any (out lo hi)):= by
 unfold H7
 exact (congrArg (Option.bind · some) (C5s l (fun y=>A4v y lo hi) (out lo hi) hl fun x _=>rfl)).trans rfl
theorem beyond1 (lo hi x:Int):H7 lo hi [x] = some (out lo hi x):= by
 rw [B3r lo hi [x] (by simp)]; simp
theorem beyond2 (lo hi x y:Int):H7 lo hi [x,y] = some (out lo hi x || out lo hi y):= by
 rw [B3r lo hi [x,y] (by simp)]; simp
theorem D5k (lo hi x:Int):H8 x lo hi = some (!out lo hi x):= by
 unfold H8 out
 rw [Option.some_inj,Bool.eq_iff_iff]; simp
theorem C2z (lo hi x:Int):A06 x lo hi = some (!out lo hi x):=D5k lo hi x
def A1v (s:ByteArray) (l:List ByteArray):Int:=if A7m s then (if l.any (fun y=>eqS y s) then 5 else 0) else 6
instance:Inhabited ByteArray:=⟨ByteArray.empty⟩
theorem B6y (s:ByteArray) (l:List ByteArray) (hl:l.length < 9223372036854775808):A8b s l = some (A1v s l):= by
 unfold A8b A1v
 rw [C3g]
 cases A7m s
 ·rfl
 ·simp only [Option.bind_some]
  unfold A9q
  obtain ⟨o,ho,hc⟩:=B7t l (fun y=>eqS y s) (b:=A3l l s) hl (fun i hi=>by
   unfold A3l
   rw [if_pos (by simpa using hi),F5 hi]
   simp only [Option.bind_some]
   cases eqS l[i]! s <;> rfl) (by
   unfold A3l
   rw [if_neg (by simp)])
  rw [ho]
  rcases o with i | u
  ·simp only [Option.bind_some]
   rw [hc.2,decide_eq_true hc.1]; rfl
  ·simp only [Option.bind_some]
   rw [hc]; rfl
def wrong (f:Nat→Int) (n:Nat):Option (Int × Int):=first (fun i=>if f i == 0 then none else some ((i:Int),f i)) n
theorem A0k {f:Nat→Int} {n:Nat} {x:Int × Int} (h:wrong f n = some x):(x.2 != 0) = true:= by
 obtain ⟨i,_,h1,_⟩:=A0b h
 cases hb:f i == 0 with
 | true=>rw [hb] at h1; exact absurd h1 (by simp)
 | false =>
  rw [hb] at h1
  have h1:some ((i:Int),f i) = some x:=h1
  rw [← Option.some.inj h1]
  show (f i != 0) = true
  rw [bne,hb]; rfl
theorem L7 {lo hi x:Int}:out lo hi x = false↔lo≤x∧x≤hi:= by
 unfold out
 rw [Bool.or_eq_false_iff,decide_eq_false_iff_not,decide_eq_false_iff_not]
 omega
theorem B46 {ρ:Type} {b:Int→Option (Int ⊕ ρ)} (n:Nat) (f:Nat→Int) (k:Int × Int→ρ) (z:ρ) (hn:n < 9223372036854775808)
  (hs:∀i:Nat,i < n→b (i:Int) = some (if f i == 0 then .inl (w64 ((i:Int) + 1)) else .inr (k ((i:Int),f i))))
  (he:b (n:Int) = some (.inr z)) :
  loop b 0 = some (match wrong f n with | some x=>k x | none=>z):= by
 rw [B1j n (fun i=>if f i == 0 then none else some (k ((i:Int),f i))) z hn (fun i hi _=>by rw [hs i hi]; cases f i == 0 <;> rfl) he]
 unfold wrong
 cases hf:first (fun i=>if f i == 0 then none else some ((i:Int),f i)) n with
 | none =>
  have h0:=L2.mp hf
  rw [L2.mpr fun i hi=>by
   have:=h0 i hi
   cases hb:f i == 0 with
   | true=>rfl
   | false=>rw [hb] at this; exact absurd this (by simp)]
  rfl
 | some x =>
  obtain ⟨i,hi,h1,h2⟩:=A0b hf
  rw [B2r (r:=k x) hi (by
   cases hb:f i == 0 with
   | true=>rw [hb] at h1; exact absurd h1 (by simp)
   | false =>
    rw [hb] at h1
    have h1:some ((i:Int),f i) = some x:=h1
    rw [← Option.some.inj h1]; rfl) fun j hj=>by
   have:=h2 j hj
   cases hb:f j == 0 with
   | true=>rfl
   | false=>rw [hb] at this; exact absurd this (by simp)]
  rfl
theorem G5 {α:Type} [Inhabited α] {l:List α} {i:Nat} (h:i < l.length):l[i]! ∈ l:= by
 rw [getElem!_pos l i h]; exact List.getElem_mem h
theorem B6b {α β:Type} (x:Int) (i:Int) (k:Int × Int→α) (b:β):(if (x != 0) = true then some (Sum.inr (k (i,x))) else some (Sum.inl b)) = some (match ((if (x == 0) = true then none else some (i,x)).map k) with | some r=>Sum.inr r | none=>Sum.inl b):= by
 by_cases c:x = 0
 ·subst c; rfl
 ·simp [c]
theorem C5a {α β:Type} [Inhabited α] (k:α→β) {l:List α} {i:Nat} (h:i < l.length):(l.take i).map k++[k l[i]!] = (l.take (i + 1)).map k:= by
 rw [List.take_succ_eq_append_getElem h,getElem!_pos l i h,List.map_append]; rfl
theorem A5j {f:Nat→Int} {n:Nat} (h:wrong f n = none):∀i,i < n→f i = 0:= by
 intro i hi
 have:=L2.mp h i hi
 by_cases c:f i = 0
 ·exact c
 ·have e:(f i == 0) = false:=beq_eq_false_iff_ne.mpr c
  rw [e] at this; exact absurd this (by simp)
theorem A5m {α β:Type} (k:α→β) (f:Nat→Option α):∀n,first (fun i=>(f i).map k) n = (first f n).map k
 | 0=>rfl
 | n + 1=>by
  unfold first
  rw [A5m k f n]
  cases first f n <;> rfl
def K3 (lo hi:Int) (g:Span):Int:=if out lo hi g.Lo || out lo hi g.Hi then 7 else if g.Lo > g.Hi then 2 else 0
theorem B1w (g:Span) (lo hi:Int):A6w g lo hi = some (K3 lo hi g):= by
 unfold A6w K3
 rw [beyond2]
 simp only [Option.bind_some]
 cases out lo hi g.Lo || out lo hi g.Hi
 ·by_cases h:g.Lo > g.Hi <;> simp [h]
 ·rfl
theorem D08 (g:Span) (lo hi:Int):A6s g lo hi = some (K3 lo hi g):= by
 unfold A6s K3
 rw [C2z,C2z]
 cases out lo hi g.Lo <;> cases out lo hi g.Hi <;> try rfl
 by_cases h:g.Lo > g.Hi <;> simp [h]
theorem shl1:∀n:Nat,n≤4→B4g .i64 1 (n:Int) = some ((2 ^ n:Nat):Int):= by decide +kernel
theorem D19 (n:Nat) (h:n≤4):A0g (n:Int) = some ((2 ^ n:Nat):Int):= by
 unfold A0g
 have:=I8 (b:=A1m (n:Int)) (fun i=>(((2 ^ i:Nat):Int),(i:Int))) n (r:=((2 ^ n:Nat):Int)) (by omega) (fun i hi=>by
  unfold A1m
  simp only []
  have hp:2 ^ i≤16:=Nat.le_trans (Nat.pow_le_pow_right (by decide) (show i≤4 by omega)) (by decide)
  rw [if_pos (by simpa using hi),Nat.pow_succ]
  generalize 2 ^ i = q at hp ⊢
  rw [E0 (by omega),E0 (by omega)]
  congr 3
  omega) (by
  unfold A1m
  simp only []
  rw [if_neg (by simp)])
 rw [show ((1:Int),(0:Int)) = (((2 ^ 0:Nat):Int),((0:Nat):Int)) from rfl,this]; rfl
def A37 (h:RoHouse) (p:RoPlace):Int :=
 if (p.Warms.length:Int) != h.Stoves then 3 else
 match wrong (fun j=>K3 0 60 p.Warms[j]!) p.Warms.length with
 | some x=>x.2
 | none=>if out 0 (((2 ^ h.Holds.length:Nat):Int) - 1) p.Joists then 4 else 0
def A79 (h:RoHouse) (i:Nat):Int:=A1v h.Places[i]!.Name ((h.Places.take i).map (·.Name))
def Q2 (h:RoHouse) (i:Nat):Int:=if A79 h i == 0 then A37 h h.Places[i]! else A79 h i
def A7v (f:RoFigure):Int :=
 if out 0 9 f.Class || out 1 500 f.Weight || out (-100) 100 f.Cracks || out (-100) 100 f.Slumps || out 0 100 f.Worth then 7 else if f.Cracks > f.Slumps then 2 else 0
def B3v (h:RoHouse) (i:Nat):Int:=A1v h.Figures[i]!.Name ((h.Figures.take i).map (·.Name))
def A00 (h:RoHouse) (i:Nat):Int:=if B3v h i == 0 then A7v h.Figures[i]! else B3v h i
def W9 (hi:Int) (l:List Int) (i:Nat):Int:=if out 0 hi l[i]! then 7 else 0
def check (h:RoHouse):Int × Int × Int :=
 if K3 (-100) 100 h.Weather != 0 then (1,0,K3 (-100) 100 h.Weather) else
 if out 0 3 h.Stoves then (2,0,7) else
 if h.Holds.length > 4 then (3,0,3) else
 match wrong (W9 2000 h.Holds) h.Holds.length with
 | some x=>(3,x)
 | none =>
 if h.Places.length > 5 then (4,0,3) else
 match wrong (Q2 h) h.Places.length with
 | some x=>(4,x)
 | none =>
 if h.Figures.length > 5 then (5,0,3) else
 match wrong (A00 h) h.Figures.length with
 | some x=>(5,x)
 | none =>
 if h.Bill.length > 3 then (6,0,3) else
 match wrong (W9 9 h.Bill) h.Bill.length with
 | some x=>(6,x)
 | none=>(0,0,0)
def NB (t:RoHouse):Prop:=(∀ v ∈ t.Places,v.Name.size < 9223372036854775808)∧(∀ v ∈ t.Figures,v.Name.size < 9223372036854775808)
theorem B3y {α:Type} [Inhabited α] (l:List α) (most:Int) (g:Int × α→Option Int) (f:Nat→Int) {b:Int→Option (Int ⊕ ((Int × Int) ⊕ Unit))} {F:Option (Int × Int)} (hl:(l.length:Int)≤most→l.length < 9223372036854775808)
  (hg:∀i:Nat,(l.length:Int)≤most→i < l.length→g ((i:Int),l[i]!) = some (f i))
  (hb:∀i:Int,b i = if decide (i < l.length) = true then (idx l i).bind fun x=>(g (i,x)).bind fun y=>if (y != 0) = true then some (.inr (.inl (i,y))) else some (.inl (w64 (i + 1))) else some (.inr (.inr ())))
  (hF:F = if decide ((l.length:Int) > most) = true then some (0,3) else (loop b 0).bind fun o=>match o with | .inl v=>some v | .inr _=>some (0,0)) :
  F = some (if (l.length:Int) > most then (0,3) else (wrong f l.length).getD (0,0)):= by
 rw [hF]
 by_cases h:(l.length:Int) > most
 ·rw [if_pos (by simpa using h),if_pos h]
 rw [if_neg (by simpa using h),if_neg h]
 rw [B46 (b:=b) l.length f (fun x=>.inl x) (.inr ()) (hl (by omega)) (fun i hi=>by
   rw [hb,if_pos (by simpa using hi),F5 hi]
   simp only [Option.bind_some]
   rw [hg i (by omega) hi]
   simp only [Option.bind_some]
   cases hc:f i == 0 with
   | true=>rw [beq_iff_eq] at hc; rw [hc]; rfl
   | false=>rw [if_pos (by rw [bne,hc]; rfl)]; rfl) (by rw [hb,if_neg (by simp)])]
 cases wrong f l.length <;> rfl
theorem C4u (l:List Int) (most hi:Int) (hm:most≤4):A3w l most (fun (y:(Int × Int))=>S3 y.1 y.2 0 hi) = some (if (l.length:Int) > most then (0,3) else (wrong (W9 hi l) l.length).getD (0,0)) :=
 B3y l most (fun (y:(Int × Int))=>S3 y.1 y.2 0 hi) (W9 hi l) (b:=A6i l (fun (y:(Int × Int))=>S3 y.1 y.2 0 hi)) (fun h=>by omega) (fun i _ hi'=>by
  unfold S3 W9
  rw [beyond1]
  cases out 0 hi l[i]! <;> rfl) (fun _=>rfl) rfl
theorem D61 (l:List Span) (n:Int) (hn:n≤3):A1w l n (fun (y:(Int × Span))=>W0 y.1 y.2) = some (if (l.length:Int) > n then (0,3) else (wrong (fun j=>K3 0 60 l[j]!) l.length).getD (0,0)) :=
 B3y l n (fun (y:(Int × Span))=>W0 y.1 y.2) (fun j=>K3 0 60 l[j]!) (b:=A2s l (fun (y:(Int × Span))=>W0 y.1 y.2)) (fun h=>by omega) (fun i _ hi'=>by
  unfold W0
  rw [B1w]; rfl) (fun _=>rfl) rfl
theorem A9b {f:Nat→Int} {n:Nat}:(((wrong f n).getD (0,0)).2 != 0) = (wrong f n).isSome:= by
 cases h:wrong f n with
 | none=>rfl
 | some x=>exact A0k h
theorem C3l (h:RoHouse) (hb:NB h) (hs:h.Stoves≤3) (hh:h.Holds.length≤4) (hp:h.Places.length≤5) (i:Nat) (hi:i < h.Places.length):Y8 (i:Int) h.Places[i]! h = some (Q2 h i):= by
 unfold Y8 Q2 A79 A1v
 rw [B4m _ (hb.1 _ (G5 hi))]
 cases hn:A7m h.Places[i]!.Name
 ·rfl
 simp only [Option.bind_some]
 rw [B69 (Nat.le_of_lt hi)]
 simp only [Option.bind_some]
 rw [B7o _ (fun y=>A3r y h.Places[i]!) (fun y=>eqS y.Name h.Places[i]!.Name) (by rw [List.length_take]; omega) (fun x _=>rfl),List.any_map]
 rw [show ((fun y=>eqS y h.Places[i]!.Name)∘fun (x:RoPlace)=>x.Name) = (fun (y:RoPlace)=>eqS y.Name h.Places[i]!.Name) from rfl]
 cases (h.Places.take i).any (fun (y:RoPlace)=>eqS y.Name h.Places[i]!.Name)
 ·simp only [Option.bind_some]
  unfold A37
  by_cases hw:(h.Places[i]!.Warms.length:Int) = h.Stoves
  ·have e0:((h.Places[i]!.Warms.length:Int) != h.Stoves) = false:= by rw [hw]; exact bne_self_eq_false h.Stoves
   have e2:(((2 ^ h.Holds.length:Nat):Int) - 1)≤15:= by
    have:2 ^ h.Holds.length≤2 ^ 4:=Nat.pow_le_pow_right (by decide) hh
    omega
   have e3:0 < 2 ^ h.Holds.length:=Nat.pow_pos (by decide)
   rw [D61 _ _ hs,shl1 _ hh,e0,if_neg (show ¬ (h.Places[i]!.Warms.length:Int) > h.Stoves by omega)]
   simp only [Option.bind_some,Bool.false_eq_true,if_false]
   rw [A9b,E0 (by omega),beyond1]
   cases wrong (fun j=>K3 0 60 h.Places[i]!.Warms[j]!) h.Places[i]!.Warms.length with
   | some x=>rfl
   | none =>
    simp only [Option.bind_some]
    cases out 0 (((2 ^ h.Holds.length:Nat):Int) - 1) h.Places[i]!.Joists <;> rfl
  ·have e:((h.Places[i]!.Warms.length:Int) != h.Stoves) = true:=bne_iff_ne.mpr hw
   rw [if_pos e,if_pos e]; rfl
 ·rfl
theorem C2i (h:RoHouse) (hb:NB h) (hp:h.Figures.length≤5) (i:Nat) (hi:i < h.Figures.length):Y9 (i:Int) h.Figures[i]! h = some (A00 h i):= by
 unfold Y9 A00 B3v A1v
 rw [B4m _ (hb.2 _ (G5 hi))]
 cases hn:A7m h.Figures[i]!.Name
 ·rfl
 simp only [Option.bind_some]
 rw [B69 (Nat.le_of_lt hi)]
 simp only [Option.bind_some]
 rw [B5v _ (fun y=>A3s y h.Figures[i]!) (fun y=>eqS y.Name h.Figures[i]!.Name) (by rw [List.length_take]; omega) (fun x _=>rfl),List.any_map]
 rw [show ((fun y=>eqS y h.Figures[i]!.Name)∘fun (x:RoFigure)=>x.Name) = (fun (y:RoFigure)=>eqS y.Name h.Figures[i]!.Name) from rfl]
 cases (h.Figures.take i).any (fun (y:RoFigure)=>eqS y.Name h.Figures[i]!.Name)
 ·simp only [Option.bind_some]
  rw [beyond1,beyond1,beyond1,B1w]
  unfold A7v K3
  generalize h.Figures[i]! = f
  cases out 0 9 f.Class <;> cases out 1 500 f.Weight <;> cases out 0 100 f.Worth <;> cases out (-100) 100 f.Cracks <;> cases out (-100) 100 f.Slumps <;> rfl
 ·rfl
theorem D3f (h:RoHouse) (hb:NB h) (hs:h.Stoves≤3) (hh:h.Holds.length≤4):Z0 h.Places 5 (fun (y:(Int × RoPlace))=>Y8 y.1 y.2 h) = some (if (h.Places.length:Int) > 5 then (0,3) else (wrong (Q2 h) h.Places.length).getD (0,0)) :=
 B3y h.Places 5 (fun (y:(Int × RoPlace))=>Y8 y.1 y.2 h) (Q2 h) (b:=A0s h.Places (fun (y:(Int × RoPlace))=>Y8 y.1 y.2 h)) (fun h=>by omega) (fun i hp hi=>C3l h hb hs hh (by omega) i hi) (fun _=>rfl) rfl
theorem C9l (h:RoHouse) (hb:NB h):X1 h.Figures 5 (fun (y:(Int × RoFigure))=>Y9 y.1 y.2 h) = some (if (h.Figures.length:Int) > 5 then (0,3) else (wrong (A00 h) h.Figures.length).getD (0,0)) :=
 B3y h.Figures 5 (fun (y:(Int × RoFigure))=>Y9 y.1 y.2 h) (A00 h) (b:=A0i h.Figures (fun (y:(Int × RoFigure))=>Y9 y.1 y.2 h)) (fun h=>by omega) (fun i hp hi=>C2i h hb (by omega) i hi) (fun _=>rfl) rfl
theorem V2 (h:RoHouse) (hb:NB h):R0 h = some (check h):= by
 unfold R0 check
 rw [B1w]
 simp only [Option.bind_some]
 cases h1:K3 (-100) 100 h.Weather != 0 with
 | true=>rfl
 | false =>
 rw [beyond1]
 cases h2:out 0 3 h.Stoves with
 | true=>rfl
 | false =>
 have b2:=L7.mp h2
 rw [C4u _ _ _ (by decide),C4u _ _ _ (by decide)]
 simp only [Option.bind_some]
 by_cases h3:h.Holds.length > 4
 ·rw [if_pos (show (h.Holds.length:Int) > 4 by omega),if_pos h3]; rfl
 rw [if_neg (show ¬ (h.Holds.length:Int) > 4 by omega),if_neg h3,A9b]
 cases wrong (W9 2000 h.Holds) h.Holds.length with
 | some x=>rfl
 | none =>
 rw [D3f h hb b2.2 (by omega),C9l h hb]
 simp only [Option.bind_some]
 by_cases h4:h.Places.length > 5
 ·rw [if_pos (show (h.Places.length:Int) > 5 by omega),if_pos h4]; rfl
 rw [if_neg (show ¬ (h.Places.length:Int) > 5 by omega),if_neg h4,A9b]
 cases wrong (Q2 h) h.Places.length with
 | some x=>rfl
 | none =>
 by_cases h5:h.Figures.length > 5
 ·rw [if_pos (show (h.Figures.length:Int) > 5 by omega),if_pos h5]; rfl
 rw [if_neg (show ¬ (h.Figures.length:Int) > 5 by omega),if_neg h5,A9b]
 cases wrong (A00 h) h.Figures.length with
 | some x=>rfl
 | none =>
 by_cases h6:h.Bill.length > 3
 ·rw [if_pos (show (h.Bill.length:Int) > 3 by omega),if_pos h6]; rfl
 rw [if_neg (show ¬ (h.Bill.length:Int) > 3 by omega),if_neg h6,A9b]
 cases wrong (W9 9 h.Bill) h.Bill.length <;> rfl
theorem within5 (lo hi x:Int):H8 x lo hi = some (!out lo hi x):=D5k lo hi x
theorem C2c (h:RoHouse) (p:RoPlace) (hs:h.Stoves≤3) (hh:h.Holds.length≤4):A7f h p = some (A37 h p):= by
 unfold A7f A37
 by_cases hw:(p.Warms.length:Int) = h.Stoves
 ·have e0:((p.Warms.length:Int) != h.Stoves) = false:= by rw [hw]; exact bne_self_eq_false h.Stoves
  have e2:(((2 ^ h.Holds.length:Nat):Int) - 1)≤15:= by
   have:2 ^ h.Holds.length≤2 ^ 4:=Nat.pow_le_pow_right (by decide) hh
   omega
  have e3:0 < 2 ^ h.Holds.length:=Nat.pow_pos (by decide)
  have l1:=B46 (b:=A3o p) p.Warms.length (fun j=>K3 0 60 p.Warms[j]!) (fun x=>.inl x.2) (.inr ()) (by omega) (fun i hi=>by
   unfold A3o
   rw [if_pos (by simpa using hi),F5 hi]
   simp only [Option.bind_some]
   rw [D08]
   simp only [Option.bind_some]
   cases hc:K3 0 60 p.Warms[i]! == 0 with
   | true=>rw [beq_iff_eq] at hc; rw [hc]; rfl
   | false=>rw [if_pos (by rw [bne,hc]; rfl)]; rfl) (by
   unfold A3o
   rw [if_neg (by simp)])
  rw [e0,l1]
  simp only [Bool.false_eq_true,if_false]
  cases wrong (fun j=>K3 0 60 p.Warms[j]!) p.Warms.length with
  | some x=>rfl
  | none =>
   simp only [Option.bind_some]
   rw [D19 _ hh]
   simp only [Option.bind_some]
   rw [E0 (by omega),within5]
   cases out 0 (((2 ^ h.Holds.length:Nat):Int) - 1) p.Joists <;> rfl
 ·have e:((p.Warms.length:Int) != h.Stoves) = true:=bne_iff_ne.mpr hw
  rw [if_pos e,if_pos e]
theorem B9l (f:RoFigure):A6a f = some (A7v f):= by
 unfold A6a A7v
 rw [within5,within5,within5,within5,within5]
 cases out 0 9 f.Class <;> cases out 1 500 f.Weight <;> cases out (-100) 100 f.Cracks <;> cases out (-100) 100 f.Slumps <;> cases out 0 100 f.Worth <;> try rfl
 by_cases h:f.Cracks > f.Slumps <;> simp [h]
theorem D1w (l:List Int) (hi k:Int) {b:Int→Option (Int ⊕ ((Int × Int × Int) ⊕ Unit))} (hl:l.length≤4)
  (hb:∀i:Int,b i = if decide (i < l.length) = true then (idx l i).bind fun x=>(H8 x 0 hi).bind fun y=>if (!y) = true then some (.inr (.inl (k,i,7))) else some (.inl (w64 (i + 1))) else some (.inr (.inr ()))) :
  loop b 0 = some (match wrong (W9 hi l) l.length with | some x=>.inl (k,x) | none=>.inr ()) :=
 B46 (b:=b) l.length (W9 hi l) (fun x=>.inl (k,x)) (.inr ()) (by omega) (fun i h=>by
  rw [hb,if_pos (by simpa using h),F5 h]
  simp only [Option.bind_some]
  rw [within5]
  unfold W9
  cases out 0 hi l[i]! <;> rfl) (by rw [hb,if_neg (by simp)])
theorem D0h (h:RoHouse) (hs:h.Stoves≤3) (hh:h.Holds.length≤4) (hp:h.Places.length≤5):loop (A14 h) (0,[]) = some (match wrong (Q2 h) h.Places.length with | some x=>.inl (4,x) | none=>.inr (h.Places.map (·.Name))):= by
 have l1:=B0n (b:=A14 h) (fun i=>((i:Int),(h.Places.take i).map (·.Name))) h.Places.length
  (fun i=>(if Q2 h i == 0 then none else some ((i:Int),Q2 h i)).map fun x=>Sum.inl (4,x)) (.inr (h.Places.map (·.Name))) (by omega)
  (fun i hi _=>by
   unfold A14
   simp only []
   rw [if_pos (by simpa using hi),F5 hi]
   simp only [Option.bind_some]
   rw [B6y _ _ (by rw [List.length_map,List.length_take]; omega),A3b (by omega) (by rw [List.length_map,List.length_take]; simp; omega),C5a (fun (x:RoPlace)=>x.Name) hi]
   simp only [Option.bind_some]
   rw [C2c h _ hs hh,E0 (by omega)]
   unfold Q2 A79
   generalize A1v h.Places[i]!.Name ((h.Places.take i).map (·.Name)) = k
   by_cases hk:k = 0
   ·subst hk
    exact B6b (A37 h h.Places[i]!) (i:Int) (fun x=>Sum.inl (4,x)) _
   ·have e:(k == 0) = false:=beq_eq_false_iff_ne.mpr hk
    rw [e]
    exact B6b k (i:Int) (fun x=>Sum.inl (4,x)) _)
  (fun _=>by
   unfold A14
   simp only []
   rw [if_neg (by simp),List.take_length])
 rw [show ((0:Int),([]:List ByteArray)) = (((0:Nat):Int),(h.Places.take 0).map (·.Name)) from rfl,l1,A5m]
 unfold wrong
 cases first (fun i=>if Q2 h i == 0 then none else some ((i:Int),Q2 h i)) h.Places.length <;> rfl
theorem C8d (h:RoHouse) (hp:h.Figures.length≤5):loop (A15 h) (0,[]) = some (match wrong (A00 h) h.Figures.length with | some x=>.inl (5,x) | none=>.inr (h.Figures.map (·.Name))):= by
 have l1:=B0n (b:=A15 h) (fun i=>((i:Int),(h.Figures.take i).map (·.Name))) h.Figures.length
  (fun i=>(if A00 h i == 0 then none else some ((i:Int),A00 h i)).map fun x=>Sum.inl (5,x)) (.inr (h.Figures.map (·.Name))) (by omega)
  (fun i hi _=>by
   unfold A15
   simp only []
   rw [if_pos (by simpa using hi),F5 hi]
   simp only [Option.bind_some]
   rw [B6y _ _ (by rw [List.length_map,List.length_take]; omega),A3b (by omega) (by rw [List.length_map,List.length_take]; simp; omega),C5a (fun (x:RoFigure)=>x.Name) hi]
   simp only [Option.bind_some]
   rw [B9l,E0 (by omega)]
   unfold A00 B3v
   generalize A1v h.Figures[i]!.Name ((h.Figures.take i).map (·.Name)) = k
   by_cases hk:k = 0
   ·subst hk
    exact B6b (A7v h.Figures[i]!) (i:Int) (fun x=>Sum.inl (5,x)) _
   ·have e:(k == 0) = false:=beq_eq_false_iff_ne.mpr hk
    rw [e]
    exact B6b k (i:Int) (fun x=>Sum.inl (5,x)) _)
  (fun _=>by
   unfold A15
   simp only []
   rw [if_neg (by simp),List.take_length])
 rw [show ((0:Int),([]:List ByteArray)) = (((0:Nat):Int),(h.Figures.take 0).map (·.Name)) from rfl,l1,A5m]
 unfold wrong
 cases first (fun i=>if A00 h i == 0 then none else some ((i:Int),A00 h i)) h.Figures.length <;> rfl
theorem S9 (h:RoHouse):T6 h = some (check h):= by
 unfold T6 check
 rw [D08]
 simp only [Option.bind_some]
 cases h1:K3 (-100) 100 h.Weather != 0 with
 | true=>rfl
 | false =>
 rw [within5]
 cases h2:out 0 3 h.Stoves with
 | true=>rfl
 | false =>
 have b2:=L7.mp h2
 simp only [Option.bind_some,Bool.false_eq_true,if_false,Bool.not_false,Bool.not_true]
 by_cases h3:h.Holds.length > 4
 ·rw [if_pos (show decide ((h.Holds.length:Int) > 4) = true by rw [decide_eq_true_eq]; omega),if_pos h3]
 rw [if_neg (show ¬ decide ((h.Holds.length:Int) > 4) = true by rw [decide_eq_true_eq]; omega),if_neg h3,D1w h.Holds 2000 3 (b:=A80 h) (by omega) (fun _=>rfl)]
 cases wrong (W9 2000 h.Holds) h.Holds.length with
 | some x=>rfl
 | none =>
 simp only [Option.bind_some]
 by_cases h4:h.Places.length > 5
 ·rw [if_pos (show decide ((h.Places.length:Int) > 5) = true by rw [decide_eq_true_eq]; omega),if_pos h4]
 rw [if_neg (show ¬ decide ((h.Places.length:Int) > 5) = true by rw [decide_eq_true_eq]; omega),if_neg h4,D0h h b2.2 (by omega) (by omega)]
 cases wrong (Q2 h) h.Places.length with
 | some x=>rfl
 | none =>
 simp only [Option.bind_some]
 by_cases h5:h.Figures.length > 5
 ·rw [if_pos (show decide ((h.Figures.length:Int) > 5) = true by rw [decide_eq_true_eq]; omega),if_pos h5]
 rw [if_neg (show ¬ decide ((h.Figures.length:Int) > 5) = true by rw [decide_eq_true_eq]; omega),if_neg h5,C8d h (by omega)]
 cases wrong (A00 h) h.Figures.length with
 | some x=>rfl
 | none =>
 simp only [Option.bind_some]
 by_cases h6:h.Bill.length > 3
 ·rw [if_pos (show decide ((h.Bill.length:Int) > 3) = true by rw [decide_eq_true_eq]; omega),if_pos h6]
 rw [if_neg (show ¬ decide ((h.Bill.length:Int) > 3) = true by rw [decide_eq_true_eq]; omega),if_neg h6,D1w h.Bill 9 6 (b:=A81 h) (by omega) (fun _=>rfl)]
 cases wrong (W9 9 h.Bill) h.Bill.length <;> rfl
end Rm
end
section
set_option maxRecDepth 100000
set_option maxHeartbeats 0
namespace Rm
open Go Am Go.Proofs.YtbheamjhjgoccaaDoor.Cd
def Z8 (a0:room_house) (a1:Int) (a2:Int):Option Int :=
 (H7 0 (w64 ((List.length a0.RoHouse.Places:Int) - 1)) [a1]).bind fun x1 =>
 if x1 = true then
  some 4
 else
  (B4g .i64 1 a0.RoHouse.Stoves).bind fun x3 =>
  (H7 0 (w64 (x3 - 1)) [a2]).bind fun x4 =>
  if x4 = true then
  some 7
  else
  some 0
theorem A7s {c:Sc} {H:A7} {a0:room_house} {b0:Nat} (hb0:hcells H b0 = some [.i a0.RoHouse.Weather.Lo,.i a0.RoHouse.Weather.Hi,.i a0.RoHouse.Stoves,(.seq 1 (List.map cI a0.RoHouse.Holds)),(.seq 4 (List.map B7 a0.RoHouse.Places)),(.seq 6 (List.map A9 a0.RoHouse.Figures)),(.seq 1 (List.map cI a0.RoHouse.Bill)),(.xseq 2 [[.b false,(.fn (.func 112) [] [])],[.b true,(.fn (.func 113) [] [])]])]) {a1:Int} {a2:Int} {r:Int} (h:Z8 a0 a1 a2 = some r) :
  F1 tab c H (.fn (.func 82) [] []) [.ptr b0 0,.i a1,.i a2] [.i r]:= by
 unfold Z8 at h
 refine cE rfl rfl<|s0<|qm rfl<|es (ra3 rfl rfl rfl)<|B6<|C5<|s0<|oB h fun x1 hx1 h=>qm rfl<|A0 (P2 rfl rfl) rfl<|A0 (C4 rfl) rfl<|A0 (C4 rfl) rfl<|A0 (J9 (x:=(.seq 4 (List.map B7 a0.RoHouse.Places))) rfl hb0 rfl) rfl<|A0 (D8 (f:=B7) rfl) rfl<|A0 (U8 rfl rfl) rfl<|qm rfl<|A0 (J5 (rows:=List.map cI [a1]) rfl rfl (E2 (fun _=>rfl) _)) rfl<|B4 (rs:=[.b x1]) rfl rfl (A1 rfl (A1 rfl (A1 rfl B5))) ((I4 hx1).frz)<|qm rfl<|es (ra3 rfl rfl rfl)<|wi h rfl (fun hc2 h=>?_) fun hc2 h=>?_
 ·refine s0<|qm rfl<|es (ra1 rfl)<|C6 ?_
  obtain rfl:=os h
  exact retq trivial (B1 rfl B9) (A4 rfl B8) (A3 A5 B3)
 ·refine s0<|oB h fun x3 hx3 h=>oB h fun x4 hx4 h=>qm rfl<|A0 (P2 rfl rfl) rfl<|A0 (C4 rfl) rfl<|A0 (C4 rfl) rfl<|A0 (J9 (x:=(.i a0.RoHouse.Stoves)) rfl hb0 rfl) rfl<|A0 (B6k rfl rfl hx3) rfl<|A0 (U8 rfl rfl) rfl<|qm rfl<|A0 (J5 (rows:=List.map cI [a2]) rfl rfl (E2 (fun _=>rfl) _)) rfl<|B4 (rs:=[.b x4]) rfl rfl (A1 rfl (A1 rfl (A1 rfl B5))) ((I4 hx4).frz)<|qm rfl<|es (ra1 rfl)<|wi h rfl (fun hc5 h=>?_) fun hc5 h=>?_
  ·refine s0<|qm rfl<|es (ra1 rfl)<|C6 ?_
   obtain rfl:=os h
   exact retq trivial (B1 rfl B9) (A4 rfl B8) (A3 A5 B3)
  ·refine C1<|s0<|qm rfl<|es (ra1 rfl)<|C6 ?_
   obtain rfl:=os h
   exact retq trivial (B1 rfl B9) (A4 rfl B8) (A3 A5 B3)
def R1 (a2:Int) (x1:RoPlace) (s2:(Int × Span)):Option ((Int × Span) ⊕ Span) :=
 if (decide (s2.1 < (List.length x1.Warms:Int))) = true then
  (idx x1.Warms s2.1).bind fun x5 =>
  (B4h .i64 a2 s2.1).bind fun x6 =>
  if ((B4z x6 1) == 1) = true then
  some (.inl ((w64 (s2.1 + 1)),(Span.mk (w64 (s2.2.Lo + x5.Lo)) (w64 (s2.2.Hi + x5.Hi)))))
  else
  some (.inl ((w64 (s2.1 + 1)),s2.2))
 else
  some (.inr s2.2)
def T1 (a0:room_house) (a1:Int) (a2:Int):Option Span :=
 (idx a0.RoHouse.Places a1).bind fun x1 =>
 (loop (R1 a2 x1) (0,a0.RoHouse.Weather)).bind fun (o8:Span) =>
 some o8
theorem A3k {c:Sc} {H:A7} {a0:room_house} {b0:Nat} (hb0:hcells H b0 = some [.i a0.RoHouse.Weather.Lo,.i a0.RoHouse.Weather.Hi,.i a0.RoHouse.Stoves,(.seq 1 (List.map cI a0.RoHouse.Holds)),(.seq 4 (List.map B7 a0.RoHouse.Places)),(.seq 6 (List.map A9 a0.RoHouse.Figures)),(.seq 1 (List.map cI a0.RoHouse.Bill)),(.xseq 2 [[.b false,(.fn (.func 112) [] [])],[.b true,(.fn (.func 113) [] [])]])]) {a1:Int} {a2:Int} {r:Span} (h:T1 a0 a1 a2 = some r) :
  F1 tab c H (.fn (.func 83) [] []) [.ptr b0 0,.i a1,.i a2] [(.agg (D5 r))]:= by
 unfold T1 at h
 refine cE rfl rfl<|sg 0 rfl<|A0 D6 rfl<|es (ra4 rfl rfl rfl rfl)<|sg 1 rfl<|qm rfl<|A0 (P2 rfl rfl) rfl<|A0 (C4 rfl) rfl<|A0 (C4 rfl) rfl<|A0 (C1j (ds:=D5 a0.RoHouse.Weather) rfl hb0 rfl rfl) rfl<|A0 D6 rfl<|F0 (C7 (ds:=(D5 a0.RoHouse.Weather)) rfl rfl rfl rfl (C0 rfl) rfl) rfl<|es (ra5 rfl rfl rfl rfl rfl)<|B6<|s0<|oB h fun x1 hx1 h=>qm rfl<|A0 (P2 rfl rfl) rfl<|A0 (C4 rfl) rfl<|A0 (C4 rfl) rfl<|A0 (J9 (x:=(.seq 4 (List.map B7 a0.RoHouse.Places))) rfl hb0 rfl) rfl<|qm rfl<|A0 (E6 (f:=B7) rfl rfl hx1) rfl<|A0 (A29 (ds:=(List.drop 2 (B7 x1))) rfl rfl) rfl<|A0 (E9 rfl rfl) rfl<|A0 (D8 (f:=D5) rfl) rfl<|qm rfl<|es (ra6 rfl rfl rfl rfl rfl rfl)<|C5<|oB h fun o8 ho8 h=>wl (fun s2=>[(2,.i a2),(6,(.ptr (H.length + 0) 0)),(7,(.ptr (H.length + 1) 0)),(23,(.seq 2 (List.map D5 x1.Warms))),(24,(.i (List.length x1.Warms:Int))),(25,.i s2.1)]) (fun (q3:Unit) s2=>[(.cells (D5 (Span.mk 0 0))),(.cells (D5 s2.2))]) 2 (fun r e s' H'=>PX 0 [(6,(.ptr (H.length + 0) 0)),(7,(.ptr (H.length + 1) 0))] (H++[(.cells (D5 (Span.mk 0 0))),(.cells (D5 r))]) e s' H') () ho8 rfl rfl (fun _ _=>rfl) (fun _=>rfl) rfl (fun s2=>(bdc A5 (bdc (D4 rfl) (bdc (D4 rfl) (bdc G7 (bdc A5 (bdc A5 bdn))))))) (fun q3 s2 ys2 hs2=>?_) ?_
 ·unfold R1 at hs2
  refine s0<|A0 (F8 rfl rfl) rfl<|es (ra7 rfl rfl rfl rfl rfl rfl rfl)<|B6<|wi hs2 rfl (fun hc4 hs2=>?_) fun hc4 hs2=>?_
  ·refine C1<|B6<|C5<|sg 2 rfl<|oB hs2 fun x5 hx5 hs2=>qm rfl<|A0 (E6 (f:=D5) rfl rfl hx5) rfl<|A0 (O2 rfl rfl) rfl<|A0 D6 rfl<|qm rfl<|F0 (C7 (ds:=(D5 x5)) rfl rfl rfl rfl (C0 rfl) rfl) rfl<|es (ra8 rfl rfl rfl rfl rfl rfl rfl rfl)<|s0<|oB hs2 fun x6 hx6 hs2=>qm rfl<|qm rfl<|A0 (B19 rfl rfl hx6) rfl<|A0 (F9 (v:=(.i (B4z x6 1))) rfl rfl rfl) rfl<|A0 (F7 rfl rfl) rfl<|es (ra8 rfl rfl rfl rfl rfl rfl rfl rfl)<|wi hs2 rfl (fun hc7 hs2=>?_) fun hc7 hs2=>?_
   ·refine s0<|A0 (C4 rfl) rfl<|A0 (C3 rfl rfl rfl) rfl<|A0 (C4 rfl) rfl<|A0 (C3 rfl rfl rfl) rfl<|A0 (E1 rfl rfl) rfl<|A0 (C4 rfl) rfl<|F0 (C7 (ds:=(D5 (Span.mk (w64 (s2.2.Lo + x5.Lo)) s2.2.Hi))) rfl rfl rfl rfl (C0 rfl) rfl) rfl<|es (ra7 rfl rfl rfl rfl rfl rfl rfl)<|r0<|A0 (C4 rfl) rfl<|A0 (C3 rfl rfl rfl) rfl<|A0 (C4 rfl) rfl<|A0 (C3 rfl rfl rfl) rfl<|A0 (E1 rfl rfl) rfl<|A0 (C4 rfl) rfl<|F0 (C7 (ds:=(D5 (Span.mk (w64 (s2.2.Lo + x5.Lo)) (w64 (s2.2.Hi + x5.Hi))))) rfl rfl rfl rfl (C0 rfl) rfl) rfl<|en (ra6 rfl rfl rfl rfl rfl rfl)<|r0<|A0 (E1 rfl rfl) rfl<|qm rfl<|en (ra6 rfl rfl rfl rfl rfl rfl) ?_
    cases hs2
    exact lnT () rfl (su6 rfl rfl rfl rfl rfl rfl)
   ·refine C1<|r0<|A0 (E1 rfl rfl) rfl<|qm rfl<|en (ra6 rfl rfl rfl rfl rfl rfl) ?_
    cases hs2
    exact lnT () rfl (su6 rfl rfl rfl rfl rfl rfl)
  ·refine E4 ?_
   obtain rfl:=os hs2
   exact lx rfl px (su2 rfl rfl)
 ·rintro e s' H' - ⟨rfl,rfl,rfl⟩
  refine s0<|A0 (C2 rfl rfl rfl) rfl<|F0 (C7 (ds:=(D5 o8)) rfl rfl rfl rfl (C0 rfl) rfl) rfl<|es (ra1 rfl)<|C6 ?_
  obtain rfl:=os h
  exact retq trivial (G0 (E3 (ds:=D5 o8) rfl rfl rfl rfl) B9) (A4 (I5 rfl) B8) (A3 (H6 rfl) B3)
def W1 (a0:RoHouse) (a1:Int) (a2:Int):Option (Span × Int) :=
 (R0 a0).bind fun x1 =>
 (if (x1.2.2 == 0) = true then
  (Z8 (room_house.mk a0) a1 a2).bind fun x4 =>
  some x4
  else
  some x1.2.2).bind fun (p2:Int) =>
 if (p2 != 0) = true then
  some ((Span.mk 0 0),p2)
 else
  (T1 (room_house.mk a0) a1 a2).bind fun x6 =>
  some (x6,0)
theorem A3j {c:Sc} {H:A7} {a0:RoHouse} {a1:Int} {a2:Int} {r:(Span × Int)} (h:W1 a0 a1 a2 = some r) :
  F1 tab c H (.fn (.func 19) [] []) [(.agg (A2 a0)),.i a1,.i a2] [(.agg (D5 r.1)),.i r.2]:= by
 unfold W1 at h
 refine cE rfl rfl<|sg 0 rfl<|A0 (F3 (cs:=A2 a0) rfl rfl rfl) rfl<|A0 D6 rfl<|qm rfl<|es (ra4 rfl rfl rfl rfl)<|s0<|A0 (C2 rfl rfl rfl) rfl<|Q0 (as2:=[(.agg (A2 a0))]) (H1:=(H++[(.cells (A2 a0)),(.cells (D5 (Span.mk 0 0)))])) rfl rfl (A1 (C8 rfl) B5) rfl rfl rfl (W8 rfl)<|sg 2 rfl<|A0 (F3 (cs:=A2 a0) rfl rfl rfl) rfl<|qm rfl<|qm rfl<|es (ra1 rfl)<|s0<|oB h fun x1 hx1 h=>A0 (C2 rfl rfl rfl) rfl<|B4 (rs:=[.i x1.1,.i x1.2.1,.i x1.2.2]) rfl rfl (A1 (C8 rfl) B5) ((R9 hx1).frz)<|qm rfl<|A0 (A6 rfl rfl) rfl<|A0 (A6 rfl rfl) rfl<|A0 (A6 rfl rfl) rfl<|qm rfl<|qm rfl<|qm rfl<|es (ra2 rfl rfl)<|sg 3 rfl<|A0 (C2 rfl rfl rfl) rfl<|A0 (G6 (cs:=[.b false,(.fn (.func 112) [] [])]) rfl rfl) rfl<|A0 (G6 (cs:=[.b true,(.fn (.func 113) [] [])]) rfl rfl) rfl<|A0 (A7w (rows:=[[.b false,(.fn (.func 112) [] [])],[.b true,(.fn (.func 113) [] [])]]) rfl rfl) rfl<|A0 (G6 (cs:=[.i a0.Weather.Lo,.i a0.Weather.Hi,.i a0.Stoves,(.seq 1 (List.map cI a0.Holds)),(.seq 4 (List.map B7 a0.Places)),(.seq 6 (List.map A9 a0.Figures)),(.seq 1 (List.map cI a0.Bill)),(.xseq 2 [[.b false,(.fn (.func 112) [] [])],[.b true,(.fn (.func 113) [] [])]])]) rfl rfl) rfl<|A0 (F3 (cs:=[.i a0.Weather.Lo,.i a0.Weather.Hi,.i a0.Stoves,(.seq 1 (List.map cI a0.Holds)),(.seq 4 (List.map B7 a0.Places)),(.seq 6 (List.map A9 a0.Figures)),(.seq 1 (List.map cI a0.Bill)),(.xseq 2 [[.b false,(.fn (.func 112) [] [])],[.b true,(.fn (.func 113) [] [])]])]) rfl rfl rfl) rfl<|qm rfl<|qm rfl<|qm rfl<|es (ra2 rfl rfl)<|C6<|InlQ.mk trivial ⟨_,_,_,[(.ptr (H.length + 3) 0),.i x1.2.2],_,(B1 rfl (B1 rfl B9)),(A4 rfl (A4 rfl B8)),(Y5 (O0 (Y3 rfl)) (D2 rfl (D2 rfl J7))),?_⟩
 refine qm rfl<|A0 (A6 rfl rfl) rfl<|A0 (A6 rfl rfl) rfl<|qm rfl<|qm rfl<|es (ra5 rfl rfl rfl rfl rfl)<|B6<|s0<|qm rfl<|A0 (F7 rfl rfl) rfl<|es (ra6 rfl rfl rfl rfl rfl rfl)<|oB h fun p2 hp2 h=>A1q (Q1:=fun e s' H'=>e = .normal∧s' = [(1,.i a1),(2,.i a2),(6,(.ptr (H.length + 1) 0)),(8,(.ptr (H.length + 3) 0)),(9,.i p2)]∧H' = (H++[(.cells (A2 a0)),(.cells (D5 (Span.mk 0 0))),(.cells (A2 a0)),(.cells [.i a0.Weather.Lo,.i a0.Weather.Hi,.i a0.Stoves,(.seq 1 (List.map cI a0.Holds)),(.seq 4 (List.map B7 a0.Places)),(.seq 6 (List.map A9 a0.Figures)),(.seq 1 (List.map cI a0.Bill)),(.xseq 2 [[.b false,(.fn (.func 112) [] [])],[.b true,(.fn (.func 113) [] [])]])])])) ?_ ?_
 ·refine wi hp2 rfl (fun hc3 hp2=>?_) fun hc3 hp2=>?_
  ·refine r0<|oB hp2 fun x4 hx4 hp2=>qm rfl<|qm rfl<|qm rfl<|B4 (rs:=[.i x4]) rfl rfl (A1 rfl (A1 rfl (A1 rfl B5))) ((A7s (D9 rfl) hx4).frz)<|qm rfl<|en (ra5 rfl rfl rfl rfl rfl) ?_
   obtain rfl:=os hp2
   exact me (And.intro rfl (And.intro rfl rfl)) (su5 rfl rfl rfl rfl rfl)
  ·refine C1 ?_
   obtain rfl:=os hp2
   exact me (And.intro rfl (And.intro rfl rfl)) (su5 rfl rfl rfl rfl rfl)
 ·rintro e s' H' ⟨rfl,rfl,rfl⟩
  refine B6<|s0<|qm rfl<|A0 (G2 rfl rfl) rfl<|es (ra6 rfl rfl rfl rfl rfl rfl)<|wi h rfl (fun hc5 h=>?_) fun hc5 h=>?_
  ·refine s0<|A0 (G6 (cs:=D5 (Span.mk 0 0)) rfl rfl) rfl<|qm rfl<|F0 (C7 (ds:=(D5 (Span.mk 0 0))) rfl rfl rfl rfl (C0 rfl) rfl) rfl<|qm rfl<|es (ra2 rfl rfl)<|C6 ?_
   obtain rfl:=os h
   exact retq trivial (G0 (E3 (ds:=D5 (Span.mk 0 0)) rfl rfl rfl rfl) (B1 rfl B9)) (A4 (I5 rfl) (A4 rfl B8)) (A3 (H6 rfl) (A3 A5 B3))
  ·refine C1<|s0<|oB h fun x6 hx6 h=>qm rfl<|qm rfl<|qm rfl<|B4 (rs:=[(.agg (D5 x6))]) rfl rfl (A1 rfl (A1 rfl (A1 rfl B5))) ((A3k (D9 rfl) hx6).frz)<|F0 (C7 (ds:=(D5 x6)) rfl rfl rfl rfl (C0 rfl) rfl) rfl<|qm rfl<|es (ra2 rfl rfl)<|C6 ?_
   obtain rfl:=os h
   exact retq trivial (G0 (E3 (ds:=D5 x6) rfl rfl rfl rfl) (B1 rfl B9)) (A4 (I5 rfl) (A4 rfl B8)) (A3 (H6 rfl) (A3 A5 B3))
def O9 (a0:room_house) (a1:Int) (a2:Int) (a3:Int):Option Int :=
 (T1 a0 a2 a3).bind fun x1 =>
 (idx a0.RoHouse.Figures a1).bind fun x2 =>
 if (((Span.mk (A1h x1.Lo x2.Cracks) (A3a x1.Hi x2.Slumps)).Lo == x1.Lo) && (((Span.mk (A1h x1.Lo x2.Cracks) (A3a x1.Hi x2.Slumps)).Hi == x1.Hi) && true)) = true then
  some 1
 else
  if (decide ((Span.mk (A1h x1.Lo x2.Cracks) (A3a x1.Hi x2.Slumps)).Lo > (Span.mk (A1h x1.Lo x2.Cracks) (A3a x1.Hi x2.Slumps)).Hi)) = true then
  some 2
  else
  some 0
theorem A0d {c:Sc} {H:A7} {a0:room_house} {b0:Nat} (hb0:hcells H b0 = some [.i a0.RoHouse.Weather.Lo,.i a0.RoHouse.Weather.Hi,.i a0.RoHouse.Stoves,(.seq 1 (List.map cI a0.RoHouse.Holds)),(.seq 4 (List.map B7 a0.RoHouse.Places)),(.seq 6 (List.map A9 a0.RoHouse.Figures)),(.seq 1 (List.map cI a0.RoHouse.Bill)),(.xseq 2 [[.b false,(.fn (.func 112) [] [])],[.b true,(.fn (.func 113) [] [])]])]) {a1:Int} {a2:Int} {a3:Int} {r:Int} (h:O9 a0 a1 a2 a3 = some r) :
  F1 tab c H (.fn (.func 86) [] []) [.ptr b0 0,.i a1,.i a2,.i a3] [.i r]:= by
 unfold O9 at h
 refine cE rfl rfl<|s0<|qm rfl<|es (ra4 rfl rfl rfl rfl)<|sg 0 rfl<|oB h fun x1 hx1 h=>oB h fun x2 hx2 h=>qm rfl<|qm rfl<|qm rfl<|S8 [0,1] (W5 [0,1] rfl I6 rfl rfl) (seen0 rfl) (C4w (rs:=[(.agg (D5 x1))]) rfl rfl (K9 rfl (K9 rfl (K9 rfl A26))) (A1 rfl (A1 rfl (A1 rfl B5))) ((A3k (C52 hb0 _) hx1).frz)) rfl<|A0 D6 rfl<|A0 D6 rfl<|D6d [] [(.cells (D5 x1)),(.cells (A9 (RoFigure.mk (ByteArray.mk #[]) 0 0 0 0 0)))] (A34 hb0) (D9g [] rfl (A0y rfl X4 I6) rfl rfl (A34 hb0)) (seen0 rfl) (D5z (L8 _ _ _) (ds:=(D5 x1)) rfl rfl rfl rfl rfl rfl) rfl rfl rfl<|qm rfl<|A0 (P2 rfl rfl) rfl<|A0 (C4 rfl) rfl<|A0 (C4 rfl) rfl<|S8 [0,1] (W5 [0,1] rfl I6 rfl rfl) (A6j (b:=b0) rfl (A0x (C27 _ _) A3y)) (J9 (x:=(.seq 6 (List.map A9 a0.RoHouse.Figures))) rfl hb0 rfl) rfl<|qm rfl<|S8 [0,1] (W5 [0,1] rfl I6 rfl rfl) (B4a rfl) (E6 (f:=A9) rfl rfl hx2) rfl<|S8 [0,1] (W5 [0,1] rfl I6 rfl rfl) (B4a rfl) (O2 rfl rfl) rfl<|F0 (C7 (ds:=(A9 x2)) rfl rfl rfl rfl (C0 rfl) rfl) rfl<|es (ra2 rfl rfl)<|sg 2 rfl<|A0 (C4 rfl) rfl<|A0 (C3 rfl rfl rfl) rfl<|A0 (C4 rfl) rfl<|A0 (C3 rfl rfl rfl) rfl<|A0 (C7z rfl rfl) rfl<|A0 (C4 rfl) rfl<|A0 (C3 rfl rfl rfl) rfl<|A0 (C4 rfl) rfl<|A0 (C3 rfl rfl rfl) rfl<|A0 (C7z rfl rfl) rfl<|A0 (G6 (cs:=D5 (Span.mk (A1h x1.Lo x2.Cracks) (A3a x1.Hi x2.Slumps))) rfl rfl) rfl<|A0 D6 rfl<|F0 (C7 (ds:=(D5 (Span.mk (A1h x1.Lo x2.Cracks) (A3a x1.Hi x2.Slumps)))) rfl rfl rfl rfl (C0 rfl) rfl) rfl<|es (ra2 rfl rfl)<|B6<|C5<|s0<|A0 (C2 rfl rfl rfl) rfl<|A0 (C2 rfl rfl rfl) rfl<|A0 (C58 (a:=D5 (Span.mk (A1h x1.Lo x2.Cracks) (A3a x1.Hi x2.Slumps))) (b:=D5 x1) rfl rfl rfl rfl (A28 (A28 B5y))) rfl<|qm rfl<|es (ra2 rfl rfl)<|wi h rfl (fun hc3 h=>?_) fun hc3 h=>?_
 ·refine s0<|qm rfl<|es (ra1 rfl)<|C6 ?_
  obtain rfl:=os h
  exact retq trivial (B1 rfl B9) (A4 rfl B8) (A3 A5 B3)
 ·refine s0<|A0 (C4 rfl) rfl<|A0 (C3 rfl rfl rfl) rfl<|A0 (C4 rfl) rfl<|A0 (C3 rfl rfl rfl) rfl<|A0 (A0a rfl rfl) rfl<|qm rfl<|es (ra1 rfl)<|wi h rfl (fun hc4 h=>?_) fun hc4 h=>?_
  ·refine s0<|qm rfl<|es (ra1 rfl)<|C6 ?_
   obtain rfl:=os h
   exact retq trivial (B1 rfl B9) (A4 rfl B8) (A3 A5 B3)
  ·refine C1<|s0<|qm rfl<|es (ra1 rfl)<|C6 ?_
   obtain rfl:=os h
   exact retq trivial (B1 rfl B9) (A4 rfl B8) (A3 A5 B3)
def U4 (a0:RoHouse) (a1:Int) (a2:Int) (a3:Int):Option (Int × Int) :=
 (R0 a0).bind fun x1 =>
 if (x1.2.2 != 0) = true then
  some (0,x1.2.2)
 else
  (H7 0 (w64 ((List.length a0.Figures:Int) - 1)) [a1]).bind fun x3 =>
  if x3 = true then
  some (0,4)
  else
  (Z8 (room_house.mk a0) a2 a3).bind fun x5 =>
  if (x5 != 0) = true then
   some (0,x5)
  else
   (O9 (room_house.mk a0) a1 a2 a3).bind fun x7 =>
   some (x7,0)
theorem A2n {c:Sc} {H:A7} {a0:RoHouse} {a1:Int} {a2:Int} {a3:Int} {r:(Int × Int)} (h:U4 a0 a1 a2 a3 = some r) :
  F1 tab c H (.fn (.func 21) [] []) [(.agg (A2 a0)),.i a1,.i a2,.i a3] [.i r.1,.i r.2]:= by
 unfold U4 at h
 refine cE rfl rfl<|sg 0 rfl<|A0 (F3 (cs:=A2 a0) rfl rfl rfl) rfl<|qm rfl<|qm rfl<|es (ra4 rfl rfl rfl rfl)<|s0<|A0 (C2 rfl rfl rfl) rfl<|Q0 (as2:=[(.agg (A2 a0))]) (H1:=(H++[(.cells (A2 a0))])) rfl rfl (A1 (C8 rfl) B5) rfl rfl rfl (W8 rfl)<|sg 1 rfl<|A0 (F3 (cs:=A2 a0) rfl rfl rfl) rfl<|qm rfl<|qm rfl<|es (ra1 rfl)<|s0<|oB h fun x1 hx1 h=>A0 (C2 rfl rfl rfl) rfl<|B4 (rs:=[.i x1.1,.i x1.2.1,.i x1.2.2]) rfl rfl (A1 (C8 rfl) B5) ((R9 hx1).frz)<|qm rfl<|A0 (A6 rfl rfl) rfl<|A0 (A6 rfl rfl) rfl<|A0 (A6 rfl rfl) rfl<|qm rfl<|qm rfl<|qm rfl<|es (ra2 rfl rfl)<|sg 2 rfl<|A0 (C2 rfl rfl rfl) rfl<|A0 (G6 (cs:=[.b false,(.fn (.func 112) [] [])]) rfl rfl) rfl<|A0 (G6 (cs:=[.b true,(.fn (.func 113) [] [])]) rfl rfl) rfl<|A0 (A7w (rows:=[[.b false,(.fn (.func 112) [] [])],[.b true,(.fn (.func 113) [] [])]]) rfl rfl) rfl<|A0 (G6 (cs:=[.i a0.Weather.Lo,.i a0.Weather.Hi,.i a0.Stoves,(.seq 1 (List.map cI a0.Holds)),(.seq 4 (List.map B7 a0.Places)),(.seq 6 (List.map A9 a0.Figures)),(.seq 1 (List.map cI a0.Bill)),(.xseq 2 [[.b false,(.fn (.func 112) [] [])],[.b true,(.fn (.func 113) [] [])]])]) rfl rfl) rfl<|A0 (F3 (cs:=[.i a0.Weather.Lo,.i a0.Weather.Hi,.i a0.Stoves,(.seq 1 (List.map cI a0.Holds)),(.seq 4 (List.map B7 a0.Places)),(.seq 6 (List.map A9 a0.Figures)),(.seq 1 (List.map cI a0.Bill)),(.xseq 2 [[.b false,(.fn (.func 112) [] [])],[.b true,(.fn (.func 113) [] [])]])]) rfl rfl rfl) rfl<|qm rfl<|qm rfl<|qm rfl<|es (ra2 rfl rfl)<|C6<|InlQ.mk trivial ⟨_,_,_,[(.ptr (H.length + 2) 0),.i x1.2.2],_,(B1 rfl (B1 rfl B9)),(A4 rfl (A4 rfl B8)),(Y5 (O0 (Y3 rfl)) (D2 rfl (D2 rfl J7))),?_⟩
 refine qm rfl<|A0 (A6 rfl rfl) rfl<|A0 (A6 rfl rfl) rfl<|qm rfl<|qm rfl<|es (ra6 rfl rfl rfl rfl rfl rfl)<|B6<|C5<|s0<|qm rfl<|A0 (G2 rfl rfl) rfl<|qm rfl<|es (ra7 rfl rfl rfl rfl rfl rfl rfl)<|wi h rfl (fun hc2 h=>?_) fun hc2 h=>?_
 ·refine s0<|qm rfl<|qm rfl<|qm rfl<|es (ra2 rfl rfl)<|C6 ?_
  obtain rfl:=os h
  exact retq trivial (B1 rfl (B1 rfl B9)) (A4 rfl (A4 rfl B8)) (A3 A5 (A3 A5 B3))
 ·refine s0<|oB h fun x3 hx3 h=>A0 (C4 rfl) rfl<|A0 (C3 rfl rfl rfl) rfl<|A0 (D8 (f:=A9) rfl) rfl<|A0 (U8 rfl rfl) rfl<|qm rfl<|A0 (J5 (rows:=List.map cI [a1]) rfl rfl (E2 (fun _=>rfl) _)) rfl<|B4 (rs:=[.b x3]) rfl rfl (A1 rfl (A1 rfl (A1 rfl B5))) ((I4 hx3).frz)<|qm rfl<|es (ra5 rfl rfl rfl rfl rfl)<|wi h rfl (fun hc4 h=>?_) fun hc4 h=>?_
  ·refine s0<|qm rfl<|qm rfl<|es (ra2 rfl rfl)<|C6 ?_
   obtain rfl:=os h
   exact retq trivial (B1 rfl (B1 rfl B9)) (A4 rfl (A4 rfl B8)) (A3 A5 (A3 A5 B3))
  ·refine C1<|B6<|s0<|oB h fun x5 hx5 h=>qm rfl<|qm rfl<|qm rfl<|B4 (rs:=[.i x5]) rfl rfl (A1 rfl (A1 rfl (A1 rfl B5))) ((A7s (D9 rfl) hx5).frz)<|qm rfl<|es (ra5 rfl rfl rfl rfl rfl)<|s0<|qm rfl<|A0 (G2 rfl rfl) rfl<|es (ra6 rfl rfl rfl rfl rfl rfl)<|wi h rfl (fun hc6 h=>?_) fun hc6 h=>?_
   ·refine s0<|qm rfl<|qm rfl<|qm rfl<|es (ra2 rfl rfl)<|C6 ?_
    obtain rfl:=os h
    exact retq trivial (B1 rfl (B1 rfl B9)) (A4 rfl (A4 rfl B8)) (A3 A5 (A3 A5 B3))
   ·refine C1<|s0<|oB h fun x7 hx7 h=>qm rfl<|qm rfl<|qm rfl<|qm rfl<|B4 (rs:=[.i x7]) rfl rfl (A1 rfl (A1 rfl (A1 rfl (A1 rfl B5)))) ((A0d (D9 rfl) hx7).frz)<|qm rfl<|qm rfl<|es (ra2 rfl rfl)<|C6 ?_
    obtain rfl:=os h
    exact retq trivial (B1 rfl (B1 rfl B9)) (A4 rfl (A4 rfl B8)) (A3 A5 (A3 A5 B3))
end Rm
end
section
namespace Rm
open Go Am
structure PlOk (h:RoHouse) (p:RoPlace):Prop where
 len:(p.Warms.length:Int) = h.Stoves
 warms:∀g ∈ p.Warms,0≤g.Lo∧g.Lo≤g.Hi∧g.Hi≤60
 joists:0≤p.Joists∧p.Joists≤((2 ^ h.Holds.length:Nat):Int) - 1
structure FiOk (f:RoFigure):Prop where
 cls:0≤f.Class∧f.Class≤9
 weight:1≤f.Weight∧f.Weight≤500
 bears:-100≤f.Cracks∧f.Cracks≤f.Slumps∧f.Slumps≤100
 worth:0≤f.Worth∧f.Worth≤100
structure HOk (h:RoHouse):Prop where
 w:-100≤h.Weather.Lo∧h.Weather.Lo≤h.Weather.Hi∧h.Weather.Hi≤100
 s:0≤h.Stoves∧h.Stoves≤3
 holds:h.Holds.length≤4
 hold:∀x ∈ h.Holds,0≤x∧x≤2000
 places:h.Places.length≤5
 place:∀p ∈ h.Places,PlOk h p
 figures:h.Figures.length≤5
 figure:∀f ∈ h.Figures,FiOk f
 bill:h.Bill.length≤3
 class_:∀x ∈ h.Bill,0≤x∧x≤9
theorem B85 {lo hi:Int} {g:Span} (h:K3 lo hi g = 0):lo≤g.Lo∧g.Lo≤g.Hi∧g.Hi≤hi:= by
 unfold K3 at h
 cases h1:out lo hi g.Lo with
 | true=>rw [h1] at h; exact absurd h (by simp)
 | false =>
 cases h2:out lo hi g.Hi with
 | true=>rw [h1,h2] at h; exact absurd h (by simp)
 | false =>
 rw [h1,h2] at h
 have b1:=L7.mp h1
 have b2:=L7.mp h2
 by_cases c:g.Lo > g.Hi
 ·simp [c] at h
 ·exact ⟨b1.1,by omega,b2.2⟩
theorem A9n {α:Type} [Inhabited α] {l:List α} {x:α} (h:x ∈ l):∃i,i < l.length∧l[i]! = x:= by
 obtain ⟨i,hi,e⟩:=List.mem_iff_getElem.mp h
 exact ⟨i,hi,by rw [getElem!_pos l i hi,e]⟩
theorem C1g {hi:Int} {l:List Int} {i:Nat} (h:W9 hi l i = 0):0≤l[i]!∧l[i]!≤hi:= by
 unfold W9 at h
 cases h1:out 0 hi l[i]! with
 | true=>rw [h1] at h; exact absurd h (by decide)
 | false=>exact L7.mp h1
theorem C6g {h:RoHouse} {p:RoPlace} (e:A37 h p = 0):PlOk h p:= by
 unfold A37 at e
 by_cases hw:(p.Warms.length:Int) = h.Stoves
 ·have e0:((p.Warms.length:Int) != h.Stoves) = false:= by rw [hw]; exact bne_self_eq_false h.Stoves
  rw [e0] at e
  cases hg:wrong (fun j=>K3 0 60 p.Warms[j]!) p.Warms.length with
  | some x =>
   rw [hg] at e
   have:=A0k hg
   have e:x.2 = 0:=e
   rw [e] at this; exact absurd this (by decide)
  | none =>
   rw [hg] at e
   have hn:=A5j hg
   refine ⟨hw,fun g hm=>?_,?_⟩
   ·obtain ⟨i,hi,rfl⟩:=A9n hm
    exact B85 (hn i hi)
   ·cases h1:out 0 (((2 ^ h.Holds.length:Nat):Int) - 1) p.Joists with
    | true=>rw [h1] at e; exact absurd e (by decide)
    | false=>exact L7.mp h1
 ·rw [if_pos (bne_iff_ne.mpr hw)] at e
  exact absurd e (by decide)
theorem C9k {f:RoFigure} (e:A7v f = 0):FiOk f:= by
 unfold A7v at e
 cases h1:out 0 9 f.Class with
 | true=>rw [h1] at e; exact absurd e (by simp)
 | false =>
 cases h2:out 1 500 f.Weight with
 | true=>rw [h1,h2] at e; exact absurd e (by simp)
 | false =>
 cases h3:out (-100) 100 f.Cracks with
 | true=>rw [h1,h2,h3] at e; exact absurd e (by simp)
 | false =>
 cases h4:out (-100) 100 f.Slumps with
 | true=>rw [h1,h2,h3,h4] at e; exact absurd e (by simp)
 | false =>
 cases h5:out 0 100 f.Worth with
 | true=>rw [h1,h2,h3,h4,h5] at e; exact absurd e (by simp)
 | false =>
 rw [h1,h2,h3,h4,h5] at e
 have b3:=L7.mp h3
 have b4:=L7.mp h4
 by_cases c:f.Cracks > f.Slumps
 ·simp [c] at e
 ·exact ⟨L7.mp h1,L7.mp h2,⟨b3.1,by omega,b4.2⟩,L7.mp h5⟩
theorem D05 {n r:Int} (h:(if n == 0 then r else n) = 0):r = 0:= by
 by_cases c:n = 0
 ·subst c; exact h
 ·rw [if_neg (by simp [c])] at h; exact absurd h c
theorem S4 {h:RoHouse} (e:(check h).2.2 = 0):HOk h:= by
 unfold check at e
 by_cases h1:K3 (-100) 100 h.Weather = 0
 ·rw [if_neg (by simp [h1])] at e
  cases h2:out 0 3 h.Stoves with
  | true=>rw [h2,if_pos rfl] at e; exact absurd e (show ¬ ((7:Int) = 0) by decide)
  | false =>
  rw [h2,if_neg (by decide)] at e
  by_cases h3:h.Holds.length > 4
  ·rw [if_pos h3] at e; exact absurd e (by decide)
  rw [if_neg h3] at e
  cases g1:wrong (W9 2000 h.Holds) h.Holds.length with
  | some x =>
   rw [g1] at e
   have:=A0k g1
   have e:x.2 = 0:=e
   rw [e] at this; exact absurd this (by decide)
  | none =>
  rw [g1] at e
  simp only [] at e
  by_cases h4:h.Places.length > 5
  ·rw [if_pos h4] at e; exact absurd e (by decide)
  rw [if_neg h4] at e
  cases g2:wrong (Q2 h) h.Places.length with
  | some x =>
   rw [g2] at e
   have:=A0k g2
   have e:x.2 = 0:=e
   rw [e] at this; exact absurd this (by decide)
  | none =>
  rw [g2] at e
  simp only [] at e
  by_cases h5:h.Figures.length > 5
  ·rw [if_pos h5] at e; exact absurd e (by decide)
  rw [if_neg h5] at e
  cases g3:wrong (A00 h) h.Figures.length with
  | some x =>
   rw [g3] at e
   have:=A0k g3
   have e:x.2 = 0:=e
   rw [e] at this; exact absurd this (by decide)
  | none =>
  rw [g3] at e
  simp only [] at e
  by_cases h6:h.Bill.length > 3
  ·rw [if_pos h6] at e; exact absurd e (by decide)
  rw [if_neg h6] at e
  cases g4:wrong (W9 9 h.Bill) h.Bill.length with
  | some x =>
   rw [g4] at e
   have:=A0k g4
   have e:x.2 = 0:=e
   rw [e] at this; exact absurd this (by decide)
  | none =>
  refine ⟨B85 h1,L7.mp h2,by omega,fun x hx=>?_,by omega,fun p hp=>?_,by omega,fun f hf=>?_,by omega,fun x hx=>?_⟩
  ·obtain ⟨i,hi,rfl⟩:=A9n hx
   exact C1g (A5j g1 i hi)
  ·obtain ⟨i,hi,rfl⟩:=A9n hp
   exact C6g (D05 (A5j g2 i hi))
  ·obtain ⟨i,hi,rfl⟩:=A9n hf
   exact C9k (D05 (A5j g3 i hi))
  ·obtain ⟨i,hi,rfl⟩:=A9n hx
   exact C1g (A5j g4 i hi)
 ·rw [if_pos (bne_iff_ne.mpr h1)] at e
  exact absurd e h1
def bit (l s:Nat):Bool:=l / 2 ^ s % 2 == 1
theorem B9t:∀l:Nat,l < 16→∀ s:Nat,s < 5→B4h .i64 (l:Int) (s:Int) = some ((l / 2 ^ s:Nat):Int):= by decide +kernel
theorem C61:∀x:Nat,x < 16→(B4z (x:Int) 1 == 1) = (x % 2 == 1):= by decide +kernel
def B0b (a b:Span):Span:=⟨a.Lo + b.Lo,a.Hi + b.Hi⟩
def G9 (w:Span) (ws:List Span) (l:Nat) (n:Nat):Span:=iter (fun s a=>if bit l s then B0b a ws[s]! else a) n w
def warm (h:RoHouse) (p l:Nat):Span:=G9 h.Weather h.Places[p]!.Warms l h.Stoves.toNat
theorem A8e {h:RoHouse} (ok:HOk h) {p:RoPlace} (hp:PlOk h p) (l:Nat):∀n,n≤p.Warms.length→-100≤(G9 h.Weather p.Warms l n).Lo∧(G9 h.Weather p.Warms l n).Lo≤(G9 h.Weather p.Warms l n).Hi∧(G9 h.Weather p.Warms l n).Hi≤100 + 60 * n
 | 0,_=>⟨ok.w.1,ok.w.2.1,by have:=ok.w.2.2; show h.Weather.Hi≤_; omega⟩
 | n + 1,hn=>by
  have ih:=A8e ok hp l n (by omega)
  have e:G9 h.Weather p.Warms l (n + 1) = if bit l n then B0b (G9 h.Weather p.Warms l n) p.Warms[n]! else G9 h.Weather p.Warms l n:=rfl
  rw [e]
  have hg:=hp.warms _ (G5 (show n < p.Warms.length by omega))
  cases bit l n
  ·rw [if_neg (by decide)]; omega
  ·rw [if_pos rfl]
   simp only [B0b]
   omega
theorem A8a {h:RoHouse} (ok:HOk h) {p:Nat} (hp:p < h.Places.length):h.Places[p]!.Warms.length = h.Stoves.toNat:= by
 have:=(ok.place _ (G5 hp)).len
 omega
theorem A9t {h:RoHouse} (ok:HOk h) {p:Nat} (hp:p < h.Places.length) (l:Nat):-100≤(warm h p l).Lo∧(warm h p l).Lo≤(warm h p l).Hi∧(warm h p l).Hi≤280:= by
 have:=A8e ok (ok.place _ (G5 hp)) l h.Stoves.toNat (by rw [A8a ok hp]; exact Nat.le_refl _)
 have:=ok.s
 unfold warm
 omega
theorem B4c {h:RoHouse} (ok:HOk h) {p l:Nat} (hp:p < h.Places.length) (hl:l < 16):T1 ⟨h⟩ (p:Int) (l:Int) = some (warm h p l):= by
 have hs:=ok.s
 unfold T1
 rw [F5 hp]
 simp only [Option.bind_some]
 have hlen:=A8a ok hp
 have l1:=I8 (b:=R1 (l:Int) h.Places[p]!) (fun i=>((i:Int),G9 h.Weather h.Places[p]!.Warms l i)) h.Stoves.toNat (r:=warm h p l) (by omega) (fun i hi=>by
  have b1:=A8e ok (ok.place _ (G5 hp)) l i (by omega)
  have b2:=(ok.place _ (G5 hp)).warms _ (G5 (show i < h.Places[p]!.Warms.length by omega))
  unfold R1
  simp only []
  rw [if_pos (by rw [decide_eq_true_eq]; omega),F5 (by omega)]
  simp only [Option.bind_some]
  rw [B9t l hl i (by omega)]
  simp only [Option.bind_some]
  rw [C61 _ (Nat.lt_of_le_of_lt (Nat.div_le_self _ _) hl),E0 (n:=(i:Int) + 1) (by omega),E0 (by omega),E0 (by omega)]
  show _ = some (Sum.inl (((i + 1:Nat):Int),if bit l i then B0b (G9 h.Weather h.Places[p]!.Warms l i) h.Places[p]!.Warms[i]! else G9 h.Weather h.Places[p]!.Warms l i))
  unfold bit B0b
  cases (l / 2 ^ i % 2 == 1) <;> rfl) (by
  unfold R1
  simp only []
  rw [if_neg (by rw [decide_eq_true_eq]; omega)]
  rfl)
 have l1:loop (R1 (l:Int) h.Places[p]!) (0,h.Weather) = some (warm h p l):=l1
 rw [l1]; rfl
theorem A7g {α:Type} {l:List Sh} {c:α→List AV} {Q:α→Prop} (h:∀r,SatL l r→∃ x,r = c x∧Q x):∀rows:List (List AV),(∀ r ∈ rows,SatL l r)→∃ xs:List α,rows = xs.map c∧xs.length = rows.length∧∀ x ∈ xs,Q x
 | [],_=>⟨[],rfl,rfl,by simp⟩
 | r :: rows,hr=>by
  obtain ⟨x,hx,hq⟩:=h r (hr r (List.mem_cons_self ..))
  obtain ⟨xs,hxs,hlen,hqs⟩:=A7g h rows fun r' h'=>hr r' (List.mem_cons_of_mem _ h')
  refine ⟨x :: xs,by rw [hx,hxs]; rfl,by rw [List.length_cons,List.length_cons,hlen],?_⟩
  intro y hy
  rcases List.mem_cons.mp hy with rfl | hy
  ·exact hq
  ·exact hqs y hy
theorem D79 (r:List AV) (h:SatL [.int .i64,.int .i64] r):∃x:Span,r = D5 x∧True:= by
 simp only [SatL,Sat] at h
 obtain ⟨x1,q1,rfl,⟨n1,rfl,_⟩,x2,q2,rfl,⟨n2,rfl,_⟩,rfl⟩:=h
 exact ⟨⟨n1,n2⟩,rfl,trivial⟩
theorem C91 (r:List AV) (h:SatL [.int .i64] r):∃x:Int,r = cI x∧True:= by
 simp only [SatL,Sat] at h
 obtain ⟨x1,q1,rfl,⟨n1,rfl,_⟩,rfl⟩:=h
 exact ⟨n1,rfl,trivial⟩
theorem C70 (r:List AV) (h:SatL [.str,.int .i64,.int .i64,.int .i64,.int .i64,.int .i64] r):∃x:RoFigure,r = A9 x∧x.Name.size≤maxLen:= by
 simp only [SatL,Sat] at h
 obtain ⟨x0,q0,rfl,⟨s,rfl,hs⟩,x1,q1,rfl,⟨n1,rfl,_⟩,x2,q2,rfl,⟨n2,rfl,_⟩,x3,q3,rfl,⟨n3,rfl,_⟩,x4,q4,rfl,⟨n4,rfl,_⟩,x5,q5,rfl,⟨n5,rfl,_⟩,rfl⟩:=h
 exact ⟨⟨s,n1,n2,n3,n4,n5⟩,rfl,hs⟩
theorem C93 (r:List AV) (h:SatL [.str,.bool,.seq 2 [.int .i64,.int .i64],.int .i64] r):∃x:RoPlace,r = B7 x∧x.Name.size≤maxLen:= by
 rw [SatL] at h; obtain ⟨x0,q0,rfl,h0,h⟩:=h
 rw [SatL] at h; obtain ⟨x1,q1,rfl,h1,h⟩:=h
 rw [SatL] at h; obtain ⟨x2,q2,rfl,h2,h⟩:=h
 rw [SatL] at h; obtain ⟨x3,q3,rfl,h3,h⟩:=h
 rw [SatL] at h; subst h
 simp only [Sat] at h0 h1 h2 h3
 obtain ⟨s,rfl,hs⟩:=h0
 obtain ⟨b,rfl⟩:=h1
 obtain ⟨rows,rfl,_,hr⟩:=h2
 obtain ⟨n3,rfl,_⟩:=h3
 obtain ⟨xs,rfl,_,_⟩:=A7g D79 rows hr
 exact ⟨⟨s,b,xs,n3⟩,rfl,hs⟩
def C6n:List Sh:=[.int .i64,.int .i64,.int .i64,.seq 1 [.int .i64],.seq 4 [.str,.bool,.seq 2 [.int .i64,.int .i64],.int .i64],.seq 6 [.str,.int .i64,.int .i64,.int .i64,.int .i64,.int .i64],.seq 1 [.int .i64]]
theorem C92 (r:List AV) (h:SatL C6n r):∃x:RoHouse,r = A2 x∧NB x:= by
 unfold C6n at h
 rw [SatL] at h; obtain ⟨x0,q0,rfl,h0,h⟩:=h
 rw [SatL] at h; obtain ⟨x1,q1,rfl,h1,h⟩:=h
 rw [SatL] at h; obtain ⟨x2,q2,rfl,h2,h⟩:=h
 rw [SatL] at h; obtain ⟨x3,q3,rfl,h3,h⟩:=h
 rw [SatL] at h; obtain ⟨x4,q4,rfl,h4,h⟩:=h
 rw [SatL] at h; obtain ⟨x5,q5,rfl,h5,h⟩:=h
 rw [SatL] at h; obtain ⟨x6,q6,rfl,h6,h⟩:=h
 rw [SatL] at h; subst h
 simp only [Sat] at h0 h1 h2 h3 h4 h5 h6
 obtain ⟨n0,rfl,_⟩:=h0
 obtain ⟨n1,rfl,_⟩:=h1
 obtain ⟨n2,rfl,_⟩:=h2
 obtain ⟨rows3,rfl,_,hr3⟩:=h3
 obtain ⟨rows4,rfl,_,hr4⟩:=h4
 obtain ⟨rows5,rfl,_,hr5⟩:=h5
 obtain ⟨rows6,rfl,_,hr6⟩:=h6
 obtain ⟨xs,rfl,_,_⟩:=A7g C91 rows3 hr3
 obtain ⟨ys,rfl,_,hq4⟩:=A7g C93 rows4 hr4
 obtain ⟨zs,rfl,_,hq5⟩:=A7g C70 rows5 hr5
 obtain ⟨ws,rfl,_,_⟩:=A7g C91 rows6 hr6
 refine ⟨⟨⟨n0,n1⟩,n2,xs,ys,zs,ws⟩,rfl,fun v hv=>?_,fun v hv=>?_⟩
 ·have:=hq4 v hv; simp only [maxLen] at this; omega
 ·have:=hq5 v hv; simp only [maxLen] at this; omega
theorem D0z {g:Ghost} {cs:List Value} {r:List AV} (hr:r.length = cs.length) (h:∀(j:Nat) (x:AV),r[j]? = some x→∃ v,cs[j]? = some v∧Den g.Φ x v∧v.oneCell' = true):V g (.agg r) (.agg cs.toArray):= by
 refine .agg r cs.toArray (by simpa using hr.symm) ?_ ?_
 ·intro j x hx
  obtain ⟨v,hv,hd,_⟩:=h j x hx
  rw [List.getElem?_toArray,hv]; exact .den _ _ hd
 ·intro j x hx
  obtain ⟨v,hv,_,h1⟩:=h j x hx
  rw [List.getElem?_toArray,hv]; exact h1
end Rm
end
section
set_option maxRecDepth 100000
set_option maxHeartbeats 0
namespace Rm
open Go Am Go.Proofs.YtbheamjhjgoccaaDoor.Cd
def A55 (a0:ByteArray) (a1:Int) (a2:Int) (a3:Span) (a4:Int):Option RoFigure :=
 some (RoFigure.mk a0 a1 a2 a3.Lo a3.Hi a4)
theorem A7o {c:Sc} {H:A7} {a0:ByteArray} {a1:Int} {a2:Int} {a3:Span} {a4:Int} {r:RoFigure} (h:A55 a0 a1 a2 a3 a4 = some r) :
  F1 tab c H (.fn (.func 102) [] []) [.s a0,.i a1,.i a2,(.agg (D5 a3)),.i a4] [(.agg (A9 r))]:= by
 unfold A55 at h
 refine cE rfl rfl<|sg 0 rfl<|A0 (F3 (cs:=D5 a3) rfl rfl rfl) rfl<|A0 D6 rfl<|es (ra6 rfl rfl rfl rfl rfl rfl)<|s0<|qm rfl<|qm rfl<|qm rfl<|A0 (C4 rfl) rfl<|A0 (C3 rfl rfl rfl) rfl<|A0 (C4 rfl) rfl<|A0 (C3 rfl rfl rfl) rfl<|qm rfl<|A0 (G6 (cs:=A9 (RoFigure.mk a0 a1 a2 a3.Lo a3.Hi a4)) rfl rfl) rfl<|F0 (C7 (ds:=(A9 (RoFigure.mk a0 a1 a2 a3.Lo a3.Hi a4))) rfl rfl rfl rfl (C0 rfl) rfl) rfl<|es (ra1 rfl)<|C6 ?_
 obtain rfl:=os h
 exact retq trivial (G0 (E3 (ds:=A9 (RoFigure.mk a0 a1 a2 a3.Lo a3.Hi a4)) rfl rfl rfl rfl) B9) (A4 (I5 rfl) B8) (A3 (H6 rfl) B3)
def S7 (a0:Int) (a1:Int):Option Span :=
 some (Span.mk a0 a1)
theorem Q5 {c:Sc} {H:A7} {a0:Int} {a1:Int} {r:Span} (h:S7 a0 a1 = some r) :
  F1 tab c H (.fn (.func 42) [] []) [.i a0,.i a1] [(.agg (D5 r))]:= by
 unfold S7 at h
 refine cE rfl rfl<|sg 0 rfl<|A0 D6 rfl<|es (ra3 rfl rfl rfl)<|s0<|qm rfl<|qm rfl<|A0 (G6 (cs:=D5 (Span.mk a0 a1)) rfl rfl) rfl<|F0 (C7 (ds:=(D5 (Span.mk a0 a1))) rfl rfl rfl rfl (C0 rfl) rfl) rfl<|es (ra1 rfl)<|C6 ?_
 obtain rfl:=os h
 exact retq trivial (G0 (E3 (ds:=D5 (Span.mk a0 a1)) rfl rfl rfl rfl) B9) (A4 (I5 rfl) B8) (A3 (H6 rfl) B3)
def A3f (a0:(List Int)):Option RoHouse :=
 (S7 30 50).bind fun x1 =>
 (S7 0 2).bind fun x2 =>
 (S7 15 20).bind fun x3 =>
 (S7 8 10).bind fun x4 =>
 (S7 40 75).bind fun x5 =>
 (A55 (ByteArray.mk #[107,105,110,103]) 1 200 x5 9).bind fun x6 =>
 (S7 30 60).bind fun x7 =>
 (A55 (ByteArray.mk #[110,117,110]) 2 150 x7 5).bind fun x8 =>
 (S7 35 65).bind fun x9 =>
 (A55 (ByteArray.mk #[116,104,105,101,102]) 3 120 x9 7).bind fun x10 =>
 some (RoHouse.mk x1 1 [300,250] [(RoPlace.mk (ByteArray.mk #[100,111,111,114]) false [x2] 1),(RoPlace.mk (ByteArray.mk #[104,101,97,114,116,104]) true [x3] 3),(RoPlace.mk (ByteArray.mk #[110,105,99,104,101]) true [x4] 2)] [x6,x8,x10] a0)
theorem A3h {c:Sc} {H:A7} {a0:(List Int)} {r:RoHouse} (h:A3f a0 = some r) :
  F1 tab c H (.fn (.func 40) [] []) [(.seq 1 (List.map cI a0))] [(.agg (A2 r))]:= by
 unfold A3f at h
 refine cE rfl rfl<|sg 0 rfl<|A0 D6 rfl<|es (ra2 rfl rfl)<|s0<|oB h fun x1 hx1 h=>oB h fun x2 hx2 h=>oB h fun x3 hx3 h=>oB h fun x4 hx4 h=>oB h fun x5 hx5 h=>oB h fun x6 hx6 h=>oB h fun x7 hx7 h=>oB h fun x8 hx8 h=>oB h fun x9 hx9 h=>oB h fun x10 hx10 h=>B4 (rs:=[(.agg (D5 x1))]) rfl rfl (A1 rfl (A1 rfl B5)) ((Q5 hx1).frz)<|A0 (J5 (rows:=List.map cI [300,250]) rfl rfl (E2 (fun _=>rfl) _)) rfl<|B4 (rs:=[(.agg (D5 x2))]) rfl rfl (A1 rfl (A1 rfl B5)) ((Q5 hx2).frz)<|A0 (J5 (rows:=List.map D5 [x2]) rfl rfl (E2 (fun _=>rfl) _)) rfl<|A0 (G6 (cs:=B7 (RoPlace.mk (ByteArray.mk #[100,111,111,114]) false [x2] 1)) rfl rfl) rfl<|B4 (rs:=[(.agg (D5 x3))]) rfl rfl (A1 rfl (A1 rfl B5)) ((Q5 hx3).frz)<|A0 (J5 (rows:=List.map D5 [x3]) rfl rfl (E2 (fun _=>rfl) _)) rfl<|A0 (G6 (cs:=B7 (RoPlace.mk (ByteArray.mk #[104,101,97,114,116,104]) true [x3] 3)) rfl rfl) rfl<|B4 (rs:=[(.agg (D5 x4))]) rfl rfl (A1 rfl (A1 rfl B5)) ((Q5 hx4).frz)<|A0 (J5 (rows:=List.map D5 [x4]) rfl rfl (E2 (fun _=>rfl) _)) rfl<|A0 (G6 (cs:=B7 (RoPlace.mk (ByteArray.mk #[110,105,99,104,101]) true [x4] 2)) rfl rfl) rfl<|A0 (J5 (rows:=List.map B7 [(RoPlace.mk (ByteArray.mk #[100,111,111,114]) false [x2] 1),(RoPlace.mk (ByteArray.mk #[104,101,97,114,116,104]) true [x3] 3),(RoPlace.mk (ByteArray.mk #[110,105,99,104,101]) true [x4] 2)]) rfl rfl (E2 (fun _=>rfl) _)) rfl<|B4 (rs:=[(.agg (D5 x5))]) rfl rfl (A1 rfl (A1 rfl B5)) ((Q5 hx5).frz)<|B4 (rs:=[(.agg (A9 x6))]) rfl rfl (A1 rfl (A1 rfl (A1 rfl (A1 (C8 rfl) (A1 rfl B5))))) ((A7o hx6).frz)<|B4 (rs:=[(.agg (D5 x7))]) rfl rfl (A1 rfl (A1 rfl B5)) ((Q5 hx7).frz)<|B4 (rs:=[(.agg (A9 x8))]) rfl rfl (A1 rfl (A1 rfl (A1 rfl (A1 (C8 rfl) (A1 rfl B5))))) ((A7o hx8).frz)<|B4 (rs:=[(.agg (D5 x9))]) rfl rfl (A1 rfl (A1 rfl B5)) ((Q5 hx9).frz)<|B4 (rs:=[(.agg (A9 x10))]) rfl rfl (A1 rfl (A1 rfl (A1 rfl (A1 (C8 rfl) (A1 rfl B5))))) ((A7o hx10).frz)<|A0 (J5 (rows:=List.map A9 [x6,x8,x10]) rfl rfl (E2 (fun _=>rfl) _)) rfl<|qm rfl<|A0 (G6 (cs:=A2 (RoHouse.mk x1 1 [300,250] [(RoPlace.mk (ByteArray.mk #[100,111,111,114]) false [x2] 1),(RoPlace.mk (ByteArray.mk #[104,101,97,114,116,104]) true [x3] 3),(RoPlace.mk (ByteArray.mk #[110,105,99,104,101]) true [x4] 2)] [x6,x8,x10] a0)) rfl rfl) rfl<|F0 (C7 (ds:=(A2 (RoHouse.mk x1 1 [300,250] [(RoPlace.mk (ByteArray.mk #[100,111,111,114]) false [x2] 1),(RoPlace.mk (ByteArray.mk #[104,101,97,114,116,104]) true [x3] 3),(RoPlace.mk (ByteArray.mk #[110,105,99,104,101]) true [x4] 2)] [x6,x8,x10] a0))) rfl rfl rfl rfl (C0 rfl) rfl) rfl<|es (ra1 rfl)<|C6 ?_
 obtain rfl:=os h
 exact retq trivial (G0 (E3 (ds:=A2 (RoHouse.mk x1 1 [300,250] [(RoPlace.mk (ByteArray.mk #[100,111,111,114]) false [x2] 1),(RoPlace.mk (ByteArray.mk #[104,101,97,114,116,104]) true [x3] 3),(RoPlace.mk (ByteArray.mk #[110,105,99,104,101]) true [x4] 2)] [x6,x8,x10] a0)) rfl rfl rfl rfl) B9) (A4 (I5 rfl) B8) (A3 (H6 rfl) B3)
def A3g (a0:Int) (a1:(List Int)):Option RoPlan :=
 some (RoPlan.mk a0 a1)
theorem A2y {c:Sc} {H:A7} {a0:Int} {a1:(List Int)} {r:RoPlan} (h:A3g a0 a1 = some r) :
  F1 tab c H (.fn (.func 41) [] []) [.i a0,(.seq 1 (List.map cI a1))] [(.agg (B2 r))]:= by
 unfold A3g at h
 refine cE rfl rfl<|sg 0 rfl<|A0 D6 rfl<|es (ra3 rfl rfl rfl)<|s0<|qm rfl<|qm rfl<|A0 (G6 (cs:=B2 (RoPlan.mk a0 a1)) rfl rfl) rfl<|F0 (C7 (ds:=(B2 (RoPlan.mk a0 a1))) rfl rfl rfl rfl (C0 rfl) rfl) rfl<|es (ra1 rfl)<|C6 ?_
 obtain rfl:=os h
 exact retq trivial (G0 (E3 (ds:=B2 (RoPlan.mk a0 a1)) rfl rfl rfl rfl) B9) (A4 (I5 rfl) B8) (A3 (H6 rfl) B3)
def A4q (a0:(List Int)) (a1:(List Int)) (s1:(Bool × Int)):Option ((Bool × Int) ⊕ Bool) :=
 if (s1.1 && (decide (s1.2 < (List.length a0:Int)))) = true then
  (idx a0 s1.2).bind fun x5 =>
  (idx a1 s1.2).bind fun x6 =>
  some (.inl ((x5 == x6),(w64 (s1.2 + 1))))
 else
  some (.inr s1.1)
def X5 (a0:(List Int)) (a1:(List Int)):Option Bool :=
 (loop (A4q a0 a1) (((List.length a0:Int) == (List.length a1:Int)),0)).bind fun (o7:Bool) =>
 some o7
theorem A1i {c:Sc} {H:A7} {a0:(List Int)} {a1:(List Int)} {r:Bool} (h:X5 a0 a1 = some r) :
  F1 tab c H (.fn (.func 26) [] []) [(.seq 1 (List.map cI a0)),(.seq 1 (List.map cI a1))] [.b r]:= by
 unfold X5 at h
 refine cE rfl rfl<|s0<|qm rfl<|es (ra2 rfl rfl)<|s0<|qm rfl<|A0 (D8 (f:=cI) rfl) rfl<|qm rfl<|A0 (D8 (f:=cI) rfl) rfl<|A0 (F7 rfl rfl) rfl<|qm rfl<|es (ra3 rfl rfl rfl)<|B6<|s0<|qm rfl<|es (ra4 rfl rfl rfl rfl)<|C5<|oB h fun o7 ho7 h=>wl (fun s1=>[(0,(.seq 1 (List.map cI a0))),(1,(.seq 1 (List.map cI a1))),(5,.b s1.1),(6,.i s1.2)]) (fun (q2:Unit) s1=>[]) 0 (fun r e s' H'=>PX 0 [(5,.b r)] (H++[]) e s' H') () ho7 rfl rfl (fun _ _=>rfl) (fun _=>rfl) rfl (fun s1=>(bdc G7 (bdc G7 (bdc A5 (bdc A5 bdn))))) (fun q2 s1 ys1 hs1=>?_) ?_
 ·unfold A4q at hs1
  refine B6<|s0<|qm rfl<|qm rfl<|gp 5 18 (.b (s1.1 && (decide (s1.2 < (List.length a0:Int))))) 13 rfl rfl (fun hg3=>?_) (fun hg3=>?_) ?_
  ·exact gT rfl hg3<|qm rfl<|gT rfl hg3<|qm rfl<|gT rfl hg3<|A0 (D8 (f:=cI) rfl) rfl<|gT rfl hg3<|A0 (F8 rfl rfl) rfl<|A0 (D0 rfl hg3 rfl) rfl<|ge 5 (by rw [hg3]; rfl) rfl rfl
  ·exact nT rfl hg3 rfl<|nT rfl hg3 rfl<|nT rfl hg3 rfl<|nT rfl hg3 rfl<|A0 (D1 rfl hg3 rfl) rfl<|ge 5 (by rw [hg3]; rfl) rfl rfl
  refine es (ra5 rfl rfl rfl rfl rfl)<|wi hs1 rfl (fun hc4 hs1=>?_) fun hc4 hs1=>?_
  ·refine C1<|B6<|C5<|r0<|oB hs1 fun x5 hx5 hs1=>oB hs1 fun x6 hx6 hs1=>qm rfl<|qm rfl<|A0 (E6 (f:=cI) rfl rfl hx5) rfl<|A0 (E9 rfl rfl) rfl<|qm rfl<|qm rfl<|A0 (E6 (f:=cI) rfl rfl hx6) rfl<|A0 (E9 rfl rfl) rfl<|A0 (F7 rfl rfl) rfl<|qm rfl<|en (ra4 rfl rfl rfl rfl)<|r0<|qm rfl<|A0 (E1 rfl rfl) rfl<|qm rfl<|en (ra4 rfl rfl rfl rfl) ?_
   cases hs1
   exact lnT () rfl (su4 rfl rfl rfl rfl)
  ·refine E4 ?_
   obtain rfl:=os hs1
   exact lx rfl px (su1 rfl)
 ·rintro e s' H' - ⟨rfl,rfl,rfl⟩
  refine s0<|qm rfl<|qm rfl<|es (ra1 rfl)<|C6 ?_
  obtain rfl:=os h
  exact retq trivial (B1 rfl B9) (A4 rfl B8) (A3 A5 B3)
def A5e (a0:RoPlan) (a1:RoPlan):Option Bool :=
 (if (a0.Lit == a1.Lit) = true then
  (X5 a0.At a1.At).bind fun x2 =>
  some x2
 else
  some false).bind fun x3 =>
 some x3
theorem A93 {c:Sc} {H:A7} {a0:RoPlan} {a1:RoPlan} {r:Bool} (h:A5e a0 a1 = some r) :
  F1 tab c H (.fn (.func 33) [] []) [(.agg (B2 a0)),(.agg (B2 a1))] [.b r]:= by
 unfold A5e at h
 refine cE rfl rfl<|sg 0 rfl<|A0 (F3 (cs:=B2 a0) rfl rfl rfl) rfl<|A0 (F3 (cs:=B2 a1) rfl rfl rfl) rfl<|qm rfl<|es (ra2 rfl rfl)<|s0<|oB h fun x3 hx3 h=>A0 (C4 rfl) rfl<|A0 (C3 rfl rfl rfl) rfl<|A0 (C4 rfl) rfl<|A0 (C3 rfl rfl rfl) rfl<|A0 (F7 rfl rfl) rfl<|qm rfl<|gp 6 16 (.b x3) 10 rfl rfl (fun hg1=>?_) (fun hg1=>?_) ?_
 ·refine oB (bt hx3 hg1) fun x2 hx2 hx3=>?_
  obtain rfl:=os hx3
  exact gT rfl hg1<|A0 (C4 rfl) rfl<|gT rfl hg1<|A0 (C3 rfl rfl rfl) rfl<|gT rfl hg1<|A0 (C4 rfl) rfl<|gT rfl hg1<|A0 (C3 rfl rfl rfl) rfl<|gT rfl hg1<|B4 (rs:=[.b x2]) rfl rfl (A1 rfl (A1 rfl B5)) ((A1i hx2).frz)<|A0 (D0 rfl hg1 rfl) rfl<|ge 6 rfl rfl rfl
 ·obtain rfl:=os (bf hx3 hg1)
  exact nT rfl hg1 rfl<|nT rfl hg1 rfl<|nT rfl hg1 rfl<|nT rfl hg1 rfl<|I0 (F2 rfl (by rw [hg1]; rfl)) rfl<|A0 (D1 rfl hg1 rfl) rfl<|ge 6 rfl rfl rfl
 refine qm rfl<|es (ra1 rfl)<|C6 ?_
 obtain rfl:=os h
 exact retq trivial (B1 rfl B9) (A4 rfl B8) (A3 A5 B3)
def T4 (a0:room_house) (a1:(Ar5 Int)) (s1:(Int × Int)):Option ((Int × Int) ⊕ Int) :=
 if (decide (s1.2 < 5)) = true then
  (idx (Ar5.l a1) s1.2).bind fun x4 =>
  if (decide (x4 > 0)) = true then
  (idx a0.RoHouse.Figures s1.2).bind fun x6 =>
  some (.inl ((w64 (s1.1 + x6.Worth)),(w64 (s1.2 + 1))))
  else
  some (.inl (s1.1,(w64 (s1.2 + 1))))
 else
  some (.inr s1.1)
def U6 (a0:room_house) (a1:(Ar5 Int)):Option Int :=
 (loop (T4 a0 a1) (0,0)).bind fun (o7:Int) =>
 some o7
theorem A7u {c:Sc} {H:A7} {a0:room_house} {b0:Nat} (hb0:hcells H b0 = some [.i a0.RoHouse.Weather.Lo,.i a0.RoHouse.Weather.Hi,.i a0.RoHouse.Stoves,(.seq 1 (List.map cI a0.RoHouse.Holds)),(.seq 4 (List.map B7 a0.RoHouse.Places)),(.seq 6 (List.map A9 a0.RoHouse.Figures)),(.seq 1 (List.map cI a0.RoHouse.Bill)),(.xseq 2 [[.b false,(.fn (.func 112) [] [])],[.b true,(.fn (.func 113) [] [])]])]) {a1:(Ar5 Int)} {r:Int} (h:U6 a0 a1 = some r) :
  F1 tab c H (.fn (.func 91) [] []) [.ptr b0 0,(.agg ((N6 cI) a1))] [.i r]:= by
 unfold U6 at h
 refine cE rfl rfl<|sg 0 rfl<|A0 (F3 (cs:=(N6 cI) a1) rfl rfl rfl) rfl<|qm rfl<|es (ra3 rfl rfl rfl)<|B6<|s0<|A0 (C2 rfl rfl rfl) rfl<|qm rfl<|es (ra4 rfl rfl rfl rfl)<|C5<|oB h fun o7 ho7 h=>wl (fun s1=>[(0,.ptr b0 0),(4,.i s1.1),(7,(.agg ((N6 cI) a1))),(8,.i s1.2)]) (fun (q2:Unit) s1=>[(.cells ((N6 cI) a1))]) 1 (fun r e s' H'=>PX 0 [(4,.i r)] (H++[(.cells ((N6 cI) a1))]) e s' H') () ho7 rfl rfl (fun _ _=>rfl) (fun _=>rfl) rfl (fun s1=>(bdc (B05 hb0) (bdc A5 (bdc (H6 rfl) (bdc A5 bdn))))) (fun q2 s1 ys1 hs1=>?_) ?_
 ·unfold T4 at hs1
  refine s0<|A0 (F8 rfl rfl) rfl<|es (ra5 rfl rfl rfl rfl rfl)<|B6<|wi hs1 rfl (fun hc3 hs1=>?_) fun hc3 hs1=>?_
  ·refine C1<|B6<|C5<|s0<|oB hs1 fun x4 hx4 hs1=>qm rfl<|A0 (A7a (f:=cI) (g:=fun n=>(.i n)) (e:=Ar5.l a1) (fun _=>rfl) rfl rfl rfl rfl hx4) rfl<|qm rfl<|qm rfl<|es (ra6 rfl rfl rfl rfl rfl rfl)<|s0<|qm rfl<|A0 (A0a rfl rfl) rfl<|es (ra6 rfl rfl rfl rfl rfl rfl)<|wi hs1 rfl (fun hc5 hs1=>?_) fun hc5 hs1=>?_
   ·refine r0<|oB hs1 fun x6 hx6 hs1=>qm rfl<|qm rfl<|A0 (P2 rfl rfl) rfl<|A0 (C4 rfl) rfl<|A0 (C4 rfl) rfl<|A0 (J9 (x:=(.seq 6 (List.map A9 a0.RoHouse.Figures))) rfl hb0 rfl) rfl<|qm rfl<|A0 (E6 (f:=A9) rfl rfl hx6) rfl<|A0 (A29 (ds:=(List.drop 5 (A9 x6))) rfl rfl) rfl<|A0 (E9 rfl rfl) rfl<|A0 (E1 rfl rfl) rfl<|qm rfl<|en (ra4 rfl rfl rfl rfl)<|r0<|A0 (E1 rfl rfl) rfl<|qm rfl<|en (ra4 rfl rfl rfl rfl) ?_
    cases hs1
    exact lnT () rfl (su4 rfl rfl rfl rfl)
   ·refine C1<|r0<|A0 (E1 rfl rfl) rfl<|qm rfl<|en (ra4 rfl rfl rfl rfl) ?_
    cases hs1
    exact lnT () rfl (su4 rfl rfl rfl rfl)
  ·refine E4 ?_
   obtain rfl:=os hs1
   exact lx rfl px (su1 rfl)
 ·rintro e s' H' - ⟨rfl,rfl,rfl⟩
  refine s0<|qm rfl<|qm rfl<|es (ra1 rfl)<|C6 ?_
  obtain rfl:=os h
  exact retq trivial (B1 rfl B9) (A4 rfl B8) (A3 A5 B3)
theorem S5 (x:Span):freeL (D5 x) = true:= by simp [D5,freeL,AV.free,J8,freeR,cI,cB,cS]
theorem K2 (x:RoPlace):freeL (B7 x) = true:= by simp [B7,freeL,AV.free,J8,freeR,cI,cB,cS,S5]
theorem J1 (x:RoFigure):freeL (A9 x) = true:= by simp [A9,freeL,AV.free,J8,freeR,cI,cB,cS,S5,K2]
theorem L3 (x:RoHouse):freeL (A2 x) = true:= by simp [A2,freeL,AV.free,J8,freeR,cI,cB,cS,S5,K2,J1]
theorem P1 (x:RoPlan):freeL (B2 x) = true:= by simp [B2,freeL,AV.free,J8,freeR,cI,cB,cS,S5,K2,J1,L3]
theorem K4 (x:room_plan):freeL (A8 x) = true:= by simp [A8,freeL,AV.free,J8,freeR,cI,cB,cS,S5,K2,J1,L3,P1]
theorem A2v (x:law05_Easier):freeL (E8 x) = true:= by simp [E8,freeL,AV.free,J8,freeR,cI,cB,cS,S5,K2,J1,L3,P1,K4]
theorem A4y {N:Nat} (x:Span):clL N (D5 x) = true:=clL_free _ (S5 x)
theorem X3 {N:Nat} (x:RoPlace):clL N (B7 x) = true:=clL_free _ (K2 x)
theorem T5 {N:Nat} (x:RoFigure):clL N (A9 x) = true:=clL_free _ (J1 x)
theorem X2 {N:Nat} (x:RoHouse):clL N (A2 x) = true:=clL_free _ (L3 x)
theorem A0t {N:Nat} (x:RoPlan):clL N (B2 x) = true:=clL_free _ (P1 x)
theorem Q6 {N:Nat} (x:room_plan):clL N (A8 x) = true:=clL_free _ (K4 x)
theorem A4z {N:Nat} (x:law05_Easier):clL N (E8 x) = true:=clL_free _ (A2v x)
theorem fr13:c13.free = true:= by kernel_rfl
theorem fr17:c17.free = true:= by kernel_rfl
theorem fr18:c18.free = true:= by kernel_rfl
theorem fr19:c19.free = true:= by kernel_rfl
theorem fr21:c21.free = true:= by kernel_rfl
theorem fr23:c23.free = true:= by kernel_rfl
theorem fr24:c24.free = true:= by kernel_rfl
theorem fr26:c26.free = true:= by kernel_rfl
theorem fr27:c27.free = true:= by kernel_rfl
theorem fr29:c29.free = true:= by kernel_rfl
theorem fr31:c31.free = true:= by kernel_rfl
theorem fr33:c33.free = true:= by kernel_rfl
theorem fr34:c34.free = true:= by kernel_rfl
theorem fr36:c36.free = true:= by kernel_rfl
theorem fr38:c38.free = true:= by kernel_rfl
theorem fr40:c40.free = true:= by kernel_rfl
theorem fr41:c41.free = true:= by kernel_rfl
theorem fr42:c42.free = true:= by kernel_rfl
theorem fr43:c43.free = true:= by kernel_rfl
theorem fr48:c48.free = true:= by kernel_rfl
theorem fr54:c54.free = true:= by kernel_rfl
theorem fr55:c55.free = true:= by kernel_rfl
theorem fr59:c59.free = true:= by kernel_rfl
theorem fr61:c61.free = true:= by kernel_rfl
theorem fr62:c62.free = true:= by kernel_rfl
theorem fr63:c63.free = true:= by kernel_rfl
theorem fr64:c64.free = true:= by kernel_rfl
theorem fr65:c65.free = true:= by kernel_rfl
theorem fr66:c66.free = true:= by kernel_rfl
theorem fr67:c67.free = true:= by kernel_rfl
theorem fr68:c68.free = true:= by kernel_rfl
theorem fr69:c69.free = true:= by kernel_rfl
theorem fr70:c70.free = true:= by kernel_rfl
theorem fr71:c71.free = true:= by kernel_rfl
theorem fr72:c72.free = true:= by kernel_rfl
theorem fr73:c73.free = true:= by kernel_rfl
theorem fr74:c74.free = true:= by kernel_rfl
theorem fr75:c75.free = true:= by kernel_rfl
theorem fr76:c76.free = true:= by kernel_rfl
theorem fr77:c77.free = true:= by kernel_rfl
theorem fr78:c78.free = true:= by kernel_rfl
theorem fr79:c79.free = true:= by kernel_rfl
theorem fr80:c80.free = true:= by kernel_rfl
theorem fr81:c81.free = true:= by kernel_rfl
theorem fr82:c82.free = true:= by kernel_rfl
theorem fr83:c83.free = true:= by kernel_rfl
theorem fr86:c86.free = true:= by kernel_rfl
theorem fr87:c87.free = true:= by kernel_rfl
theorem fr88:c88.free = true:= by kernel_rfl
theorem fr89:c89.free = true:= by kernel_rfl
theorem fr90:c90.free = true:= by kernel_rfl
theorem fr91:c91.free = true:= by kernel_rfl
theorem fr93:c93.free = true:= by kernel_rfl
theorem fr95:c95.free = true:= by kernel_rfl
theorem fr96:c96.free = true:= by kernel_rfl
theorem fr97:c97.free = true:= by kernel_rfl
theorem fr100:c100.free = true:= by kernel_rfl
theorem fr101:c101.free = true:= by kernel_rfl
theorem fr102:c102.free = true:= by kernel_rfl
theorem fr104:c104.free = true:= by kernel_rfl
theorem fr105:c105.free = true:= by kernel_rfl
theorem fr106:c106.free = true:= by kernel_rfl
theorem fr107:c107.free = true:= by kernel_rfl
theorem fr108:c108.free = true:= by kernel_rfl
theorem fr109:c109.free = true:= by kernel_rfl
theorem fr110:c110.free = true:= by kernel_rfl
theorem fr111:c111.free = true:= by kernel_rfl
theorem fr112:c112.free = true:= by kernel_rfl
theorem fr113:c113.free = true:= by kernel_rfl
theorem fr114:c114.free = true:= by kernel_rfl
theorem fr115:c115.free = true:= by kernel_rfl
theorem fr116:c116.free = true:= by kernel_rfl
theorem fr117:c117.free = true:= by kernel_rfl
theorem fr118:c118.free = true:= by kernel_rfl
theorem fr119:c119.free = true:= by kernel_rfl
theorem fr121:c121.free = true:= by kernel_rfl
theorem fr122:c122.free = true:= by kernel_rfl
theorem fr123:c123.free = true:= by kernel_rfl
theorem fr124:c124.free = true:= by kernel_rfl
theorem fr125:c125.free = true:= by kernel_rfl
theorem fr126:c126.free = true:= by kernel_rfl
theorem fr127:c127.free = true:= by kernel_rfl
theorem B3z:B3p tab:= by
 intro i af h
 unfold tab at h
 split at h
 ·cases h; exact fr13
 ·cases h; exact fr17
 ·cases h; exact fr18
 ·cases h; exact fr19
 ·cases h; exact fr21
 ·cases h; exact fr23
 ·cases h; exact fr24
 ·cases h; exact fr26
 ·cases h; exact fr27
 ·cases h; exact fr29
 ·cases h; exact fr31
 ·cases h; exact fr33
 ·cases h; exact fr34
 ·cases h; exact fr36
 ·cases h; exact fr38
 ·cases h; exact fr40
 ·cases h; exact fr41
 ·cases h; exact fr42
 ·cases h; exact fr43
 ·cases h; exact fr48
 ·cases h; exact fr54
 ·cases h; exact fr55
 ·cases h; exact fr59
 ·cases h; exact fr61
 ·cases h; exact fr62
 ·cases h; exact fr63
 ·cases h; exact fr64
 ·cases h; exact fr65
 ·cases h; exact fr66
 ·cases h; exact fr67
 ·cases h; exact fr68
 ·cases h; exact fr69
 ·cases h; exact fr70
 ·cases h; exact fr71
 ·cases h; exact fr72
 ·cases h; exact fr73
 ·cases h; exact fr74
 ·cases h; exact fr75
 ·cases h; exact fr76
 ·cases h; exact fr77
 ·cases h; exact fr78
 ·cases h; exact fr79
 ·cases h; exact fr80
 ·cases h; exact fr81
 ·cases h; exact fr82
 ·cases h; exact fr83
 ·cases h; exact fr86
 ·cases h; exact fr87
 ·cases h; exact fr88
 ·cases h; exact fr89
 ·cases h; exact fr90
 ·cases h; exact fr91
 ·cases h; exact fr93
 ·cases h; exact fr95
 ·cases h; exact fr96
 ·cases h; exact fr97
 ·cases h; exact fr100
 ·cases h; exact fr101
 ·cases h; exact fr102
 ·cases h; exact fr104
 ·cases h; exact fr105
 ·cases h; exact fr106
 ·cases h; exact fr107
 ·cases h; exact fr108
 ·cases h; exact fr109
 ·cases h; exact fr110
 ·cases h; exact fr111
 ·cases h; exact fr112
 ·cases h; exact fr113
 ·cases h; exact fr114
 ·cases h; exact fr115
 ·cases h; exact fr116
 ·cases h; exact fr117
 ·cases h; exact fr118
 ·cases h; exact fr119
 ·cases h; exact fr121
 ·cases h; exact fr122
 ·cases h; exact fr123
 ·cases h; exact fr124
 ·cases h; exact fr125
 ·cases h; exact fr126
 ·cases h; exact fr127
 ·cases h
def P8 (a0:room_house) (s1:(Int × (Ar4 Int))) (x4:Int) (s6:(Int × (Ar4 Int))):Option ((Int × (Ar4 Int)) ⊕ (Ar4 Int)) :=
 if (decide (s6.1 < (List.length a0.RoHouse.Holds:Int))) = true then
  (idx a0.RoHouse.Places (w64 (x4 - 1))).bind fun x9 =>
  (B4h .i64 x9.Joists s6.1).bind fun x10 =>
  if ((B4z x10 1) == 1) = true then
  (idx (Ar4.l s6.2) s6.1).bind fun x12 =>
  (idx a0.RoHouse.Figures s1.1).bind fun x13 =>
  (idx (Ar4.l s6.2) s6.1).bind fun x14 =>
  some (.inl ((w64 (s6.1 + 1)),(Ar4.set s6.2 s6.1 (w64 (x12 + x13.Weight)))))
  else
  some (.inl ((w64 (s6.1 + 1)),s6.2))
 else
  some (.inr s6.2)
def T3 (a0:room_house) (a1:(Ar5 Int)) (s1:(Int × (Ar4 Int))):Option ((Int × (Ar4 Int)) ⊕ (Ar4 Int)) :=
 if (decide (s1.1 < 5)) = true then
  (idx (Ar5.l a1) s1.1).bind fun x4 =>
  if (x4 == 0) = true then
  some (.inl ((w64 (s1.1 + 1)),s1.2))
  else
  (loop (P8 a0 s1 x4) (0,s1.2)).bind fun (o15:(Ar4 Int)) =>
  some (.inl ((w64 (s1.1 + 1)),o15))
 else
  some (.inr s1.2)
def U5 (a0:room_house) (a1:(Ar5 Int)):Option (Ar4 Int) :=
 (loop (T3 a0 a1) (0,(Ar4.mk 0 0 0 0))).bind fun (o16:(Ar4 Int)) =>
 some o16
theorem A7t {c:Sc} {H:A7} {a0:room_house} {b0:Nat} (hb0:hcells H b0 = some [.i a0.RoHouse.Weather.Lo,.i a0.RoHouse.Weather.Hi,.i a0.RoHouse.Stoves,(.seq 1 (List.map cI a0.RoHouse.Holds)),(.seq 4 (List.map B7 a0.RoHouse.Places)),(.seq 6 (List.map A9 a0.RoHouse.Figures)),(.seq 1 (List.map cI a0.RoHouse.Bill)),(.xseq 2 [[.b false,(.fn (.func 112) [] [])],[.b true,(.fn (.func 113) [] [])]])]) {a1:(Ar5 Int)} {r:(Ar4 Int)} (h:U5 a0 a1 = some r) :
  F1 tab c H (.fn (.func 88) [] []) [.ptr b0 0,(.agg ((N6 cI) a1))] [(.agg ((A5y cI) r))]:= by
 unfold U5 at h
 refine cE rfl rfl<|sg 0 rfl<|A0 (F3 (cs:=(N6 cI) a1) rfl rfl rfl) rfl<|A0 D6 rfl<|es (ra3 rfl rfl rfl)<|B6<|s0<|A0 (C2 rfl rfl rfl) rfl<|qm rfl<|es (ra4 rfl rfl rfl rfl)<|C5<|oB h fun o16 ho16 h=>wl (fun s1=>[(0,.ptr b0 0),(4,(.ptr (H.length + 1) 0)),(8,(.agg ((N6 cI) a1))),(9,.i s1.1)]) (fun (q2:Unit) s1=>[(.cells ((N6 cI) a1)),(.cells ((A5y cI) s1.2))]) 2 (fun r e s' H'=>PX 0 [(4,(.ptr (H.length + 1) 0))] (H++[(.cells ((N6 cI) a1)),(.cells ((A5y cI) r))]) e s' H') () ho16 rfl rfl (fun _ _=>rfl) (fun _=>rfl) rfl (fun s1=>(bdc (B05 hb0) (bdc (D4 rfl) (bdc (H6 rfl) (bdc A5 bdn))))) (fun q2 s1 ys1 hs1=>?_) ?_
 ·unfold T3 at hs1
  refine s0<|A0 (F8 rfl rfl) rfl<|es (ra5 rfl rfl rfl rfl rfl)<|B6<|wi hs1 rfl (fun hc3 hs1=>?_) fun hc3 hs1=>?_
  ·refine C1<|B6<|C5<|s0<|oB hs1 fun x4 hx4 hs1=>qm rfl<|A0 (A7a (f:=cI) (g:=fun n=>(.i n)) (e:=Ar5.l a1) (fun _=>rfl) rfl rfl rfl rfl hx4) rfl<|qm rfl<|qm rfl<|es (ra6 rfl rfl rfl rfl rfl rfl)<|B6<|s0<|qm rfl<|A0 (F7 rfl rfl) rfl<|es (ra7 rfl rfl rfl rfl rfl rfl rfl)<|wi hs1 rfl (fun hc5 hs1=>?_) fun hc5 hs1=>?_
   ·refine E4<|r0<|A0 (E1 rfl rfl) rfl<|qm rfl<|en (ra4 rfl rfl rfl rfl) ?_
    cases hs1
    exact lnT () rfl (su4 rfl rfl rfl rfl)
   ·refine C1<|s0<|qm rfl<|A0 (P2 rfl rfl) rfl<|A0 (C4 rfl) rfl<|A0 (C4 rfl) rfl<|A0 (J9 (x:=(.seq 1 (List.map cI a0.RoHouse.Holds))) rfl hb0 rfl) rfl<|A0 (D8 (f:=cI) rfl) rfl<|qm rfl<|es (ra8 rfl rfl rfl rfl rfl rfl rfl rfl)<|C5<|oB hs1 fun o15 ho15 hs1=>wl (fun s6=>[(0,.ptr b0 0),(4,(.ptr (H.length + 1) 0)),(5,.i s1.1),(6,.i x4),(8,(.agg ((N6 cI) a1))),(9,.i s1.1),(20,(.i (List.length a0.RoHouse.Holds:Int))),(21,.i s6.1)]) (fun (q7:Unit) s6=>[(.cells ((N6 cI) a1)),(.cells ((A5y cI) s6.2))]) 2 (fun r e s' H'=>PX 2 [(0,.ptr b0 0),(4,(.ptr (H.length + 1) 0)),(8,(.agg ((N6 cI) a1))),(9,.i s1.1)] (H++[(.cells ((N6 cI) a1)),(.cells ((A5y cI) r))]) e s' H') () ho15 rfl rfl (fun _ _=>rfl) (fun _=>rfl) rfl (fun s6=>(bdc (B05 hb0) (bdc (D4 rfl) (bdc A5 (bdc A5 (bdc (H6 rfl) (bdc A5 (bdc A5 (bdc A5 bdn))))))))) (fun q7 s6 ys6 hs6=>?_) ?_
    ·unfold P8 at hs6
     refine s0<|A0 (F8 rfl rfl) rfl<|es (ra9 rfl rfl rfl rfl rfl rfl rfl rfl rfl)<|B6<|wi hs6 rfl (fun hc8 hs6=>?_) fun hc8 hs6=>?_
     ·refine C1<|B6<|C5<|s0<|qm rfl<|qm rfl<|es (ra9 rfl rfl rfl rfl rfl rfl rfl rfl rfl)<|s0<|oB hs6 fun x9 hx9 hs6=>oB hs6 fun x10 hx10 hs6=>qm rfl<|A0 (P2 rfl rfl) rfl<|A0 (C4 rfl) rfl<|A0 (C4 rfl) rfl<|A0 (J9 (x:=(.seq 4 (List.map B7 a0.RoHouse.Places))) rfl hb0 rfl) rfl<|qm rfl<|A0 (U8 rfl rfl) rfl<|A0 (E6 (f:=B7) rfl rfl hx9) rfl<|A0 (A29 (ds:=(List.drop 3 (B7 x9))) rfl rfl) rfl<|A0 (E9 rfl rfl) rfl<|qm rfl<|A0 (B19 rfl rfl hx10) rfl<|A0 (F9 (v:=(.i (B4z x10 1))) rfl rfl rfl) rfl<|A0 (F7 rfl rfl) rfl<|es (ra10 rfl rfl rfl rfl rfl rfl rfl rfl rfl rfl)<|wi hs6 rfl (fun hc11 hs6=>?_) fun hc11 hs6=>?_
      ·refine r0<|oB hs6 fun x12 hx12 hs6=>oB hs6 fun x13 hx13 hs6=>oB hs6 fun x14 hx14 hs6=>qm rfl<|A0 (Y7 (e:=Ar4.l s6.2) rfl rfl rfl hx12) rfl<|A0 (V7 (f:=cI) (g:=fun n=>(.i n)) (e:=Ar4.l s6.2) (fun _=>rfl) rfl (D9 rfl) rfl hx12) rfl<|qm rfl<|A0 (P2 rfl rfl) rfl<|A0 (C4 rfl) rfl<|A0 (C4 rfl) rfl<|A0 (J9 (x:=(.seq 6 (List.map A9 a0.RoHouse.Figures))) rfl hb0 rfl) rfl<|qm rfl<|A0 (E6 (f:=A9) rfl rfl hx13) rfl<|A0 (A29 (ds:=(List.drop 2 (A9 x13))) rfl rfl) rfl<|A0 (E9 rfl rfl) rfl<|A0 (E1 rfl rfl) rfl<|A0 (Y7 (e:=Ar4.l s6.2) rfl rfl rfl hx14) rfl<|F0 (B0q (f:=cI) (e:=Ar4.l s6.2) (e2:=Ar4.l (Ar4.set s6.2 s6.1 (w64 (x12 + x13.Weight)))) (z:=(w64 (x12 + x13.Weight))) (ds:=((A5y cI) (Ar4.set s6.2 s6.1 (w64 (x12 + x13.Weight))))) rfl rfl rfl rfl rfl rfl (fun _=>rfl) hx14 (Ar4.set_l hx14) rfl (C0 rfl)) rfl<|en (ra8 rfl rfl rfl rfl rfl rfl rfl rfl)<|r0<|A0 (E1 rfl rfl) rfl<|qm rfl<|en (ra8 rfl rfl rfl rfl rfl rfl rfl rfl) ?_
       cases hs6
       exact lnT () rfl (su8 rfl rfl rfl rfl rfl rfl rfl rfl)
      ·refine C1<|r0<|A0 (E1 rfl rfl) rfl<|qm rfl<|en (ra8 rfl rfl rfl rfl rfl rfl rfl rfl) ?_
       cases hs6
       exact lnT () rfl (su8 rfl rfl rfl rfl rfl rfl rfl rfl)
     ·refine E4 ?_
      obtain rfl:=os hs6
      exact lx rfl px (su4 rfl rfl rfl rfl)
    ·rintro e s' H' - ⟨rfl,rfl,rfl⟩
     refine r0<|A0 (E1 rfl rfl) rfl<|qm rfl<|en (ra4 rfl rfl rfl rfl) ?_
     cases hs1
     exact lnT () rfl (su4 rfl rfl rfl rfl)
  ·refine E4 ?_
   obtain rfl:=os hs1
   exact lx rfl px (su1 rfl)
 ·rintro e s' H' - ⟨rfl,rfl,rfl⟩
  refine s0<|A0 (C2 rfl rfl rfl) rfl<|F0 (C7 (ds:=((A5y cI) o16)) rfl rfl rfl rfl (C0 rfl) rfl) rfl<|es (ra1 rfl)<|C6 ?_
  obtain rfl:=os h
  exact retq trivial (G0 (E3 (ds:=(A5y cI) o16) rfl rfl rfl rfl) B9) (A4 (I5 rfl) B8) (A3 (H6 rfl) B3)
def Y1 (a0:room_house) (x1:(Ar4 Int)) (s2:Int):Option (Int ⊕ (Bool ⊕ Unit)) :=
 if (decide (s2 < 4)) = true then
  (idx (Ar4.l x1) s2).bind fun x5 =>
  (if (decide (s2 < (List.length a0.RoHouse.Holds:Int))) = true then
  (idx a0.RoHouse.Holds s2).bind fun x7 =>
  some (decide (x5 > x7))
  else
  some false).bind fun x8 =>
  if x8 = true then
  some (.inr (.inl false))
  else
  some (.inl (w64 (s2 + 1)))
 else
  some (.inr (.inr ()))
def A2b (a0:room_house) (a1:(Ar5 Int)):Option Bool :=
 (U5 a0 a1).bind fun x1 =>
 (loop (Y1 a0 x1) 0).bind fun (o10:(Bool ⊕ Unit)) =>
 match o10 with
 | (.inl vo10_0) =>
  some vo10_0
 | (.inr vo10_1) =>
  some true
theorem B4f {c:Sc} {H:A7} {a0:room_house} {b0:Nat} (hb0:hcells H b0 = some [.i a0.RoHouse.Weather.Lo,.i a0.RoHouse.Weather.Hi,.i a0.RoHouse.Stoves,(.seq 1 (List.map cI a0.RoHouse.Holds)),(.seq 4 (List.map B7 a0.RoHouse.Places)),(.seq 6 (List.map A9 a0.RoHouse.Figures)),(.seq 1 (List.map cI a0.RoHouse.Bill)),(.xseq 2 [[.b false,(.fn (.func 112) [] [])],[.b true,(.fn (.func 113) [] [])]])]) {a1:(Ar5 Int)} {r:Bool} (h:A2b a0 a1 = some r) :
  F1 tab c H (.fn (.func 112) [] []) [.ptr b0 0,(.agg ((N6 cI) a1))] [.b r]:= by
 unfold A2b at h
 refine cE rfl rfl<|sg 0 rfl<|A0 (F3 (cs:=(N6 cI) a1) rfl rfl rfl) rfl<|qm rfl<|es (ra2 rfl rfl)<|B6<|s0<|oB h fun x1 hx1 h=>qm rfl<|A0 (C2 rfl rfl rfl) rfl<|B4 (rs:=[(.agg ((A5y cI) x1))]) rfl rfl (A1 rfl (A1 (C8 rfl) B5)) ((A7t (N3 hb0 _) hx1).frz)<|qm rfl<|es (ra3 rfl rfl rfl)<|C5<|oB h fun o10 ho10 h=>wl (fun s2=>[(0,.ptr b0 0),(9,(.agg ((A5y cI) x1))),(10,.i s2)]) (fun (q3:Unit) s2=>[(.cells ((N6 cI) a1))]) 1 (fun r e s' H'=>(match r with | (.inl v)=>e = .ret∧RetQ H [.tmp 4] [.b v] e s' H' | (.inr v)=>PX 0 [] (H++[(.cells ((N6 cI) a1))]) e s' H':Prop)) () ho10 rfl rfl (fun _ _=>rfl) (fun _=>rfl) rfl (fun s2=>(bdc (B05 hb0) (bdc (H6 rfl) (bdc A5 bdn)))) (fun q3 s2 ys2 hs2=>?_) ?_
 ·unfold Y1 at hs2
  refine s0<|A0 (F8 rfl rfl) rfl<|es (ra4 rfl rfl rfl rfl)<|B6<|wi hs2 rfl (fun hc4 hs2=>?_) fun hc4 hs2=>?_
  ·refine C1<|B6<|C5<|s0<|oB hs2 fun x5 hx5 hs2=>qm rfl<|A0 (A7a (f:=cI) (g:=fun n=>(.i n)) (e:=Ar4.l x1) (fun _=>rfl) rfl rfl rfl rfl hx5) rfl<|qm rfl<|qm rfl<|es (ra5 rfl rfl rfl rfl rfl)<|s0<|oB hs2 fun x8 hx8 hs2=>qm rfl<|qm rfl<|A0 (P2 rfl rfl) rfl<|A0 (C4 rfl) rfl<|A0 (C4 rfl) rfl<|A0 (J9 (x:=(.seq 1 (List.map cI a0.RoHouse.Holds))) rfl hb0 rfl) rfl<|A0 (D8 (f:=cI) rfl) rfl<|A0 (F8 rfl rfl) rfl<|qm rfl<|gp 11 33 (.b x8) 22 rfl rfl (fun hg6=>?_) (fun hg6=>?_) ?_
   ·refine oB (bt hx8 hg6) fun x7 hx7 hx8=>?_
    obtain rfl:=os hx8
    exact gT rfl hg6<|qm rfl<|gT rfl hg6<|qm rfl<|gT rfl hg6<|A0 (P2 rfl rfl) rfl<|gT rfl hg6<|A0 (C4 rfl) rfl<|gT rfl hg6<|A0 (C4 rfl) rfl<|gT rfl hg6<|A0 (J9 (x:=(.seq 1 (List.map cI a0.RoHouse.Holds))) rfl hb0 rfl) rfl<|gT rfl hg6<|qm rfl<|gT rfl hg6<|A0 (E6 (f:=cI) rfl rfl hx7) rfl<|gT rfl hg6<|A0 (E9 rfl rfl) rfl<|gT rfl hg6<|A0 (A0a rfl rfl) rfl<|A0 (D0 rfl hg6 rfl) rfl<|ge 11 rfl rfl rfl
   ·obtain rfl:=os (bf hx8 hg6)
    exact nT rfl hg6 rfl<|nT rfl hg6 rfl<|nT rfl hg6 rfl<|nT rfl hg6 rfl<|nT rfl hg6 rfl<|nT rfl hg6 rfl<|nT rfl hg6 rfl<|nT rfl hg6 rfl<|nT rfl hg6 rfl<|nT rfl hg6 rfl<|A0 (D1 rfl hg6 rfl) rfl<|ge 11 rfl rfl rfl
   refine es (ra4 rfl rfl rfl rfl)<|wi hs2 rfl (fun hc9 hs2=>?_) fun hc9 hs2=>?_
   ·refine s0<|qm rfl<|es (ra1 rfl)<|C6 ?_
    obtain rfl:=os hs2
    exact lx rfl (And.intro rfl (retq trivial (B1 rfl B9) (A4 rfl B8) (A3 A5 B3))) (Sub.refl _)
   ·refine C1<|r0<|A0 (E1 rfl rfl) rfl<|qm rfl<|en (ra3 rfl rfl rfl) ?_
    cases hs2
    exact lnT () rfl (su3 rfl rfl rfl)
  ·refine E4 ?_
   obtain rfl:=os hs2
   exact lx rfl px (.nil _)
 ·rcases o10 with vo10_0 | vo10_1
  ·rintro e s' H' - ⟨rfl,hret⟩
   cases h
   exact hret
  ·rintro e s' H' - ⟨rfl,rfl,rfl⟩
   refine s0<|qm rfl<|es (ra1 rfl)<|C6 ?_
   obtain rfl:=os h
   exact retq trivial (B1 rfl B9) (A4 rfl B8) (A3 A5 B3)
def P4 (a0:room_house) (a1:(Ar5 Int)) (s2:(Int × (List (Int × Int)))):Option ((Int × (List (Int × Int))) ⊕ (List (Int × Int))) :=
 if (decide (s2.1 < 5)) = true then
  (idx (Ar5.l a1) s2.1).bind fun x5 =>
  (if (decide (x5 > 0)) = true then
  (idx a0.RoHouse.Places (w64 (x5 - 1))).bind fun x7 =>
  some x7.Dear
  else
  some false).bind fun x8 =>
  if x8 = true then
  (idx a0.RoHouse.Figures s2.1).bind fun x10 =>
  some (.inl ((w64 (s2.1 + 1)),(kset s2.2 x10.Class (w64 ((Option.getD (kget s2.2 x10.Class) 0) + 1)))))
  else
  some (.inl ((w64 (s2.1 + 1)),s2.2))
 else
  some (.inr s2.2)
def P5 (a0:room_house) (s12:(Int × (List (Int × Int)))):Option ((Int × (List (Int × Int))) ⊕ (Bool ⊕ (List (Int × Int)))) :=
 if (decide (s12.1 < (List.length a0.RoHouse.Bill:Int))) = true then
  (idx a0.RoHouse.Bill s12.1).bind fun x15 =>
  if (decide ((Option.getD (kget (kset s12.2 x15 (w64 ((Option.getD (kget s12.2 x15) 0) - 1))) x15) 0) < 0)) = true then
  some (.inr (.inl false))
  else
  some (.inl ((w64 (s12.1 + 1)),(kset s12.2 x15 (w64 ((Option.getD (kget s12.2 x15) 0) - 1)))))
 else
  some (.inr (.inr s12.2))
def Y2 (a0:room_house) (a1:(Ar5 Int)):Option Bool :=
 if ((a1.x0 == (Ar5.mk 0 0 0 0 0).x0) && ((a1.x1 == (Ar5.mk 0 0 0 0 0).x1) && ((a1.x2 == (Ar5.mk 0 0 0 0 0).x2) && ((a1.x3 == (Ar5.mk 0 0 0 0 0).x3) && ((a1.x4 == (Ar5.mk 0 0 0 0 0).x4) && true))))) = true then
  some ((List.length a0.RoHouse.Bill:Int) == 0)
 else
  (loop (P4 a0 a1) (0,([]:(List (Int × Int))))).bind fun (o11:(List (Int × Int))) =>
  (loop (P5 a0) (0,o11)).bind fun (o17:(Bool ⊕ (List (Int × Int)))) =>
  match o17 with
  | (.inl vo17_0) =>
  some vo17_0
  | (.inr vo17_1) =>
  some true
theorem B1o {c:Sc} {H:A7} {a0:room_house} {b0:Nat} (hb0:hcells H b0 = some [.i a0.RoHouse.Weather.Lo,.i a0.RoHouse.Weather.Hi,.i a0.RoHouse.Stoves,(.seq 1 (List.map cI a0.RoHouse.Holds)),(.seq 4 (List.map B7 a0.RoHouse.Places)),(.seq 6 (List.map A9 a0.RoHouse.Figures)),(.seq 1 (List.map cI a0.RoHouse.Bill)),(.xseq 2 [[.b false,(.fn (.func 112) [] [])],[.b true,(.fn (.func 113) [] [])]])]) {a1:(Ar5 Int)} {r:Bool} (h:Y2 a0 a1 = some r) :
  F1 tab c H (.fn (.func 113) [] []) [.ptr b0 0,(.agg ((N6 cI) a1))] [.b r]:= by
 unfold Y2 at h
 refine cE rfl rfl<|sg 0 rfl<|A0 (F3 (cs:=(N6 cI) a1) rfl rfl rfl) rfl<|qm rfl<|es (ra2 rfl rfl)<|B6<|s0<|A0 (C2 rfl rfl rfl) rfl<|A0 (G6 (cs:=(N6 cI) (Ar5.mk 0 0 0 0 0)) rfl rfl) rfl<|A0 (C58 (a:=(N6 cI) a1) (b:=(N6 cI) (Ar5.mk 0 0 0 0 0)) rfl rfl rfl rfl (A28 (A28 (A28 (A28 (A28 B5y)))))) rfl<|es (ra3 rfl rfl rfl)<|wi h rfl (fun hc1 h=>?_) fun hc1 h=>?_
 ·refine s0<|qm rfl<|A0 (P2 rfl rfl) rfl<|A0 (C4 rfl) rfl<|A0 (C4 rfl) rfl<|A0 (J9 (x:=(.seq 1 (List.map cI a0.RoHouse.Bill))) rfl hb0 rfl) rfl<|A0 (D8 (f:=cI) rfl) rfl<|A0 (F7 rfl rfl) rfl<|qm rfl<|es (ra1 rfl)<|C6 ?_
  obtain rfl:=os h
  exact retq trivial (B1 rfl B9) (A4 rfl B8) (A3 A5 B3)
 ·refine C1<|sg 1 rfl<|A0 D72 rfl<|qm rfl<|es (ra3 rfl rfl rfl)<|B6<|s0<|A0 (C2 rfl rfl rfl) rfl<|qm rfl<|es (ra4 rfl rfl rfl rfl)<|C5<|oB h fun o11 ho11 h=>wl (fun s2=>[(0,.ptr b0 0),(5,(.mp (H.length + 1))),(21,(.agg ((N6 cI) a1))),(22,.i s2.1)]) (fun (q3:Unit) s2=>[(.cells ((N6 cI) a1)),(.map (List.map (kE (fun x=>(.i x)) (fun x=>(.i x))) s2.2))]) 2 (fun r e s' H'=>PX 0 [(0,.ptr b0 0),(5,(.mp (H.length + 1)))] (H++[(.cells ((N6 cI) a1)),(.map (List.map (kE (fun x=>(.i x)) (fun x=>(.i x))) r))]) e s' H') () ho11 rfl rfl (fun _ _=>rfl) (fun _=>rfl) rfl (fun s2=>(bdc (B05 hb0) (bdc (D8w rfl) (bdc (H6 rfl) (bdc A5 bdn))))) (fun q3 s2 ys2 hs2=>?_) ?_
  ·unfold P4 at hs2
   refine s0<|A0 (F8 rfl rfl) rfl<|es (ra5 rfl rfl rfl rfl rfl)<|B6<|wi hs2 rfl (fun hc4 hs2=>?_) fun hc4 hs2=>?_
   ·refine C1<|B6<|C5<|s0<|oB hs2 fun x5 hx5 hs2=>qm rfl<|A0 (A7a (f:=cI) (g:=fun n=>(.i n)) (e:=Ar5.l a1) (fun _=>rfl) rfl rfl rfl rfl hx5) rfl<|qm rfl<|qm rfl<|es (ra6 rfl rfl rfl rfl rfl rfl)<|s0<|oB hs2 fun x8 hx8 hs2=>qm rfl<|A0 (A0a rfl rfl) rfl<|qm rfl<|gp 11 39 (.b x8) 28 rfl rfl (fun hg6=>?_) (fun hg6=>?_) ?_
    ·refine oB (bt hx8 hg6) fun x7 hx7 hx8=>?_
     obtain rfl:=os hx8
     exact gT rfl hg6<|qm rfl<|gT rfl hg6<|A0 (P2 rfl rfl) rfl<|gT rfl hg6<|A0 (C4 rfl) rfl<|gT rfl hg6<|A0 (C4 rfl) rfl<|gT rfl hg6<|A0 (J9 (x:=(.seq 4 (List.map B7 a0.RoHouse.Places))) rfl hb0 rfl) rfl<|gT rfl hg6<|qm rfl<|gT rfl hg6<|A0 (U8 rfl rfl) rfl<|gT rfl hg6<|A0 (E6 (f:=B7) rfl rfl hx7) rfl<|gT rfl hg6<|A0 (A29 (ds:=(List.drop 1 (B7 x7))) rfl rfl) rfl<|gT rfl hg6<|A0 (E9 rfl rfl) rfl<|A0 (D0 rfl hg6 rfl) rfl<|ge 11 rfl rfl rfl
    ·obtain rfl:=os (bf hx8 hg6)
     exact nT rfl hg6 rfl<|nT rfl hg6 rfl<|nT rfl hg6 rfl<|nT rfl hg6 rfl<|nT rfl hg6 rfl<|nT rfl hg6 rfl<|nT rfl hg6 rfl<|nT rfl hg6 rfl<|nT rfl hg6 rfl<|nT rfl hg6 rfl<|A0 (D1 rfl hg6 rfl) rfl<|ge 11 rfl rfl rfl
    refine es (ra6 rfl rfl rfl rfl rfl rfl)<|wi hs2 rfl (fun hc9 hs2=>?_) fun hc9 hs2=>?_
    ·refine r0<|oB hs2 fun x10 hx10 hs2=>qm rfl<|qm rfl<|A0 (P2 rfl rfl) rfl<|A0 (C4 rfl) rfl<|A0 (C4 rfl) rfl<|A0 (J9 (x:=(.seq 6 (List.map A9 a0.RoHouse.Figures))) rfl hb0 rfl) rfl<|qm rfl<|A0 (E6 (f:=A9) rfl rfl hx10) rfl<|A0 (A29 (ds:=(List.drop 1 (A9 x10))) rfl rfl) rfl<|A0 (E9 rfl rfl) rfl<|A0 (C9z (av:=(fun x=>(.i x))) (gv:=(fun x=>(.i x))) (k:=x10.Class) (z:=0) B6e rfl (C00 rfl) rfl rfl) rfl<|A0 (E1 rfl rfl) rfl<|F0 (D1y (av:=(fun x=>(.i x))) (gv:=(fun x=>(.i x))) (k:=x10.Class) (v:=(w64 ((Option.getD (kget s2.2 x10.Class) 0) + 1))) B6e rfl rfl rfl rfl rfl) rfl<|en (ra4 rfl rfl rfl rfl)<|r0<|A0 (E1 rfl rfl) rfl<|qm rfl<|en (ra4 rfl rfl rfl rfl) ?_
     cases hs2
     exact lnT () rfl (su4 rfl rfl rfl rfl)
    ·refine C1<|r0<|A0 (E1 rfl rfl) rfl<|qm rfl<|en (ra4 rfl rfl rfl rfl) ?_
     cases hs2
     exact lnT () rfl (su4 rfl rfl rfl rfl)
   ·refine E4 ?_
    obtain rfl:=os hs2
    exact lx rfl px (su2 rfl rfl)
  ·rintro e s' H' - ⟨rfl,rfl,rfl⟩
   refine B6<|s0<|qm rfl<|A0 (P2 rfl rfl) rfl<|A0 (C4 rfl) rfl<|A0 (C4 rfl) rfl<|A0 (J9 (x:=(.seq 1 (List.map cI a0.RoHouse.Bill))) rfl hb0 rfl) rfl<|A0 (D8 (f:=cI) rfl) rfl<|qm rfl<|es (ra4 rfl rfl rfl rfl)<|C5<|oB h fun o17 ho17 h=>wl (fun s12=>[(5,(.mp (H.length + 1))),(57,(.seq 1 (List.map cI a0.RoHouse.Bill))),(58,(.i (List.length a0.RoHouse.Bill:Int))),(59,.i s12.1)]) (fun (q13:Unit) s12=>[(.cells ((N6 cI) a1)),(.map (List.map (kE (fun x=>(.i x)) (fun x=>(.i x))) s12.2))]) 2 (fun r e s' H'=>(match r with | (.inl v)=>e = .ret∧RetQ H [.tmp 4] [.b v] e s' H' | (.inr v)=>PX 2 [] (H++[(.cells ((N6 cI) a1)),(.map (List.map (kE (fun x=>(.i x)) (fun x=>(.i x))) v))]) e s' H':Prop)) () ho17 rfl rfl (fun _ _=>rfl) (fun _=>rfl) rfl (fun s12=>(bdc (D8w rfl) (bdc G7 (bdc A5 (bdc A5 bdn))))) (fun q13 s12 ys12 hs12=>?_) ?_
   ·unfold P5 at hs12
    refine s0<|A0 (F8 rfl rfl) rfl<|es (ra5 rfl rfl rfl rfl rfl)<|B6<|wi hs12 rfl (fun hc14 hs12=>?_) fun hc14 hs12=>?_
    ·refine C1<|B6<|C5<|s0<|oB hs12 fun x15 hx15 hs12=>A0 (E6 (f:=cI) rfl rfl hx15) rfl<|A0 (E9 rfl rfl) rfl<|qm rfl<|es (ra5 rfl rfl rfl rfl rfl)<|s0<|qm rfl<|qm rfl<|A0 (C9z (av:=(fun x=>(.i x))) (gv:=(fun x=>(.i x))) (k:=x15) (z:=0) B6e rfl (C00 rfl) rfl rfl) rfl<|A0 (U8 rfl rfl) rfl<|F0 (D1y (av:=(fun x=>(.i x))) (gv:=(fun x=>(.i x))) (k:=x15) (v:=(w64 ((Option.getD (kget s12.2 x15) 0) - 1))) B6e rfl rfl rfl rfl rfl) rfl<|es (ra5 rfl rfl rfl rfl rfl)<|s0<|qm rfl<|qm rfl<|A0 (C9z (av:=(fun x=>(.i x))) (gv:=(fun x=>(.i x))) (k:=x15) (z:=0) B6e rfl (C00 rfl) rfl rfl) rfl<|A0 (F8 rfl rfl) rfl<|es (ra5 rfl rfl rfl rfl rfl)<|wi hs12 rfl (fun hc16 hs12=>?_) fun hc16 hs12=>?_
     ·refine s0<|qm rfl<|es (ra1 rfl)<|C6 ?_
      obtain rfl:=os hs12
      exact lx rfl (And.intro rfl (retq trivial (B1 rfl B9) (A4 rfl B8) (A3 A5 B3))) (Sub.refl _)
     ·refine C1<|r0<|A0 (E1 rfl rfl) rfl<|qm rfl<|en (ra4 rfl rfl rfl rfl) ?_
      cases hs12
      exact lnT () rfl (su4 rfl rfl rfl rfl)
    ·refine E4 ?_
     obtain rfl:=os hs12
     exact lx rfl px (.nil _)
   ·rcases o17 with vo17_0 | vo17_1
    ·rintro e s' H' - ⟨rfl,hret⟩
     cases h
     exact hret
    ·rintro e s' H' - ⟨rfl,rfl,rfl⟩
     refine s0<|qm rfl<|es (ra1 rfl)<|C6 ?_
     obtain rfl:=os h
     exact retq trivial (B1 rfl B9) (A4 rfl B8) (A3 A5 B3)
def N1 (a0:room_house) (a1:(Ar5 Int)) (a2:Bool):Option Bool :=
 (if (a2 || true) = true then
  (A2b a0 a1).bind fun x3 =>
  some (!x3)
 else
  some false).bind fun x4 =>
 if x4 = true then
  some false
 else
  (if (a2 || false) = true then
  (Y2 a0 a1).bind fun x8 =>
  some (!x8)
  else
  some false).bind fun x9 =>
  if x9 = true then
  some false
  else
  some true
theorem U2 {c:Sc} {H:A7} {a0:room_house} {b0:Nat} (hb0:hcells H b0 = some [.i a0.RoHouse.Weather.Lo,.i a0.RoHouse.Weather.Hi,.i a0.RoHouse.Stoves,(.seq 1 (List.map cI a0.RoHouse.Holds)),(.seq 4 (List.map B7 a0.RoHouse.Places)),(.seq 6 (List.map A9 a0.RoHouse.Figures)),(.seq 1 (List.map cI a0.RoHouse.Bill)),(.xseq 2 [[.b false,(.fn (.func 112) [] [])],[.b true,(.fn (.func 113) [] [])]])]) {a1:(Ar5 Int)} {a2:Bool} {r:Bool} (h:N1 a0 a1 a2 = some r) :
  F1 tab c H (.fn (.func 115) [] []) [.ptr b0 0,(.agg ((N6 cI) a1)),.b a2] [.b r]:= by
 unfold N1 at h
 refine cE rfl rfl<|sg 0 rfl<|A0 (F3 (cs:=(N6 cI) a1) rfl rfl rfl) rfl<|qm rfl<|es (ra3 rfl rfl rfl)<|B6<|s0<|qm rfl<|A0 (P2 rfl rfl) rfl<|A0 (C4 rfl) rfl<|A0 (J9 (x:=(.xseq 2 [[.b false,(.fn (.func 112) [] [])],[.b true,(.fn (.func 113) [] [])]])) rfl hb0 rfl) rfl<|A0 (D9v rfl rfl) rfl<|qm rfl<|es (ra6 rfl rfl rfl rfl rfl rfl)<|C5<|A6k 1 rfl [(0,.ptr b0 0),(2,.b a2),(4,(.ptr (H.length + 0) 0)),(12,(.xseq 2 [[.b false,(.fn (.func 112) [] [])],[.b true,(.fn (.func 113) [] [])]])),(13,.i 2),(14,.i 0)] (fun S hS=>K5 (live:=[0,2,4,12,13,14]) rfl (by decide) (Sub.trans (su6 rfl rfl rfl rfl rfl rfl) hS))<|s0<|A0 (F9 (v:=(.b true)) rfl rfl rfl) rfl<|es (ra7 rfl rfl rfl rfl rfl rfl rfl)<|B6<|H9 rfl rfl<|C1<|B6<|C5<|sg 1 rfl<|A0 (D52 rfl rfl rfl) rfl<|A0 (C1k (ds:=[.b false,(.fn (.func 112) [] [])]) rfl rfl rfl) rfl<|A0 D6 rfl<|F0 (C7 (ds:=[.b false,(.fn (.func 112) [] [])]) rfl rfl rfl rfl (U9 (Nat.add_le_add_left (Nat.le_of_ble_eq_true rfl) _)) rfl) rfl<|es (ra7 rfl rfl rfl rfl rfl rfl rfl)<|s0<|oB h fun x4 hx4 h=>qm rfl<|qm rfl<|gp 4 23 (.b (a2 || true)) 19 rfl rfl (fun hg1=>?_) (fun hg1=>?_) ?_
 ·exact nF rfl hg1 rfl<|nF rfl hg1 rfl<|nF rfl hg1 rfl<|A0 (D0 rfl hg1 rfl) rfl<|ge 4 (by rw [hg1]; rfl) rfl rfl
 ·exact gF rfl hg1<|A0 (C4 rfl) rfl<|gF rfl hg1<|A0 (C3 (x:=(.b false)) rfl rfl rfl) rfl<|gF rfl hg1<|A0 (D77 (v:=.lit (.bool true)) rfl rfl) rfl<|A0 (D1 rfl hg1 rfl) rfl<|ge 4 (by rw [hg1]; rfl) rfl rfl
 refine qm rfl<|gp 7 31 (.b x4) 24 rfl rfl (fun hg2=>?_) (fun hg2=>?_) ?_
 ·refine oB (bt hx4 hg2) fun x3 hx3 hx4=>?_
  obtain rfl:=os hx4
  exact gT rfl hg2<|A0 (C4 rfl) rfl<|gT rfl hg2<|A0 (C3 (x:=(.fn (.func 112) [] [])) rfl rfl rfl) rfl<|gT rfl hg2<|qm rfl<|gT rfl hg2<|A0 (C2 rfl rfl rfl) rfl<|gT rfl hg2<|B4 (rs:=[.b x3]) rfl rfl (A1 rfl (A1 (C8 rfl) B5)) ((B4f (N3 hb0 _) hx3).frz)<|gT rfl hg2<|A0 (N5 rfl) rfl<|A0 (D0 rfl hg2 rfl) rfl<|ge 7 rfl rfl rfl
 ·obtain rfl:=os (bf hx4 hg2)
  exact nT rfl hg2 rfl<|nT rfl hg2 rfl<|nT rfl hg2 rfl<|nT rfl hg2 rfl<|I0 (F2 rfl (by rw [hg2]; rfl)) rfl<|nT rfl hg2 rfl<|A0 (D1 rfl hg2 rfl) rfl<|ge 7 rfl rfl rfl
 refine es (ra7 rfl rfl rfl rfl rfl rfl rfl)<|wi h rfl (fun hc5 h=>?_) fun hc5 h=>?_
 ·refine s0<|qm rfl<|es (ra1 rfl)<|C6<|UnQ.out rfl ?_
  obtain rfl:=os h
  exact retq trivial (B1 rfl B9) (A4 rfl B8) (A3 A5 B3)
 ·refine C1<|r0<|A0 (F9 (v:=(.i 1)) rfl rfl rfl) rfl<|qm rfl<|en (ra6 rfl rfl rfl rfl rfl rfl)<|UnQ.nextT (live:=[0,2,4,12,13,14]) [(0,.ptr b0 0),(2,.b a2),(4,(.ptr (H.length + 0) 0)),(12,(.xseq 2 [[.b false,(.fn (.func 112) [] [])],[.b true,(.fn (.func 113) [] [])]])),(13,.i 2),(14,.i 1)] (H++[(.cells ((N6 cI) a1))]) (su6 rfl rfl rfl rfl rfl rfl) rfl (by decide) (I2 _ _ _) (bdc (B05 hb0) (bdc A5 (bdc (D4 rfl) (bdc (D8x (B5r (A3 A5 (A3 (C5n B3 B3) B3)) (B5r (A3 A5 (A3 (C5n B3 B3) B3)) D03))) (bdc A5 (bdc A5 bdn))))))<|A6k 1 rfl [(0,.ptr b0 0),(2,.b a2),(4,(.ptr (H.length + 0) 0)),(12,(.xseq 2 [[.b false,(.fn (.func 112) [] [])],[.b true,(.fn (.func 113) [] [])]])),(13,.i 2),(14,.i 1)] (fun S hS=>K5 (live:=[0,2,4,12,13,14]) rfl (by decide) (Sub.trans (su6 rfl rfl rfl rfl rfl rfl) hS))<|s0<|A0 (F9 (v:=(.b true)) rfl rfl rfl) rfl<|es (ra7 rfl rfl rfl rfl rfl rfl rfl)<|B6<|H9 rfl rfl<|C1<|B6<|C5<|sg 1 rfl<|A0 (D52 rfl rfl rfl) rfl<|A0 (C1k (ds:=[.b true,(.fn (.func 113) [] [])]) rfl rfl rfl) rfl<|A0 D6 rfl<|F0 (C7 (ds:=[.b true,(.fn (.func 113) [] [])]) rfl rfl rfl rfl (U9 (Nat.add_le_add_left (Nat.le_of_ble_eq_true rfl) _)) rfl) rfl<|es (ra7 rfl rfl rfl rfl rfl rfl rfl)<|s0<|oB h fun x9 hx9 h=>qm rfl<|qm rfl<|gp 4 23 (.b (a2 || false)) 19 rfl rfl (fun hg6=>?_) (fun hg6=>?_) ?_
  ·exact nF rfl hg6 rfl<|nF rfl hg6 rfl<|nF rfl hg6 rfl<|A0 (D0 rfl hg6 rfl) rfl<|ge 4 (by rw [hg6]; rfl) rfl rfl
  ·exact gF rfl hg6<|A0 (C4 rfl) rfl<|gF rfl hg6<|A0 (C3 (x:=(.b true)) rfl rfl rfl) rfl<|gF rfl hg6<|A0 (D77 (v:=.lit (.bool false)) rfl rfl) rfl<|A0 (D1 rfl hg6 rfl) rfl<|ge 4 (by rw [hg6]; rfl) rfl rfl
  refine qm rfl<|gp 7 31 (.b x9) 24 rfl rfl (fun hg7=>?_) (fun hg7=>?_) ?_
  ·refine oB (bt hx9 hg7) fun x8 hx8 hx9=>?_
   obtain rfl:=os hx9
   exact gT rfl hg7<|A0 (C4 rfl) rfl<|gT rfl hg7<|A0 (C3 (x:=(.fn (.func 113) [] [])) rfl rfl rfl) rfl<|gT rfl hg7<|qm rfl<|gT rfl hg7<|A0 (C2 rfl rfl rfl) rfl<|gT rfl hg7<|B4 (rs:=[.b x8]) rfl rfl (A1 rfl (A1 (C8 rfl) B5)) ((B1o (N3 hb0 _) hx8).frz)<|gT rfl hg7<|A0 (N5 rfl) rfl<|A0 (D0 rfl hg7 rfl) rfl<|ge 7 rfl rfl rfl
  ·obtain rfl:=os (bf hx9 hg7)
   exact nT rfl hg7 rfl<|nT rfl hg7 rfl<|nT rfl hg7 rfl<|nT rfl hg7 rfl<|I0 (F2 rfl (by rw [hg7]; rfl)) rfl<|nT rfl hg7 rfl<|A0 (D1 rfl hg7 rfl) rfl<|ge 7 rfl rfl rfl
  refine es (ra7 rfl rfl rfl rfl rfl rfl rfl)<|wi h rfl (fun hc10 h=>?_) fun hc10 h=>?_
  ·refine s0<|qm rfl<|es (ra1 rfl)<|C6<|UnQ.out rfl ?_
   obtain rfl:=os h
   exact retq trivial (B1 rfl B9) (A4 rfl B8) (A3 A5 B3)
  ·refine C1<|r0<|A0 (F9 (v:=(.i 2)) rfl rfl rfl) rfl<|qm rfl<|en (ra6 rfl rfl rfl rfl rfl rfl)<|UnQ.nextT (live:=[0,2,4,12,13,14]) [(0,.ptr b0 0),(2,.b a2),(4,(.ptr (H.length + 0) 0)),(12,(.xseq 2 [[.b false,(.fn (.func 112) [] [])],[.b true,(.fn (.func 113) [] [])]])),(13,.i 2),(14,.i 2)] (H++[(.cells ((N6 cI) a1))]) (su6 rfl rfl rfl rfl rfl rfl) rfl (by decide) (I2 _ _ _) (bdc (B05 hb0) (bdc A5 (bdc (D4 rfl) (bdc (D8x (B5r (A3 A5 (A3 (C5n B3 B3) B3)) (B5r (A3 A5 (A3 (C5n B3 B3) B3)) D03))) (bdc A5 (bdc A5 bdn))))))<|A6k 1 rfl [(0,.ptr b0 0),(2,.b a2),(4,(.ptr (H.length + 0) 0)),(12,(.xseq 2 [[.b false,(.fn (.func 112) [] [])],[.b true,(.fn (.func 113) [] [])]])),(13,.i 2),(14,.i 2)] (fun S hS=>K5 (live:=[0,2,4,12,13,14]) rfl (by decide) (Sub.trans (su6 rfl rfl rfl rfl rfl rfl) hS))<|s0<|A0 (F9 (v:=(.b false)) rfl rfl rfl) rfl<|es (ra7 rfl rfl rfl rfl rfl rfl rfl)<|B6<|Q9 rfl rfl<|E4<|UnQ.out rfl<|s0<|qm rfl<|es (ra1 rfl)<|C6 ?_
   obtain rfl:=os h
   exact retq trivial (B1 rfl B9) (A4 rfl B8) (A3 A5 B3)
end Rm
end
section
set_option maxRecDepth 100000
namespace Rm
open Go Am Go.Proofs.YtbheamjhjgoccaaDoor.Cd
section
variable {σ ρ:Type}
def B8d (t:room_house) (lit:Int) (rec:Int→Int→Ar5 Int→σ→Option (Ar5 Int × (σ ⊕ ρ))) (f u:Int) (x:Int × Ar5 Int × σ):Option ((Int × Ar5 Int × σ) ⊕ ((Ar5 Int × ρ) ⊕ (Ar5 Int × σ))) :=
 if (decide (x.1 < (List.length t.RoHouse.Places:Int))) = true then
  (B4h .i64 u x.1).bind fun q =>
  (if (B4z q 1 == 1) = true then some true else (O9 t f x.1 lit).bind fun z=>some (z != 1)).bind fun g =>
  if g = true then some (.inl (w64 (x.1 + 1),x.2.1,x.2.2))
  else (idx (Ar5.l x.2.1) f).bind fun _ =>
   (N1 t (Ar5.set x.2.1 f (w64 (x.1 + 1))) false).bind fun k =>
   if k = true then
    (B4g .i64 1 x.1).bind fun b =>
    (rec (w64 (f + 1)) (orI u b) (Ar5.set x.2.1 f (w64 (x.1 + 1))) x.2.2).bind fun y =>
    match y with
    | (p',.inl s')=>some (.inl (w64 (x.1 + 1),p',s'))
    | (p',.inr r)=>some (.inr (.inl (p',r)))
   else some (.inl (w64 (x.1 + 1),Ar5.set x.2.1 f (w64 (x.1 + 1)),x.2.2))
 else some (.inr (.inr (x.2.1,x.2.2)))
def A8x (t:room_house) (lit:Int) (body:room_plan→σ→Option (σ ⊕ ρ)):Nat→Int→Int→Ar5 Int→σ→Option (Ar5 Int × (σ ⊕ ρ))
 | 0,_,_,_,_=>none
 | k + 1,f,u,p,s =>
  if (f == (List.length t.RoHouse.Figures:Int)) = true then
   (N1 t p true).bind fun q =>
   if q = true then (body ⟨lit,p⟩ s).bind fun x=>some (p,x) else some (p,.inl s)
  else (loop (B8d t lit (A8x t lit body k) f u) (0,p,s)).bind fun o =>
   match o with
   | .inl (p',r)=>some (p',.inr r)
   | .inr (p',s')=>(idx (Ar5.l p') f).bind fun _=>A8x t lit body k (w64 (f + 1)) u (Ar5.set p' f 0) s'
def C4q (t:room_house) (n:Int) (body:room_plan→σ→Option (σ ⊕ ρ)) (x:Int × σ):Option ((Int × σ) ⊕ (ρ ⊕ σ)) :=
 if (decide (x.1 < n)) = true then
  (A8x t x.1 body 64 0 0 ⟨0,0,0,0,0⟩ x.2).bind fun y =>
  match y with
  | (_,.inl s')=>some (.inl (w64 (x.1 + 1),s'))
  | (_,.inr r)=>some (.inr (.inl r))
 else some (.inr (.inr x.2))
end
def A57 (t:room_house) (σ ρ:Type) (body:room_plan→σ→Option (σ ⊕ ρ)) (s:σ):Option (σ ⊕ ρ) :=
 (B4g .i64 1 t.RoHouse.Stoves).bind fun n =>
 (loop (C4q t n body) (0,s)).bind fun o =>
 match o with
 | .inl r=>some (.inr r)
 | .inr s'=>some (.inl s')
def E0e:AV:=.xseq 2 [[.b false,(.fn (.func 112) [] [])],[.b true,(.fn (.func 113) [] [])]]
def B70 (t:room_house):List AV:=[.i t.RoHouse.Weather.Lo,.i t.RoHouse.Weather.Hi,.i t.RoHouse.Stoves,(.seq 1 (List.map cI t.RoHouse.Holds)),(.seq 4 (List.map B7 t.RoHouse.Places)),(.seq 6 (List.map A9 t.RoHouse.Figures)),(.seq 1 (List.map cI t.RoHouse.Bill)),E0e]
def caps (N b1:Nat):List AV:=[.ptr b1 0,.ptr (N + 3) 0,.ptr (N + 0) 0,.ptr (N + 2) 0,.ptr (N + 1) 0,.ptr (N + 4) 0]
def L1 (bt:Nat) (y:AV):List AO:=[.cells [y],.cells [.fn (.func 86) [.ptr bt 0] []]]
def L0 (N b1 bt:Nat) (y:AV) (lit:Int) (p:Ar5 Int):List AO:=[.cells [y],.cells [.fn (.func 86) [.ptr bt 0] []],.cells [.i lit],.cells (N6 cI p),.cells [.fn (.func 117) [] (caps N b1)]]
section
variable {T:Tab} {s:C9} {H0 H:A7} {l:List AO} {c:Sc} {n0 N:Nat} {hc:List (Option (List Nat))} {ops:List AOper} {R:C9→A7→Prop}
theorem B0o {a:Opd} {j k:Nat} {cs:List AV} (hN:H0.length = N) (h:ev s a = some (.ptr (N + j) 0)) (hl:l[j]? = some (.cells cs)) (hk:Nat.beq cs.length k = true):One T c n0 s (H0++l) (.load (some k) a) (.agg cs) (H0++l):= by subst hN; exact C2 h hl hk
theorem C4v {a x:Opd} {j:Nat} {p:Ar5 Int} {m z y:Int} (hN:H0.length = N) (h:ev s a = some (.ptr (N + j) (0 + m.toNat * 1))) (hv:ev s x = some (.i z)) (hl:l[j]? = some (.cells (N6 cI p))) (hy:idx p.l m = some y):One T c n0 s (H0++l) (.store 1 a x) (.tup []) (H0++l.set j (.cells (N6 cI (p.set m z)))):= by
 subst hN
 exact B0q (f:=cI) (e:=Ar5.l p) (e2:=Ar5.l (p.set m z)) (z:=z) (post:=[]) (cs:=N6 cI p) (o:=0) h hv rfl hl rfl rfl (fun _=>rfl) hy (Ar5.set_l hy) rfl (C0 rfl)
theorem gN {d:Nat} {op:AOp} {t:Nat} {g:Bool} {w:Bool} {hid:List Nat} {hida:List (Nat × List Nat)} {inc src:Nat} (hg:sget s t = some (.lit (.bool g))) (hw:(g == w) = false) (hwr:writes op = true) (k:M9 T c n0 ops ((d,.tup []) :: s) H (none :: hc) R) :
  M9 T c n0 (⟨some d,op,some (t,w),hid,hida,inc,src⟩ :: ops) s H hc R:=I0 (F2 hg hw) hwr k
end
section
variable {σ ρ:Type} {t:room_house} {Hm:σ ⊕ ρ→A7} {N b1 bt:Nat} {y:AV} {body:room_plan→σ→Option (σ ⊕ ρ)}
theorem D1v (hN:∀x,(Hm x).length = N) (h1:∀x,hcells (Hm x) b1 = some [.ptr bt 0]) (ht:∀x,hcells (Hm x) bt = some (B70 t))
  (hy:∀{L:A7} {c:Sc} {p:room_plan} {s:σ} {o:σ ⊕ ρ},A0j c (Hm (.inl s)++L) = true→body p s = some o→V4 tab c (Hm (.inl s)++L) y [.agg (A8 p)] [.b o.isLeft] (Hm o++L)) (lit:Int) :
  ∀ (k:Nat) (f u:Int) (p:Ar5 Int) (s:σ) (p':Ar5 Int) (x:σ ⊕ ρ),A8x t lit body k f u p s = some (p',x)→∀ c:Sc,A0j c (Hm (.inl s)++L0 N b1 bt y lit p) = true →
   V4 tab c (Hm (.inl s)++L0 N b1 bt y lit p) (.fn (.func 117) [] (caps N b1)) [.i f,.i u] [.b x.isLeft] (Hm x++L0 N b1 bt y lit p')
 | 0,_,_,_,_,_,_,h,_,_=>by cases h
 | k + 1,f,u,p,s,p',x,h,c,hsc=>by
  have ih:=D1v hN h1 ht hy lit k
  unfold A8x at h
  have hHl:(Hm (.inl s)++L0 N b1 bt y lit p).length = N + 5:= by rw [List.length_append,hN]; rfl
  refine C68 (aq:=[.i f,.i u,.ptr b1 0,.ptr (N + 3) 0,.ptr (N + 0) 0,.ptr (N + 2) 0,.ptr (N + 1) 0,.ptr (N + 4) 0]) rfl rfl rfl ?_
  have hl3:∀x p,(Hm x++L0 N b1 bt y lit p).length = N + 5:=fun x p=>by rw [List.length_append,hN]; rfl
  have hsc':∀x q,A0j ⟨(Hm (.inl s)++L0 N b1 bt y lit p).length,c.cur :: c.outer⟩ (Hm (.inl x)++L0 N b1 bt y lit q) = true:=fun x p'=>D0l hsc (by rw [hl3,hl3]; exact Nat.le_refl _) (by rw [hl3,hl3]; exact Nat.le_refl _)
  have htk:∀x p q,(Hm x++L0 N b1 bt y lit p).take (Hm (.inl s)++L0 N b1 bt y lit q).length = Hm x++L0 N b1 bt y lit p:=fun x p q=>by rw [hl3,← hl3 x p]; exact List.take_length
  refine s0<|qm rfl<|es (ra8 rfl rfl rfl rfl rfl rfl rfl rfl)<|D8s<|B6<|s0<|qm rfl<|A0 (J9 rfl (h1 _) rfl) rfl<|A0 (P2 rfl rfl) rfl<|A0 (C4 rfl) rfl<|A0 (C4 rfl) rfl<|A0 (J9 rfl (ht _) rfl) rfl<|A0 (D8 (f:=A9) rfl) rfl<|A0 (F7 rfl rfl) rfl<|es (ra9 rfl rfl rfl rfl rfl rfl rfl rfl rfl)<|wi h rfl (fun hc h=>?_) fun hc h=>?_
  ·refine oB h fun q hq h=>?_
   cases q with
   | true =>
    refine oB h fun o ho h=>?_
    obtain ⟨rfl,rfl⟩:=Prod.mk.inj (os h)
    refine s0<|A0 (J9 rfl (h1 _) rfl) rfl<|A0 (B0o (hN _) rfl rfl rfl) rfl<|B4 (rs:=[.b true]) rfl rfl (A1 rfl (A1 (C8 rfl) (A1 rfl B5))) ((U2 (N3 (ht _) _) hq).frz)<|A0 (N5 rfl) rfl<|qm rfl<|gF rfl rfl<|A0 (B34 (hN _) rfl rfl rfl) rfl<|gF rfl rfl<|A0 (B34 (hN _) rfl rfl rfl) rfl<|gF rfl rfl<|A0 (B0o (hN _) rfl rfl rfl) rfl<|gF rfl rfl<|A0 (G6 (cs:=A8 ⟨lit,p⟩) rfl rfl) rfl<|gF rfl rfl<|A5a (B35 rfl rfl (A1 (C8 rfl) B5) (hy (hsc' _ _) ho) rfl) rfl<|A0 (D1 rfl rfl rfl) rfl<|qm rfl<|es (ra1 rfl)<|C6 ?_
    show C5k _ _ _ _ .ret _ _
    exact D3l trivial (B1 rfl B9) (A4 (v:=.lit (.bool o.isLeft)) rfl B8) (A3 A5 B3) (htk _ _ _)
   | false =>
    cases h
    refine s0<|A0 (J9 rfl (h1 _) rfl) rfl<|A0 (B0o (hN _) rfl rfl rfl) rfl<|B4 (rs:=[.b false]) rfl rfl (A1 rfl (A1 (C8 rfl) (A1 rfl B5))) ((U2 (N3 (ht _) _) hq).frz)<|A0 (N5 rfl) rfl<|qm rfl<|nF rfl rfl rfl<|nF rfl rfl rfl<|nF rfl rfl rfl<|nF rfl rfl rfl<|gN rfl rfl rfl<|A0 (D0 rfl rfl rfl) rfl<|qm rfl<|es (ra1 rfl)<|C6 ?_
    show C5k _ _ _ _ .ret _ _
    exact D3l trivial (B1 rfl B9) (A4 (v:=.lit (.bool true)) rfl B8) (A3 A5 B3) (htk _ _ _)
  ·refine oB h fun o ho h=>?_
   refine C1<|B6<|C1<|B6<|s0<|A0 (J9 rfl (h1 _) rfl) rfl<|A0 (P2 rfl rfl) rfl<|A0 (C4 rfl) rfl<|A0 (C4 rfl) rfl<|A0 (J9 rfl (ht _) rfl) rfl<|A0 (D8 (f:=B7) rfl) rfl<|qm rfl<|es (ra9 rfl rfl rfl rfl rfl rfl rfl rfl rfl)<|C5 ?_
   refine A8f (B7h (γ:=Unit) (live:=[0,1,2,3,5,6,7,36,37]) (body:=B8d t lit (A8x t lit body k) f u) (fun x=>[(0,.i f),(1,.i u),(2,.ptr b1 0),(3,.ptr (N + 3) 0),(5,.ptr (N + 2) 0),(6,.ptr (N + 1) 0),(7,.ptr (N + 4) 0),(36,.i (List.length t.RoHouse.Places:Int)),(37,.i x.1)]) (fun _ x=>Hm (.inl x.2.2)++L0 N b1 bt y lit x.2.1) (N + 5)
    (fun r e s' H'=>match r with
     | .inl r=>e = .ret∧s' = [(10,.b false)]∧H' = Hm (.inr r.2)++L0 N b1 bt y lit r.1
     | .inr r=>e = .exit 0∧s' = [(0,.i f),(1,.i u),(3,.ptr (N + 3) 0),(7,.ptr (N + 4) 0)]∧H' = Hm (.inl r.2)++L0 N b1 bt y lit r.1) (fun _ x=>hl3 _ _) (fun _=>rfl) (by decide) (fun x _=>?_) ?_ ho ()) ?_
   ·have hb:b1 < N:= by have:=A34 (h1 (.inl s)); rwa [hN] at this
    refine bdc A5 (bdc A5 (bdc ?_ (bdc (D4 rfl) (bdc (D4 rfl) (bdc (D4 rfl) (bdc (D4 rfl) (bdc A5 (bdc A5 bdn))))))))
    simp only [AV.bd]; exact Nat.ble_eq_true_of_le (by omega)
   ·intro _ x o' hb
    unfold B8d at hb
    have hcs':∀q,A0j ⟨N + 5,(Hm (.inl s)++L0 N b1 bt y lit p).length :: c.cur :: c.outer⟩ (Hm (.inl x.2.2)++L0 N b1 bt y lit q) = true:=fun q=>by
     have:=hsc' x.2.2 q
     unfold A0j at this ⊢
     rw [List.all_cons]
     exact Bool.and_eq_true_iff.2 ⟨Nat.ble_eq_true_of_le (Nat.le_of_eq (hl3 _ _).symm),this⟩
    have hlx:∀{z:σ ⊕ ρ} {q:Ar5 Int},(Hm z++L0 N b1 bt y lit q).take (N + 5) = Hm z++L0 N b1 bt y lit q:=fun {z q}=>by rw [← hl3 z q]; exact List.take_length
    refine s0<|A0 (F8 rfl rfl) rfl<|es (ra10 rfl rfl rfl rfl rfl rfl rfl rfl rfl rfl)<|B6<|wi hb rfl (fun hc hb=>?_) fun hc hb=>?_
    ·refine oB hb fun q hq hb=>oB hb fun g hg hb=>?_
     refine C1<|B6<|C5<|s0<|qm rfl<|qm rfl<|es (ra10 rfl rfl rfl rfl rfl rfl rfl rfl rfl rfl)<|B6<|s0<|qm rfl<|qm rfl<|A0 (B19 rfl rfl hq) rfl<|A0 (F9 (v:=(.i (B4z q 1))) rfl rfl rfl) rfl<|A0 (F7 rfl rfl) rfl<|qm rfl ?_
     refine gp 7 52 (.b g) 45 rfl rfl (fun hg1=>?_) (fun hg1=>?_) ?_
     ·obtain rfl:=os (Am.bt hg hg1)
      exact nF rfl hg1 rfl<|nF rfl hg1 rfl<|nF rfl hg1 rfl<|nF rfl hg1 rfl<|gN rfl (by rw [hg1]; rfl) rfl<|nF rfl hg1 rfl<|A0 (D0 rfl hg1 rfl) rfl<|ge 7 rfl rfl rfl
     ·refine oB (Am.bf hg hg1) fun z hz hg=>?_
      obtain rfl:=os hg
      have hf:∀{c:Sc},F1 tab c (Hm (.inl x.2.2)++L0 N b1 bt y lit x.2.1) (.fn (.func 86) [.ptr bt 0] []) [.i f,.i x.1,.i lit] [.i z]:=C64 (A0d (N3 (ht _) _) hz)
      exact gF rfl hg1<|A0 (B34 (hN _) rfl rfl rfl) rfl<|gF rfl hg1<|qm rfl<|gF rfl hg1<|qm rfl<|gF rfl hg1<|A0 (B34 (hN _) rfl rfl rfl) rfl<|gF rfl hg1<|B4 (rs:=[.i z]) rfl rfl (A1 rfl (A1 rfl (A1 rfl B5))) hf.frz<|gF rfl hg1<|A0 (G2 rfl rfl) rfl<|A0 (D1 rfl hg1 rfl) rfl<|ge 7 rfl rfl rfl
     refine es (ra11 rfl rfl rfl rfl rfl rfl rfl rfl rfl rfl rfl)<|wi hb rfl (fun hc2 hb=>?_) fun hc2 hb=>?_
     ·refine E4<|r0<|A0 (E1 rfl rfl) rfl<|qm rfl<|en (ra9 rfl rfl rfl rfl rfl rfl rfl rfl rfl) ?_
      cases hb
      exact ⟨rfl,su9 rfl rfl rfl rfl rfl rfl rfl rfl rfl,(),hlx⟩
     ·refine oB hb fun z hz hb=>oB hb fun a ha hb=>?_
      refine C1<|s0<|qm rfl<|qm rfl<|A0 (E1 rfl rfl) rfl<|A0 (Y7 (e:=Ar5.l x.2.1) rfl rfl rfl hz) rfl<|F0 (C4v (hN _) rfl rfl rfl hz) rfl<|es (ra10 rfl rfl rfl rfl rfl rfl rfl rfl rfl rfl) ?_
      have hL:(L0 N b1 bt y lit x.2.1).set 3 (.cells (N6 cI (Ar5.set x.2.1 f (w64 (x.1 + 1))))) = L0 N b1 bt y lit (Ar5.set x.2.1 f (w64 (x.1 + 1))):=rfl
      rw [hL]
      cases a with
      | false =>
       refine s0<|A0 (J9 rfl (h1 _) rfl) rfl<|A0 (B0o (hN _) rfl rfl rfl) rfl<|B4 (rs:=[.b false]) rfl rfl (A1 rfl (A1 (C8 rfl) (A1 rfl B5))) ((U2 (N3 (ht _) _) ha).frz)<|qm rfl<|nT rfl rfl rfl<|nT rfl rfl rfl<|nT rfl rfl rfl<|nT rfl rfl rfl<|nT rfl rfl rfl<|nT rfl rfl rfl<|nT rfl rfl rfl<|gN rfl rfl rfl<|nT rfl rfl rfl<|A0 (D1 rfl rfl rfl) rfl<|es (ra10 rfl rfl rfl rfl rfl rfl rfl rfl rfl rfl)<|Q9 rfl rfl<|C1<|r0<|A0 (E1 rfl rfl) rfl<|qm rfl<|en (ra9 rfl rfl rfl rfl rfl rfl rfl rfl rfl) ?_
       cases hb
       exact ⟨rfl,su9 rfl rfl rfl rfl rfl rfl rfl rfl rfl,(),hlx⟩
      | true =>
       refine oB hb fun b hb2 hb=>oB hb fun o ho hb=>?_
       have hcc:=fun v=>ih _ _ _ _ _ _ ho ⟨N + 5,v⟩
       obtain ⟨p1,y1⟩:=o
       have hcc:=ih _ _ _ _ _ _ ho ⟨N + 5,(Hm (.inl s)++L0 N b1 bt y lit p).length :: c.cur :: c.outer⟩ (hcs' _)
       refine s0<|A0 (J9 rfl (h1 _) rfl) rfl<|A0 (B0o (hN _) rfl rfl rfl) rfl<|B4 (rs:=[.b true]) rfl rfl (A1 rfl (A1 (C8 rfl) (A1 rfl B5))) ((U2 (N3 (ht _) _) ha).frz)<|qm rfl<|gT rfl rfl<|A0 (B34 (hN _) rfl rfl rfl) rfl<|gT rfl rfl<|qm rfl<|gT rfl rfl<|A0 (E1 rfl rfl) rfl<|gT rfl rfl<|qm rfl<|gT rfl rfl<|qm rfl<|gT rfl rfl<|A0 (B6k rfl rfl hb2) rfl<|gT rfl rfl<|A0 (F9 (v:=(.i (orI u b))) rfl rfl rfl) rfl<|gT rfl rfl<|A5a (B35 rfl rfl (A1 rfl (A1 rfl B5)) hcc rfl) rfl<|gT rfl rfl<|A0 (N5 rfl) rfl<|A0 (D0 rfl rfl rfl) rfl<|es (ra10 rfl rfl rfl rfl rfl rfl rfl rfl rfl rfl) ?_
       cases y1 with
       | inl s1 =>
        refine Q9 rfl rfl<|C1<|r0<|A0 (E1 rfl rfl) rfl<|qm rfl<|en (ra9 rfl rfl rfl rfl rfl rfl rfl rfl rfl) ?_
        cases hb
        exact ⟨rfl,su9 rfl rfl rfl rfl rfl rfl rfl rfl rfl,(),hlx⟩
       | inr r =>
        refine H9 rfl rfl<|s0<|qm rfl<|es (ra1 rfl)<|C6 ?_
        cases hb
        exact ⟨rfl,_,Sub.refl _,rfl,rfl,rfl⟩
    ·refine E4 ?_
     cases hb
     exact ⟨rfl,_,su4 rfl rfl rfl rfl,rfl,rfl,rfl⟩
   ·intro e s' H' q
    obtain ⟨_,q⟩:=q
    rcases o with ⟨p1,r⟩ | ⟨p1,s1⟩
    ·obtain ⟨rfl,rfl,rfl⟩:=q
     cases h
     show C5k _ _ _ _ .ret _ _
     exact D3l trivial (B1 rfl B9) (A4 (v:=.lit (.bool false)) rfl B8) (A3 A5 B3) (htk _ _ _)
    ·obtain ⟨rfl,rfl,rfl⟩:=q
     refine oB h fun z hz h=>?_
     refine s0<|qm rfl<|A0 (Y7 (e:=Ar5.l p1) rfl rfl rfl hz) rfl<|F0 (C4v (hN _) rfl rfl rfl hz) rfl<|es (ra3 rfl rfl rfl) ?_
     have hL:(L0 N b1 bt y lit p1).set 3 (.cells (N6 cI (Ar5.set p1 f 0))) = L0 N b1 bt y lit (Ar5.set p1 f 0):=rfl
     rw [hL]
     refine s0<|A0 (B34 (hN _) rfl rfl rfl) rfl<|qm rfl<|A0 (E1 rfl rfl) rfl<|qm rfl<|A5a (B35 rfl rfl (A1 rfl (A1 rfl B5)) (ih _ _ _ _ _ _ h _ (hsc' _ _)) rfl) rfl<|qm rfl<|es (ra1 rfl)<|C6 ?_
     show C5k _ _ _ _ .ret _ _
     exact D3l trivial (B1 rfl B9) (A4 (v:=.lit (.bool x.isLeft)) rfl B8) (A3 A5 B3) (htk _ _ _)
end
section
variable {t:room_house} {b1 bt:Nat}
theorem C14:E02 tab 116 [.ptr b1 0] (fun p:room_plan=>.agg (A8 p)) (fun H=>hcells H b1 = some [.ptr bt 0]∧hcells H bt = some (B70 t)) (A57 t):= by
 intro σ ρ Hm N hN hpre y hyb hyc body hy a0 o ho c hc
 unfold A57 at ho
 refine oB ho fun n hn ho=>oB ho fun z hz ho=>?_
 have h1:∀x,hcells (Hm x) b1 = some [.ptr bt 0]:=fun x=>(hpre x).1
 have ht:∀x,hcells (Hm x) bt = some (B70 t):=fun x=>(hpre x).2
 refine C68 (aq:=[y,.ptr b1 0]) rfl rfl rfl ?_
 have e:=hN (.inl a0)
 have key:WP tab c116 [(0,y),(1,.ptr b1 0)] (Hm (.inl a0)++[]) ⟨(Hm (.inl a0)).length,c.cur :: c.outer⟩ (C5k (Hm (.inl a0)) (Hm o) [] []):= by
  refine sg 0 rfl<|A0 (F3 rfl hyc rfl) rfl<|es (ra2 rfl rfl)<|sg 1 rfl<|A0 (J9 rfl (h1 _) rfl) rfl<|A0 (A7n rfl rfl) rfl<|A0 D6 rfl<|F0 (C7 rfl rfl rfl rfl (U9 ?_) rfl) rfl<|es (ra3 rfl rfl rfl)<|s0<|A0 (J9 rfl (h1 _) rfl) rfl<|A0 (P2 rfl rfl) rfl<|A0 (C4 rfl) rfl<|A0 (C4 rfl) rfl<|A0 (J9 rfl (ht _) rfl) rfl<|A0 (B6k rfl rfl hn) rfl<|qm rfl<|es (ra5 rfl rfl rfl rfl rfl)<|C5 ?_
  ·exact Nat.le_add_right _ _
  have hl2:∀x,(Hm x++L1 bt y).length = N + 2:=fun x=>by rw [List.length_append,hN]; rfl
  have htk:∀x,(Hm x++L1 bt y).take (Hm (.inl a0)).length = Hm x:=fun x=>by rw [e,← hN x]; exact List.take_left
  refine A8f (B7h (γ:=Unit) (live:=[1,2,3,14,15]) (body:=C4q t n body) (fun x=>[(1,.ptr b1 0),(2,.ptr ((Hm (.inl a0)).length + 0) 0),(3,.ptr ((Hm (.inl a0)).length + 1) 0),(14,.i n),(15,.i x.1)]) (fun _ x=>Hm (.inl x.2)++L1 bt y) (N + 2)
   (fun r e s' H'=>match r with
    | .inl r=>e = .ret∧H'.take (N + 2) = Hm (.inr r)++L1 bt y
    | .inr r=>e = .exit 0∧H' = Hm (.inl r)++L1 bt y) (fun _ x=>hl2 _) (fun _=>rfl) (by decide) (fun x _=>?_) ?_ hz ()) ?_
  ·have hb:b1 < N:= by have:=A34 (h1 (.inl a0)); rwa [hN] at this
   refine bdc ?_ (bdc ?_ (bdc ?_ (bdc A5 (bdc A5 bdn))))
   all_goals (simp only [AV.bd]; exact Nat.ble_eq_true_of_le (by omega))
  ·rw [e]
   have hsc:∀s:σ,A0j ⟨N,c.cur :: c.outer⟩ (Hm (.inl s)++L1 bt y) = true:=fun s=>D0l hc (by rw [hl2,e]; omega) (by rw [hl2]; omega)
   clear e hc htk
   intro _ x o' hb
   unfold C4q at hb
   obtain rfl:=hN (.inl x.2)
   refine s0<|A0 (F8 rfl rfl) rfl<|es (ra6 rfl rfl rfl rfl rfl rfl)<|B6<|wi hb rfl (fun hc hb=>?_) fun hc hb=>?_
   ·refine oB hb fun w hw hb=>?_
    obtain ⟨p',w⟩:=w
    have hcc:=D1v hN h1 ht hy x.1 64 0 0 ⟨0,0,0,0,0⟩ x.2 p' w hw ⟨(Hm (.inl x.2)).length + 2,(Hm (.inl x.2)).length :: c.cur :: c.outer⟩ (by
     have h:=hsc x.2
     refine D0l (c:=⟨(Hm (.inl x.2)).length,c.cur :: c.outer⟩) h ?_ ?_
     ·rw [List.length_append,List.length_append]; exact Nat.add_le_add_left (show 2≤5 by decide) _
     ·rw [List.length_append]; exact Nat.add_le_add_left (Nat.le_of_ble_eq_true rfl) _)
    refine C1<|B6<|C5<|sg 2 rfl<|qm rfl<|A0 D6 rfl<|F0 (C7 rfl rfl rfl rfl (C0 rfl) rfl) rfl<|es (ra6 rfl rfl rfl rfl rfl rfl)<|sg 3 rfl<|A0 D6 rfl<|es (ra7 rfl rfl rfl rfl rfl rfl rfl)<|sg 4 rfl<|A0 D6 rfl<|es (ra8 rfl rfl rfl rfl rfl rfl rfl rfl)<|s0<|A0 (A7n rfl rfl) rfl<|F0 (C7 rfl rfl rfl rfl (U9 ?_) rfl) rfl<|es (ra6 rfl rfl rfl rfl rfl rfl)<|s0<|A0 (C3 rfl rfl rfl) rfl<|A5a (B35 (rs:=[.b w.isLeft]) rfl rfl (A1 rfl (A1 rfl B5)) hcc rfl) rfl<|A0 (N5 rfl) rfl<|es (ra6 rfl rfl rfl rfl rfl rfl) ?_
    ·exact Nat.add_le_add_left (by decide) _
    have hlx:∀(z:σ ⊕ ρ) (q:Ar5 Int),(Hm z++L0 (Hm (.inl x.2)).length b1 bt y x.1 q).take ((Hm (.inl x.2)).length + 2) = Hm z++L1 bt y:=fun z q=>by
     rw [← hN z,List.take_append,List.take_of_length_le (Nat.le_add_right _ _),Nat.add_sub_cancel_left]; rfl
    cases w with
    | inl s1 =>
     refine Q9 rfl rfl<|C1<|r0<|A0 (E1 rfl rfl) rfl<|qm rfl<|en (ra5 rfl rfl rfl rfl rfl) ?_
     cases hb
     exact ⟨rfl,su5 rfl rfl rfl rfl rfl,(),hlx _ _⟩
    | inr r =>
     refine H9 rfl rfl<|C6 ?_
     cases hb
     exact ⟨rfl,_,Sub.refl _,rfl,hlx _ _⟩
   ·refine E4 ?_
    cases hb
    exact ⟨rfl,_,Sub.refl _,rfl,rfl⟩
  ·intro e2 s' H' q
   obtain ⟨_,q⟩:=q
   rcases z with r | s1
   ·obtain ⟨rfl,q⟩:=q
    cases ho
    show C5k _ _ _ _ .ret _ _
    refine D3l trivial rfl rfl rfl ?_
    have h2:=congrArg (List.take (Hm (.inl a0)).length) q
    rw [htk,List.take_take,Nat.min_eq_left (by omega)] at h2
    exact h2
   ·obtain ⟨rfl,rfl⟩:=q
    cases ho
    show C5k _ _ _ _ .normal _ _
    exact D3l trivial rfl rfl rfl (htk _)
 rw [List.append_nil] at key
 exact key
end
end Rm
end
section
set_option maxRecDepth 100000
set_option maxHeartbeats 0
namespace Rm
open Go Am Go.Proofs.YtbheamjhjgoccaaDoor.Cd
def A39 (a0:RoHouse) (x4:room_plan) (s5:(Int × room_plan)):Option ((Int × room_plan) ⊕ Unit) :=
 (U6 (room_house.mk a0) x4.at_).bind fun x6 =>
 if (decide (x6 > s5.1)) = true then
  some (.inl (x6,x4))
 else
  some (.inl (s5.1,s5.2))
def A6g (vo8_9:(Int × room_plan)) (x12:(List Int)) (s13:(Int × (List Int))):Option ((Int × (List Int)) ⊕ (List Int)) :=
 if (decide (s13.1 < (List.length (cpy x12 (Ar5.l vo8_9.2.at_)):Int))) = true then
  (idx s13.2 s13.1).bind fun x16 =>
  (idx s13.2 s13.1).bind fun x17 =>
  some (.inl ((w64 (s13.1 + 1)),(A6l s13.2 s13.1 (w64 (x16 - 1)))))
 else
  some (.inr s13.2)
def T2 (a0:RoHouse):Option (RoPlan × Int × Int) :=
 (R0 a0).bind fun x1 =>
 if (x1.2.2 != 0) = true then
  some ((RoPlan.mk 0 ([]:List Int)),0,x1.2.2)
 else
  (A57 (room_house.mk a0) (Int × room_plan) Unit (A39 a0) ((-1),(room_plan.mk 0 (Ar5.mk 0 0 0 0 0)))).bind fun (o8:((Int × room_plan) ⊕ Unit)) =>
  match o8 with
  | (.inl vo8_9) =>
  if (decide (vo8_9.1 < 0)) = true then
   some ((RoPlan.mk 0 ([]:List Int)),0,9)
  else
   (C4t 8 (List.length a0.Figures:Int) 0).bind fun x12 =>
   (loop (A6g vo8_9 x12) (0,(cpy x12 (Ar5.l vo8_9.2.at_)))).bind fun (o18:(List Int)) =>
   some ((RoPlan.mk vo8_9.2.lit_ o18),vo8_9.1,0)
  | (.inr _)=>none
theorem C3a {c:Sc} {H:A7} (hscv:A0j c H = true) (hcl:clH H.length H = true) {a0:RoHouse} {r:(RoPlan × Int × Int)} (h:T2 a0 = some r) :
  A2d tab c H (.fn (.func 31) [] []) [(.agg (A2 a0))] [(.agg (B2 r.1)),.i r.2.1,.i r.2.2]:= by
 unfold T2 at h
 refine cF rfl rfl<|sg 0 rfl<|A0 (F3 (cs:=A2 a0) rfl rfl rfl) rfl<|A0 D6 rfl<|A0 D6 rfl<|qm rfl<|es (ra3 rfl rfl rfl)<|sg 3 rfl<|A0 (C2 rfl rfl rfl) rfl<|Q0 (as2:=[(.agg (A2 a0))]) (H1:=(H++[(.cells (A2 a0)),(.cells (B2 (RoPlan.mk 0 ([]:List Int)))),(.cells (cI 0)),.dead])) rfl rfl (A1 (C8 rfl) B5) rfl rfl rfl (W8 rfl)<|sg 4 rfl<|A0 (F3 (cs:=A2 a0) rfl rfl rfl) rfl<|qm rfl<|qm rfl<|es (ra1 rfl)<|s0<|oB h fun x1 hx1 h=>A0 (C2 rfl rfl rfl) rfl<|B4 (rs:=[.i x1.1,.i x1.2.1,.i x1.2.2]) rfl rfl (A1 (C8 rfl) B5) ((R9 hx1).frz)<|qm rfl<|A0 (A6 rfl rfl) rfl<|A0 (A6 rfl rfl) rfl<|A0 (A6 rfl rfl) rfl<|qm rfl<|qm rfl<|qm rfl<|es (ra2 rfl rfl)<|sg 5 rfl<|A0 (C2 rfl rfl rfl) rfl<|A0 (G6 (cs:=[.b false,(.fn (.func 112) [] [])]) rfl rfl) rfl<|A0 (G6 (cs:=[.b true,(.fn (.func 113) [] [])]) rfl rfl) rfl<|A0 (A7w (rows:=[[.b false,(.fn (.func 112) [] [])],[.b true,(.fn (.func 113) [] [])]]) rfl rfl) rfl<|A0 (G6 (cs:=[.i a0.Weather.Lo,.i a0.Weather.Hi,.i a0.Stoves,(.seq 1 (List.map cI a0.Holds)),(.seq 4 (List.map B7 a0.Places)),(.seq 6 (List.map A9 a0.Figures)),(.seq 1 (List.map cI a0.Bill)),(.xseq 2 [[.b false,(.fn (.func 112) [] [])],[.b true,(.fn (.func 113) [] [])]])]) rfl rfl) rfl<|A0 (F3 (cs:=[.i a0.Weather.Lo,.i a0.Weather.Hi,.i a0.Stoves,(.seq 1 (List.map cI a0.Holds)),(.seq 4 (List.map B7 a0.Places)),(.seq 6 (List.map A9 a0.Figures)),(.seq 1 (List.map cI a0.Bill)),(.xseq 2 [[.b false,(.fn (.func 112) [] [])],[.b true,(.fn (.func 113) [] [])]])]) rfl rfl rfl) rfl<|qm rfl<|qm rfl<|qm rfl<|es (ra2 rfl rfl)<|C6<|InlQ.mk trivial ⟨_,_,_,[(.ptr (H.length + 5) 0),.i x1.2.2],_,(B1 rfl (B1 rfl B9)),(A4 rfl (A4 rfl B8)),(Y5 (O0 (Y3 rfl)) (D2 rfl (D2 rfl J7))),?_⟩
 refine qm rfl<|A0 (A6 rfl rfl) rfl<|A0 (A6 rfl rfl) rfl<|A0 D6 rfl<|F0 (C7 (ds:=[(.ptr (H.length + 5) 0)]) rfl rfl rfl rfl (U9 (Nat.le_add_right _ _)) rfl) rfl<|qm rfl<|es (ra5 rfl rfl rfl rfl rfl)<|B6<|s0<|qm rfl<|A0 (G2 rfl rfl) rfl<|es (ra6 rfl rfl rfl rfl rfl rfl)<|wi h rfl (fun hc2 h=>?_) fun hc2 h=>?_
 ·refine s0<|A0 (C2 rfl rfl rfl) rfl<|qm rfl<|F0 (C7 (ds:=(B2 (RoPlan.mk 0 ([]:List Int)))) rfl rfl rfl rfl (C0 rfl) rfl) rfl<|F0 (C7 (ds:=(cI 0)) rfl rfl rfl rfl (C0 rfl) rfl) rfl<|qm rfl<|es (ra3 rfl rfl rfl)<|C6 ?_
  obtain rfl:=os h
  refine Exists.intro [(.agg (B2 (RoPlan.mk 0 ([]:List Int)))),.i 0,.i x1.2.2] (And.intro ?_ rfl)
  exact retq trivial (G0 (E3 (ds:=B2 (RoPlan.mk 0 ([]:List Int))) rfl rfl rfl rfl) (G0 (C3 (x:=(.i 0)) rfl rfl rfl) (B1 rfl B9))) (A4 (I5 rfl) (A4 rfl (A4 rfl B8))) (A3 (H6 rfl) (A3 A5 (A3 A5 B3)))
 ·refine C1<|s0<|F0 (C7 (ds:=(cI (-1))) rfl rfl rfl rfl (C0 rfl) rfl) rfl<|es (ra4 rfl rfl rfl rfl)<|sg 6 rfl<|A0 D6 rfl<|es (ra5 rfl rfl rfl rfl rfl)<|B6<|s0<|A0 (C3 (x:=(.ptr (H.length + 5) 0)) rfl rfl rfl) rfl<|Q0 (as2:=[(.ptr (H.length + 5) 0)]) (H1:=(H++[(.cells (A2 a0)),(.cells (B2 (RoPlan.mk 0 ([]:List Int)))),(.cells (cI (-1))),(.cells [(.ptr (H.length + 5) 0)]),(.cells (A2 a0)),(.cells [.i a0.Weather.Lo,.i a0.Weather.Hi,.i a0.Stoves,(.seq 1 (List.map cI a0.Holds)),(.seq 4 (List.map B7 a0.Places)),(.seq 6 (List.map A9 a0.Figures)),(.seq 1 (List.map cI a0.Bill)),(.xseq 2 [[.b false,(.fn (.func 112) [] [])],[.b true,(.fn (.func 113) [] [])]])]),(.cells (A8 (room_plan.mk 0 (Ar5.mk 0 0 0 0 0))))])) rfl rfl (A1 rfl B5) rfl rfl rfl (W8 rfl)<|sg 7 rfl<|A0 (F3 (cs:=[(.ptr (H.length + 5) 0)]) rfl rfl rfl) rfl<|qm rfl<|es (ra1 rfl)<|s0<|A0 (A7n rfl rfl) rfl<|qm rfl<|es (ra1 rfl)<|C6<|InlQ.mk trivial ⟨_,_,_,[(.fn (.func 116) [] [(.ptr (H.length + 7) 0)])],_,(B1 rfl B9),(A4 rfl B8),(Y5 (O0 (C0c (O0 (Y3 rfl)))) (D2 rfl J7)),?_⟩
  refine es (ra6 rfl rfl rfl rfl rfl rfl)<|C5<|oB h fun o8 ho8 h=>C6o (σ:=(Int × room_plan)) (ρ:=Unit) (k:=8) (ea:=(fun (x4:room_plan)=>(.agg (A8 x4)))) (body:=(A39 a0)) (pre:=fun H1=>hcells H1 (H.length + 7) = some [.ptr (H.length + 5) 0]∧hcells H1 (H.length + 5) = some (B70 (room_house.mk a0))) (C14 (t:=(room_house.mk a0)) (b1:=H.length + 7) (bt:=(H.length + 5))) B3z [(3,(.ptr (H.length + 2) 0)),(5,(.ptr (H.length + 3) 0)),(6,(.ptr (H.length + 6) 0))] (fun s5=>[(.cells (A2 a0)),(.cells (B2 (RoPlan.mk 0 ([]:List Int)))),(.cells (cI s5.1)),(.cells [(.ptr (H.length + 5) 0)]),(.cells (A2 a0)),(.cells [.i a0.Weather.Lo,.i a0.Weather.Hi,.i a0.Stoves,(.seq 1 (List.map cI a0.Holds)),(.seq 4 (List.map B7 a0.Places)),(.seq 6 (List.map A9 a0.Figures)),(.seq 1 (List.map cI a0.Bill)),(.xseq 2 [[.b false,(.fn (.func 112) [] [])],[.b true,(.fn (.func 113) [] [])]])]),(.cells (A8 s5.2)),(.cells [(.ptr (H.length + 5) 0)])]) (fun (_:Unit)=>[(.cells (A2 a0)),(.cells (B2 (RoPlan.mk 0 ([]:List Int)))),(.cells (cI (-1))),(.cells [(.ptr (H.length + 5) 0)]),(.cells (A2 a0)),(.cells [.i a0.Weather.Lo,.i a0.Weather.Hi,.i a0.Stoves,(.seq 1 (List.map cI a0.Holds)),(.seq 4 (List.map B7 a0.Places)),(.seq 6 (List.map A9 a0.Figures)),(.seq 1 (List.map cI a0.Bill)),(.xseq 2 [[.b false,(.fn (.func 112) [] [])],[.b true,(.fn (.func 113) [] [])]])]),(.cells (A8 (room_plan.mk 0 (Ar5.mk 0 0 0 0 0)))),(.cells [(.ptr (H.length + 5) 0)])]) (fun _=>.ret) ho8 (fun _=>rfl) rfl (fun S hS=>K5 (live:=[3,5,6]) rfl (by decide) (Sub.trans (su3 rfl rfl rfl) hS)) rfl (fun _=>rfl) (fun _=>rfl) hcl (by rw [Bool.and_eq_true,Bool.and_eq_true]; exact ⟨⟨by kernel_rfl,by kernel_rfl⟩,(by simp [clH,clS,AO.cl,AV.cl,clL,clM,clR,A3z,A8g,A4d,A5y,N6,cI,cB,cS,J8,freeL,AV.free,freeR,Nat.blt,S5,A4y,K2,X3,J1,T5,L3,X2,P1,A0t,K4,Q6] <;> omega)⟩) (fun _=>(by simp [clH,clS,AO.cl,AV.cl,clL,clM,clR,A3z,A8g,A4d,A5y,N6,cI,cB,cS,J8,freeL,AV.free,freeR,Nat.blt,S5,A4y,K2,X3,J1,T5,L3,X2,P1,A0t,K4,Q6] <;> omega)) (fun _=>(by simp [clH,clS,AO.cl,AV.cl,clL,clM,clR,A3z,A8g,A4d,A5y,N6,cI,cB,cS,J8,freeL,AV.free,freeR,Nat.blt,S5,A4y,K2,X3,J1,T5,L3,X2,P1,A0t,K4,Q6] <;> omega)) (fun _=>(by simp [clH,clS,AO.cl,AV.cl,clL,clM,clR,A3z,A8g,A4d,A5y,N6,cI,cB,cS,J8,freeL,AV.free,freeR,Nat.blt,S5,A4y,K2,X3,J1,T5,L3,X2,P1,A0t,K4,Q6] <;> omega)) ⟨fun _ _=>(And.intro (D9 rfl) (D9 rfl)),fun _ _=>(And.intro (D9 rfl) (D9 rfl))⟩ (A4h hscv) (fun c x4 s5 o hs5 y0_8 y1_8=>?_) ?_
  ·unfold A39 at hs5
   refine rg 9 rfl<|A0 D6 rfl<|F0 (C7 (ds:=(A8 x4)) rfl rfl rfl rfl (C0 rfl) rfl) rfl<|en (ra4 rfl rfl rfl rfl)<|⟨_,rfl,rfl,rfl,?_⟩
   refine C5<|s0<|oB hs5 fun x6 hx6 hs5=>A0 (C3 (x:=(.ptr (H.length + 5) 0)) rfl rfl rfl) rfl<|A0 (C4 rfl) rfl<|A0 (E3 (ds:=(N6 cI) x4.at_) rfl rfl rfl rfl) rfl<|B4 (rs:=[.i x6]) rfl rfl (A1 rfl (A1 (C8 rfl) B5)) ((A7u (D9 rfl) hx6).frz)<|qm rfl<|es (ra4 rfl rfl rfl rfl)<|s0<|qm rfl<|A0 (C3 rfl rfl rfl) rfl<|A0 (A0a rfl rfl) rfl<|es (ra5 rfl rfl rfl rfl rfl)<|wi hs5 rfl (fun hc7 hs5=>?_) fun hc7 hs5=>?_
   ·refine r0<|A0 (C2 rfl rfl rfl) rfl<|qm rfl<|F0 (C7 (ds:=(A8 x4)) rfl rfl rfl rfl (C0 rfl) rfl) rfl<|F0 (C7 (ds:=(cI x6)) rfl rfl rfl rfl (C0 rfl) rfl) rfl<|en .n ?_
    cases hs5
    exact ⟨_,rfl,rfl,rfl⟩
   ·refine C1 ?_
    cases hs5
    exact ⟨_,rfl,rfl,rfl⟩
  ·rcases o8 with vo8_9 | vo8_10
   ·refine B6<|s0<|A0 (C3 rfl rfl rfl) rfl<|A0 (F8 rfl rfl) rfl<|es (ra5 rfl rfl rfl rfl rfl)<|wi h rfl (fun hc11 h=>?_) fun hc11 h=>?_
    ·refine s0<|A0 (C2 rfl rfl rfl) rfl<|F0 (C7 (ds:=(B2 (RoPlan.mk 0 ([]:List Int)))) rfl rfl rfl rfl (C0 rfl) rfl) rfl<|F0 (C7 (ds:=(cI 0)) rfl rfl rfl rfl (C0 rfl) rfl) rfl<|qm rfl<|es (ra3 rfl rfl rfl)<|C6 ?_
     obtain rfl:=os h
     refine Exists.intro [(.agg (B2 (RoPlan.mk 0 ([]:List Int)))),.i 0,.i 9] (And.intro ?_ rfl)
     exact retq trivial (G0 (E3 (ds:=B2 (RoPlan.mk 0 ([]:List Int))) rfl rfl rfl rfl) (G0 (C3 (x:=(.i 0)) rfl rfl rfl) (B1 rfl B9))) (A4 (I5 rfl) (A4 rfl (A4 rfl B8))) (A3 (H6 rfl) (A3 A5 (A3 A5 B3)))
    ·refine C1<|sg 9 rfl<|oB h fun x12 hx12 h=>A0 (C4 rfl) rfl<|A0 (C3 rfl rfl rfl) rfl<|A0 (D8 (f:=A9) rfl) rfl<|A0 (D26 (f:=cI) rfl rfl rfl hx12) rfl<|qm rfl<|es (ra4 rfl rfl rfl rfl)<|s0<|qm rfl<|A0 (C4 rfl) rfl<|A0 (D27 rfl (D9 rfl) rfl) rfl<|A5a (D7z (f:=cI) rfl rfl rfl rfl (D86 (f:=cI) (e:=Ar5.l vo8_9.2.at_) (p:=5) (D9 rfl) rfl rfl (fun _=>rfl) rfl rfl) (fun _=>rfl)) rfl ?_
     rw [show List.length x12 = List.length (cpy x12 (Ar5.l vo8_9.2.at_)) from (C9g _ _).symm]
     refine es (ra4 rfl rfl rfl rfl)<|B6<|s0<|qm rfl<|A0 (C90 (f:=cI) rfl rfl rfl) rfl<|qm rfl<|es (ra6 rfl rfl rfl rfl rfl rfl)<|C5<|oB h fun o18 ho18 h=>wl (fun s13=>[(2,(.ptr (H.length + 1) 0)),(3,(.ptr (H.length + 2) 0)),(6,(.ptr (H.length + 6) 0)),(9,(.asl (H.length + 9) (List.length s13.2))),(44,(.i (List.length (cpy x12 (Ar5.l vo8_9.2.at_)):Int))),(45,.i s13.1)]) (fun (q14:Unit) s13=>[(.cells (A2 a0)),(.cells (B2 (RoPlan.mk 0 ([]:List Int)))),(.cells (cI vo8_9.1)),(.cells [(.ptr (H.length + 5) 0)]),(.cells (A2 a0)),(.cells [.i a0.Weather.Lo,.i a0.Weather.Hi,.i a0.Stoves,(.seq 1 (List.map cI a0.Holds)),(.seq 4 (List.map B7 a0.Places)),(.seq 6 (List.map A9 a0.Figures)),(.seq 1 (List.map cI a0.Bill)),(.xseq 2 [[.b false,(.fn (.func 112) [] [])],[.b true,(.fn (.func 113) [] [])]])]),(.cells (A8 vo8_9.2)),(.cells [(.ptr (H.length + 5) 0)]),.dead,(.arr 1 false (List.map cI s13.2))]) 10 (fun r e s' H'=>PX 2 [(2,(.ptr (H.length + 1) 0)),(3,(.ptr (H.length + 2) 0)),(6,(.ptr (H.length + 6) 0)),(9,(.asl (H.length + 9) (List.length r)))] (H++[(.cells (A2 a0)),(.cells (B2 (RoPlan.mk 0 ([]:List Int)))),(.cells (cI vo8_9.1)),(.cells [(.ptr (H.length + 5) 0)]),(.cells (A2 a0)),(.cells [.i a0.Weather.Lo,.i a0.Weather.Hi,.i a0.Stoves,(.seq 1 (List.map cI a0.Holds)),(.seq 4 (List.map B7 a0.Places)),(.seq 6 (List.map A9 a0.Figures)),(.seq 1 (List.map cI a0.Bill)),(.xseq 2 [[.b false,(.fn (.func 112) [] [])],[.b true,(.fn (.func 113) [] [])]])]),(.cells (A8 vo8_9.2)),(.cells [(.ptr (H.length + 5) 0)]),.dead,(.arr 1 false (List.map cI r))]) e s' H') () ho18 rfl rfl (fun _ _=>rfl) (fun _=>rfl) rfl (fun s13=>(bdc (D4 rfl) (bdc (D4 rfl) (bdc (D4 rfl) (bdc (A48 rfl) (bdc A5 (bdc A5 bdn))))))) (fun q14 s13 ys13 hs13=>?_) ?_
     ·unfold A6g at hs13
      refine s0<|A0 (F8 rfl rfl) rfl<|es (ra7 rfl rfl rfl rfl rfl rfl rfl)<|B6<|wi hs13 rfl (fun hc15 hs13=>?_) fun hc15 hs13=>?_
      ·refine C1<|B6<|C5<|s0<|qm rfl<|qm rfl<|es (ra7 rfl rfl rfl rfl rfl rfl rfl)<|r0<|oB hs13 fun x16 hx16 hs13=>oB hs13 fun x17 hx17 hs13=>qm rfl<|qm rfl<|A0 (C1h (f:=cI) rfl rfl rfl rfl hx16) rfl<|A0 (B91 (x:=(.i x16)) rfl rfl (List.length_map _) (B3k hx16) rfl) rfl<|A0 (U8 rfl rfl) rfl<|A0 (C1h (f:=cI) rfl rfl rfl rfl hx17) rfl<|F0 (B6l (ds:=cI (w64 (x16 - 1))) rfl rfl rfl rfl rfl (List.length_map _) (B3k hx17) rfl rfl) rfl ?_
       rw [B6g]
       rw [show List.length s13.2 = List.length (A6l s13.2 s13.1 (w64 (x16 - 1))) from (A9s _ _ _).symm]
       refine en (ra6 rfl rfl rfl rfl rfl rfl)<|r0<|A0 (E1 rfl rfl) rfl<|qm rfl<|en (ra6 rfl rfl rfl rfl rfl rfl) ?_
       cases hs13
       exact lnT () rfl (su6 rfl rfl rfl rfl rfl rfl)
      ·refine E4 ?_
       obtain rfl:=os hs13
       exact lx rfl px (su4 rfl rfl rfl rfl)
     ·rintro e s' H' - ⟨rfl,rfl,rfl⟩
      refine s0<|A0 (C4 rfl) rfl<|A0 (C3 rfl rfl rfl) rfl<|qm rfl<|A0 (G6 (cs:=[.i vo8_9.2.lit_,(.asl (H.length + 9) (List.length o18))]) rfl rfl) rfl<|A64 [2] [(.cells (A2 a0)),(.cells [.i vo8_9.2.lit_,(.asl (H.length + 9) (List.length o18))]),(.cells (cI vo8_9.1)),(.cells [(.ptr (H.length + 5) 0)]),(.cells (A2 a0)),(.cells [.i a0.Weather.Lo,.i a0.Weather.Hi,.i a0.Stoves,(.seq 1 (List.map cI a0.Holds)),(.seq 4 (List.map B7 a0.Places)),(.seq 6 (List.map A9 a0.Figures)),(.seq 1 (List.map cI a0.Bill)),(.xseq 2 [[.b false,(.fn (.func 112) [] [])],[.b true,(.fn (.func 113) [] [])]])]),(.cells (A8 vo8_9.2)),(.cells [(.ptr (H.length + 5) 0)]),.dead,(.arr 1 false (List.map cI o18))] (W5 [] rfl (A0y rfl X4 I6) rfl rfl) (seen0 rfl) (C7 (ds:=[.i vo8_9.2.lit_,(.asl (H.length + 9) (List.length o18))]) rfl rfl rfl rfl (U9 (Nat.le_add_right _ _)) rfl) rfl rfl rfl<|S8 [] (W5 [] rfl I6 rfl rfl) (A6j (b:=H.length + 2) rfl (A0x (Q7 _ rfl) A3y)) (C3 rfl rfl rfl) rfl<|F0 (C7 (ds:=(cI vo8_9.1)) rfl rfl rfl rfl (C0 rfl) rfl) rfl<|qm rfl<|es (ra3 rfl rfl rfl)<|C6 ?_
      obtain rfl:=os h
      refine Exists.intro [(.agg [.i vo8_9.2.lit_,(.fresh 1 (List.map cI o18))]),.i vo8_9.1,.i 0] (And.intro ?_ rfl)
      exact retq trivial (G0 (E3 (ds:=[.i vo8_9.2.lit_,(.asl (H.length + 9) (List.length o18))]) rfl rfl rfl rfl) (G0 (C3 (x:=(.i vo8_9.1)) rfl rfl rfl) (B1 rfl B9))) (A4 (D12 (A7x rfl (A7x (D57 rfl (List.length_map _)) D56))) (A4 rfl (A4 rfl B8))) (A3 (H6 rfl) (A3 A5 (A3 A5 B3)))
   ·cases h
theorem V0 {c:Sc} {H:A7} (hscv:A0j c H = true) {a0:RoHouse} {r:(RoPlan × Int × Int)} (h:T2 a0 = some r) :
  A2d tab c H (.fn (.func 31) [] []) [(.agg (A2 a0))] [(.agg (B2 r.1)),.i r.2.1,.i r.2.2]:=C65 B3z (C3a (c:=⟨0,[]⟩) (H:=[]) rfl rfl h) (by simp [freeL,AV.free,J8,cI,cB,cS,A8g,A4d,A5y,N6,S5,K2,J1,L3,P1,K4]) (by simp [freeL,AV.free,J8,cI,cB,cS,A8g,A4d,A5y,N6,S5,K2,J1,L3,P1,K4]) hscv
def R2 (a0:(List Int)) (a1:Int) (s1:Int):Option (Int ⊕ (Int ⊕ Unit)) :=
 if (decide (s1 < (List.length a0:Int))) = true then
  (idx a0 s1).bind fun x4 =>
  if (a1 == x4) = true then
  some (.inr (.inl s1))
  else
  some (.inl (w64 (s1 + 1)))
 else
  some (.inr (.inr ()))
def A1a (a0:(List Int)) (a1:Int):Option Int :=
 (loop (R2 a0 a1) 0).bind fun (o6:(Int ⊕ Unit)) =>
 match o6 with
 | (.inl vo6_0) =>
  some vo6_0
 | (.inr vo6_1) =>
  some (-1)
theorem B0w {c:Sc} {H:A7} {a0:(List Int)} {a1:Int} {r:Int} (h:A1a a0 a1 = some r) :
  F1 tab c H (.fn (.func 124) [] []) [(.seq 1 (List.map cI a0)),.i a1] [.i r]:= by
 unfold A1a at h
 refine cE rfl rfl<|s0<|qm rfl<|es (ra2 rfl rfl)<|B6<|s0<|qm rfl<|A0 (D8 (f:=cI) rfl) rfl<|qm rfl<|es (ra4 rfl rfl rfl rfl)<|C5<|oB h fun o6 ho6 h=>wl (fun s1=>[(0,(.seq 1 (List.map cI a0))),(1,.i a1),(7,(.i (List.length a0:Int))),(8,.i s1)]) (fun (q2:Unit) s1=>[]) 0 (fun r e s' H'=>(match r with | (.inl v)=>e = .ret∧RetQ H [.tmp 4] [.i v] e s' H' | (.inr v)=>PX 0 [] (H++[]) e s' H':Prop)) () ho6 rfl rfl (fun _ _=>rfl) (fun _=>rfl) rfl (fun s1=>(bdc G7 (bdc A5 (bdc A5 (bdc A5 bdn))))) (fun q2 s1 ys1 hs1=>?_) ?_
 ·unfold R2 at hs1
  refine s0<|A0 (F8 rfl rfl) rfl<|es (ra5 rfl rfl rfl rfl rfl)<|B6<|wi hs1 rfl (fun hc3 hs1=>?_) fun hc3 hs1=>?_
  ·refine C1<|B6<|C5<|s0<|qm rfl<|qm rfl<|es (ra5 rfl rfl rfl rfl rfl)<|s0<|oB hs1 fun x4 hx4 hs1=>qm rfl<|qm rfl<|qm rfl<|A0 (E6 (f:=cI) rfl rfl hx4) rfl<|A0 (E9 rfl rfl) rfl<|A0 (F7 rfl rfl) rfl<|es (ra6 rfl rfl rfl rfl rfl rfl)<|wi hs1 rfl (fun hc5 hs1=>?_) fun hc5 hs1=>?_
   ·refine s0<|qm rfl<|qm rfl<|es (ra1 rfl)<|C6 ?_
    obtain rfl:=os hs1
    exact lx rfl (And.intro rfl (retq trivial (B1 rfl B9) (A4 rfl B8) (A3 A5 B3))) (Sub.refl _)
   ·refine C1<|r0<|A0 (E1 rfl rfl) rfl<|qm rfl<|en (ra4 rfl rfl rfl rfl) ?_
    cases hs1
    exact lnT () rfl (su4 rfl rfl rfl rfl)
  ·refine E4 ?_
   obtain rfl:=os hs1
   exact lx rfl px (.nil _)
 ·rcases o6 with vo6_0 | vo6_1
  ·rintro e s' H' - ⟨rfl,hret⟩
   cases h
   exact hret
  ·rintro e s' H' - ⟨rfl,rfl,rfl⟩
   refine s0<|qm rfl<|es (ra1 rfl)<|C6 ?_
   obtain rfl:=os h
   exact retq trivial (B1 rfl B9) (A4 rfl B8) (A3 A5 B3)
def M4 (a0:(List Int)) (a1:Int):Option Bool :=
 (A1a a0 a1).bind fun x1 =>
 some (decide (x1 ≥ 0))
theorem A0e {c:Sc} {H:A7} {a0:(List Int)} {a1:Int} {r:Bool} (h:M4 a0 a1 = some r) :
  F1 tab c H (.fn (.func 114) [] []) [(.seq 1 (List.map cI a0)),.i a1] [.b r]:= by
 unfold M4 at h
 refine cE rfl rfl<|s0<|qm rfl<|es (ra2 rfl rfl)<|s0<|oB h fun x1 hx1 h=>qm rfl<|qm rfl<|B4 (rs:=[.i x1]) rfl rfl (A1 rfl (A1 rfl B5)) ((B0w hx1).frz)<|A0 (B2j rfl rfl) rfl<|qm rfl<|es (ra1 rfl)<|C6 ?_
 obtain rfl:=os h
 exact retq trivial (B1 rfl B9) (A4 rfl B8) (A3 A5 B3)
def Z3 (a1:RoPlan) (s9:(Int × room_plan)):Option ((Int × room_plan) ⊕ (room_plan ⊕ Unit)) :=
 if (decide (s9.1 < (List.length a1.At:Int))) = true then
  (idx a1.At s9.1).bind fun x12 =>
  (if (x12 != (-1)) = true then
  (slc a1.At 0 s9.1).bind fun x14 =>
  (M4 x14 x12).bind fun x15 =>
  some x15
  else
  some false).bind fun x16 =>
  if x16 = true then
  some (.inr (.inr ()))
  else
  (idx (Ar5.l s9.2.at_) s9.1).bind fun x18 =>
  some (.inl ((w64 (s9.1 + 1)),(room_plan.mk s9.2.lit_ (Ar5.set s9.2.at_ s9.1 (w64 (x12 + 1))))))
 else
  some (.inr (.inl s9.2))
def A3t (a0:RoHouse) (a1:RoPlan):Option ((List Int) × Int) :=
 (R0 a0).bind fun x1 =>
 if (x1.2.2 != 0) = true then
  some (([]:List Int),x1.2.2)
 else
  (B4g .i64 1 a0.Stoves).bind fun x3 =>
  (H7 0 (w64 (x3 - 1)) [a1.Lit]).bind fun x4 =>
  if x4 = true then
  some (([]:List Int),7)
  else
  if ((List.length a1.At:Int) != (List.length a0.Figures:Int)) = true then
   some (([]:List Int),3)
  else
   (H7 (-1) (w64 ((List.length a0.Places:Int) - 1)) a1.At).bind fun x7 =>
   if x7 = true then
   some (([]:List Int),4)
   else
   (loop (Z3 a1) (0,(room_plan.mk a1.Lit (Ar5.mk 0 0 0 0 0)))).bind fun (o19:(room_plan ⊕ Unit)) =>
   match o19 with
   | (.inl vo19_0) =>
    (U5 (room_house.mk a0) vo19_0.at_).bind fun x20 =>
    (slc (Ar4.l x20) 0 (List.length a0.Holds:Int)).bind fun x21 =>
    (app 8 ([]:List Int) x21).bind fun x22 =>
    some (x22,0)
   | (.inr vo19_1) =>
    some (([]:List Int),5)
theorem A63 {c:Sc} {H:A7} {a0:RoHouse} {a1:RoPlan} {r:((List Int) × Int)} (h:A3t a0 a1 = some r) :
  F1 tab c H (.fn (.func 24) [] []) [(.agg (A2 a0)),(.agg (B2 a1))] [(.seq 1 (List.map cI r.1)),.i r.2]:= by
 unfold A3t at h
 refine cE rfl rfl<|sg 0 rfl<|A0 (F3 (cs:=A2 a0) rfl rfl rfl) rfl<|A0 (F3 (cs:=B2 a1) rfl rfl rfl) rfl<|qm rfl<|qm rfl<|es (ra2 rfl rfl)<|sg 2 rfl<|A0 (C2 rfl rfl rfl) rfl<|A0 (C2 rfl rfl rfl) rfl<|Q0 (as2:=[(.agg (A2 a0)),(.agg (B2 a1))]) (H1:=(H++[(.cells (A2 a0)),(.cells (B2 a1)),.dead])) rfl rfl (A1 (C8 rfl) (A1 (C8 rfl) B5)) rfl rfl rfl (W8 rfl)<|sg 3 rfl<|A0 (F3 (cs:=A2 a0) rfl rfl rfl) rfl<|A0 (F3 (cs:=B2 a1) rfl rfl rfl) rfl<|qm rfl<|A0 D6 rfl<|qm rfl<|es (ra3 rfl rfl rfl)<|s0<|A0 (C2 rfl rfl rfl) rfl<|Q0 (as2:=[(.agg (A2 a0))]) (H1:=(H++[(.cells (A2 a0)),(.cells (B2 a1)),.dead,(.cells (A2 a0)),(.cells (B2 a1)),(.cells (A8 (room_plan.mk 0 (Ar5.mk 0 0 0 0 0))))])) rfl rfl (A1 (C8 rfl) B5) rfl rfl rfl (W8 rfl)<|sg 6 rfl<|A0 (F3 (cs:=A2 a0) rfl rfl rfl) rfl<|qm rfl<|qm rfl<|es (ra1 rfl)<|s0<|oB h fun x1 hx1 h=>A0 (C2 rfl rfl rfl) rfl<|B4 (rs:=[.i x1.1,.i x1.2.1,.i x1.2.2]) rfl rfl (A1 (C8 rfl) B5) ((R9 hx1).frz)<|qm rfl<|A0 (A6 rfl rfl) rfl<|A0 (A6 rfl rfl) rfl<|A0 (A6 rfl rfl) rfl<|qm rfl<|qm rfl<|qm rfl<|es (ra2 rfl rfl)<|sg 7 rfl<|A0 (C2 rfl rfl rfl) rfl<|A0 (G6 (cs:=[.b false,(.fn (.func 112) [] [])]) rfl rfl) rfl<|A0 (G6 (cs:=[.b true,(.fn (.func 113) [] [])]) rfl rfl) rfl<|A0 (A7w (rows:=[[.b false,(.fn (.func 112) [] [])],[.b true,(.fn (.func 113) [] [])]]) rfl rfl) rfl<|A0 (G6 (cs:=[.i a0.Weather.Lo,.i a0.Weather.Hi,.i a0.Stoves,(.seq 1 (List.map cI a0.Holds)),(.seq 4 (List.map B7 a0.Places)),(.seq 6 (List.map A9 a0.Figures)),(.seq 1 (List.map cI a0.Bill)),(.xseq 2 [[.b false,(.fn (.func 112) [] [])],[.b true,(.fn (.func 113) [] [])]])]) rfl rfl) rfl<|A0 (F3 (cs:=[.i a0.Weather.Lo,.i a0.Weather.Hi,.i a0.Stoves,(.seq 1 (List.map cI a0.Holds)),(.seq 4 (List.map B7 a0.Places)),(.seq 6 (List.map A9 a0.Figures)),(.seq 1 (List.map cI a0.Bill)),(.xseq 2 [[.b false,(.fn (.func 112) [] [])],[.b true,(.fn (.func 113) [] [])]])]) rfl rfl rfl) rfl<|qm rfl<|qm rfl<|qm rfl<|es (ra2 rfl rfl)<|C6<|InlQ.mk trivial ⟨_,_,_,[(.ptr (H.length + 7) 0),.i x1.2.2],_,(B1 rfl (B1 rfl B9)),(A4 rfl (A4 rfl B8)),(Y5 (O0 (Y3 rfl)) (D2 rfl (D2 rfl J7))),?_⟩
 refine qm rfl<|A0 (A6 rfl rfl) rfl<|A0 (A6 rfl rfl) rfl<|qm rfl<|qm rfl<|es (ra5 rfl rfl rfl rfl rfl)<|B6<|C5<|s0<|qm rfl<|A0 (G2 rfl rfl) rfl<|qm rfl<|es (ra6 rfl rfl rfl rfl rfl rfl)<|wi h rfl (fun hc2 h=>?_) fun hc2 h=>?_
 ·refine s0<|A0 (C2 rfl rfl rfl) rfl<|qm rfl<|F0 (C7 (ds:=(A8 (room_plan.mk 0 (Ar5.mk 0 0 0 0 0)))) rfl rfl rfl rfl (C0 rfl) rfl) rfl<|qm rfl<|qm rfl<|es (ra3 rfl rfl rfl)<|C6<|InlQ.mk trivial ⟨_,_,_,[(.lit (.pointer none)),(.agg (A8 (room_plan.mk 0 (Ar5.mk 0 0 0 0 0)))),.i x1.2.2],_,(B1 rfl (G0 (E3 (ds:=A8 (room_plan.mk 0 (Ar5.mk 0 0 0 0 0))) rfl rfl rfl rfl) (B1 rfl B9))),(A4 rfl (A4 (I5 rfl) (A4 rfl B8))),(R7 (A3 A5 (A3 (H6 rfl) (A3 A5 B3))) (D2 rfl (D2 rfl (D2 rfl J7))) (I2 _ _ _)),?_⟩
  refine qm rfl<|A0 (A6 rfl rfl) rfl<|A0 (A6 rfl rfl) rfl<|A0 (A6 rfl rfl) rfl<|A0 D6 rfl<|qm rfl<|F0 (C7 (ds:=(A8 (room_plan.mk 0 (Ar5.mk 0 0 0 0 0)))) rfl rfl rfl rfl (C0 rfl) rfl) rfl<|qm rfl<|es (ra4 rfl rfl rfl rfl)<|B6<|s0<|qm rfl<|A0 (G2 rfl rfl) rfl<|es (ra5 rfl rfl rfl rfl rfl)<|H9 rfl hc2<|s0<|qm rfl<|qm rfl<|qm rfl<|es (ra2 rfl rfl)<|C6 ?_
  obtain rfl:=os h
  exact retq trivial (B1 rfl (B1 rfl B9)) (A4 rfl (A4 rfl B8)) (A3 G7 (A3 A5 B3))
 ·refine s0<|oB h fun x3 hx3 h=>oB h fun x4 hx4 h=>A0 (C4 rfl) rfl<|A0 (C3 rfl rfl rfl) rfl<|A0 (B6k rfl rfl hx3) rfl<|A0 (U8 rfl rfl) rfl<|A0 (C4 rfl) rfl<|A0 (C3 rfl rfl rfl) rfl<|A0 (J5 (rows:=List.map cI [a1.Lit]) rfl rfl (E2 (fun _=>rfl) _)) rfl<|B4 (rs:=[.b x4]) rfl rfl (A1 rfl (A1 rfl (A1 rfl B5))) ((I4 hx4).frz)<|qm rfl<|es (ra5 rfl rfl rfl rfl rfl)<|wi h rfl (fun hc5 h=>?_) fun hc5 h=>?_
  ·refine s0<|A0 (C2 rfl rfl rfl) rfl<|qm rfl<|F0 (C7 (ds:=(A8 (room_plan.mk 0 (Ar5.mk 0 0 0 0 0)))) rfl rfl rfl rfl (C0 rfl) rfl) rfl<|qm rfl<|es (ra3 rfl rfl rfl)<|C6<|InlQ.mk trivial ⟨_,_,_,[(.lit (.pointer none)),(.agg (A8 (room_plan.mk 0 (Ar5.mk 0 0 0 0 0)))),.i 7],_,(B1 rfl (G0 (E3 (ds:=A8 (room_plan.mk 0 (Ar5.mk 0 0 0 0 0))) rfl rfl rfl rfl) (B1 rfl B9))),(A4 rfl (A4 (I5 rfl) (A4 rfl B8))),(R7 (A3 A5 (A3 (H6 rfl) (A3 A5 B3))) (D2 rfl (D2 rfl (D2 rfl J7))) (I2 _ _ _)),?_⟩
   refine qm rfl<|A0 (A6 rfl rfl) rfl<|A0 (A6 rfl rfl) rfl<|A0 (A6 rfl rfl) rfl<|A0 D6 rfl<|qm rfl<|F0 (C7 (ds:=(A8 (room_plan.mk 0 (Ar5.mk 0 0 0 0 0)))) rfl rfl rfl rfl (C0 rfl) rfl) rfl<|qm rfl<|es (ra4 rfl rfl rfl rfl)<|B6<|s0<|qm rfl<|A0 (F9 (v:=(.b true)) rfl rfl rfl) rfl<|es (ra5 rfl rfl rfl rfl rfl)<|H9 rfl rfl<|s0<|qm rfl<|qm rfl<|qm rfl<|es (ra2 rfl rfl)<|C6 ?_
   obtain rfl:=os h
   exact retq trivial (B1 rfl (B1 rfl B9)) (A4 rfl (A4 rfl B8)) (A3 G7 (A3 A5 B3))
  ·refine s0<|A0 (C4 rfl) rfl<|A0 (C3 rfl rfl rfl) rfl<|A0 (D8 (f:=cI) rfl) rfl<|A0 (C4 rfl) rfl<|A0 (C3 rfl rfl rfl) rfl<|A0 (D8 (f:=A9) rfl) rfl<|A0 (G2 rfl rfl) rfl<|qm rfl<|es (ra5 rfl rfl rfl rfl rfl)<|wi h rfl (fun hc6 h=>?_) fun hc6 h=>?_
   ·refine s0<|A0 (C2 rfl rfl rfl) rfl<|qm rfl<|F0 (C7 (ds:=(A8 (room_plan.mk 0 (Ar5.mk 0 0 0 0 0)))) rfl rfl rfl rfl (C0 rfl) rfl) rfl<|qm rfl<|es (ra3 rfl rfl rfl)<|C6<|InlQ.mk trivial ⟨_,_,_,[(.lit (.pointer none)),(.agg (A8 (room_plan.mk 0 (Ar5.mk 0 0 0 0 0)))),.i 3],_,(B1 rfl (G0 (E3 (ds:=A8 (room_plan.mk 0 (Ar5.mk 0 0 0 0 0))) rfl rfl rfl rfl) (B1 rfl B9))),(A4 rfl (A4 (I5 rfl) (A4 rfl B8))),(R7 (A3 A5 (A3 (H6 rfl) (A3 A5 B3))) (D2 rfl (D2 rfl (D2 rfl J7))) (I2 _ _ _)),?_⟩
    refine qm rfl<|A0 (A6 rfl rfl) rfl<|A0 (A6 rfl rfl) rfl<|A0 (A6 rfl rfl) rfl<|A0 D6 rfl<|qm rfl<|F0 (C7 (ds:=(A8 (room_plan.mk 0 (Ar5.mk 0 0 0 0 0)))) rfl rfl rfl rfl (C0 rfl) rfl) rfl<|qm rfl<|es (ra4 rfl rfl rfl rfl)<|B6<|s0<|qm rfl<|A0 (F9 (v:=(.b true)) rfl rfl rfl) rfl<|es (ra5 rfl rfl rfl rfl rfl)<|H9 rfl rfl<|s0<|qm rfl<|qm rfl<|qm rfl<|es (ra2 rfl rfl)<|C6 ?_
    obtain rfl:=os h
    exact retq trivial (B1 rfl (B1 rfl B9)) (A4 rfl (A4 rfl B8)) (A3 G7 (A3 A5 B3))
   ·refine s0<|oB h fun x7 hx7 h=>A0 (C4 rfl) rfl<|A0 (C3 rfl rfl rfl) rfl<|A0 (D8 (f:=B7) rfl) rfl<|A0 (U8 rfl rfl) rfl<|A0 (C4 rfl) rfl<|A0 (C3 rfl rfl rfl) rfl<|B4 (rs:=[.b x7]) rfl rfl (A1 rfl (A1 rfl (A1 rfl B5))) ((I4 hx7).frz)<|qm rfl<|es (ra4 rfl rfl rfl rfl)<|wi h rfl (fun hc8 h=>?_) fun hc8 h=>?_
    ·refine s0<|A0 (C2 rfl rfl rfl) rfl<|qm rfl<|F0 (C7 (ds:=(A8 (room_plan.mk 0 (Ar5.mk 0 0 0 0 0)))) rfl rfl rfl rfl (C0 rfl) rfl) rfl<|qm rfl<|es (ra3 rfl rfl rfl)<|C6<|InlQ.mk trivial ⟨_,_,_,[(.lit (.pointer none)),(.agg (A8 (room_plan.mk 0 (Ar5.mk 0 0 0 0 0)))),.i 4],_,(B1 rfl (G0 (E3 (ds:=A8 (room_plan.mk 0 (Ar5.mk 0 0 0 0 0))) rfl rfl rfl rfl) (B1 rfl B9))),(A4 rfl (A4 (I5 rfl) (A4 rfl B8))),(R7 (A3 A5 (A3 (H6 rfl) (A3 A5 B3))) (D2 rfl (D2 rfl (D2 rfl J7))) (I2 _ _ _)),?_⟩
     refine qm rfl<|A0 (A6 rfl rfl) rfl<|A0 (A6 rfl rfl) rfl<|A0 (A6 rfl rfl) rfl<|A0 D6 rfl<|qm rfl<|F0 (C7 (ds:=(A8 (room_plan.mk 0 (Ar5.mk 0 0 0 0 0)))) rfl rfl rfl rfl (C0 rfl) rfl) rfl<|qm rfl<|es (ra4 rfl rfl rfl rfl)<|B6<|s0<|qm rfl<|A0 (F9 (v:=(.b true)) rfl rfl rfl) rfl<|es (ra5 rfl rfl rfl rfl rfl)<|H9 rfl rfl<|s0<|qm rfl<|qm rfl<|qm rfl<|es (ra2 rfl rfl)<|C6 ?_
     obtain rfl:=os h
     exact retq trivial (B1 rfl (B1 rfl B9)) (A4 rfl (A4 rfl B8)) (A3 G7 (A3 A5 B3))
    ·refine C1<|s0<|A0 (C4 rfl) rfl<|A0 (C3 rfl rfl rfl) rfl<|A0 (C4 rfl) rfl<|F0 (C7 (ds:=(A8 (room_plan.mk a1.Lit (Ar5.mk 0 0 0 0 0)))) rfl rfl rfl rfl (C0 rfl) rfl) rfl<|es (ra3 rfl rfl rfl)<|B6<|s0<|A0 (C4 rfl) rfl<|A0 (C3 rfl rfl rfl) rfl<|A0 (D8 (f:=cI) rfl) rfl<|qm rfl<|es (ra6 rfl rfl rfl rfl rfl rfl)<|C5<|oB h fun o19 ho19 h=>wl (fun s9=>[(3,(.ptr (H.length + 4) 0)),(4,(.ptr (H.length + 7) 0)),(5,(.ptr (H.length + 5) 0)),(51,(.seq 1 (List.map cI a1.At))),(52,(.i (List.length a1.At:Int))),(53,.i s9.1)]) (fun (q10:Unit) s9=>[(.cells (A2 a0)),(.cells (B2 a1)),.dead,(.cells (A2 a0)),(.cells (B2 a1)),(.cells (A8 s9.2)),(.cells (A2 a0)),(.cells [.i a0.Weather.Lo,.i a0.Weather.Hi,.i a0.Stoves,(.seq 1 (List.map cI a0.Holds)),(.seq 4 (List.map B7 a0.Places)),(.seq 6 (List.map A9 a0.Figures)),(.seq 1 (List.map cI a0.Bill)),(.xseq 2 [[.b false,(.fn (.func 112) [] [])],[.b true,(.fn (.func 113) [] [])]])])]) 8 (fun r e s' H'=>(match r with | (.inl v)=>PX 1 [(4,(.ptr (H.length + 7) 0)),(5,(.ptr (H.length + 5) 0))] (H++[(.cells (A2 a0)),(.cells (B2 a1)),.dead,(.cells (A2 a0)),(.cells (B2 a1)),(.cells (A8 v)),(.cells (A2 a0)),(.cells [.i a0.Weather.Lo,.i a0.Weather.Hi,.i a0.Stoves,(.seq 1 (List.map cI a0.Holds)),(.seq 4 (List.map B7 a0.Places)),(.seq 6 (List.map A9 a0.Figures)),(.seq 1 (List.map cI a0.Bill)),(.xseq 2 [[.b false,(.fn (.func 112) [] [])],[.b true,(.fn (.func 113) [] [])]])])]) e s' H' | (.inr v)=>e = .ret∧s' = [(4,(.lit (.pointer none))),(5,(.ptr (H.length + 5) 0)),(6,.i 5)]∧H' = (H++[(.cells (A2 a0)),(.cells (B2 a1)),.dead,(.cells (A2 a0)),(.cells (B2 a1)),(.cells (A8 (room_plan.mk 0 (Ar5.mk 0 0 0 0 0)))),(.cells (A2 a0)),(.cells [.i a0.Weather.Lo,.i a0.Weather.Hi,.i a0.Stoves,(.seq 1 (List.map cI a0.Holds)),(.seq 4 (List.map B7 a0.Places)),(.seq 6 (List.map A9 a0.Figures)),(.seq 1 (List.map cI a0.Bill)),(.xseq 2 [[.b false,(.fn (.func 112) [] [])],[.b true,(.fn (.func 113) [] [])]])])]):Prop)) () ho19 rfl rfl (fun _ _=>rfl) (fun _=>rfl) rfl (fun s9=>(bdc (D4 rfl) (bdc (D4 rfl) (bdc (D4 rfl) (bdc G7 (bdc A5 (bdc A5 bdn))))))) (fun q10 s9 ys9 hs9=>?_) ?_
     ·unfold Z3 at hs9
      refine s0<|A0 (F8 rfl rfl) rfl<|es (ra7 rfl rfl rfl rfl rfl rfl rfl)<|B6<|wi hs9 rfl (fun hc11 hs9=>?_) fun hc11 hs9=>?_
      ·refine C1<|B6<|C5<|s0<|oB hs9 fun x12 hx12 hs9=>qm rfl<|A0 (E6 (f:=cI) rfl rfl hx12) rfl<|A0 (E9 rfl rfl) rfl<|qm rfl<|qm rfl<|es (ra8 rfl rfl rfl rfl rfl rfl rfl rfl)<|B6<|s0<|oB hs9 fun x16 hx16 hs9=>qm rfl<|A0 (G2 rfl rfl) rfl<|qm rfl<|gp 7 67 (.b x16) 60 rfl rfl (fun hg13=>?_) (fun hg13=>?_) ?_
       ·refine oB (bt hx16 hg13) fun x14 hx14 hx16=>oB hx16 fun x15 hx15 hx16=>?_
        obtain rfl:=os hx16
        exact gT rfl hg13<|A0 (C4 rfl) rfl<|gT rfl hg13<|A0 (C3 rfl rfl rfl) rfl<|gT rfl hg13<|qm rfl<|gT rfl hg13<|A0 (B0p (f:=cI) rfl rfl rfl hx14) rfl<|gT rfl hg13<|qm rfl<|gT rfl hg13<|B4 (rs:=[.b x15]) rfl rfl (A1 rfl (A1 rfl B5)) ((A0e hx15).frz)<|A0 (D0 rfl hg13 rfl) rfl<|ge 7 rfl rfl rfl
       ·obtain rfl:=os (bf hx16 hg13)
        exact nT rfl hg13 rfl<|nT rfl hg13 rfl<|nT rfl hg13 rfl<|nT rfl hg13 rfl<|nT rfl hg13 rfl<|I0 (F2 rfl (by rw [hg13]; rfl)) rfl<|A0 (D1 rfl hg13 rfl) rfl<|ge 7 rfl rfl rfl
       refine es (ra9 rfl rfl rfl rfl rfl rfl rfl rfl rfl)<|wi hs9 rfl (fun hc17 hs9=>?_) fun hc17 hs9=>?_
       ·refine s0<|A0 (G6 (cs:=A8 (room_plan.mk 0 (Ar5.mk 0 0 0 0 0))) rfl rfl) rfl<|qm rfl<|F0 (C7 (ds:=(A8 (room_plan.mk 0 (Ar5.mk 0 0 0 0 0)))) rfl rfl rfl rfl (C0 rfl) rfl) rfl<|qm rfl<|es (ra3 rfl rfl rfl)<|C6 ?_
        obtain rfl:=os hs9
        exact lx rfl (And.intro rfl (And.intro rfl rfl)) (su3 rfl rfl rfl)
       ·refine C1<|r0<|oB hs9 fun x18 hx18 hs9=>qm rfl<|qm rfl<|A0 (E1 rfl rfl) rfl<|A0 (C4 rfl) rfl<|A0 (Y7 (e:=Ar5.l s9.2.at_) rfl rfl rfl hx18) rfl<|F0 (B0q (f:=cI) (e:=Ar5.l s9.2.at_) (e2:=Ar5.l (Ar5.set s9.2.at_ s9.1 (w64 (x12 + 1)))) (z:=(w64 (x12 + 1))) (ds:=(A8 (room_plan.mk s9.2.lit_ (Ar5.set s9.2.at_ s9.1 (w64 (x12 + 1)))))) rfl rfl rfl rfl rfl rfl (fun _=>rfl) hx18 (Ar5.set_l hx18) rfl (C0 rfl)) rfl<|en (ra6 rfl rfl rfl rfl rfl rfl)<|r0<|A0 (E1 rfl rfl) rfl<|qm rfl<|en (ra6 rfl rfl rfl rfl rfl rfl) ?_
        cases hs9
        exact lnT () rfl (su6 rfl rfl rfl rfl rfl rfl)
      ·refine E4 ?_
       obtain rfl:=os hs9
       exact lx rfl px (su2 rfl rfl)
     ·rcases o19 with vo19_0 | vo19_1
      ·rintro e s' H' - ⟨rfl,rfl,rfl⟩
       refine s0<|qm rfl<|A0 (C2 rfl rfl rfl) rfl<|qm rfl<|F0 (C7 (ds:=(A8 vo19_0)) rfl rfl rfl rfl (C0 rfl) rfl) rfl<|qm rfl<|es (ra3 rfl rfl rfl)<|C6<|InlQ.mk trivial ⟨_,_,_,[(.ptr (H.length + 7) 0),(.agg (A8 vo19_0)),.i 0],_,(B1 rfl (G0 (E3 (ds:=A8 vo19_0) rfl rfl rfl rfl) (B1 rfl B9))),(A4 rfl (A4 (I5 rfl) (A4 rfl B8))),(Y5 (O0 (Y3 rfl)) (D2 rfl (D2 rfl (D2 rfl J7)))),?_⟩
       refine qm rfl<|A0 (A6 rfl rfl) rfl<|A0 (A6 rfl rfl) rfl<|A0 (A6 rfl rfl) rfl<|A0 D6 rfl<|qm rfl<|F0 (C7 (ds:=(A8 vo19_0)) rfl rfl rfl rfl (C0 rfl) rfl) rfl<|qm rfl<|es (ra4 rfl rfl rfl rfl)<|B6<|s0<|qm rfl<|A0 (F9 (v:=(.b false)) rfl rfl rfl) rfl<|es (ra5 rfl rfl rfl rfl rfl)<|Q9 rfl rfl<|C1<|sg 8 rfl<|oB h fun x20 hx20 h=>qm rfl<|A0 (C4 rfl) rfl<|A0 (E3 (ds:=(N6 cI) vo19_0.at_) rfl rfl rfl rfl) rfl<|B4 (rs:=[(.agg ((A5y cI) x20))]) rfl rfl (A1 rfl (A1 (C8 rfl) B5)) ((A7t (D9 rfl) hx20).frz)<|A0 D6 rfl<|F0 (C7 (ds:=((A5y cI) x20)) rfl rfl rfl rfl (C0 rfl) rfl) rfl<|es (ra2 rfl rfl)<|s0<|oB h fun x21 hx21 h=>A0 (C4 rfl) rfl<|A0 (C3 rfl rfl rfl) rfl<|A0 (D8 (f:=cI) rfl) rfl<|A0 (D54 (e:=Ar4.l x20) (m':=x21) rfl (D9 rfl) rfl rfl rfl hx21) rfl<|Q0 (as2:=[(.csl (H.length + 8) 0 1 (List.length x21))]) (H1:=(H++[(.cells (A2 a0)),(.cells (B2 a1)),(.cells (A8 vo19_0)),(.cells (A2 a0)),(.cells (B2 a1)),(.cells (A8 vo19_0)),(.cells (A2 a0)),(.cells [.i a0.Weather.Lo,.i a0.Weather.Hi,.i a0.Stoves,(.seq 1 (List.map cI a0.Holds)),(.seq 4 (List.map B7 a0.Places)),(.seq 6 (List.map A9 a0.Figures)),(.seq 1 (List.map cI a0.Bill)),(.xseq 2 [[.b false,(.fn (.func 112) [] [])],[.b true,(.fn (.func 113) [] [])]])]),(.cells ((A5y cI) x20))])) rfl rfl (A1 rfl B5) rfl rfl rfl (W8 rfl)<|s0<|qm rfl<|es (ra1 rfl)<|B6<|s0<|qm rfl<|A0 (D75 rfl) rfl<|es (ra2 rfl rfl)<|Q9 rfl rfl<|C1<|sg 9 rfl<|oB h fun x22 hx22 h=>A0 (A2m (rows:=List.map cI []) rfl rfl (E2 (fun _=>rfl) _)) rfl<|qm rfl<|A5a (B6j (f:=cI) rfl rfl rfl rfl (D86 (f:=cI) (e:=Ar4.l x20) (p:=Int.toNat (List.length a0.Holds:Int)) (D9 rfl) rfl rfl (fun _=>rfl) (slc0 hx21) rfl) (fun _=>rfl) hx22) rfl<|qm rfl<|es (ra1 rfl)<|C6<|InlQ.mk trivial ⟨_,_,_,[(.seq 1 (List.map cI x22))],_,(B1 rfl B9),(A4 rfl B8),(R7 (A3 G7 B3) (D2 rfl J7) (I2 _ _ _)),?_⟩
       refine qm rfl<|qm rfl<|es (ra2 rfl rfl)<|C6 ?_
       obtain rfl:=os h
       exact retq trivial (B1 rfl (B1 rfl B9)) (A4 rfl (A4 rfl B8)) (A3 G7 (A3 A5 B3))
      ·rintro e s' H' - ⟨rfl,rfl,rfl⟩
       refine InlQ.mk trivial ⟨_,_,_,[(.lit (.pointer none)),(.agg (A8 (room_plan.mk 0 (Ar5.mk 0 0 0 0 0)))),.i 5],_,(B1 rfl (G0 (E3 (ds:=A8 (room_plan.mk 0 (Ar5.mk 0 0 0 0 0))) rfl rfl rfl rfl) (B1 rfl B9))),(A4 rfl (A4 (I5 rfl) (A4 rfl B8))),(R7 (A3 A5 (A3 (H6 rfl) (A3 A5 B3))) (D2 rfl (D2 rfl (D2 rfl J7))) (I2 _ _ _)),?_⟩
       refine qm rfl<|A0 (A6 rfl rfl) rfl<|A0 (A6 rfl rfl) rfl<|A0 (A6 rfl rfl) rfl<|A0 D6 rfl<|qm rfl<|F0 (C7 (ds:=(A8 (room_plan.mk 0 (Ar5.mk 0 0 0 0 0)))) rfl rfl rfl rfl (C0 rfl) rfl) rfl<|qm rfl<|es (ra4 rfl rfl rfl rfl)<|B6<|s0<|qm rfl<|A0 (F9 (v:=(.b true)) rfl rfl rfl) rfl<|es (ra5 rfl rfl rfl rfl rfl)<|H9 rfl rfl<|s0<|qm rfl<|qm rfl<|qm rfl<|es (ra2 rfl rfl)<|C6 ?_
       obtain rfl:=os h
       exact retq trivial (B1 rfl (B1 rfl B9)) (A4 rfl (A4 rfl B8)) (A3 G7 (A3 A5 B3))
def B3j (a1:RoPlan) (s9:(Int × room_plan)):Option ((Int × room_plan) ⊕ (room_plan ⊕ Unit)) :=
 if (decide (s9.1 < (List.length a1.At:Int))) = true then
  (idx a1.At s9.1).bind fun x12 =>
  (if (x12 != (-1)) = true then
  (slc a1.At 0 s9.1).bind fun x14 =>
  (M4 x14 x12).bind fun x15 =>
  some x15
  else
  some false).bind fun x16 =>
  if x16 = true then
  some (.inr (.inr ()))
  else
  (idx (Ar5.l s9.2.at_) s9.1).bind fun x18 =>
  some (.inl ((w64 (s9.1 + 1)),(room_plan.mk s9.2.lit_ (Ar5.set s9.2.at_ s9.1 (w64 (x12 + 1))))))
 else
  some (.inr (.inl s9.2))
def A6h (a0:RoHouse) (vo19_0:room_plan) (s20:Int):Option (Int ⊕ (Unit ⊕ Unit)) :=
 if (decide (s20 < 5)) = true then
  (idx (Ar5.l vo19_0.at_) s20).bind fun x23 =>
  (if (decide (x23 > 0)) = true then
  (O9 (room_house.mk a0) s20 (w64 (x23 - 1)) vo19_0.lit_).bind fun x25 =>
  some (x25 != 1)
  else
  some false).bind fun x26 =>
  if x26 = true then
  some (.inr (.inr ()))
  else
  some (.inl (w64 (s20 + 1)))
 else
  some (.inr (.inl ()))
def A0h (a0:RoHouse) (vo19_0:room_plan) (s31:(Int × Int × Int)):Option ((Int × Int × Int) ⊕ (Int × Int)) :=
 if (decide (s31.2.2 < 5)) = true then
  (idx (Ar5.l vo19_0.at_) s31.2.2).bind fun x34 =>
  if (x34 == 0) = true then
  some (.inl (s31.1,s31.2.1,(w64 (s31.2.2 + 1))))
  else
  (T1 (room_house.mk a0) (w64 (x34 - 1)) vo19_0.lit_).bind fun x36 =>
  (idx a0.Figures s31.2.2).bind fun x37 =>
  if ((decide (s31.1 < 0)) || (decide ((A3a (w64 (x36.Lo - x37.Cracks)) (w64 (x37.Slumps - x36.Hi))) < s31.2.1))) = true then
   some (.inl (s31.2.2,(A3a (w64 (x36.Lo - x37.Cracks)) (w64 (x37.Slumps - x36.Hi))),(w64 (s31.2.2 + 1))))
  else
   some (.inl (s31.1,s31.2.1,(w64 (s31.2.2 + 1))))
 else
  some (.inr (s31.1,s31.2.1))
def A3u (a0:RoHouse) (a1:RoPlan):Option (Int × Int × Int) :=
 (R0 a0).bind fun x1 =>
 if (x1.2.2 != 0) = true then
  some (0,0,x1.2.2)
 else
  (B4g .i64 1 a0.Stoves).bind fun x3 =>
  (H7 0 (w64 (x3 - 1)) [a1.Lit]).bind fun x4 =>
  if x4 = true then
  some (0,0,7)
  else
  if ((List.length a1.At:Int) != (List.length a0.Figures:Int)) = true then
   some (0,0,3)
  else
   (H7 (-1) (w64 ((List.length a0.Places:Int) - 1)) a1.At).bind fun x7 =>
   if x7 = true then
   some (0,0,4)
   else
   (loop (B3j a1) (0,(room_plan.mk a1.Lit (Ar5.mk 0 0 0 0 0)))).bind fun (o19:(room_plan ⊕ Unit)) =>
   match o19 with
   | (.inl vo19_0) =>
    (loop (A6h a0 vo19_0) 0).bind fun (o28:(Unit ⊕ Unit)) =>
    match o28 with
    | (.inl vo28_0) =>
    (N1 (room_house.mk a0) vo19_0.at_ true).bind fun x29 =>
    if (!x29) = true then
     some (0,0,9)
    else
     (loop (A0h a0 vo19_0) ((-1),0,0)).bind fun (o40:(Int × Int)) =>
     if (decide (o40.1 < 0)) = true then
     some (0,0,4)
     else
     some (o40.1,o40.2,0)
    | (.inr vo28_1) =>
    some (0,0,9)
   | (.inr vo19_1) =>
    some (0,0,5)
theorem A8v {c:Sc} {H:A7} {a0:RoHouse} {a1:RoPlan} {r:(Int × Int × Int)} (h:A3u a0 a1 = some r) :
  F1 tab c H (.fn (.func 29) [] []) [(.agg (A2 a0)),(.agg (B2 a1))] [.i r.1,.i r.2.1,.i r.2.2]:= by
 unfold A3u at h
 refine cE rfl rfl<|sg 0 rfl<|A0 (F3 (cs:=A2 a0) rfl rfl rfl) rfl<|A0 (F3 (cs:=B2 a1) rfl rfl rfl) rfl<|qm rfl<|qm rfl<|qm rfl<|es (ra3 rfl rfl rfl)<|sg 2 rfl<|A0 (C2 rfl rfl rfl) rfl<|A0 (C2 rfl rfl rfl) rfl<|Q0 (as2:=[(.agg (A2 a0)),(.agg (B2 a1))]) (H1:=(H++[(.cells (A2 a0)),(.cells (B2 a1)),.dead])) rfl rfl (A1 (C8 rfl) (A1 (C8 rfl) B5)) rfl rfl rfl (W8 rfl)<|sg 3 rfl<|A0 (F3 (cs:=A2 a0) rfl rfl rfl) rfl<|A0 (F3 (cs:=B2 a1) rfl rfl rfl) rfl<|qm rfl<|A0 D6 rfl<|qm rfl<|es (ra3 rfl rfl rfl)<|sg 6 rfl<|A0 (C2 rfl rfl rfl) rfl<|A0 (C2 rfl rfl rfl) rfl<|Q0 (as2:=[(.agg (A2 a0)),(.agg (B2 a1))]) (H1:=(H++[(.cells (A2 a0)),(.cells (B2 a1)),.dead,(.cells (A2 a0)),(.cells (B2 a1)),(.cells (A8 (room_plan.mk 0 (Ar5.mk 0 0 0 0 0)))),.dead])) rfl rfl (A1 (C8 rfl) (A1 (C8 rfl) B5)) rfl rfl rfl (W8 rfl)<|sg 7 rfl<|A0 (F3 (cs:=A2 a0) rfl rfl rfl) rfl<|A0 (F3 (cs:=B2 a1) rfl rfl rfl) rfl<|qm rfl<|A0 D6 rfl<|qm rfl<|es (ra3 rfl rfl rfl)<|s0<|A0 (C2 rfl rfl rfl) rfl<|Q0 (as2:=[(.agg (A2 a0))]) (H1:=(H++[(.cells (A2 a0)),(.cells (B2 a1)),.dead,(.cells (A2 a0)),(.cells (B2 a1)),(.cells (A8 (room_plan.mk 0 (Ar5.mk 0 0 0 0 0)))),.dead,(.cells (A2 a0)),(.cells (B2 a1)),(.cells (A8 (room_plan.mk 0 (Ar5.mk 0 0 0 0 0))))])) rfl rfl (A1 (C8 rfl) B5) rfl rfl rfl (W8 rfl)<|sg 10 rfl<|A0 (F3 (cs:=A2 a0) rfl rfl rfl) rfl<|qm rfl<|qm rfl<|es (ra1 rfl)<|s0<|oB h fun x1 hx1 h=>A0 (C2 rfl rfl rfl) rfl<|B4 (rs:=[.i x1.1,.i x1.2.1,.i x1.2.2]) rfl rfl (A1 (C8 rfl) B5) ((R9 hx1).frz)<|qm rfl<|A0 (A6 rfl rfl) rfl<|A0 (A6 rfl rfl) rfl<|A0 (A6 rfl rfl) rfl<|qm rfl<|qm rfl<|qm rfl<|es (ra2 rfl rfl)<|sg 11 rfl<|A0 (C2 rfl rfl rfl) rfl<|A0 (G6 (cs:=[.b false,(.fn (.func 112) [] [])]) rfl rfl) rfl<|A0 (G6 (cs:=[.b true,(.fn (.func 113) [] [])]) rfl rfl) rfl<|A0 (A7w (rows:=[[.b false,(.fn (.func 112) [] [])],[.b true,(.fn (.func 113) [] [])]]) rfl rfl) rfl<|A0 (G6 (cs:=[.i a0.Weather.Lo,.i a0.Weather.Hi,.i a0.Stoves,(.seq 1 (List.map cI a0.Holds)),(.seq 4 (List.map B7 a0.Places)),(.seq 6 (List.map A9 a0.Figures)),(.seq 1 (List.map cI a0.Bill)),(.xseq 2 [[.b false,(.fn (.func 112) [] [])],[.b true,(.fn (.func 113) [] [])]])]) rfl rfl) rfl<|A0 (F3 (cs:=[.i a0.Weather.Lo,.i a0.Weather.Hi,.i a0.Stoves,(.seq 1 (List.map cI a0.Holds)),(.seq 4 (List.map B7 a0.Places)),(.seq 6 (List.map A9 a0.Figures)),(.seq 1 (List.map cI a0.Bill)),(.xseq 2 [[.b false,(.fn (.func 112) [] [])],[.b true,(.fn (.func 113) [] [])]])]) rfl rfl rfl) rfl<|qm rfl<|qm rfl<|qm rfl<|es (ra2 rfl rfl) ?_
 refine C6<|InlQ.mk trivial ⟨_,_,_,[(.ptr (H.length + 11) 0),.i x1.2.2],_,(B1 rfl (B1 rfl B9)),(A4 rfl (A4 rfl B8)),(Y5 (O0 (Y3 rfl)) (D2 rfl (D2 rfl J7))),?_⟩
 refine qm rfl<|A0 (A6 rfl rfl) rfl<|A0 (A6 rfl rfl) rfl<|qm rfl<|qm rfl<|es (ra5 rfl rfl rfl rfl rfl)<|B6<|C5<|s0<|qm rfl<|A0 (G2 rfl rfl) rfl<|qm rfl<|es (ra6 rfl rfl rfl rfl rfl rfl)<|wi h rfl (fun hc2 h=>?_) fun hc2 h=>?_
 ·refine s0<|A0 (C2 rfl rfl rfl) rfl<|qm rfl<|F0 (C7 (ds:=(A8 (room_plan.mk 0 (Ar5.mk 0 0 0 0 0)))) rfl rfl rfl rfl (C0 rfl) rfl) rfl<|qm rfl<|qm rfl<|es (ra3 rfl rfl rfl)<|C6<|InlQ.mk trivial ⟨_,_,_,[(.lit (.pointer none)),(.agg (A8 (room_plan.mk 0 (Ar5.mk 0 0 0 0 0)))),.i x1.2.2],_,(B1 rfl (G0 (E3 (ds:=A8 (room_plan.mk 0 (Ar5.mk 0 0 0 0 0))) rfl rfl rfl rfl) (B1 rfl B9))),(A4 rfl (A4 (I5 rfl) (A4 rfl B8))),(R7 (A3 A5 (A3 (H6 rfl) (A3 A5 B3))) (D2 rfl (D2 rfl (D2 rfl J7))) (I2 _ _ _)),?_⟩
  refine qm rfl<|A0 (A6 rfl rfl) rfl<|A0 (A6 rfl rfl) rfl<|A0 (A6 rfl rfl) rfl<|A0 D6 rfl<|qm rfl<|F0 (C7 (ds:=(A8 (room_plan.mk 0 (Ar5.mk 0 0 0 0 0)))) rfl rfl rfl rfl (C0 rfl) rfl) rfl<|qm rfl<|es (ra4 rfl rfl rfl rfl)<|B6<|s0<|qm rfl<|A0 (G2 rfl rfl) rfl<|es (ra5 rfl rfl rfl rfl rfl)<|H9 rfl hc2<|s0<|A0 (C2 rfl rfl rfl) rfl<|qm rfl<|F0 (C7 (ds:=(A8 (room_plan.mk 0 (Ar5.mk 0 0 0 0 0)))) rfl rfl rfl rfl (C0 rfl) rfl) rfl<|qm rfl<|qm rfl<|es (ra3 rfl rfl rfl)<|C6<|InlQ.mk trivial ⟨_,_,_,[(.lit (.pointer none)),(.agg (A8 (room_plan.mk 0 (Ar5.mk 0 0 0 0 0)))),.i x1.2.2],_,(B1 rfl (G0 (E3 (ds:=A8 (room_plan.mk 0 (Ar5.mk 0 0 0 0 0))) rfl rfl rfl rfl) (B1 rfl B9))),(A4 rfl (A4 (I5 rfl) (A4 rfl B8))),(R7 (A3 A5 (A3 (H6 rfl) (A3 A5 B3))) (D2 rfl (D2 rfl (D2 rfl J7))) (I2 _ _ _)),?_⟩
  refine qm rfl<|A0 (A6 rfl rfl) rfl<|A0 (A6 rfl rfl) rfl<|A0 (A6 rfl rfl) rfl<|A0 D6 rfl<|qm rfl<|F0 (C7 (ds:=(A8 (room_plan.mk 0 (Ar5.mk 0 0 0 0 0)))) rfl rfl rfl rfl (C0 rfl) rfl) rfl<|qm rfl<|es (ra4 rfl rfl rfl rfl)<|B6<|s0<|qm rfl<|A0 (G2 rfl rfl) rfl<|es (ra5 rfl rfl rfl rfl rfl)<|H9 rfl hc2<|s0<|qm rfl<|qm rfl<|qm rfl<|qm rfl<|es (ra3 rfl rfl rfl)<|C6 ?_
  obtain rfl:=os h
  exact retq trivial (B1 rfl (B1 rfl (B1 rfl B9))) (A4 rfl (A4 rfl (A4 rfl B8))) (A3 A5 (A3 A5 (A3 A5 B3)))
 ·refine s0<|oB h fun x3 hx3 h=>oB h fun x4 hx4 h=>A0 (C4 rfl) rfl<|A0 (C3 rfl rfl rfl) rfl<|A0 (B6k rfl rfl hx3) rfl<|A0 (U8 rfl rfl) rfl<|A0 (C4 rfl) rfl<|A0 (C3 rfl rfl rfl) rfl<|A0 (J5 (rows:=List.map cI [a1.Lit]) rfl rfl (E2 (fun _=>rfl) _)) rfl<|B4 (rs:=[.b x4]) rfl rfl (A1 rfl (A1 rfl (A1 rfl B5))) ((I4 hx4).frz)<|qm rfl<|es (ra5 rfl rfl rfl rfl rfl)<|wi h rfl (fun hc5 h=>?_) fun hc5 h=>?_
  ·refine s0<|A0 (C2 rfl rfl rfl) rfl<|qm rfl<|F0 (C7 (ds:=(A8 (room_plan.mk 0 (Ar5.mk 0 0 0 0 0)))) rfl rfl rfl rfl (C0 rfl) rfl) rfl<|qm rfl<|es (ra3 rfl rfl rfl)<|C6<|InlQ.mk trivial ⟨_,_,_,[(.lit (.pointer none)),(.agg (A8 (room_plan.mk 0 (Ar5.mk 0 0 0 0 0)))),.i 7],_,(B1 rfl (G0 (E3 (ds:=A8 (room_plan.mk 0 (Ar5.mk 0 0 0 0 0))) rfl rfl rfl rfl) (B1 rfl B9))),(A4 rfl (A4 (I5 rfl) (A4 rfl B8))),(R7 (A3 A5 (A3 (H6 rfl) (A3 A5 B3))) (D2 rfl (D2 rfl (D2 rfl J7))) (I2 _ _ _)),?_⟩
   refine qm rfl<|A0 (A6 rfl rfl) rfl<|A0 (A6 rfl rfl) rfl<|A0 (A6 rfl rfl) rfl<|A0 D6 rfl<|qm rfl<|F0 (C7 (ds:=(A8 (room_plan.mk 0 (Ar5.mk 0 0 0 0 0)))) rfl rfl rfl rfl (C0 rfl) rfl) rfl<|qm rfl<|es (ra4 rfl rfl rfl rfl)<|B6<|s0<|qm rfl<|A0 (F9 (v:=(.b true)) rfl rfl rfl) rfl<|es (ra5 rfl rfl rfl rfl rfl)<|H9 rfl rfl<|s0<|A0 (C2 rfl rfl rfl) rfl<|qm rfl<|F0 (C7 (ds:=(A8 (room_plan.mk 0 (Ar5.mk 0 0 0 0 0)))) rfl rfl rfl rfl (C0 rfl) rfl) rfl<|qm rfl<|qm rfl<|es (ra3 rfl rfl rfl)<|C6<|InlQ.mk trivial ⟨_,_,_,[(.lit (.pointer none)),(.agg (A8 (room_plan.mk 0 (Ar5.mk 0 0 0 0 0)))),.i 7],_,(B1 rfl (G0 (E3 (ds:=A8 (room_plan.mk 0 (Ar5.mk 0 0 0 0 0))) rfl rfl rfl rfl) (B1 rfl B9))),(A4 rfl (A4 (I5 rfl) (A4 rfl B8))),(R7 (A3 A5 (A3 (H6 rfl) (A3 A5 B3))) (D2 rfl (D2 rfl (D2 rfl J7))) (I2 _ _ _)),?_⟩
   refine qm rfl<|A0 (A6 rfl rfl) rfl<|A0 (A6 rfl rfl) rfl<|A0 (A6 rfl rfl) rfl<|A0 D6 rfl<|qm rfl<|F0 (C7 (ds:=(A8 (room_plan.mk 0 (Ar5.mk 0 0 0 0 0)))) rfl rfl rfl rfl (C0 rfl) rfl) rfl<|qm rfl<|es (ra4 rfl rfl rfl rfl)<|B6<|s0<|qm rfl<|A0 (F9 (v:=(.b true)) rfl rfl rfl) rfl<|es (ra5 rfl rfl rfl rfl rfl)<|H9 rfl rfl<|s0<|qm rfl<|qm rfl<|qm rfl<|qm rfl<|es (ra3 rfl rfl rfl)<|C6 ?_
   obtain rfl:=os h
   exact retq trivial (B1 rfl (B1 rfl (B1 rfl B9))) (A4 rfl (A4 rfl (A4 rfl B8))) (A3 A5 (A3 A5 (A3 A5 B3)))
  ·refine s0<|A0 (C4 rfl) rfl<|A0 (C3 rfl rfl rfl) rfl<|A0 (D8 (f:=cI) rfl) rfl<|A0 (C4 rfl) rfl<|A0 (C3 rfl rfl rfl) rfl<|A0 (D8 (f:=A9) rfl) rfl<|A0 (G2 rfl rfl) rfl<|qm rfl<|es (ra5 rfl rfl rfl rfl rfl)<|wi h rfl (fun hc6 h=>?_) fun hc6 h=>?_
   ·refine s0<|A0 (C2 rfl rfl rfl) rfl<|qm rfl<|F0 (C7 (ds:=(A8 (room_plan.mk 0 (Ar5.mk 0 0 0 0 0)))) rfl rfl rfl rfl (C0 rfl) rfl) rfl<|qm rfl<|es (ra3 rfl rfl rfl)<|C6<|InlQ.mk trivial ⟨_,_,_,[(.lit (.pointer none)),(.agg (A8 (room_plan.mk 0 (Ar5.mk 0 0 0 0 0)))),.i 3],_,(B1 rfl (G0 (E3 (ds:=A8 (room_plan.mk 0 (Ar5.mk 0 0 0 0 0))) rfl rfl rfl rfl) (B1 rfl B9))),(A4 rfl (A4 (I5 rfl) (A4 rfl B8))),(R7 (A3 A5 (A3 (H6 rfl) (A3 A5 B3))) (D2 rfl (D2 rfl (D2 rfl J7))) (I2 _ _ _)),?_⟩
    refine qm rfl<|A0 (A6 rfl rfl) rfl<|A0 (A6 rfl rfl) rfl<|A0 (A6 rfl rfl) rfl<|A0 D6 rfl<|qm rfl<|F0 (C7 (ds:=(A8 (room_plan.mk 0 (Ar5.mk 0 0 0 0 0)))) rfl rfl rfl rfl (C0 rfl) rfl) rfl<|qm rfl<|es (ra4 rfl rfl rfl rfl)<|B6<|s0<|qm rfl<|A0 (F9 (v:=(.b true)) rfl rfl rfl) rfl<|es (ra5 rfl rfl rfl rfl rfl)<|H9 rfl rfl<|s0<|A0 (C2 rfl rfl rfl) rfl<|qm rfl<|F0 (C7 (ds:=(A8 (room_plan.mk 0 (Ar5.mk 0 0 0 0 0)))) rfl rfl rfl rfl (C0 rfl) rfl) rfl<|qm rfl<|qm rfl<|es (ra3 rfl rfl rfl)<|C6<|InlQ.mk trivial ⟨_,_,_,[(.lit (.pointer none)),(.agg (A8 (room_plan.mk 0 (Ar5.mk 0 0 0 0 0)))),.i 3],_,(B1 rfl (G0 (E3 (ds:=A8 (room_plan.mk 0 (Ar5.mk 0 0 0 0 0))) rfl rfl rfl rfl) (B1 rfl B9))),(A4 rfl (A4 (I5 rfl) (A4 rfl B8))),(R7 (A3 A5 (A3 (H6 rfl) (A3 A5 B3))) (D2 rfl (D2 rfl (D2 rfl J7))) (I2 _ _ _)),?_⟩
    refine qm rfl<|A0 (A6 rfl rfl) rfl<|A0 (A6 rfl rfl) rfl<|A0 (A6 rfl rfl) rfl<|A0 D6 rfl<|qm rfl<|F0 (C7 (ds:=(A8 (room_plan.mk 0 (Ar5.mk 0 0 0 0 0)))) rfl rfl rfl rfl (C0 rfl) rfl) rfl<|qm rfl<|es (ra4 rfl rfl rfl rfl)<|B6<|s0<|qm rfl<|A0 (F9 (v:=(.b true)) rfl rfl rfl) rfl<|es (ra5 rfl rfl rfl rfl rfl)<|H9 rfl rfl<|s0<|qm rfl<|qm rfl<|qm rfl<|qm rfl<|es (ra3 rfl rfl rfl)<|C6 ?_
    obtain rfl:=os h
    exact retq trivial (B1 rfl (B1 rfl (B1 rfl B9))) (A4 rfl (A4 rfl (A4 rfl B8))) (A3 A5 (A3 A5 (A3 A5 B3)))
   ·refine s0<|oB h fun x7 hx7 h=>A0 (C4 rfl) rfl<|A0 (C3 rfl rfl rfl) rfl<|A0 (D8 (f:=B7) rfl) rfl<|A0 (U8 rfl rfl) rfl<|A0 (C4 rfl) rfl<|A0 (C3 rfl rfl rfl) rfl<|B4 (rs:=[.b x7]) rfl rfl (A1 rfl (A1 rfl (A1 rfl B5))) ((I4 hx7).frz)<|qm rfl<|es (ra4 rfl rfl rfl rfl)<|wi h rfl (fun hc8 h=>?_) fun hc8 h=>?_
    ·refine s0<|A0 (C2 rfl rfl rfl) rfl<|qm rfl<|F0 (C7 (ds:=(A8 (room_plan.mk 0 (Ar5.mk 0 0 0 0 0)))) rfl rfl rfl rfl (C0 rfl) rfl) rfl<|qm rfl<|es (ra3 rfl rfl rfl)<|C6<|InlQ.mk trivial ⟨_,_,_,[(.lit (.pointer none)),(.agg (A8 (room_plan.mk 0 (Ar5.mk 0 0 0 0 0)))),.i 4],_,(B1 rfl (G0 (E3 (ds:=A8 (room_plan.mk 0 (Ar5.mk 0 0 0 0 0))) rfl rfl rfl rfl) (B1 rfl B9))),(A4 rfl (A4 (I5 rfl) (A4 rfl B8))),(R7 (A3 A5 (A3 (H6 rfl) (A3 A5 B3))) (D2 rfl (D2 rfl (D2 rfl J7))) (I2 _ _ _)),?_⟩
     refine qm rfl<|A0 (A6 rfl rfl) rfl<|A0 (A6 rfl rfl) rfl<|A0 (A6 rfl rfl) rfl<|A0 D6 rfl<|qm rfl<|F0 (C7 (ds:=(A8 (room_plan.mk 0 (Ar5.mk 0 0 0 0 0)))) rfl rfl rfl rfl (C0 rfl) rfl) rfl<|qm rfl<|es (ra4 rfl rfl rfl rfl)<|B6<|s0<|qm rfl<|A0 (F9 (v:=(.b true)) rfl rfl rfl) rfl<|es (ra5 rfl rfl rfl rfl rfl)<|H9 rfl rfl<|s0<|A0 (C2 rfl rfl rfl) rfl<|qm rfl<|F0 (C7 (ds:=(A8 (room_plan.mk 0 (Ar5.mk 0 0 0 0 0)))) rfl rfl rfl rfl (C0 rfl) rfl) rfl<|qm rfl<|qm rfl<|es (ra3 rfl rfl rfl)<|C6<|InlQ.mk trivial ⟨_,_,_,[(.lit (.pointer none)),(.agg (A8 (room_plan.mk 0 (Ar5.mk 0 0 0 0 0)))),.i 4],_,(B1 rfl (G0 (E3 (ds:=A8 (room_plan.mk 0 (Ar5.mk 0 0 0 0 0))) rfl rfl rfl rfl) (B1 rfl B9))),(A4 rfl (A4 (I5 rfl) (A4 rfl B8))),(R7 (A3 A5 (A3 (H6 rfl) (A3 A5 B3))) (D2 rfl (D2 rfl (D2 rfl J7))) (I2 _ _ _)),?_⟩
     refine qm rfl<|A0 (A6 rfl rfl) rfl<|A0 (A6 rfl rfl) rfl<|A0 (A6 rfl rfl) rfl<|A0 D6 rfl<|qm rfl<|F0 (C7 (ds:=(A8 (room_plan.mk 0 (Ar5.mk 0 0 0 0 0)))) rfl rfl rfl rfl (C0 rfl) rfl) rfl<|qm rfl<|es (ra4 rfl rfl rfl rfl)<|B6<|s0<|qm rfl<|A0 (F9 (v:=(.b true)) rfl rfl rfl) rfl<|es (ra5 rfl rfl rfl rfl rfl)<|H9 rfl rfl<|s0<|qm rfl<|qm rfl<|qm rfl<|qm rfl<|es (ra3 rfl rfl rfl)<|C6 ?_
     obtain rfl:=os h
     exact retq trivial (B1 rfl (B1 rfl (B1 rfl B9))) (A4 rfl (A4 rfl (A4 rfl B8))) (A3 A5 (A3 A5 (A3 A5 B3)))
    ·refine C1<|s0<|A0 (C4 rfl) rfl<|A0 (C3 rfl rfl rfl) rfl<|A0 (C4 rfl) rfl<|F0 (C7 (ds:=(A8 (room_plan.mk a1.Lit (Ar5.mk 0 0 0 0 0)))) rfl rfl rfl rfl (C0 rfl) rfl) rfl<|es (ra3 rfl rfl rfl)<|B6<|s0<|A0 (C4 rfl) rfl<|A0 (C3 rfl rfl rfl) rfl<|A0 (D8 (f:=cI) rfl) rfl<|qm rfl<|es (ra6 rfl rfl rfl rfl rfl rfl)<|C5<|oB h fun o19 ho19 h=>wl (fun s9=>[(3,(.ptr (H.length + 8) 0)),(4,(.ptr (H.length + 11) 0)),(5,(.ptr (H.length + 9) 0)),(51,(.seq 1 (List.map cI a1.At))),(52,(.i (List.length a1.At:Int))),(53,.i s9.1)]) (fun (q10:Unit) s9=>[(.cells (A2 a0)),(.cells (B2 a1)),.dead,(.cells (A2 a0)),(.cells (B2 a1)),(.cells (A8 (room_plan.mk 0 (Ar5.mk 0 0 0 0 0)))),.dead,(.cells (A2 a0)),(.cells (B2 a1)),(.cells (A8 s9.2)),(.cells (A2 a0)),(.cells [.i a0.Weather.Lo,.i a0.Weather.Hi,.i a0.Stoves,(.seq 1 (List.map cI a0.Holds)),(.seq 4 (List.map B7 a0.Places)),(.seq 6 (List.map A9 a0.Figures)),(.seq 1 (List.map cI a0.Bill)),(.xseq 2 [[.b false,(.fn (.func 112) [] [])],[.b true,(.fn (.func 113) [] [])]])])]) 12 (fun r e s' H'=>(match r with | (.inl v)=>PX 1 [(4,(.ptr (H.length + 11) 0)),(5,(.ptr (H.length + 9) 0))] (H++[(.cells (A2 a0)),(.cells (B2 a1)),.dead,(.cells (A2 a0)),(.cells (B2 a1)),(.cells (A8 (room_plan.mk 0 (Ar5.mk 0 0 0 0 0)))),.dead,(.cells (A2 a0)),(.cells (B2 a1)),(.cells (A8 v)),(.cells (A2 a0)),(.cells [.i a0.Weather.Lo,.i a0.Weather.Hi,.i a0.Stoves,(.seq 1 (List.map cI a0.Holds)),(.seq 4 (List.map B7 a0.Places)),(.seq 6 (List.map A9 a0.Figures)),(.seq 1 (List.map cI a0.Bill)),(.xseq 2 [[.b false,(.fn (.func 112) [] [])],[.b true,(.fn (.func 113) [] [])]])])]) e s' H' | (.inr v)=>e = .ret∧s' = [(4,(.lit (.pointer none))),(5,(.ptr (H.length + 9) 0)),(6,.i 5)]∧H' = (H++[(.cells (A2 a0)),(.cells (B2 a1)),.dead,(.cells (A2 a0)),(.cells (B2 a1)),(.cells (A8 (room_plan.mk 0 (Ar5.mk 0 0 0 0 0)))),.dead,(.cells (A2 a0)),(.cells (B2 a1)),(.cells (A8 (room_plan.mk 0 (Ar5.mk 0 0 0 0 0)))),(.cells (A2 a0)),(.cells [.i a0.Weather.Lo,.i a0.Weather.Hi,.i a0.Stoves,(.seq 1 (List.map cI a0.Holds)),(.seq 4 (List.map B7 a0.Places)),(.seq 6 (List.map A9 a0.Figures)),(.seq 1 (List.map cI a0.Bill)),(.xseq 2 [[.b false,(.fn (.func 112) [] [])],[.b true,(.fn (.func 113) [] [])]])])]):Prop)) () ho19 rfl rfl (fun _ _=>rfl) (fun _=>rfl) rfl (fun s9=>(bdc (D4 rfl) (bdc (D4 rfl) (bdc (D4 rfl) (bdc G7 (bdc A5 (bdc A5 bdn))))))) (fun q10 s9 ys9 hs9=>?_) ?_
     ·unfold B3j at hs9
      refine s0<|A0 (F8 rfl rfl) rfl<|es (ra7 rfl rfl rfl rfl rfl rfl rfl)<|B6<|wi hs9 rfl (fun hc11 hs9=>?_) fun hc11 hs9=>?_
      ·refine C1<|B6<|C5<|s0<|oB hs9 fun x12 hx12 hs9=>qm rfl<|A0 (E6 (f:=cI) rfl rfl hx12) rfl<|A0 (E9 rfl rfl) rfl<|qm rfl<|qm rfl<|es (ra8 rfl rfl rfl rfl rfl rfl rfl rfl)<|B6<|s0<|oB hs9 fun x16 hx16 hs9=>qm rfl<|A0 (G2 rfl rfl) rfl<|qm rfl<|gp 7 67 (.b x16) 60 rfl rfl (fun hg13=>?_) (fun hg13=>?_) ?_
       ·refine oB (bt hx16 hg13) fun x14 hx14 hx16=>oB hx16 fun x15 hx15 hx16=>?_
        obtain rfl:=os hx16
        exact gT rfl hg13<|A0 (C4 rfl) rfl<|gT rfl hg13<|A0 (C3 rfl rfl rfl) rfl<|gT rfl hg13<|qm rfl<|gT rfl hg13<|A0 (B0p (f:=cI) rfl rfl rfl hx14) rfl<|gT rfl hg13<|qm rfl<|gT rfl hg13<|B4 (rs:=[.b x15]) rfl rfl (A1 rfl (A1 rfl B5)) ((A0e hx15).frz)<|A0 (D0 rfl hg13 rfl) rfl<|ge 7 rfl rfl rfl
       ·obtain rfl:=os (bf hx16 hg13)
        exact nT rfl hg13 rfl<|nT rfl hg13 rfl<|nT rfl hg13 rfl<|nT rfl hg13 rfl<|nT rfl hg13 rfl<|I0 (F2 rfl (by rw [hg13]; rfl)) rfl<|A0 (D1 rfl hg13 rfl) rfl<|ge 7 rfl rfl rfl
       refine es (ra9 rfl rfl rfl rfl rfl rfl rfl rfl rfl)<|wi hs9 rfl (fun hc17 hs9=>?_) fun hc17 hs9=>?_
       ·refine s0<|A0 (G6 (cs:=A8 (room_plan.mk 0 (Ar5.mk 0 0 0 0 0))) rfl rfl) rfl<|qm rfl<|F0 (C7 (ds:=(A8 (room_plan.mk 0 (Ar5.mk 0 0 0 0 0)))) rfl rfl rfl rfl (C0 rfl) rfl) rfl<|qm rfl<|es (ra3 rfl rfl rfl)<|C6 ?_
        obtain rfl:=os hs9
        exact lx rfl (And.intro rfl (And.intro rfl rfl)) (su3 rfl rfl rfl)
       ·refine C1<|r0<|oB hs9 fun x18 hx18 hs9=>qm rfl<|qm rfl<|A0 (E1 rfl rfl) rfl<|A0 (C4 rfl) rfl<|A0 (Y7 (e:=Ar5.l s9.2.at_) rfl rfl rfl hx18) rfl<|F0 (B0q (f:=cI) (e:=Ar5.l s9.2.at_) (e2:=Ar5.l (Ar5.set s9.2.at_ s9.1 (w64 (x12 + 1)))) (z:=(w64 (x12 + 1))) (ds:=(A8 (room_plan.mk s9.2.lit_ (Ar5.set s9.2.at_ s9.1 (w64 (x12 + 1)))))) rfl rfl rfl rfl rfl rfl (fun _=>rfl) hx18 (Ar5.set_l hx18) rfl (C0 rfl)) rfl<|en (ra6 rfl rfl rfl rfl rfl rfl)<|r0<|A0 (E1 rfl rfl) rfl<|qm rfl<|en (ra6 rfl rfl rfl rfl rfl rfl) ?_
        cases hs9
        exact lnT () rfl (su6 rfl rfl rfl rfl rfl rfl)
      ·refine E4 ?_
       obtain rfl:=os hs9
       exact lx rfl px (su2 rfl rfl)
     ·rcases o19 with vo19_0 | vo19_1
      ·rintro e s' H' - ⟨rfl,rfl,rfl⟩
       refine s0<|qm rfl<|A0 (C2 rfl rfl rfl) rfl<|qm rfl<|F0 (C7 (ds:=(A8 vo19_0)) rfl rfl rfl rfl (C0 rfl) rfl) rfl<|qm rfl<|es (ra3 rfl rfl rfl)<|C6<|InlQ.mk trivial ⟨_,_,_,[(.ptr (H.length + 11) 0),(.agg (A8 vo19_0)),.i 0],_,(B1 rfl (G0 (E3 (ds:=A8 vo19_0) rfl rfl rfl rfl) (B1 rfl B9))),(A4 rfl (A4 (I5 rfl) (A4 rfl B8))),(Y5 (O0 (Y3 rfl)) (D2 rfl (D2 rfl (D2 rfl J7)))),?_⟩
       refine qm rfl<|A0 (A6 rfl rfl) rfl<|A0 (A6 rfl rfl) rfl<|A0 (A6 rfl rfl) rfl<|A0 D6 rfl<|qm rfl<|F0 (C7 (ds:=(A8 vo19_0)) rfl rfl rfl rfl (C0 rfl) rfl) rfl<|qm rfl<|es (ra4 rfl rfl rfl rfl)<|B6<|s0<|qm rfl<|A0 (F9 (v:=(.b false)) rfl rfl rfl) rfl<|es (ra5 rfl rfl rfl rfl rfl)<|Q9 rfl rfl<|C1<|B6<|s0<|A0 (C4 rfl) rfl<|A0 (E3 (ds:=(N6 cI) vo19_0.at_) rfl rfl rfl rfl) rfl<|qm rfl<|es (ra5 rfl rfl rfl rfl rfl)<|C5<|oB h fun o28 ho28 h=>wl (fun s20=>[(5,(.ptr (H.length + 5) 0)),(7,(.ptr (H.length + 11) 0)),(8,(.ptr (H.length + 6) 0)),(24,(.agg ((N6 cI) vo19_0.at_))),(25,.i s20)]) (fun (q21:Unit) s20=>[(.cells (A2 a0)),(.cells (B2 a1)),.dead,(.cells (A2 a0)),(.cells (B2 a1)),(.cells (A8 (room_plan.mk 0 (Ar5.mk 0 0 0 0 0)))),(.cells (A8 vo19_0)),(.cells (A2 a0)),(.cells (B2 a1)),(.cells (A8 vo19_0)),(.cells (A2 a0)),(.cells [.i a0.Weather.Lo,.i a0.Weather.Hi,.i a0.Stoves,(.seq 1 (List.map cI a0.Holds)),(.seq 4 (List.map B7 a0.Places)),(.seq 6 (List.map A9 a0.Figures)),(.seq 1 (List.map cI a0.Bill)),(.xseq 2 [[.b false,(.fn (.func 112) [] [])],[.b true,(.fn (.func 113) [] [])]])])]) 12 (fun r e s' H'=>(match r with | (.inl v)=>PX 0 [(5,(.ptr (H.length + 5) 0)),(7,(.ptr (H.length + 11) 0)),(8,(.ptr (H.length + 6) 0))] (H++[(.cells (A2 a0)),(.cells (B2 a1)),.dead,(.cells (A2 a0)),(.cells (B2 a1)),(.cells (A8 (room_plan.mk 0 (Ar5.mk 0 0 0 0 0)))),(.cells (A8 vo19_0)),(.cells (A2 a0)),(.cells (B2 a1)),(.cells (A8 vo19_0)),(.cells (A2 a0)),(.cells [.i a0.Weather.Lo,.i a0.Weather.Hi,.i a0.Stoves,(.seq 1 (List.map cI a0.Holds)),(.seq 4 (List.map B7 a0.Places)),(.seq 6 (List.map A9 a0.Figures)),(.seq 1 (List.map cI a0.Bill)),(.xseq 2 [[.b false,(.fn (.func 112) [] [])],[.b true,(.fn (.func 113) [] [])]])])]) e s' H' | (.inr v)=>e = .ret∧s' = [(4,(.lit (.pointer none))),(5,(.ptr (H.length + 5) 0)),(6,.i 9)]∧H' = (H++[(.cells (A2 a0)),(.cells (B2 a1)),.dead,(.cells (A2 a0)),(.cells (B2 a1)),(.cells (A8 vo19_0)),(.cells (A8 vo19_0)),(.cells (A2 a0)),(.cells (B2 a1)),(.cells (A8 vo19_0)),(.cells (A2 a0)),(.cells [.i a0.Weather.Lo,.i a0.Weather.Hi,.i a0.Stoves,(.seq 1 (List.map cI a0.Holds)),(.seq 4 (List.map B7 a0.Places)),(.seq 6 (List.map A9 a0.Figures)),(.seq 1 (List.map cI a0.Bill)),(.xseq 2 [[.b false,(.fn (.func 112) [] [])],[.b true,(.fn (.func 113) [] [])]])])]):Prop)) () ho28 rfl rfl (fun _ _=>rfl) (fun _=>rfl) rfl (fun s20=>(bdc (D4 rfl) (bdc (D4 rfl) (bdc (D4 rfl) (bdc (H6 rfl) (bdc A5 bdn)))))) (fun q21 s20 ys20 hs20=>?_) ?_
       ·unfold A6h at hs20
        refine s0<|A0 (F8 rfl rfl) rfl<|es (ra6 rfl rfl rfl rfl rfl rfl)<|B6<|wi hs20 rfl (fun hc22 hs20=>?_) fun hc22 hs20=>?_
        ·refine C1<|B6<|C5<|s0<|oB hs20 fun x23 hx23 hs20=>qm rfl<|A0 (A7a (f:=cI) (g:=fun n=>(.i n)) (e:=Ar5.l vo19_0.at_) (fun _=>rfl) rfl rfl rfl rfl hx23) rfl<|qm rfl<|qm rfl<|es (ra7 rfl rfl rfl rfl rfl rfl rfl)<|s0<|oB hs20 fun x26 hx26 hs20=>qm rfl<|A0 (A0a rfl rfl) rfl<|qm rfl<|gp 9 40 (.b x26) 31 rfl rfl (fun hg24=>?_) (fun hg24=>?_) ?_
         ·refine oB (bt hx26 hg24) fun x25 hx25 hx26=>?_
          obtain rfl:=os hx26
          exact gT rfl hg24<|qm rfl<|gT rfl hg24<|qm rfl<|gT rfl hg24<|qm rfl<|gT rfl hg24<|A0 (U8 rfl rfl) rfl<|gT rfl hg24<|A0 (C4 rfl) rfl<|gT rfl hg24<|A0 (C3 rfl rfl rfl) rfl<|gT rfl hg24<|B4 (rs:=[.i x25]) rfl rfl (A1 rfl (A1 rfl (A1 rfl (A1 rfl B5)))) ((A0d (D9 rfl) hx25).frz)<|gT rfl hg24<|A0 (G2 rfl rfl) rfl<|A0 (D0 rfl hg24 rfl) rfl<|ge 9 rfl rfl rfl
         ·obtain rfl:=os (bf hx26 hg24)
          exact nT rfl hg24 rfl<|nT rfl hg24 rfl<|nT rfl hg24 rfl<|nT rfl hg24 rfl<|nT rfl hg24 rfl<|nT rfl hg24 rfl<|I0 (F2 rfl (by rw [hg24]; rfl)) rfl<|nT rfl hg24 rfl<|A0 (D1 rfl hg24 rfl) rfl<|ge 9 rfl rfl rfl
         refine es (ra6 rfl rfl rfl rfl rfl rfl)<|wi hs20 rfl (fun hc27 hs20=>?_) fun hc27 hs20=>?_
         ·refine s0<|A0 (C2 rfl rfl rfl) rfl<|qm rfl<|F0 (C7 (ds:=(A8 vo19_0)) rfl rfl rfl rfl (C0 rfl) rfl) rfl<|qm rfl<|es (ra3 rfl rfl rfl)<|C6 ?_
          obtain rfl:=os hs20
          exact lx rfl (And.intro rfl (And.intro rfl rfl)) (su3 rfl rfl rfl)
         ·refine C1<|r0<|A0 (E1 rfl rfl) rfl<|qm rfl<|en (ra5 rfl rfl rfl rfl rfl) ?_
          cases hs20
          exact lnT () rfl (su5 rfl rfl rfl rfl rfl)
        ·refine E4 ?_
         obtain rfl:=os hs20
         exact lx rfl px (su3 rfl rfl rfl)
       ·rcases o28 with vo28_0 | vo28_1
        ·rintro e s' H' - ⟨rfl,rfl,rfl⟩
         refine B6<|s0<|oB h fun x29 hx29 h=>qm rfl<|A0 (C4 rfl) rfl<|A0 (E3 (ds:=(N6 cI) vo19_0.at_) rfl rfl rfl rfl) rfl<|B4 (rs:=[.b x29]) rfl rfl (A1 rfl (A1 (C8 rfl) (A1 rfl B5))) ((U2 (D9 rfl) hx29).frz)<|A0 (N5 rfl) rfl<|es (ra4 rfl rfl rfl rfl)<|wi h rfl (fun hc30 h=>?_) fun hc30 h=>?_
         ·refine s0<|A0 (C2 rfl rfl rfl) rfl<|qm rfl<|F0 (C7 (ds:=(A8 vo19_0)) rfl rfl rfl rfl (C0 rfl) rfl) rfl<|qm rfl<|es (ra3 rfl rfl rfl)<|C6<|InlQ.mk trivial ⟨_,_,_,[(.lit (.pointer none)),(.agg (A8 vo19_0)),.i 9],_,(B1 rfl (G0 (E3 (ds:=A8 vo19_0) rfl rfl rfl rfl) (B1 rfl B9))),(A4 rfl (A4 (I5 rfl) (A4 rfl B8))),(R7 (A3 A5 (A3 (H6 rfl) (A3 A5 B3))) (D2 rfl (D2 rfl (D2 rfl J7))) (I2 _ _ _)),?_⟩
          refine qm rfl<|A0 (A6 rfl rfl) rfl<|A0 (A6 rfl rfl) rfl<|A0 (A6 rfl rfl) rfl<|A0 D6 rfl<|qm rfl<|F0 (C7 (ds:=(A8 vo19_0)) rfl rfl rfl rfl (C0 rfl) rfl) rfl<|qm rfl<|es (ra4 rfl rfl rfl rfl)<|B6<|s0<|qm rfl<|A0 (F9 (v:=(.b true)) rfl rfl rfl) rfl<|es (ra5 rfl rfl rfl rfl rfl)<|H9 rfl rfl<|s0<|qm rfl<|qm rfl<|qm rfl<|qm rfl<|es (ra3 rfl rfl rfl)<|C6 ?_
          obtain rfl:=os h
          exact retq trivial (B1 rfl (B1 rfl (B1 rfl B9))) (A4 rfl (A4 rfl (A4 rfl B8))) (A3 A5 (A3 A5 (A3 A5 B3)))
         ·refine C1<|s0<|qm rfl<|A0 (C2 rfl rfl rfl) rfl<|qm rfl<|F0 (C7 (ds:=(A8 vo19_0)) rfl rfl rfl rfl (C0 rfl) rfl) rfl<|qm rfl<|es (ra3 rfl rfl rfl)<|C6<|InlQ.mk trivial ⟨_,_,_,[(.ptr (H.length + 11) 0),(.agg (A8 vo19_0)),.i 0],_,(B1 rfl (G0 (E3 (ds:=A8 vo19_0) rfl rfl rfl rfl) (B1 rfl B9))),(A4 rfl (A4 (I5 rfl) (A4 rfl B8))),(Y5 (O0 (Y3 rfl)) (D2 rfl (D2 rfl (D2 rfl J7)))),?_⟩
          refine qm rfl<|A0 (A6 rfl rfl) rfl<|A0 (A6 rfl rfl) rfl<|A0 (A6 rfl rfl) rfl<|A0 D6 rfl<|qm rfl<|F0 (C7 (ds:=(A8 vo19_0)) rfl rfl rfl rfl (C0 rfl) rfl) rfl<|qm rfl<|es (ra4 rfl rfl rfl rfl)<|B6<|s0<|qm rfl<|A0 (F9 (v:=(.b false)) rfl rfl rfl) rfl<|es (ra5 rfl rfl rfl rfl rfl)<|Q9 rfl rfl<|C1<|s0<|qm rfl<|es (ra4 rfl rfl rfl rfl)<|B6<|s0<|A0 (C4 rfl) rfl<|A0 (E3 (ds:=(N6 cI) vo19_0.at_) rfl rfl rfl rfl) rfl<|qm rfl<|es (ra6 rfl rfl rfl rfl rfl rfl)<|C5<|oB h fun o40 ho40 h=>wl (fun s31=>[(4,.i s31.1),(5,.i s31.2.1),(7,(.ptr (H.length + 11) 0)),(8,(.ptr (H.length + 2) 0)),(25,(.agg ((N6 cI) vo19_0.at_))),(26,.i s31.2.2)]) (fun (q32:Unit) s31=>[(.cells (A2 a0)),(.cells (B2 a1)),(.cells (A8 vo19_0)),(.cells (A2 a0)),(.cells (B2 a1)),(.cells (A8 vo19_0)),(.cells (A8 vo19_0)),(.cells (A2 a0)),(.cells (B2 a1)),(.cells (A8 vo19_0)),(.cells (A2 a0)),(.cells [.i a0.Weather.Lo,.i a0.Weather.Hi,.i a0.Stoves,(.seq 1 (List.map cI a0.Holds)),(.seq 4 (List.map B7 a0.Places)),(.seq 6 (List.map A9 a0.Figures)),(.seq 1 (List.map cI a0.Bill)),(.xseq 2 [[.b false,(.fn (.func 112) [] [])],[.b true,(.fn (.func 113) [] [])]])])]) 12 (fun r e s' H'=>PX 0 [(4,.i r.1),(5,.i r.2)] (H++[(.cells (A2 a0)),(.cells (B2 a1)),(.cells (A8 vo19_0)),(.cells (A2 a0)),(.cells (B2 a1)),(.cells (A8 vo19_0)),(.cells (A8 vo19_0)),(.cells (A2 a0)),(.cells (B2 a1)),(.cells (A8 vo19_0)),(.cells (A2 a0)),(.cells [.i a0.Weather.Lo,.i a0.Weather.Hi,.i a0.Stoves,(.seq 1 (List.map cI a0.Holds)),(.seq 4 (List.map B7 a0.Places)),(.seq 6 (List.map A9 a0.Figures)),(.seq 1 (List.map cI a0.Bill)),(.xseq 2 [[.b false,(.fn (.func 112) [] [])],[.b true,(.fn (.func 113) [] [])]])])]) e s' H') () ho40 rfl rfl (fun _ _=>rfl) (fun _=>rfl) rfl (fun s31=>(bdc A5 (bdc A5 (bdc (D4 rfl) (bdc (D4 rfl) (bdc (H6 rfl) (bdc A5 bdn))))))) (fun q32 s31 ys31 hs31=>?_) ?_
          ·unfold A0h at hs31
           refine s0<|A0 (F8 rfl rfl) rfl<|es (ra7 rfl rfl rfl rfl rfl rfl rfl)<|B6<|wi hs31 rfl (fun hc33 hs31=>?_) fun hc33 hs31=>?_
           ·refine C1<|B6<|C5<|s0<|oB hs31 fun x34 hx34 hs31=>qm rfl<|A0 (A7a (f:=cI) (g:=fun n=>(.i n)) (e:=Ar5.l vo19_0.at_) (fun _=>rfl) rfl rfl rfl rfl hx34) rfl<|qm rfl<|qm rfl<|es (ra8 rfl rfl rfl rfl rfl rfl rfl rfl)<|B6<|s0<|qm rfl<|A0 (F7 rfl rfl) rfl<|es (ra9 rfl rfl rfl rfl rfl rfl rfl rfl rfl)<|wi hs31 rfl (fun hc35 hs31=>?_) fun hc35 hs31=>?_
            ·refine E4<|r0<|A0 (E1 rfl rfl) rfl<|qm rfl<|en (ra6 rfl rfl rfl rfl rfl rfl) ?_
             cases hs31
             exact lnT () rfl (su6 rfl rfl rfl rfl rfl rfl)
            ·refine C1<|sg 12 rfl<|oB hs31 fun x36 hx36 hs31=>oB hs31 fun x37 hx37 hs31=>qm rfl<|qm rfl<|A0 (U8 rfl rfl) rfl<|A0 (C4 rfl) rfl<|S8 [12,13] (W5 [12,13] rfl I6 rfl rfl) (seen0 rfl) (C3 rfl rfl rfl) rfl<|S8 [12,13] (W5 [12,13] rfl I6 rfl rfl) (seen0 rfl) (C4w (rs:=[(.agg (D5 x36))]) rfl rfl (K9 rfl (K9 rfl (K9 rfl A26))) (A1 rfl (A1 rfl (A1 rfl B5))) ((A3k (C7m rfl) hx36).frz)) rfl<|A0 D6 rfl<|A0 D6 rfl<|A64 [11] [(.cells (A2 a0)),(.cells (B2 a1)),(.cells (A8 vo19_0)),(.cells (A2 a0)),(.cells (B2 a1)),(.cells (A8 vo19_0)),(.cells (A8 vo19_0)),(.cells (A2 a0)),(.cells (B2 a1)),(.cells (A8 vo19_0)),(.cells (A2 a0)),(.cells [.i a0.Weather.Lo,.i a0.Weather.Hi,.i a0.Stoves,(.seq 1 (List.map cI a0.Holds)),(.seq 4 (List.map B7 a0.Places)),(.seq 6 (List.map A9 a0.Figures)),(.seq 1 (List.map cI a0.Bill)),(.xseq 2 [[.b false,(.fn (.func 112) [] [])],[.b true,(.fn (.func 113) [] [])]])]),(.cells (D5 x36)),(.cells (A9 (RoFigure.mk (ByteArray.mk #[]) 0 0 0 0 0)))] (W5 [] rfl (A0y rfl X4 I6) rfl rfl) (seen0 rfl) (C7 (ds:=(D5 x36)) rfl rfl rfl rfl (C0 rfl) rfl) rfl rfl rfl<|qm rfl<|A0 (P2 rfl rfl) rfl<|A0 (C4 rfl) rfl<|A0 (C4 rfl) rfl<|S8 [12,13] (W5 [12,13] rfl I6 rfl rfl) (A6j (b:=H.length + 11) rfl (A0x (Q7 _ rfl) A3y)) (C3 (x:=(.seq 6 (List.map A9 a0.Figures))) rfl rfl rfl) rfl<|qm rfl<|S8 [12,13] (W5 [12,13] rfl I6 rfl rfl) (B4a rfl) (E6 (f:=A9) rfl rfl hx37) rfl<|S8 [12,13] (W5 [12,13] rfl I6 rfl rfl) (B4a rfl) (O2 rfl rfl) rfl<|F0 (C7 (ds:=(A9 x37)) rfl rfl rfl rfl (C0 rfl) rfl) rfl<|es (ra9 rfl rfl rfl rfl rfl rfl rfl rfl rfl)<|s0<|A0 (C4 rfl) rfl<|A0 (C3 rfl rfl rfl) rfl<|A0 (C4 rfl) rfl<|A0 (C3 rfl rfl rfl) rfl<|A0 (U8 rfl rfl) rfl<|A0 (C4 rfl) rfl<|A0 (C3 rfl rfl rfl) rfl<|A0 (C4 rfl) rfl<|A0 (C3 rfl rfl rfl) rfl<|A0 (U8 rfl rfl) rfl<|A0 (C7z rfl rfl) rfl<|qm rfl<|es (ra8 rfl rfl rfl rfl rfl rfl rfl rfl)<|s0<|qm rfl<|A0 (F8 rfl rfl) rfl<|qm rfl<|gp 4 63 (.b ((decide (s31.1 < 0)) || (decide ((A3a (w64 (x36.Lo - x37.Cracks)) (w64 (x37.Slumps - x36.Hi))) < s31.2.1)))) 59 rfl rfl (fun hg38=>?_) (fun hg38=>?_) ?_
             ·exact nF rfl hg38 rfl<|nF rfl hg38 rfl<|nF rfl hg38 rfl<|A0 (D0 rfl hg38 rfl) rfl<|ge 4 (by rw [hg38]; rfl) rfl rfl
             ·exact gF rfl hg38<|qm rfl<|gF rfl hg38<|qm rfl<|gF rfl hg38<|A0 (F8 rfl rfl) rfl<|A0 (D1 rfl hg38 rfl) rfl<|ge 4 (by rw [hg38]; rfl) rfl rfl
             refine es (ra9 rfl rfl rfl rfl rfl rfl rfl rfl rfl)<|wi hs31 rfl (fun hc39 hs31=>?_) fun hc39 hs31=>?_
             ·refine r0<|qm rfl<|qm rfl<|qm rfl<|qm rfl<|en (ra6 rfl rfl rfl rfl rfl rfl)<|r0<|A0 (E1 rfl rfl) rfl<|qm rfl<|en (ra6 rfl rfl rfl rfl rfl rfl) ?_
              cases hs31
              exact lnT () rfl (su6 rfl rfl rfl rfl rfl rfl)
             ·refine C1<|r0<|A0 (E1 rfl rfl) rfl<|qm rfl<|en (ra6 rfl rfl rfl rfl rfl rfl) ?_
              cases hs31
              exact lnT () rfl (su6 rfl rfl rfl rfl rfl rfl)
           ·refine E4 ?_
            obtain rfl:=os hs31
            exact lx rfl px (su2 rfl rfl)
          ·rintro e s' H' - ⟨rfl,rfl,rfl⟩
           refine B6<|s0<|qm rfl<|A0 (F8 rfl rfl) rfl<|es (ra3 rfl rfl rfl)<|wi h rfl (fun hc41 h=>?_) fun hc41 h=>?_
           ·refine s0<|qm rfl<|qm rfl<|qm rfl<|es (ra3 rfl rfl rfl)<|C6 ?_
            obtain rfl:=os h
            exact retq trivial (B1 rfl (B1 rfl (B1 rfl B9))) (A4 rfl (A4 rfl (A4 rfl B8))) (A3 A5 (A3 A5 (A3 A5 B3)))
           ·refine C1<|s0<|qm rfl<|qm rfl<|qm rfl<|qm rfl<|qm rfl<|es (ra3 rfl rfl rfl)<|C6 ?_
            obtain rfl:=os h
            exact retq trivial (B1 rfl (B1 rfl (B1 rfl B9))) (A4 rfl (A4 rfl (A4 rfl B8))) (A3 A5 (A3 A5 (A3 A5 B3)))
        ·rintro e s' H' - ⟨rfl,rfl,rfl⟩
         refine InlQ.mk trivial ⟨_,_,_,[(.lit (.pointer none)),(.agg (A8 vo19_0)),.i 9],_,(B1 rfl (G0 (E3 (ds:=A8 vo19_0) rfl rfl rfl rfl) (B1 rfl B9))),(A4 rfl (A4 (I5 rfl) (A4 rfl B8))),(R7 (A3 A5 (A3 (H6 rfl) (A3 A5 B3))) (D2 rfl (D2 rfl (D2 rfl J7))) (I2 _ _ _)),?_⟩
         refine qm rfl<|A0 (A6 rfl rfl) rfl<|A0 (A6 rfl rfl) rfl<|A0 (A6 rfl rfl) rfl<|A0 D6 rfl<|qm rfl<|F0 (C7 (ds:=(A8 vo19_0)) rfl rfl rfl rfl (C0 rfl) rfl) rfl<|qm rfl<|es (ra4 rfl rfl rfl rfl)<|B6<|s0<|qm rfl<|A0 (F9 (v:=(.b true)) rfl rfl rfl) rfl<|es (ra5 rfl rfl rfl rfl rfl)<|H9 rfl rfl<|s0<|qm rfl<|qm rfl<|qm rfl<|qm rfl<|es (ra3 rfl rfl rfl)<|C6 ?_
         obtain rfl:=os h
         exact retq trivial (B1 rfl (B1 rfl (B1 rfl B9))) (A4 rfl (A4 rfl (A4 rfl B8))) (A3 A5 (A3 A5 (A3 A5 B3)))
      ·rintro e s' H' - ⟨rfl,rfl,rfl⟩
       refine InlQ.mk trivial ⟨_,_,_,[(.lit (.pointer none)),(.agg (A8 (room_plan.mk 0 (Ar5.mk 0 0 0 0 0)))),.i 5],_,(B1 rfl (G0 (E3 (ds:=A8 (room_plan.mk 0 (Ar5.mk 0 0 0 0 0))) rfl rfl rfl rfl) (B1 rfl B9))),(A4 rfl (A4 (I5 rfl) (A4 rfl B8))),(R7 (A3 A5 (A3 (H6 rfl) (A3 A5 B3))) (D2 rfl (D2 rfl (D2 rfl J7))) (I2 _ _ _)),?_⟩
       refine qm rfl<|A0 (A6 rfl rfl) rfl<|A0 (A6 rfl rfl) rfl<|A0 (A6 rfl rfl) rfl<|A0 D6 rfl<|qm rfl<|F0 (C7 (ds:=(A8 (room_plan.mk 0 (Ar5.mk 0 0 0 0 0)))) rfl rfl rfl rfl (C0 rfl) rfl) rfl<|qm rfl<|es (ra4 rfl rfl rfl rfl)<|B6<|s0<|qm rfl<|A0 (F9 (v:=(.b true)) rfl rfl rfl) rfl<|es (ra5 rfl rfl rfl rfl rfl)<|H9 rfl rfl<|s0<|A0 (C2 rfl rfl rfl) rfl<|qm rfl<|F0 (C7 (ds:=(A8 (room_plan.mk 0 (Ar5.mk 0 0 0 0 0)))) rfl rfl rfl rfl (C0 rfl) rfl) rfl<|qm rfl<|qm rfl<|es (ra3 rfl rfl rfl)<|C6<|InlQ.mk trivial ⟨_,_,_,[(.lit (.pointer none)),(.agg (A8 (room_plan.mk 0 (Ar5.mk 0 0 0 0 0)))),.i 5],_,(B1 rfl (G0 (E3 (ds:=A8 (room_plan.mk 0 (Ar5.mk 0 0 0 0 0))) rfl rfl rfl rfl) (B1 rfl B9))),(A4 rfl (A4 (I5 rfl) (A4 rfl B8))),(R7 (A3 A5 (A3 (H6 rfl) (A3 A5 B3))) (D2 rfl (D2 rfl (D2 rfl J7))) (I2 _ _ _)),?_⟩
       refine qm rfl<|A0 (A6 rfl rfl) rfl<|A0 (A6 rfl rfl) rfl<|A0 (A6 rfl rfl) rfl<|A0 D6 rfl<|qm rfl<|F0 (C7 (ds:=(A8 (room_plan.mk 0 (Ar5.mk 0 0 0 0 0)))) rfl rfl rfl rfl (C0 rfl) rfl) rfl<|qm rfl<|es (ra4 rfl rfl rfl rfl)<|B6<|s0<|qm rfl<|A0 (F9 (v:=(.b true)) rfl rfl rfl) rfl<|es (ra5 rfl rfl rfl rfl rfl)<|H9 rfl rfl<|s0<|qm rfl<|qm rfl<|qm rfl<|qm rfl<|es (ra3 rfl rfl rfl)<|C6 ?_
       obtain rfl:=os h
       exact retq trivial (B1 rfl (B1 rfl (B1 rfl B9))) (A4 rfl (A4 rfl (A4 rfl B8))) (A3 A5 (A3 A5 (A3 A5 B3)))
def A24 (a0:Int):Option Int :=
 (B4h .u64 a0 1).bind fun x1 =>
 (B4h .u64 (IntKind.u64.wrap ((P0 .u64 x1 6148914691236517205) + (P0 .u64 a0 6148914691236517205))) 2).bind fun x2 =>
 (B4h .u64 (IntKind.u64.wrap ((P0 .u64 x2 3689348814741910323) + (P0 .u64 (IntKind.u64.wrap ((P0 .u64 x1 6148914691236517205) + (P0 .u64 a0 6148914691236517205))) 3689348814741910323))) 4).bind fun x3 =>
 (B4h .u64 (P0 .u64 (IntKind.u64.wrap (x3 + (IntKind.u64.wrap ((P0 .u64 x2 3689348814741910323) + (P0 .u64 (IntKind.u64.wrap ((P0 .u64 x1 6148914691236517205) + (P0 .u64 a0 6148914691236517205))) 3689348814741910323))))) 1085102592571150095) 8).bind fun x4 =>
 (B4h .u64 (IntKind.u64.wrap ((P0 .u64 (IntKind.u64.wrap (x3 + (IntKind.u64.wrap ((P0 .u64 x2 3689348814741910323) + (P0 .u64 (IntKind.u64.wrap ((P0 .u64 x1 6148914691236517205) + (P0 .u64 a0 6148914691236517205))) 3689348814741910323))))) 1085102592571150095) + x4)) 16).bind fun x5 =>
 (B4h .u64 (IntKind.u64.wrap ((IntKind.u64.wrap ((P0 .u64 (IntKind.u64.wrap (x3 + (IntKind.u64.wrap ((P0 .u64 x2 3689348814741910323) + (P0 .u64 (IntKind.u64.wrap ((P0 .u64 x1 6148914691236517205) + (P0 .u64 a0 6148914691236517205))) 3689348814741910323))))) 1085102592571150095) + x4)) + x5)) 32).bind fun x6 =>
 some (B4z (w64 (IntKind.u64.wrap ((IntKind.u64.wrap ((IntKind.u64.wrap ((P0 .u64 (IntKind.u64.wrap (x3 + (IntKind.u64.wrap ((P0 .u64 x2 3689348814741910323) + (P0 .u64 (IntKind.u64.wrap ((P0 .u64 x1 6148914691236517205) + (P0 .u64 a0 6148914691236517205))) 3689348814741910323))))) 1085102592571150095) + x4)) + x5)) + x6))) 127)
theorem A91 {c:Sc} {H:A7} {a0:Int} {r:Int} (h:A24 a0 = some r) :
  F1 tab c H (.fn (.func 122) [] []) [(.lit (.int .u64 a0))] [.i r]:= by
 unfold A24 at h
 refine cE rfl rfl<|s0<|qm rfl<|es (ra1 rfl)<|s0<|oB h fun x1 hx1 h=>qm rfl<|A0 (B19 rfl rfl hx1) rfl<|A0 (F9 (v:=(.lit (.int .u64 (P0 .u64 x1 6148914691236517205)))) rfl rfl rfl) rfl<|qm rfl<|A0 (F9 (v:=(.lit (.int .u64 (P0 .u64 a0 6148914691236517205)))) rfl rfl rfl) rfl<|A0 (F9 (v:=(.lit (.int .u64 (IntKind.u64.wrap ((P0 .u64 x1 6148914691236517205) + (P0 .u64 a0 6148914691236517205)))))) rfl rfl rfl) rfl<|qm rfl<|es (ra1 rfl)<|s0<|oB h fun x2 hx2 h=>qm rfl<|A0 (B19 rfl rfl hx2) rfl<|A0 (F9 (v:=(.lit (.int .u64 (P0 .u64 x2 3689348814741910323)))) rfl rfl rfl) rfl<|qm rfl<|A0 (F9 (v:=(.lit (.int .u64 (P0 .u64 (IntKind.u64.wrap ((P0 .u64 x1 6148914691236517205) + (P0 .u64 a0 6148914691236517205))) 3689348814741910323)))) rfl rfl rfl) rfl<|A0 (F9 (v:=(.lit (.int .u64 (IntKind.u64.wrap ((P0 .u64 x2 3689348814741910323) + (P0 .u64 (IntKind.u64.wrap ((P0 .u64 x1 6148914691236517205) + (P0 .u64 a0 6148914691236517205))) 3689348814741910323)))))) rfl rfl rfl) rfl<|qm rfl<|es (ra1 rfl)<|s0<|oB h fun x3 hx3 h=>qm rfl<|A0 (B19 rfl rfl hx3) rfl<|qm rfl<|A0 (F9 (v:=(.lit (.int .u64 (IntKind.u64.wrap (x3 + (IntKind.u64.wrap ((P0 .u64 x2 3689348814741910323) + (P0 .u64 (IntKind.u64.wrap ((P0 .u64 x1 6148914691236517205) + (P0 .u64 a0 6148914691236517205))) 3689348814741910323)))))))) rfl rfl rfl) rfl<|A0 (F9 (v:=(.lit (.int .u64 (P0 .u64 (IntKind.u64.wrap (x3 + (IntKind.u64.wrap ((P0 .u64 x2 3689348814741910323) + (P0 .u64 (IntKind.u64.wrap ((P0 .u64 x1 6148914691236517205) + (P0 .u64 a0 6148914691236517205))) 3689348814741910323))))) 1085102592571150095)))) rfl rfl rfl) rfl<|qm rfl<|es (ra1 rfl)<|s0<|oB h fun x4 hx4 h=>qm rfl<|qm rfl<|A0 (B19 rfl rfl hx4) rfl<|A0 (F9 (v:=(.lit (.int .u64 (IntKind.u64.wrap ((P0 .u64 (IntKind.u64.wrap (x3 + (IntKind.u64.wrap ((P0 .u64 x2 3689348814741910323) + (P0 .u64 (IntKind.u64.wrap ((P0 .u64 x1 6148914691236517205) + (P0 .u64 a0 6148914691236517205))) 3689348814741910323))))) 1085102592571150095) + x4))))) rfl rfl rfl) rfl<|qm rfl<|es (ra1 rfl)<|s0<|oB h fun x5 hx5 h=>qm rfl<|qm rfl<|A0 (B19 rfl rfl hx5) rfl<|A0 (F9 (v:=(.lit (.int .u64 (IntKind.u64.wrap ((IntKind.u64.wrap ((P0 .u64 (IntKind.u64.wrap (x3 + (IntKind.u64.wrap ((P0 .u64 x2 3689348814741910323) + (P0 .u64 (IntKind.u64.wrap ((P0 .u64 x1 6148914691236517205) + (P0 .u64 a0 6148914691236517205))) 3689348814741910323))))) 1085102592571150095) + x4)) + x5))))) rfl rfl rfl) rfl<|qm rfl<|es (ra1 rfl)<|s0<|oB h fun x6 hx6 h=>qm rfl<|qm rfl<|A0 (B19 rfl rfl hx6) rfl<|A0 (F9 (v:=(.lit (.int .u64 (IntKind.u64.wrap ((IntKind.u64.wrap ((IntKind.u64.wrap ((P0 .u64 (IntKind.u64.wrap (x3 + (IntKind.u64.wrap ((P0 .u64 x2 3689348814741910323) + (P0 .u64 (IntKind.u64.wrap ((P0 .u64 x1 6148914691236517205) + (P0 .u64 a0 6148914691236517205))) 3689348814741910323))))) 1085102592571150095) + x4)) + x5)) + x6))))) rfl rfl rfl) rfl<|qm rfl<|es (ra1 rfl)<|s0<|qm rfl<|A0 (A25 rfl) rfl<|A0 (F9 (v:=(.i (B4z (w64 (IntKind.u64.wrap ((IntKind.u64.wrap ((IntKind.u64.wrap ((P0 .u64 (IntKind.u64.wrap (x3 + (IntKind.u64.wrap ((P0 .u64 x2 3689348814741910323) + (P0 .u64 (IntKind.u64.wrap ((P0 .u64 x1 6148914691236517205) + (P0 .u64 a0 6148914691236517205))) 3689348814741910323))))) 1085102592571150095) + x4)) + x5)) + x6))) 127))) rfl rfl rfl) rfl ?_
 refine qm rfl<|es (ra1 rfl)<|C6 ?_
 obtain rfl:=os h
 exact retq trivial (B1 rfl B9) (A4 rfl B8) (A3 A5 B3)
def A1u (a0:Int):Option Int :=
 (A24 a0).bind fun x1 =>
 some x1
theorem A56 {c:Sc} {H:A7} {a0:Int} {r:Int} (h:A1u a0 = some r) :
  F1 tab c H (.fn (.func 100) [] []) [(.lit (.int .u64 a0))] [.i r]:= by
 unfold A1u at h
 refine cE rfl rfl<|s0<|qm rfl<|es (ra1 rfl)<|B6<|Q9 rfl rfl<|C1<|s0<|oB h fun x1 hx1 h=>qm rfl<|B4 (rs:=[.i x1]) rfl rfl (A1 rfl B5) ((A91 hx1).frz)<|qm rfl<|es (ra1 rfl)<|C6 ?_
 obtain rfl:=os h
 exact retq trivial (B1 rfl B9) (A4 rfl B8) (A3 A5 B3)
def B4u (a0:RoHouse) (a1:Int) (s6:(Int × Int)) (s14:(Int × Int)):Option ((Int × Int) ⊕ Int) :=
 if (decide (s14.2 < (List.length a0.Places:Int))) = true then
  (O9 (room_house.mk a0) a1 s14.2 s6.2).bind fun x17 =>
  if (x17 == 1) = true then
  some (.inl (s6.2,(w64 (s14.2 + 1))))
  else
  some (.inl (s14.1,(w64 (s14.2 + 1))))
 else
  some (.inr s14.1)
def B4v (a0:RoHouse) (a1:Int) (x5:Int) (s6:(Int × Int)):Option ((Int × Int) ⊕ Int) :=
 if (decide (s6.2 < x5)) = true then
  (if (decide (s6.1 ≥ 0)) = true then
  (A1u (IntKind.u64.wrap s6.2)).bind fun x10 =>
  (A1u (IntKind.u64.wrap s6.1)).bind fun x11 =>
  some (decide (x10 ≥ x11))
  else
  some false).bind fun x12 =>
  if x12 = true then
  some (.inl (s6.1,(w64 (s6.2 + 1))))
  else
  (loop (B4u a0 a1 s6) (s6.1,0)).bind fun (o19:Int) =>
  some (.inl (o19,(w64 (s6.2 + 1))))
 else
  some (.inr s6.1)
def A84 (a0:RoHouse) (a1:Int):Option (Int × Int) :=
 (R0 a0).bind fun x1 =>
 if (x1.2.2 != 0) = true then
  some (0,x1.2.2)
 else
  (H7 0 (w64 ((List.length a0.Figures:Int) - 1)) [a1]).bind fun x3 =>
  if x3 = true then
  some (0,4)
  else
  (B4g .i64 1 a0.Stoves).bind fun x5 =>
  (loop (B4v a0 a1 x5) ((-1),0)).bind fun (o20:Int) =>
  if (decide (o20 < 0)) = true then
   some (0,9)
  else
   some (o20,0)
theorem A94 {c:Sc} {H:A7} {a0:RoHouse} {a1:Int} {r:(Int × Int)} (h:A84 a0 a1 = some r) :
  F1 tab c H (.fn (.func 38) [] []) [(.agg (A2 a0)),.i a1] [.i r.1,.i r.2]:= by
 unfold A84 at h
 refine cE rfl rfl<|sg 0 rfl<|A0 (F3 (cs:=A2 a0) rfl rfl rfl) rfl<|qm rfl<|qm rfl<|es (ra2 rfl rfl)<|s0<|A0 (C2 rfl rfl rfl) rfl<|Q0 (as2:=[(.agg (A2 a0))]) (H1:=(H++[(.cells (A2 a0))])) rfl rfl (A1 (C8 rfl) B5) rfl rfl rfl (W8 rfl)<|sg 1 rfl<|A0 (F3 (cs:=A2 a0) rfl rfl rfl) rfl<|qm rfl<|qm rfl<|es (ra1 rfl)<|s0<|oB h fun x1 hx1 h=>A0 (C2 rfl rfl rfl) rfl<|B4 (rs:=[.i x1.1,.i x1.2.1,.i x1.2.2]) rfl rfl (A1 (C8 rfl) B5) ((R9 hx1).frz)<|qm rfl<|A0 (A6 rfl rfl) rfl<|A0 (A6 rfl rfl) rfl<|A0 (A6 rfl rfl) rfl<|qm rfl<|qm rfl<|qm rfl<|es (ra2 rfl rfl)<|sg 2 rfl<|A0 (C2 rfl rfl rfl) rfl<|A0 (G6 (cs:=[.b false,(.fn (.func 112) [] [])]) rfl rfl) rfl<|A0 (G6 (cs:=[.b true,(.fn (.func 113) [] [])]) rfl rfl) rfl<|A0 (A7w (rows:=[[.b false,(.fn (.func 112) [] [])],[.b true,(.fn (.func 113) [] [])]]) rfl rfl) rfl<|A0 (G6 (cs:=[.i a0.Weather.Lo,.i a0.Weather.Hi,.i a0.Stoves,(.seq 1 (List.map cI a0.Holds)),(.seq 4 (List.map B7 a0.Places)),(.seq 6 (List.map A9 a0.Figures)),(.seq 1 (List.map cI a0.Bill)),(.xseq 2 [[.b false,(.fn (.func 112) [] [])],[.b true,(.fn (.func 113) [] [])]])]) rfl rfl) rfl<|A0 (F3 (cs:=[.i a0.Weather.Lo,.i a0.Weather.Hi,.i a0.Stoves,(.seq 1 (List.map cI a0.Holds)),(.seq 4 (List.map B7 a0.Places)),(.seq 6 (List.map A9 a0.Figures)),(.seq 1 (List.map cI a0.Bill)),(.xseq 2 [[.b false,(.fn (.func 112) [] [])],[.b true,(.fn (.func 113) [] [])]])]) rfl rfl rfl) rfl<|qm rfl<|qm rfl<|qm rfl<|es (ra2 rfl rfl)<|C6<|InlQ.mk trivial ⟨_,_,_,[(.ptr (H.length + 2) 0),.i x1.2.2],_,(B1 rfl (B1 rfl B9)),(A4 rfl (A4 rfl B8)),(Y5 (O0 (Y3 rfl)) (D2 rfl (D2 rfl J7))),?_⟩
 refine qm rfl<|A0 (A6 rfl rfl) rfl<|A0 (A6 rfl rfl) rfl<|qm rfl<|qm rfl<|es (ra4 rfl rfl rfl rfl)<|B6<|C5<|s0<|qm rfl<|A0 (G2 rfl rfl) rfl<|qm rfl<|es (ra5 rfl rfl rfl rfl rfl)<|wi h rfl (fun hc2 h=>?_) fun hc2 h=>?_
 ·refine s0<|qm rfl<|qm rfl<|qm rfl<|es (ra2 rfl rfl)<|C6 ?_
  obtain rfl:=os h
  exact retq trivial (B1 rfl (B1 rfl B9)) (A4 rfl (A4 rfl B8)) (A3 A5 (A3 A5 B3))
 ·refine s0<|oB h fun x3 hx3 h=>A0 (C4 rfl) rfl<|A0 (C3 rfl rfl rfl) rfl<|A0 (D8 (f:=A9) rfl) rfl<|A0 (U8 rfl rfl) rfl<|qm rfl<|A0 (J5 (rows:=List.map cI [a1]) rfl rfl (E2 (fun _=>rfl) _)) rfl<|B4 (rs:=[.b x3]) rfl rfl (A1 rfl (A1 rfl (A1 rfl B5))) ((I4 hx3).frz)<|qm rfl<|es (ra4 rfl rfl rfl rfl)<|wi h rfl (fun hc4 h=>?_) fun hc4 h=>?_
  ·refine s0<|qm rfl<|qm rfl<|es (ra2 rfl rfl)<|C6 ?_
   obtain rfl:=os h
   exact retq trivial (B1 rfl (B1 rfl B9)) (A4 rfl (A4 rfl B8)) (A3 A5 (A3 A5 B3))
  ·refine C1<|s0<|qm rfl<|es (ra4 rfl rfl rfl rfl)<|B6<|s0<|oB h fun x5 hx5 h=>A0 (C4 rfl) rfl<|A0 (C3 rfl rfl rfl) rfl<|A0 (B6k rfl rfl hx5) rfl<|qm rfl<|es (ra6 rfl rfl rfl rfl rfl rfl)<|C5<|oB h fun o20 ho20 h=>wl (fun s6=>[(1,.i a1),(2,(.ptr (H.length + 0) 0)),(6,(.ptr (H.length + 2) 0)),(8,.i s6.1),(30,.i x5),(31,.i s6.2)]) (fun (q7:Unit) s6=>[(.cells (A2 a0)),(.cells (A2 a0)),(.cells [.i a0.Weather.Lo,.i a0.Weather.Hi,.i a0.Stoves,(.seq 1 (List.map cI a0.Holds)),(.seq 4 (List.map B7 a0.Places)),(.seq 6 (List.map A9 a0.Figures)),(.seq 1 (List.map cI a0.Bill)),(.xseq 2 [[.b false,(.fn (.func 112) [] [])],[.b true,(.fn (.func 113) [] [])]])])]) 3 (fun r e s' H'=>PX 1 [(8,.i r)] (H++[(.cells (A2 a0)),(.cells (A2 a0)),(.cells [.i a0.Weather.Lo,.i a0.Weather.Hi,.i a0.Stoves,(.seq 1 (List.map cI a0.Holds)),(.seq 4 (List.map B7 a0.Places)),(.seq 6 (List.map A9 a0.Figures)),(.seq 1 (List.map cI a0.Bill)),(.xseq 2 [[.b false,(.fn (.func 112) [] [])],[.b true,(.fn (.func 113) [] [])]])])]) e s' H') () ho20 rfl rfl (fun _ _=>rfl) (fun _=>rfl) rfl (fun s6=>(bdc A5 (bdc (D4 rfl) (bdc (D4 rfl) (bdc A5 (bdc A5 (bdc A5 bdn))))))) (fun q7 s6 ys6 hs6=>?_) ?_
   ·unfold B4v at hs6
    refine s0<|A0 (F8 rfl rfl) rfl<|es (ra7 rfl rfl rfl rfl rfl rfl rfl)<|B6<|wi hs6 rfl (fun hc8 hs6=>?_) fun hc8 hs6=>?_
    ·refine C1<|B6<|C5<|s0<|qm rfl<|qm rfl<|es (ra7 rfl rfl rfl rfl rfl rfl rfl)<|B6<|s0<|oB hs6 fun x12 hx12 hs6=>qm rfl<|A0 (B2j rfl rfl) rfl<|qm rfl<|gp 8 44 (.b x12) 36 rfl rfl (fun hg9=>?_) (fun hg9=>?_) ?_
     ·refine oB (bt hx12 hg9) fun x10 hx10 hx12=>oB hx12 fun x11 hx11 hx12=>?_
      obtain rfl:=os hx12
      exact gT rfl hg9<|qm rfl<|gT rfl hg9<|A0 (A25 rfl) rfl<|gT rfl hg9<|B4 (rs:=[.i x10]) rfl rfl (A1 rfl B5) ((A56 hx10).frz)<|gT rfl hg9<|qm rfl<|gT rfl hg9<|A0 (A25 rfl) rfl<|gT rfl hg9<|B4 (rs:=[.i x11]) rfl rfl (A1 rfl B5) ((A56 hx11).frz)<|gT rfl hg9<|A0 (B2j rfl rfl) rfl<|A0 (D0 rfl hg9 rfl) rfl<|ge 8 rfl rfl rfl
     ·obtain rfl:=os (bf hx12 hg9)
      exact nT rfl hg9 rfl<|nT rfl hg9 rfl<|I0 (F2 rfl (by rw [hg9]; rfl)) rfl<|nT rfl hg9 rfl<|nT rfl hg9 rfl<|I0 (F2 rfl (by rw [hg9]; rfl)) rfl<|nT rfl hg9 rfl<|A0 (D1 rfl hg9 rfl) rfl<|ge 8 rfl rfl rfl
     refine es (ra8 rfl rfl rfl rfl rfl rfl rfl rfl)<|wi hs6 rfl (fun hc13 hs6=>?_) fun hc13 hs6=>?_
     ·refine E4<|r0<|A0 (E1 rfl rfl) rfl<|qm rfl<|en (ra6 rfl rfl rfl rfl rfl rfl) ?_
      cases hs6
      exact lnT () rfl (su6 rfl rfl rfl rfl rfl rfl)
     ·refine C1<|s0<|A0 (C4 rfl) rfl<|A0 (C3 rfl rfl rfl) rfl<|A0 (D8 (f:=B7) rfl) rfl<|qm rfl<|es (ra9 rfl rfl rfl rfl rfl rfl rfl rfl rfl)<|C5<|oB hs6 fun o19 ho19 hs6=>wl (fun s14=>[(1,.i a1),(2,(.ptr (H.length + 0) 0)),(6,(.ptr (H.length + 2) 0)),(8,.i s14.1),(9,.i s6.2),(30,.i x5),(31,.i s6.2),(47,(.i (List.length a0.Places:Int))),(48,.i s14.2)]) (fun (q15:Unit) s14=>[(.cells (A2 a0)),(.cells (A2 a0)),(.cells [.i a0.Weather.Lo,.i a0.Weather.Hi,.i a0.Stoves,(.seq 1 (List.map cI a0.Holds)),(.seq 4 (List.map B7 a0.Places)),(.seq 6 (List.map A9 a0.Figures)),(.seq 1 (List.map cI a0.Bill)),(.xseq 2 [[.b false,(.fn (.func 112) [] [])],[.b true,(.fn (.func 113) [] [])]])])]) 3 (fun r e s' H'=>PX 3 [(1,.i a1),(2,(.ptr (H.length + 0) 0)),(6,(.ptr (H.length + 2) 0)),(8,.i r),(30,.i x5),(31,.i s6.2)] (H++[(.cells (A2 a0)),(.cells (A2 a0)),(.cells [.i a0.Weather.Lo,.i a0.Weather.Hi,.i a0.Stoves,(.seq 1 (List.map cI a0.Holds)),(.seq 4 (List.map B7 a0.Places)),(.seq 6 (List.map A9 a0.Figures)),(.seq 1 (List.map cI a0.Bill)),(.xseq 2 [[.b false,(.fn (.func 112) [] [])],[.b true,(.fn (.func 113) [] [])]])])]) e s' H') () ho19 rfl rfl (fun _ _=>rfl) (fun _=>rfl) rfl (fun s14=>(bdc A5 (bdc (D4 rfl) (bdc (D4 rfl) (bdc A5 (bdc A5 (bdc A5 (bdc A5 (bdc A5 (bdc A5 bdn)))))))))) (fun q15 s14 ys14 hs14=>?_) ?_
      ·unfold B4u at hs14
       refine s0<|A0 (F8 rfl rfl) rfl<|es (ra10 rfl rfl rfl rfl rfl rfl rfl rfl rfl rfl)<|B6<|wi hs14 rfl (fun hc16 hs14=>?_) fun hc16 hs14=>?_
       ·refine C1<|B6<|C5<|s0<|qm rfl<|qm rfl<|es (ra10 rfl rfl rfl rfl rfl rfl rfl rfl rfl rfl)<|s0<|oB hs14 fun x17 hx17 hs14=>qm rfl<|qm rfl<|qm rfl<|qm rfl<|B4 (rs:=[.i x17]) rfl rfl (A1 rfl (A1 rfl (A1 rfl (A1 rfl B5)))) ((A0d (D9 rfl) hx17).frz)<|A0 (F7 rfl rfl) rfl<|es (ra10 rfl rfl rfl rfl rfl rfl rfl rfl rfl rfl)<|wi hs14 rfl (fun hc18 hs14=>?_) fun hc18 hs14=>?_
        ·refine r0<|qm rfl<|qm rfl<|en (ra9 rfl rfl rfl rfl rfl rfl rfl rfl rfl)<|r0<|A0 (E1 rfl rfl) rfl<|qm rfl<|en (ra9 rfl rfl rfl rfl rfl rfl rfl rfl rfl) ?_
         cases hs14
         exact lnT () rfl (su9 rfl rfl rfl rfl rfl rfl rfl rfl rfl)
        ·refine C1<|r0<|A0 (E1 rfl rfl) rfl<|qm rfl<|en (ra9 rfl rfl rfl rfl rfl rfl rfl rfl rfl) ?_
         cases hs14
         exact lnT () rfl (su9 rfl rfl rfl rfl rfl rfl rfl rfl rfl)
       ·refine E4 ?_
        obtain rfl:=os hs14
        exact lx rfl px (su6 rfl rfl rfl rfl rfl rfl)
      ·rintro e s' H' - ⟨rfl,rfl,rfl⟩
       refine r0<|A0 (E1 rfl rfl) rfl<|qm rfl<|en (ra6 rfl rfl rfl rfl rfl rfl) ?_
       cases hs6
       exact lnT () rfl (su6 rfl rfl rfl rfl rfl rfl)
    ·refine E4 ?_
     obtain rfl:=os hs6
     exact lx rfl px (su1 rfl)
   ·rintro e s' H' - ⟨rfl,rfl,rfl⟩
    refine B6<|s0<|qm rfl<|A0 (F8 rfl rfl) rfl<|es (ra2 rfl rfl)<|wi h rfl (fun hc21 h=>?_) fun hc21 h=>?_
    ·refine s0<|qm rfl<|qm rfl<|es (ra2 rfl rfl)<|C6 ?_
     obtain rfl:=os h
     exact retq trivial (B1 rfl (B1 rfl B9)) (A4 rfl (A4 rfl B8)) (A3 A5 (A3 A5 B3))
    ·refine C1<|s0<|qm rfl<|qm rfl<|qm rfl<|es (ra2 rfl rfl)<|C6 ?_
     obtain rfl:=os h
     exact retq trivial (B1 rfl (B1 rfl B9)) (A4 rfl (A4 rfl B8)) (A3 A5 (A3 A5 B3))
def A1n (x4:room_plan) (s6:(Int × (Ar5 Int))):Option ((Int × (Ar5 Int)) ⊕ (Ar5 Int)) :=
 if (decide (s6.1 < 5)) = true then
  (idx (Ar5.l x4.at_) s6.1).bind fun x9 =>
  (idx (Ar5.l s6.2) s6.1).bind fun x10 =>
  (idx (Ar5.l s6.2) s6.1).bind fun x11 =>
  some (.inl ((w64 (s6.1 + 1)),(Ar5.set s6.2 s6.1 (A1h x10 x9))))
 else
  some (.inr s6.2)
def V3  (x4:room_plan) (s5:(Int × (Ar5 Int))):Option ((Int × (Ar5 Int)) ⊕ Unit) :=
 (loop (A1n x4) (0,s5.2)).bind fun (o12:(Ar5 Int)) =>
 some (.inl ((w64 (s5.1 + 1)),o12))
def A4u (a0:RoHouse) (vo13_14:(Int × (Ar5 Int))) (s17:(Int × (List Int))):Option ((Int × (List Int)) ⊕ (List Int)) :=
 if (decide (s17.1 < (List.length a0.Figures:Int))) = true then
  (idx (Ar5.l vo13_14.2) s17.1).bind fun x20 =>
  if (x20 == 0) = true then
  (app 8 s17.2 [s17.1]).bind fun x22 =>
  some (.inl ((w64 (s17.1 + 1)),x22))
  else
  some (.inl ((w64 (s17.1 + 1)),s17.2))
 else
  some (.inr s17.2)
def A3v (a0:RoHouse):Option ((List Int) × Int) :=
 (R0 a0).bind fun x1 =>
 if (x1.2.2 != 0) = true then
  some (([]:List Int),x1.2.2)
 else
  (A57 (room_house.mk a0) (Int × (Ar5 Int)) Unit V3 (0,(Ar5.mk 0 0 0 0 0))).bind fun (o13:((Int × (Ar5 Int)) ⊕ Unit)) =>
  match o13 with
  | (.inl vo13_14) =>
  if (vo13_14.1 == 0) = true then
   some (([]:List Int),9)
  else
   (loop (A4u a0 vo13_14) (0,([]:List Int))).bind fun (o23:(List Int)) =>
   some (o23,0)
  | (.inr _)=>none
theorem C1n {c:Sc} {H:A7} (hscv:A0j c H = true) (hcl:clH H.length H = true) {a0:RoHouse} {r:((List Int) × Int)} (h:A3v a0 = some r) :
  F1 tab c H (.fn (.func 34) [] []) [(.agg (A2 a0))] [(.fresh 1 (List.map cI r.1)),.i r.2]:= by
 unfold A3v at h
 refine cE rfl rfl<|sg 0 rfl<|A0 (F3 (cs:=A2 a0) rfl rfl rfl) rfl<|A0 B18 rfl<|qm rfl<|es (ra2 rfl rfl)<|s0<|A0 (C2 rfl rfl rfl) rfl<|Q0 (as2:=[(.agg (A2 a0))]) (H1:=(H++[(.cells (A2 a0)),(.arr 1 false (List.map cI ([]:List Int)))])) rfl rfl (A1 (C8 rfl) B5) rfl rfl rfl (W8 rfl)<|sg 2 rfl<|A0 (F3 (cs:=A2 a0) rfl rfl rfl) rfl<|qm rfl<|qm rfl<|es (ra1 rfl)<|s0<|oB h fun x1 hx1 h=>A0 (C2 rfl rfl rfl) rfl<|B4 (rs:=[.i x1.1,.i x1.2.1,.i x1.2.2]) rfl rfl (A1 (C8 rfl) B5) ((R9 hx1).frz)<|qm rfl<|A0 (A6 rfl rfl) rfl<|A0 (A6 rfl rfl) rfl<|A0 (A6 rfl rfl) rfl<|qm rfl<|qm rfl<|qm rfl<|es (ra2 rfl rfl)<|sg 3 rfl<|A0 (C2 rfl rfl rfl) rfl<|A0 (G6 (cs:=[.b false,(.fn (.func 112) [] [])]) rfl rfl) rfl<|A0 (G6 (cs:=[.b true,(.fn (.func 113) [] [])]) rfl rfl) rfl<|A0 (A7w (rows:=[[.b false,(.fn (.func 112) [] [])],[.b true,(.fn (.func 113) [] [])]]) rfl rfl) rfl<|A0 (G6 (cs:=[.i a0.Weather.Lo,.i a0.Weather.Hi,.i a0.Stoves,(.seq 1 (List.map cI a0.Holds)),(.seq 4 (List.map B7 a0.Places)),(.seq 6 (List.map A9 a0.Figures)),(.seq 1 (List.map cI a0.Bill)),(.xseq 2 [[.b false,(.fn (.func 112) [] [])],[.b true,(.fn (.func 113) [] [])]])]) rfl rfl) rfl<|A0 (F3 (cs:=[.i a0.Weather.Lo,.i a0.Weather.Hi,.i a0.Stoves,(.seq 1 (List.map cI a0.Holds)),(.seq 4 (List.map B7 a0.Places)),(.seq 6 (List.map A9 a0.Figures)),(.seq 1 (List.map cI a0.Bill)),(.xseq 2 [[.b false,(.fn (.func 112) [] [])],[.b true,(.fn (.func 113) [] [])]])]) rfl rfl rfl) rfl<|qm rfl<|qm rfl<|qm rfl<|es (ra2 rfl rfl)<|C6<|InlQ.mk trivial ⟨_,_,_,[(.ptr (H.length + 3) 0),.i x1.2.2],_,(B1 rfl (B1 rfl B9)),(A4 rfl (A4 rfl B8)),(Y5 (O0 (Y3 rfl)) (D2 rfl (D2 rfl J7))),?_⟩
 refine qm rfl<|A0 (A6 rfl rfl) rfl<|A0 (A6 rfl rfl) rfl<|qm rfl<|qm rfl<|es (ra4 rfl rfl rfl rfl)<|B6<|s0<|qm rfl<|A0 (G2 rfl rfl) rfl<|es (ra5 rfl rfl rfl rfl rfl)<|wi h rfl (fun hc2 h=>?_) fun hc2 h=>?_
 ·refine sg 4 rfl<|qm rfl<|A0 B18 rfl<|qm rfl<|es (ra2 rfl rfl)<|C6 ?_
  obtain rfl:=os h
  exact retq trivial (B1 rfl (B1 rfl B9)) (A4 (B1q rfl (List.length_map _)) (A4 rfl B8)) (A3 A5w (A3 A5 B3))
 ·refine C1<|sg 4 rfl<|A0 D6 rfl<|F0 (C7 (ds:=(cI 0)) rfl rfl rfl rfl (C0 rfl) rfl) rfl<|es (ra4 rfl rfl rfl rfl)<|sg 5 rfl<|A0 D6 rfl<|es (ra5 rfl rfl rfl rfl rfl)<|B6<|s0<|qm rfl<|Q0 (as2:=[(.ptr (H.length + 3) 0)]) (H1:=(H++[(.cells (A2 a0)),(.arr 1 false (List.map cI ([]:List Int))),(.cells (A2 a0)),(.cells [.i a0.Weather.Lo,.i a0.Weather.Hi,.i a0.Stoves,(.seq 1 (List.map cI a0.Holds)),(.seq 4 (List.map B7 a0.Places)),(.seq 6 (List.map A9 a0.Figures)),(.seq 1 (List.map cI a0.Bill)),(.xseq 2 [[.b false,(.fn (.func 112) [] [])],[.b true,(.fn (.func 113) [] [])]])]),(.cells (cI 0)),(.cells ((N6 cI) (Ar5.mk 0 0 0 0 0)))])) rfl rfl (A1 rfl B5) rfl rfl rfl (W8 rfl)<|sg 6 rfl<|A0 (F3 (cs:=[(.ptr (H.length + 3) 0)]) rfl rfl rfl) rfl<|qm rfl<|es (ra1 rfl)<|s0<|A0 (A7n rfl rfl) rfl<|qm rfl<|es (ra1 rfl)<|C6<|InlQ.mk trivial ⟨_,_,_,[(.fn (.func 116) [] [(.ptr (H.length + 6) 0)])],_,(B1 rfl B9),(A4 rfl B8),(Y5 (O0 (C0c (O0 (Y3 rfl)))) (D2 rfl J7)),?_⟩
  refine es (ra5 rfl rfl rfl rfl rfl)<|C5<|oB h fun o13 ho13 h=>C6o (σ:=(Int × (Ar5 Int))) (ρ:=Unit) (k:=7) (ea:=(fun (x4:room_plan)=>(.agg (A8 x4)))) (body:=V3) (pre:=fun H1=>hcells H1 (H.length + 6) = some [.ptr (H.length + 3) 0]∧hcells H1 (H.length + 3) = some (B70 (room_house.mk a0))) (C14 (t:=(room_house.mk a0)) (b1:=H.length + 6) (bt:=(H.length + 3))) B3z [(5,(.ptr (H.length + 4) 0)),(6,(.ptr (H.length + 5) 0))] (fun s5=>[(.cells (A2 a0)),(.arr 1 false (List.map cI ([]:List Int))),(.cells (A2 a0)),(.cells [.i a0.Weather.Lo,.i a0.Weather.Hi,.i a0.Stoves,(.seq 1 (List.map cI a0.Holds)),(.seq 4 (List.map B7 a0.Places)),(.seq 6 (List.map A9 a0.Figures)),(.seq 1 (List.map cI a0.Bill)),(.xseq 2 [[.b false,(.fn (.func 112) [] [])],[.b true,(.fn (.func 113) [] [])]])]),(.cells (cI s5.1)),(.cells ((N6 cI) s5.2)),(.cells [(.ptr (H.length + 3) 0)])]) (fun (_:Unit)=>[(.cells (A2 a0)),(.arr 1 false (List.map cI ([]:List Int))),(.cells (A2 a0)),(.cells [.i a0.Weather.Lo,.i a0.Weather.Hi,.i a0.Stoves,(.seq 1 (List.map cI a0.Holds)),(.seq 4 (List.map B7 a0.Places)),(.seq 6 (List.map A9 a0.Figures)),(.seq 1 (List.map cI a0.Bill)),(.xseq 2 [[.b false,(.fn (.func 112) [] [])],[.b true,(.fn (.func 113) [] [])]])]),(.cells (cI 0)),(.cells ((N6 cI) (Ar5.mk 0 0 0 0 0))),(.cells [(.ptr (H.length + 3) 0)])]) (fun _=>.ret) ho13 (fun _=>rfl) rfl (fun S hS=>K5 (live:=[5,6]) rfl (by decide) (Sub.trans (su2 rfl rfl) hS)) rfl (fun _=>rfl) (fun _=>rfl) hcl (by rw [Bool.and_eq_true,Bool.and_eq_true]; exact ⟨⟨by kernel_rfl,by kernel_rfl⟩,(by simp [clH,clS,AO.cl,AV.cl,clL,clM,clR,A3z,A8g,A4d,A5y,N6,cI,cB,cS,J8,freeL,AV.free,freeR,Nat.blt,S5,A4y,K2,X3,J1,T5,L3,X2,P1,A0t,K4,Q6] <;> omega)⟩) (fun _=>(by simp [clH,clS,AO.cl,AV.cl,clL,clM,clR,A3z,A8g,A4d,A5y,N6,cI,cB,cS,J8,freeL,AV.free,freeR,Nat.blt,S5,A4y,K2,X3,J1,T5,L3,X2,P1,A0t,K4,Q6] <;> omega)) (fun _=>(by simp [clH,clS,AO.cl,AV.cl,clL,clM,clR,A3z,A8g,A4d,A5y,N6,cI,cB,cS,J8,freeL,AV.free,freeR,Nat.blt,S5,A4y,K2,X3,J1,T5,L3,X2,P1,A0t,K4,Q6] <;> omega)) (fun _=>(by simp [clH,clS,AO.cl,AV.cl,clL,clM,clR,A3z,A8g,A4d,A5y,N6,cI,cB,cS,J8,freeL,AV.free,freeR,Nat.blt,S5,A4y,K2,X3,J1,T5,L3,X2,P1,A0t,K4,Q6] <;> omega)) ⟨fun _ _=>(And.intro (D9 rfl) (D9 rfl)),fun _ _=>(And.intro (D9 rfl) (D9 rfl))⟩ (A4h hscv) (fun c x4 s5 o hs5 y0_7 y1_7=>?_) ?_
  ·unfold V3 at hs5
   refine rg 8 rfl<|A0 D6 rfl<|F0 (C7 (ds:=(A8 x4)) rfl rfl rfl rfl (C0 rfl) rfl) rfl<|en (ra3 rfl rfl rfl)<|⟨_,rfl,rfl,rfl,?_⟩
   refine C5<|s0<|A0 (C3 rfl rfl rfl) rfl<|A0 (E1 rfl rfl) rfl<|F0 (C7 (ds:=(cI (w64 (s5.1 + 1)))) rfl rfl rfl rfl (C0 rfl) rfl) rfl<|es (ra2 rfl rfl)<|s0<|A0 (C4 rfl) rfl<|A0 (E3 (ds:=(N6 cI) x4.at_) rfl rfl rfl rfl) rfl<|qm rfl<|es (ra3 rfl rfl rfl)<|C5<|oB hs5 fun o12 ho12 hs5=>wl (fun s6=>[(6,(.ptr (H.length + 5) 0)),(25,(.agg ((N6 cI) x4.at_))),(26,.i s6.1)]) (fun (q7:Unit) s6=>[(.cells (A2 a0)),(.arr 1 false (List.map cI ([]:List Int))),(.cells (A2 a0)),(.cells [.i a0.Weather.Lo,.i a0.Weather.Hi,.i a0.Stoves,(.seq 1 (List.map cI a0.Holds)),(.seq 4 (List.map B7 a0.Places)),(.seq 6 (List.map A9 a0.Figures)),(.seq 1 (List.map cI a0.Bill)),(.xseq 2 [[.b false,(.fn (.func 112) [] [])],[.b true,(.fn (.func 113) [] [])]])]),(.cells (cI (w64 (s5.1 + 1)))),(.cells ((N6 cI) s6.2)),(.cells [(.ptr (H.length + 3) 0)]),y1_7,(.cells (A8 x4))]) 9 (fun r e s' H'=>PX 2 [] (H++[(.cells (A2 a0)),(.arr 1 false (List.map cI ([]:List Int))),(.cells (A2 a0)),(.cells [.i a0.Weather.Lo,.i a0.Weather.Hi,.i a0.Stoves,(.seq 1 (List.map cI a0.Holds)),(.seq 4 (List.map B7 a0.Places)),(.seq 6 (List.map A9 a0.Figures)),(.seq 1 (List.map cI a0.Bill)),(.xseq 2 [[.b false,(.fn (.func 112) [] [])],[.b true,(.fn (.func 113) [] [])]])]),(.cells (cI (w64 (s5.1 + 1)))),(.cells ((N6 cI) r)),(.cells [(.ptr (H.length + 3) 0)]),y1_7,(.cells (A8 x4))]) e s' H') () ho12 rfl rfl (fun _ _=>rfl) (fun _=>rfl) rfl (fun s6=>(bdc (D4 rfl) (bdc (H6 rfl) (bdc A5 bdn)))) (fun q7 s6 ys6 hs6=>?_) ?_
   ·unfold A1n at hs6
    refine s0<|A0 (F8 rfl rfl) rfl<|es (ra4 rfl rfl rfl rfl)<|B6<|wi hs6 rfl (fun hc8 hs6=>?_) fun hc8 hs6=>?_
    ·refine C1<|B6<|C5<|s0<|oB hs6 fun x9 hx9 hs6=>qm rfl<|A0 (A7a (f:=cI) (g:=fun n=>(.i n)) (e:=Ar5.l x4.at_) (fun _=>rfl) rfl rfl rfl rfl hx9) rfl<|qm rfl<|qm rfl<|es (ra5 rfl rfl rfl rfl rfl)<|r0<|oB hs6 fun x10 hx10 hs6=>oB hs6 fun x11 hx11 hs6=>qm rfl<|qm rfl<|A0 (Y7 (e:=Ar5.l s6.2) rfl rfl rfl hx10) rfl<|A0 (V7 (f:=cI) (g:=fun n=>(.i n)) (e:=Ar5.l s6.2) (fun _=>rfl) rfl (D9 rfl) rfl hx10) rfl<|qm rfl<|A0 (C7z rfl rfl) rfl<|A0 (Y7 (e:=Ar5.l s6.2) rfl rfl rfl hx11) rfl<|F0 (B0q (f:=cI) (e:=Ar5.l s6.2) (e2:=Ar5.l (Ar5.set s6.2 s6.1 (A1h x10 x9))) (z:=(A1h x10 x9)) (ds:=((N6 cI) (Ar5.set s6.2 s6.1 (A1h x10 x9)))) rfl rfl rfl rfl rfl rfl (fun _=>rfl) hx11 (Ar5.set_l hx11) rfl (C0 rfl)) rfl<|en (ra3 rfl rfl rfl)<|r0<|A0 (E1 rfl rfl) rfl<|qm rfl<|en (ra3 rfl rfl rfl) ?_
     cases hs6
     exact lnT () rfl (su3 rfl rfl rfl)
    ·refine E4 ?_
     obtain rfl:=os hs6
     exact lx rfl px (.nil _)
   ·rintro e s' H' - ⟨rfl,rfl,rfl⟩
    cases hs5
    exact ⟨_,rfl,rfl,rfl⟩
  ·rcases o13 with vo13_14 | vo13_15
   ·refine B6<|s0<|A0 (C3 rfl rfl rfl) rfl<|A0 (F7 rfl rfl) rfl<|es (ra4 rfl rfl rfl rfl)<|wi h rfl (fun hc16 h=>?_) fun hc16 h=>?_
    ·refine sg 8 rfl<|A0 B18 rfl<|qm rfl<|es (ra2 rfl rfl)<|C6 ?_
     obtain rfl:=os h
     exact retq trivial (B1 rfl (B1 rfl B9)) (A4 (B1q rfl (List.length_map _)) (A4 rfl B8)) (A3 A5w (A3 A5 B3))
    ·refine C1<|B6<|s0<|A0 (C4 rfl) rfl<|A0 (C3 rfl rfl rfl) rfl<|A0 (D8 (f:=A9) rfl) rfl<|qm rfl<|es (ra4 rfl rfl rfl rfl)<|C5<|oB h fun o23 ho23 h=>wl (fun s17=>[(2,(.asl (H.length + 1) (List.length s17.2))),(6,(.ptr (H.length + 5) 0)),(42,(.i (List.length a0.Figures:Int))),(43,.i s17.1)]) (fun (q18:Unit) s17=>[(.cells (A2 a0)),(.arr 1 false (List.map cI s17.2)),(.cells (A2 a0)),(.cells [.i a0.Weather.Lo,.i a0.Weather.Hi,.i a0.Stoves,(.seq 1 (List.map cI a0.Holds)),(.seq 4 (List.map B7 a0.Places)),(.seq 6 (List.map A9 a0.Figures)),(.seq 1 (List.map cI a0.Bill)),(.xseq 2 [[.b false,(.fn (.func 112) [] [])],[.b true,(.fn (.func 113) [] [])]])]),(.cells (cI vo13_14.1)),(.cells ((N6 cI) vo13_14.2)),(.cells [(.ptr (H.length + 3) 0)]),.dead]) 8 (fun r e s' H'=>PX 4 [(2,(.asl (H.length + 1) (List.length r)))] (H++[(.cells (A2 a0)),(.arr 1 false (List.map cI r)),(.cells (A2 a0)),(.cells [.i a0.Weather.Lo,.i a0.Weather.Hi,.i a0.Stoves,(.seq 1 (List.map cI a0.Holds)),(.seq 4 (List.map B7 a0.Places)),(.seq 6 (List.map A9 a0.Figures)),(.seq 1 (List.map cI a0.Bill)),(.xseq 2 [[.b false,(.fn (.func 112) [] [])],[.b true,(.fn (.func 113) [] [])]])]),(.cells (cI vo13_14.1)),(.cells ((N6 cI) vo13_14.2)),(.cells [(.ptr (H.length + 3) 0)]),.dead]) e s' H') () ho23 rfl rfl (fun _ _=>rfl) (fun _=>rfl) rfl (fun s17=>(bdc (A48 rfl) (bdc (D4 rfl) (bdc A5 (bdc A5 bdn))))) (fun q18 s17 ys17 hs17=>?_) ?_
     ·unfold A4u at hs17
      refine s0<|A0 (F8 rfl rfl) rfl<|es (ra5 rfl rfl rfl rfl rfl)<|B6<|wi hs17 rfl (fun hc19 hs17=>?_) fun hc19 hs17=>?_
      ·refine C1<|B6<|C5<|s0<|qm rfl<|qm rfl<|es (ra5 rfl rfl rfl rfl rfl)<|s0<|oB hs17 fun x20 hx20 hs17=>qm rfl<|A0 (Y7 (e:=Ar5.l vo13_14.2) rfl rfl rfl hx20) rfl<|A0 (V7 (f:=cI) (g:=fun n=>(.i n)) (e:=Ar5.l vo13_14.2) (fun _=>rfl) rfl (D9 rfl) rfl hx20) rfl<|A0 (F7 rfl rfl) rfl<|es (ra6 rfl rfl rfl rfl rfl rfl)<|wi hs17 rfl (fun hc21 hs17=>?_) fun hc21 hs17=>?_
       ·refine r0<|oB hs17 fun x22 hx22 hs17=>qm rfl<|qm rfl<|A0 (J5 (rows:=List.map cI [s17.1]) rfl rfl (E2 (fun _=>rfl) _)) rfl<|A5a (V6 (f:=cI) rfl rfl rfl rfl R8 (fun _=>rfl) hx22) rfl<|qm rfl<|en (ra4 rfl rfl rfl rfl)<|r0<|A0 (E1 rfl rfl) rfl<|qm rfl<|en (ra4 rfl rfl rfl rfl) ?_
        cases hs17
        exact lnT () rfl (su4 rfl rfl rfl rfl)
       ·refine C1<|r0<|A0 (E1 rfl rfl) rfl<|qm rfl<|en (ra4 rfl rfl rfl rfl) ?_
        cases hs17
        exact lnT () rfl (su4 rfl rfl rfl rfl)
      ·refine E4 ?_
       obtain rfl:=os hs17
       exact lx rfl px (su1 rfl)
     ·rintro e s' H' - ⟨rfl,rfl,rfl⟩
      refine s0<|qm rfl<|qm rfl<|qm rfl<|es (ra2 rfl rfl)<|C6 ?_
      obtain rfl:=os h
      exact retq trivial (B1 rfl (B1 rfl B9)) (A4 (B1q rfl (List.length_map _)) (A4 rfl B8)) (A3 A5w (A3 A5 B3))
   ·cases h
theorem A95 {c:Sc} {H:A7} (hscv:A0j c H = true) {a0:RoHouse} {r:((List Int) × Int)} (h:A3v a0 = some r) :
  F1 tab c H (.fn (.func 34) [] []) [(.agg (A2 a0))] [(.fresh 1 (List.map cI r.1)),.i r.2]:=B2n B3z (C1n (c:=⟨0,[]⟩) (H:=[]) rfl rfl h) (by simp [freeL,AV.free,J8,cI,cB,cS,A8g,A4d,A5y,N6,S5,K2,J1,L3,P1,K4]) (by simp [freeL,AV.free,J8,cI,cB,cS,A8g,A4d,A5y,N6,S5,K2,J1,L3,P1,K4]) hscv
def B4w (a1:RoPlan) (s9:(Int × room_plan)):Option ((Int × room_plan) ⊕ (room_plan ⊕ Unit)) :=
 if (decide (s9.1 < (List.length a1.At:Int))) = true then
  (idx a1.At s9.1).bind fun x12 =>
  (if (x12 != (-1)) = true then
  (slc a1.At 0 s9.1).bind fun x14 =>
  (M4 x14 x12).bind fun x15 =>
  some x15
  else
  some false).bind fun x16 =>
  if x16 = true then
  some (.inr (.inr ()))
  else
  (idx (Ar5.l s9.2.at_) s9.1).bind fun x18 =>
  some (.inl ((w64 (s9.1 + 1)),(room_plan.mk s9.2.lit_ (Ar5.set s9.2.at_ s9.1 (w64 (x12 + 1))))))
 else
  some (.inr (.inl s9.2))
def A1o (a0:RoHouse) (vo19_0:room_plan) (s20:Int):Option (Int ⊕ (Unit ⊕ Unit)) :=
 if (decide (s20 < 5)) = true then
  (idx (Ar5.l vo19_0.at_) s20).bind fun x23 =>
  (if (decide (x23 > 0)) = true then
  (O9 (room_house.mk a0) s20 (w64 (x23 - 1)) vo19_0.lit_).bind fun x25 =>
  some (x25 != 1)
  else
  some false).bind fun x26 =>
  if x26 = true then
  some (.inr (.inr ()))
  else
  some (.inl (w64 (s20 + 1)))
 else
  some (.inr (.inl ()))
def A5h (a0:RoHouse) (a1:RoPlan):Option (Int × Int) :=
 (R0 a0).bind fun x1 =>
 if (x1.2.2 != 0) = true then
  some (0,x1.2.2)
 else
  (B4g .i64 1 a0.Stoves).bind fun x3 =>
  (H7 0 (w64 (x3 - 1)) [a1.Lit]).bind fun x4 =>
  if x4 = true then
  some (0,7)
  else
  if ((List.length a1.At:Int) != (List.length a0.Figures:Int)) = true then
   some (0,3)
  else
   (H7 (-1) (w64 ((List.length a0.Places:Int) - 1)) a1.At).bind fun x7 =>
   if x7 = true then
   some (0,4)
   else
   (loop (B4w a1) (0,(room_plan.mk a1.Lit (Ar5.mk 0 0 0 0 0)))).bind fun (o19:(room_plan ⊕ Unit)) =>
   match o19 with
   | (.inl vo19_0) =>
    (loop (A1o a0 vo19_0) 0).bind fun (o28:(Unit ⊕ Unit)) =>
    match o28 with
    | (.inl vo28_0) =>
    (N1 (room_house.mk a0) vo19_0.at_ true).bind fun x29 =>
    if (!x29) = true then
     some (0,9)
    else
     (U6 (room_house.mk a0) vo19_0.at_).bind fun x31 =>
     some (x31,0)
    | (.inr vo28_1) =>
    some (0,9)
   | (.inr vo19_1) =>
    some (0,5)
theorem A96 {c:Sc} {H:A7} {a0:RoHouse} {a1:RoPlan} {r:(Int × Int)} (h:A5h a0 a1 = some r) :
  F1 tab c H (.fn (.func 27) [] []) [(.agg (A2 a0)),(.agg (B2 a1))] [.i r.1,.i r.2]:= by
 unfold A5h at h
 refine cE rfl rfl<|sg 0 rfl<|A0 (F3 (cs:=A2 a0) rfl rfl rfl) rfl<|A0 (F3 (cs:=B2 a1) rfl rfl rfl) rfl<|qm rfl<|qm rfl<|es (ra2 rfl rfl)<|sg 2 rfl<|A0 (C2 rfl rfl rfl) rfl<|A0 (C2 rfl rfl rfl) rfl<|Q0 (as2:=[(.agg (A2 a0)),(.agg (B2 a1))]) (H1:=(H++[(.cells (A2 a0)),(.cells (B2 a1)),.dead])) rfl rfl (A1 (C8 rfl) (A1 (C8 rfl) B5)) rfl rfl rfl (W8 rfl)<|sg 3 rfl<|A0 (F3 (cs:=A2 a0) rfl rfl rfl) rfl<|A0 (F3 (cs:=B2 a1) rfl rfl rfl) rfl<|qm rfl<|A0 D6 rfl<|qm rfl<|es (ra3 rfl rfl rfl)<|sg 6 rfl<|A0 (C2 rfl rfl rfl) rfl<|A0 (C2 rfl rfl rfl) rfl<|Q0 (as2:=[(.agg (A2 a0)),(.agg (B2 a1))]) (H1:=(H++[(.cells (A2 a0)),(.cells (B2 a1)),.dead,(.cells (A2 a0)),(.cells (B2 a1)),(.cells (A8 (room_plan.mk 0 (Ar5.mk 0 0 0 0 0)))),.dead])) rfl rfl (A1 (C8 rfl) (A1 (C8 rfl) B5)) rfl rfl rfl (W8 rfl)<|sg 7 rfl<|A0 (F3 (cs:=A2 a0) rfl rfl rfl) rfl<|A0 (F3 (cs:=B2 a1) rfl rfl rfl) rfl<|qm rfl<|A0 D6 rfl<|qm rfl<|es (ra3 rfl rfl rfl)<|s0<|A0 (C2 rfl rfl rfl) rfl<|Q0 (as2:=[(.agg (A2 a0))]) (H1:=(H++[(.cells (A2 a0)),(.cells (B2 a1)),.dead,(.cells (A2 a0)),(.cells (B2 a1)),(.cells (A8 (room_plan.mk 0 (Ar5.mk 0 0 0 0 0)))),.dead,(.cells (A2 a0)),(.cells (B2 a1)),(.cells (A8 (room_plan.mk 0 (Ar5.mk 0 0 0 0 0))))])) rfl rfl (A1 (C8 rfl) B5) rfl rfl rfl (W8 rfl)<|sg 10 rfl<|A0 (F3 (cs:=A2 a0) rfl rfl rfl) rfl<|qm rfl<|qm rfl<|es (ra1 rfl)<|s0<|oB h fun x1 hx1 h=>A0 (C2 rfl rfl rfl) rfl<|B4 (rs:=[.i x1.1,.i x1.2.1,.i x1.2.2]) rfl rfl (A1 (C8 rfl) B5) ((R9 hx1).frz)<|qm rfl<|A0 (A6 rfl rfl) rfl<|A0 (A6 rfl rfl) rfl<|A0 (A6 rfl rfl) rfl<|qm rfl<|qm rfl<|qm rfl<|es (ra2 rfl rfl)<|sg 11 rfl<|A0 (C2 rfl rfl rfl) rfl<|A0 (G6 (cs:=[.b false,(.fn (.func 112) [] [])]) rfl rfl) rfl<|A0 (G6 (cs:=[.b true,(.fn (.func 113) [] [])]) rfl rfl) rfl<|A0 (A7w (rows:=[[.b false,(.fn (.func 112) [] [])],[.b true,(.fn (.func 113) [] [])]]) rfl rfl) rfl<|A0 (G6 (cs:=[.i a0.Weather.Lo,.i a0.Weather.Hi,.i a0.Stoves,(.seq 1 (List.map cI a0.Holds)),(.seq 4 (List.map B7 a0.Places)),(.seq 6 (List.map A9 a0.Figures)),(.seq 1 (List.map cI a0.Bill)),(.xseq 2 [[.b false,(.fn (.func 112) [] [])],[.b true,(.fn (.func 113) [] [])]])]) rfl rfl) rfl<|A0 (F3 (cs:=[.i a0.Weather.Lo,.i a0.Weather.Hi,.i a0.Stoves,(.seq 1 (List.map cI a0.Holds)),(.seq 4 (List.map B7 a0.Places)),(.seq 6 (List.map A9 a0.Figures)),(.seq 1 (List.map cI a0.Bill)),(.xseq 2 [[.b false,(.fn (.func 112) [] [])],[.b true,(.fn (.func 113) [] [])]])]) rfl rfl rfl) rfl<|qm rfl<|qm rfl<|qm rfl<|es (ra2 rfl rfl)<|C6 ?_
 refine InlQ.mk trivial ⟨_,_,_,[(.ptr (H.length + 11) 0),.i x1.2.2],_,(B1 rfl (B1 rfl B9)),(A4 rfl (A4 rfl B8)),(Y5 (O0 (Y3 rfl)) (D2 rfl (D2 rfl J7))),?_⟩
 refine qm rfl<|A0 (A6 rfl rfl) rfl<|A0 (A6 rfl rfl) rfl<|qm rfl<|qm rfl<|es (ra5 rfl rfl rfl rfl rfl)<|B6<|C5<|s0<|qm rfl<|A0 (G2 rfl rfl) rfl<|qm rfl<|es (ra6 rfl rfl rfl rfl rfl rfl)<|wi h rfl (fun hc2 h=>?_) fun hc2 h=>?_
 ·refine s0<|A0 (C2 rfl rfl rfl) rfl<|qm rfl<|F0 (C7 (ds:=(A8 (room_plan.mk 0 (Ar5.mk 0 0 0 0 0)))) rfl rfl rfl rfl (C0 rfl) rfl) rfl<|qm rfl<|qm rfl<|es (ra3 rfl rfl rfl)<|C6<|InlQ.mk trivial ⟨_,_,_,[(.lit (.pointer none)),(.agg (A8 (room_plan.mk 0 (Ar5.mk 0 0 0 0 0)))),.i x1.2.2],_,(B1 rfl (G0 (E3 (ds:=A8 (room_plan.mk 0 (Ar5.mk 0 0 0 0 0))) rfl rfl rfl rfl) (B1 rfl B9))),(A4 rfl (A4 (I5 rfl) (A4 rfl B8))),(R7 (A3 A5 (A3 (H6 rfl) (A3 A5 B3))) (D2 rfl (D2 rfl (D2 rfl J7))) (I2 _ _ _)),?_⟩
  refine qm rfl<|A0 (A6 rfl rfl) rfl<|A0 (A6 rfl rfl) rfl<|A0 (A6 rfl rfl) rfl<|A0 D6 rfl<|qm rfl<|F0 (C7 (ds:=(A8 (room_plan.mk 0 (Ar5.mk 0 0 0 0 0)))) rfl rfl rfl rfl (C0 rfl) rfl) rfl<|qm rfl<|es (ra4 rfl rfl rfl rfl)<|B6<|s0<|qm rfl<|A0 (G2 rfl rfl) rfl<|es (ra5 rfl rfl rfl rfl rfl)<|H9 rfl hc2<|s0<|A0 (C2 rfl rfl rfl) rfl<|qm rfl<|F0 (C7 (ds:=(A8 (room_plan.mk 0 (Ar5.mk 0 0 0 0 0)))) rfl rfl rfl rfl (C0 rfl) rfl) rfl<|qm rfl<|qm rfl<|es (ra3 rfl rfl rfl)<|C6<|InlQ.mk trivial ⟨_,_,_,[(.lit (.pointer none)),(.agg (A8 (room_plan.mk 0 (Ar5.mk 0 0 0 0 0)))),.i x1.2.2],_,(B1 rfl (G0 (E3 (ds:=A8 (room_plan.mk 0 (Ar5.mk 0 0 0 0 0))) rfl rfl rfl rfl) (B1 rfl B9))),(A4 rfl (A4 (I5 rfl) (A4 rfl B8))),(R7 (A3 A5 (A3 (H6 rfl) (A3 A5 B3))) (D2 rfl (D2 rfl (D2 rfl J7))) (I2 _ _ _)),?_⟩
  refine qm rfl<|A0 (A6 rfl rfl) rfl<|A0 (A6 rfl rfl) rfl<|A0 (A6 rfl rfl) rfl<|A0 D6 rfl<|qm rfl<|F0 (C7 (ds:=(A8 (room_plan.mk 0 (Ar5.mk 0 0 0 0 0)))) rfl rfl rfl rfl (C0 rfl) rfl) rfl<|qm rfl<|es (ra3 rfl rfl rfl)<|B6<|s0<|qm rfl<|A0 (G2 rfl rfl) rfl<|es (ra4 rfl rfl rfl rfl)<|H9 rfl hc2<|s0<|qm rfl<|qm rfl<|qm rfl<|es (ra2 rfl rfl)<|C6 ?_
  obtain rfl:=os h
  exact retq trivial (B1 rfl (B1 rfl B9)) (A4 rfl (A4 rfl B8)) (A3 A5 (A3 A5 B3))
 ·refine s0<|oB h fun x3 hx3 h=>oB h fun x4 hx4 h=>A0 (C4 rfl) rfl<|A0 (C3 rfl rfl rfl) rfl<|A0 (B6k rfl rfl hx3) rfl<|A0 (U8 rfl rfl) rfl<|A0 (C4 rfl) rfl<|A0 (C3 rfl rfl rfl) rfl<|A0 (J5 (rows:=List.map cI [a1.Lit]) rfl rfl (E2 (fun _=>rfl) _)) rfl<|B4 (rs:=[.b x4]) rfl rfl (A1 rfl (A1 rfl (A1 rfl B5))) ((I4 hx4).frz)<|qm rfl<|es (ra5 rfl rfl rfl rfl rfl)<|wi h rfl (fun hc5 h=>?_) fun hc5 h=>?_
  ·refine s0<|A0 (C2 rfl rfl rfl) rfl<|qm rfl<|F0 (C7 (ds:=(A8 (room_plan.mk 0 (Ar5.mk 0 0 0 0 0)))) rfl rfl rfl rfl (C0 rfl) rfl) rfl<|qm rfl<|es (ra3 rfl rfl rfl)<|C6<|InlQ.mk trivial ⟨_,_,_,[(.lit (.pointer none)),(.agg (A8 (room_plan.mk 0 (Ar5.mk 0 0 0 0 0)))),.i 7],_,(B1 rfl (G0 (E3 (ds:=A8 (room_plan.mk 0 (Ar5.mk 0 0 0 0 0))) rfl rfl rfl rfl) (B1 rfl B9))),(A4 rfl (A4 (I5 rfl) (A4 rfl B8))),(R7 (A3 A5 (A3 (H6 rfl) (A3 A5 B3))) (D2 rfl (D2 rfl (D2 rfl J7))) (I2 _ _ _)),?_⟩
   refine qm rfl<|A0 (A6 rfl rfl) rfl<|A0 (A6 rfl rfl) rfl<|A0 (A6 rfl rfl) rfl<|A0 D6 rfl<|qm rfl<|F0 (C7 (ds:=(A8 (room_plan.mk 0 (Ar5.mk 0 0 0 0 0)))) rfl rfl rfl rfl (C0 rfl) rfl) rfl<|qm rfl<|es (ra4 rfl rfl rfl rfl)<|B6<|s0<|qm rfl<|A0 (F9 (v:=(.b true)) rfl rfl rfl) rfl<|es (ra5 rfl rfl rfl rfl rfl)<|H9 rfl rfl<|s0<|A0 (C2 rfl rfl rfl) rfl<|qm rfl<|F0 (C7 (ds:=(A8 (room_plan.mk 0 (Ar5.mk 0 0 0 0 0)))) rfl rfl rfl rfl (C0 rfl) rfl) rfl<|qm rfl<|qm rfl<|es (ra3 rfl rfl rfl)<|C6<|InlQ.mk trivial ⟨_,_,_,[(.lit (.pointer none)),(.agg (A8 (room_plan.mk 0 (Ar5.mk 0 0 0 0 0)))),.i 7],_,(B1 rfl (G0 (E3 (ds:=A8 (room_plan.mk 0 (Ar5.mk 0 0 0 0 0))) rfl rfl rfl rfl) (B1 rfl B9))),(A4 rfl (A4 (I5 rfl) (A4 rfl B8))),(R7 (A3 A5 (A3 (H6 rfl) (A3 A5 B3))) (D2 rfl (D2 rfl (D2 rfl J7))) (I2 _ _ _)),?_⟩
   refine qm rfl<|A0 (A6 rfl rfl) rfl<|A0 (A6 rfl rfl) rfl<|A0 (A6 rfl rfl) rfl<|A0 D6 rfl<|qm rfl<|F0 (C7 (ds:=(A8 (room_plan.mk 0 (Ar5.mk 0 0 0 0 0)))) rfl rfl rfl rfl (C0 rfl) rfl) rfl<|qm rfl<|es (ra3 rfl rfl rfl)<|B6<|s0<|qm rfl<|A0 (F9 (v:=(.b true)) rfl rfl rfl) rfl<|es (ra4 rfl rfl rfl rfl)<|H9 rfl rfl<|s0<|qm rfl<|qm rfl<|qm rfl<|es (ra2 rfl rfl)<|C6 ?_
   obtain rfl:=os h
   exact retq trivial (B1 rfl (B1 rfl B9)) (A4 rfl (A4 rfl B8)) (A3 A5 (A3 A5 B3))
  ·refine s0<|A0 (C4 rfl) rfl<|A0 (C3 rfl rfl rfl) rfl<|A0 (D8 (f:=cI) rfl) rfl<|A0 (C4 rfl) rfl<|A0 (C3 rfl rfl rfl) rfl<|A0 (D8 (f:=A9) rfl) rfl<|A0 (G2 rfl rfl) rfl<|qm rfl<|es (ra5 rfl rfl rfl rfl rfl)<|wi h rfl (fun hc6 h=>?_) fun hc6 h=>?_
   ·refine s0<|A0 (C2 rfl rfl rfl) rfl<|qm rfl<|F0 (C7 (ds:=(A8 (room_plan.mk 0 (Ar5.mk 0 0 0 0 0)))) rfl rfl rfl rfl (C0 rfl) rfl) rfl<|qm rfl<|es (ra3 rfl rfl rfl)<|C6<|InlQ.mk trivial ⟨_,_,_,[(.lit (.pointer none)),(.agg (A8 (room_plan.mk 0 (Ar5.mk 0 0 0 0 0)))),.i 3],_,(B1 rfl (G0 (E3 (ds:=A8 (room_plan.mk 0 (Ar5.mk 0 0 0 0 0))) rfl rfl rfl rfl) (B1 rfl B9))),(A4 rfl (A4 (I5 rfl) (A4 rfl B8))),(R7 (A3 A5 (A3 (H6 rfl) (A3 A5 B3))) (D2 rfl (D2 rfl (D2 rfl J7))) (I2 _ _ _)),?_⟩
    refine qm rfl<|A0 (A6 rfl rfl) rfl<|A0 (A6 rfl rfl) rfl<|A0 (A6 rfl rfl) rfl<|A0 D6 rfl<|qm rfl<|F0 (C7 (ds:=(A8 (room_plan.mk 0 (Ar5.mk 0 0 0 0 0)))) rfl rfl rfl rfl (C0 rfl) rfl) rfl<|qm rfl<|es (ra4 rfl rfl rfl rfl)<|B6<|s0<|qm rfl<|A0 (F9 (v:=(.b true)) rfl rfl rfl) rfl<|es (ra5 rfl rfl rfl rfl rfl)<|H9 rfl rfl<|s0<|A0 (C2 rfl rfl rfl) rfl<|qm rfl<|F0 (C7 (ds:=(A8 (room_plan.mk 0 (Ar5.mk 0 0 0 0 0)))) rfl rfl rfl rfl (C0 rfl) rfl) rfl<|qm rfl<|qm rfl<|es (ra3 rfl rfl rfl)<|C6<|InlQ.mk trivial ⟨_,_,_,[(.lit (.pointer none)),(.agg (A8 (room_plan.mk 0 (Ar5.mk 0 0 0 0 0)))),.i 3],_,(B1 rfl (G0 (E3 (ds:=A8 (room_plan.mk 0 (Ar5.mk 0 0 0 0 0))) rfl rfl rfl rfl) (B1 rfl B9))),(A4 rfl (A4 (I5 rfl) (A4 rfl B8))),(R7 (A3 A5 (A3 (H6 rfl) (A3 A5 B3))) (D2 rfl (D2 rfl (D2 rfl J7))) (I2 _ _ _)),?_⟩
    refine qm rfl<|A0 (A6 rfl rfl) rfl<|A0 (A6 rfl rfl) rfl<|A0 (A6 rfl rfl) rfl<|A0 D6 rfl<|qm rfl<|F0 (C7 (ds:=(A8 (room_plan.mk 0 (Ar5.mk 0 0 0 0 0)))) rfl rfl rfl rfl (C0 rfl) rfl) rfl<|qm rfl<|es (ra3 rfl rfl rfl)<|B6<|s0<|qm rfl<|A0 (F9 (v:=(.b true)) rfl rfl rfl) rfl<|es (ra4 rfl rfl rfl rfl)<|H9 rfl rfl<|s0<|qm rfl<|qm rfl<|qm rfl<|es (ra2 rfl rfl)<|C6 ?_
    obtain rfl:=os h
    exact retq trivial (B1 rfl (B1 rfl B9)) (A4 rfl (A4 rfl B8)) (A3 A5 (A3 A5 B3))
   ·refine s0<|oB h fun x7 hx7 h=>A0 (C4 rfl) rfl<|A0 (C3 rfl rfl rfl) rfl<|A0 (D8 (f:=B7) rfl) rfl<|A0 (U8 rfl rfl) rfl<|A0 (C4 rfl) rfl<|A0 (C3 rfl rfl rfl) rfl<|B4 (rs:=[.b x7]) rfl rfl (A1 rfl (A1 rfl (A1 rfl B5))) ((I4 hx7).frz)<|qm rfl<|es (ra4 rfl rfl rfl rfl)<|wi h rfl (fun hc8 h=>?_) fun hc8 h=>?_
    ·refine s0<|A0 (C2 rfl rfl rfl) rfl<|qm rfl<|F0 (C7 (ds:=(A8 (room_plan.mk 0 (Ar5.mk 0 0 0 0 0)))) rfl rfl rfl rfl (C0 rfl) rfl) rfl<|qm rfl<|es (ra3 rfl rfl rfl)<|C6<|InlQ.mk trivial ⟨_,_,_,[(.lit (.pointer none)),(.agg (A8 (room_plan.mk 0 (Ar5.mk 0 0 0 0 0)))),.i 4],_,(B1 rfl (G0 (E3 (ds:=A8 (room_plan.mk 0 (Ar5.mk 0 0 0 0 0))) rfl rfl rfl rfl) (B1 rfl B9))),(A4 rfl (A4 (I5 rfl) (A4 rfl B8))),(R7 (A3 A5 (A3 (H6 rfl) (A3 A5 B3))) (D2 rfl (D2 rfl (D2 rfl J7))) (I2 _ _ _)),?_⟩
     refine qm rfl<|A0 (A6 rfl rfl) rfl<|A0 (A6 rfl rfl) rfl<|A0 (A6 rfl rfl) rfl<|A0 D6 rfl<|qm rfl<|F0 (C7 (ds:=(A8 (room_plan.mk 0 (Ar5.mk 0 0 0 0 0)))) rfl rfl rfl rfl (C0 rfl) rfl) rfl<|qm rfl<|es (ra4 rfl rfl rfl rfl)<|B6<|s0<|qm rfl<|A0 (F9 (v:=(.b true)) rfl rfl rfl) rfl<|es (ra5 rfl rfl rfl rfl rfl)<|H9 rfl rfl<|s0<|A0 (C2 rfl rfl rfl) rfl<|qm rfl<|F0 (C7 (ds:=(A8 (room_plan.mk 0 (Ar5.mk 0 0 0 0 0)))) rfl rfl rfl rfl (C0 rfl) rfl) rfl<|qm rfl<|qm rfl<|es (ra3 rfl rfl rfl)<|C6<|InlQ.mk trivial ⟨_,_,_,[(.lit (.pointer none)),(.agg (A8 (room_plan.mk 0 (Ar5.mk 0 0 0 0 0)))),.i 4],_,(B1 rfl (G0 (E3 (ds:=A8 (room_plan.mk 0 (Ar5.mk 0 0 0 0 0))) rfl rfl rfl rfl) (B1 rfl B9))),(A4 rfl (A4 (I5 rfl) (A4 rfl B8))),(R7 (A3 A5 (A3 (H6 rfl) (A3 A5 B3))) (D2 rfl (D2 rfl (D2 rfl J7))) (I2 _ _ _)),?_⟩
     refine qm rfl<|A0 (A6 rfl rfl) rfl<|A0 (A6 rfl rfl) rfl<|A0 (A6 rfl rfl) rfl<|A0 D6 rfl<|qm rfl<|F0 (C7 (ds:=(A8 (room_plan.mk 0 (Ar5.mk 0 0 0 0 0)))) rfl rfl rfl rfl (C0 rfl) rfl) rfl<|qm rfl<|es (ra3 rfl rfl rfl)<|B6<|s0<|qm rfl<|A0 (F9 (v:=(.b true)) rfl rfl rfl) rfl<|es (ra4 rfl rfl rfl rfl)<|H9 rfl rfl<|s0<|qm rfl<|qm rfl<|qm rfl<|es (ra2 rfl rfl)<|C6 ?_
     obtain rfl:=os h
     exact retq trivial (B1 rfl (B1 rfl B9)) (A4 rfl (A4 rfl B8)) (A3 A5 (A3 A5 B3))
    ·refine C1<|s0<|A0 (C4 rfl) rfl<|A0 (C3 rfl rfl rfl) rfl<|A0 (C4 rfl) rfl<|F0 (C7 (ds:=(A8 (room_plan.mk a1.Lit (Ar5.mk 0 0 0 0 0)))) rfl rfl rfl rfl (C0 rfl) rfl) rfl<|es (ra3 rfl rfl rfl)<|B6<|s0<|A0 (C4 rfl) rfl<|A0 (C3 rfl rfl rfl) rfl<|A0 (D8 (f:=cI) rfl) rfl<|qm rfl<|es (ra6 rfl rfl rfl rfl rfl rfl)<|C5<|oB h fun o19 ho19 h=>wl (fun s9=>[(3,(.ptr (H.length + 8) 0)),(4,(.ptr (H.length + 11) 0)),(5,(.ptr (H.length + 9) 0)),(51,(.seq 1 (List.map cI a1.At))),(52,(.i (List.length a1.At:Int))),(53,.i s9.1)]) (fun (q10:Unit) s9=>[(.cells (A2 a0)),(.cells (B2 a1)),.dead,(.cells (A2 a0)),(.cells (B2 a1)),(.cells (A8 (room_plan.mk 0 (Ar5.mk 0 0 0 0 0)))),.dead,(.cells (A2 a0)),(.cells (B2 a1)),(.cells (A8 s9.2)),(.cells (A2 a0)),(.cells [.i a0.Weather.Lo,.i a0.Weather.Hi,.i a0.Stoves,(.seq 1 (List.map cI a0.Holds)),(.seq 4 (List.map B7 a0.Places)),(.seq 6 (List.map A9 a0.Figures)),(.seq 1 (List.map cI a0.Bill)),(.xseq 2 [[.b false,(.fn (.func 112) [] [])],[.b true,(.fn (.func 113) [] [])]])])]) 12 (fun r e s' H'=>(match r with | (.inl v)=>PX 1 [(4,(.ptr (H.length + 11) 0)),(5,(.ptr (H.length + 9) 0))] (H++[(.cells (A2 a0)),(.cells (B2 a1)),.dead,(.cells (A2 a0)),(.cells (B2 a1)),(.cells (A8 (room_plan.mk 0 (Ar5.mk 0 0 0 0 0)))),.dead,(.cells (A2 a0)),(.cells (B2 a1)),(.cells (A8 v)),(.cells (A2 a0)),(.cells [.i a0.Weather.Lo,.i a0.Weather.Hi,.i a0.Stoves,(.seq 1 (List.map cI a0.Holds)),(.seq 4 (List.map B7 a0.Places)),(.seq 6 (List.map A9 a0.Figures)),(.seq 1 (List.map cI a0.Bill)),(.xseq 2 [[.b false,(.fn (.func 112) [] [])],[.b true,(.fn (.func 113) [] [])]])])]) e s' H' | (.inr v)=>e = .ret∧s' = [(4,(.lit (.pointer none))),(5,(.ptr (H.length + 9) 0)),(6,.i 5)]∧H' = (H++[(.cells (A2 a0)),(.cells (B2 a1)),.dead,(.cells (A2 a0)),(.cells (B2 a1)),(.cells (A8 (room_plan.mk 0 (Ar5.mk 0 0 0 0 0)))),.dead,(.cells (A2 a0)),(.cells (B2 a1)),(.cells (A8 (room_plan.mk 0 (Ar5.mk 0 0 0 0 0)))),(.cells (A2 a0)),(.cells [.i a0.Weather.Lo,.i a0.Weather.Hi,.i a0.Stoves,(.seq 1 (List.map cI a0.Holds)),(.seq 4 (List.map B7 a0.Places)),(.seq 6 (List.map A9 a0.Figures)),(.seq 1 (List.map cI a0.Bill)),(.xseq 2 [[.b false,(.fn (.func 112) [] [])],[.b true,(.fn (.func 113) [] [])]])])]):Prop)) () ho19 rfl rfl (fun _ _=>rfl) (fun _=>rfl) rfl (fun s9=>(bdc (D4 rfl) (bdc (D4 rfl) (bdc (D4 rfl) (bdc G7 (bdc A5 (bdc A5 bdn))))))) (fun q10 s9 ys9 hs9=>?_) ?_
     ·unfold B4w at hs9
      refine s0<|A0 (F8 rfl rfl) rfl<|es (ra7 rfl rfl rfl rfl rfl rfl rfl)<|B6<|wi hs9 rfl (fun hc11 hs9=>?_) fun hc11 hs9=>?_
      ·refine C1<|B6<|C5<|s0<|oB hs9 fun x12 hx12 hs9=>qm rfl<|A0 (E6 (f:=cI) rfl rfl hx12) rfl<|A0 (E9 rfl rfl) rfl<|qm rfl<|qm rfl<|es (ra8 rfl rfl rfl rfl rfl rfl rfl rfl)<|B6<|s0<|oB hs9 fun x16 hx16 hs9=>qm rfl<|A0 (G2 rfl rfl) rfl<|qm rfl<|gp 7 67 (.b x16) 60 rfl rfl (fun hg13=>?_) (fun hg13=>?_) ?_
       ·refine oB (bt hx16 hg13) fun x14 hx14 hx16=>oB hx16 fun x15 hx15 hx16=>?_
        obtain rfl:=os hx16
        exact gT rfl hg13<|A0 (C4 rfl) rfl<|gT rfl hg13<|A0 (C3 rfl rfl rfl) rfl<|gT rfl hg13<|qm rfl<|gT rfl hg13<|A0 (B0p (f:=cI) rfl rfl rfl hx14) rfl<|gT rfl hg13<|qm rfl<|gT rfl hg13<|B4 (rs:=[.b x15]) rfl rfl (A1 rfl (A1 rfl B5)) ((A0e hx15).frz)<|A0 (D0 rfl hg13 rfl) rfl<|ge 7 rfl rfl rfl
       ·obtain rfl:=os (bf hx16 hg13)
        exact nT rfl hg13 rfl<|nT rfl hg13 rfl<|nT rfl hg13 rfl<|nT rfl hg13 rfl<|nT rfl hg13 rfl<|I0 (F2 rfl (by rw [hg13]; rfl)) rfl<|A0 (D1 rfl hg13 rfl) rfl<|ge 7 rfl rfl rfl
       refine es (ra9 rfl rfl rfl rfl rfl rfl rfl rfl rfl)<|wi hs9 rfl (fun hc17 hs9=>?_) fun hc17 hs9=>?_
       ·refine s0<|A0 (G6 (cs:=A8 (room_plan.mk 0 (Ar5.mk 0 0 0 0 0))) rfl rfl) rfl<|qm rfl<|F0 (C7 (ds:=(A8 (room_plan.mk 0 (Ar5.mk 0 0 0 0 0)))) rfl rfl rfl rfl (C0 rfl) rfl) rfl<|qm rfl<|es (ra3 rfl rfl rfl)<|C6 ?_
        obtain rfl:=os hs9
        exact lx rfl (And.intro rfl (And.intro rfl rfl)) (su3 rfl rfl rfl)
       ·refine C1<|r0<|oB hs9 fun x18 hx18 hs9=>qm rfl<|qm rfl<|A0 (E1 rfl rfl) rfl<|A0 (C4 rfl) rfl<|A0 (Y7 (e:=Ar5.l s9.2.at_) rfl rfl rfl hx18) rfl<|F0 (B0q (f:=cI) (e:=Ar5.l s9.2.at_) (e2:=Ar5.l (Ar5.set s9.2.at_ s9.1 (w64 (x12 + 1)))) (z:=(w64 (x12 + 1))) (ds:=(A8 (room_plan.mk s9.2.lit_ (Ar5.set s9.2.at_ s9.1 (w64 (x12 + 1)))))) rfl rfl rfl rfl rfl rfl (fun _=>rfl) hx18 (Ar5.set_l hx18) rfl (C0 rfl)) rfl<|en (ra6 rfl rfl rfl rfl rfl rfl)<|r0<|A0 (E1 rfl rfl) rfl<|qm rfl<|en (ra6 rfl rfl rfl rfl rfl rfl) ?_
        cases hs9
        exact lnT () rfl (su6 rfl rfl rfl rfl rfl rfl)
      ·refine E4 ?_
       obtain rfl:=os hs9
       exact lx rfl px (su2 rfl rfl)
     ·rcases o19 with vo19_0 | vo19_1
      ·rintro e s' H' - ⟨rfl,rfl,rfl⟩
       refine s0<|qm rfl<|A0 (C2 rfl rfl rfl) rfl<|qm rfl<|F0 (C7 (ds:=(A8 vo19_0)) rfl rfl rfl rfl (C0 rfl) rfl) rfl<|qm rfl<|es (ra3 rfl rfl rfl)<|C6<|InlQ.mk trivial ⟨_,_,_,[(.ptr (H.length + 11) 0),(.agg (A8 vo19_0)),.i 0],_,(B1 rfl (G0 (E3 (ds:=A8 vo19_0) rfl rfl rfl rfl) (B1 rfl B9))),(A4 rfl (A4 (I5 rfl) (A4 rfl B8))),(Y5 (O0 (Y3 rfl)) (D2 rfl (D2 rfl (D2 rfl J7)))),?_⟩
       refine qm rfl<|A0 (A6 rfl rfl) rfl<|A0 (A6 rfl rfl) rfl<|A0 (A6 rfl rfl) rfl<|A0 D6 rfl<|qm rfl<|F0 (C7 (ds:=(A8 vo19_0)) rfl rfl rfl rfl (C0 rfl) rfl) rfl<|qm rfl<|es (ra4 rfl rfl rfl rfl)<|B6<|s0<|qm rfl<|A0 (F9 (v:=(.b false)) rfl rfl rfl) rfl<|es (ra5 rfl rfl rfl rfl rfl)<|Q9 rfl rfl<|C1<|B6<|s0<|A0 (C4 rfl) rfl<|A0 (E3 (ds:=(N6 cI) vo19_0.at_) rfl rfl rfl rfl) rfl<|qm rfl<|es (ra5 rfl rfl rfl rfl rfl)<|C5<|oB h fun o28 ho28 h=>wl (fun s20=>[(5,(.ptr (H.length + 5) 0)),(7,(.ptr (H.length + 11) 0)),(8,(.ptr (H.length + 6) 0)),(24,(.agg ((N6 cI) vo19_0.at_))),(25,.i s20)]) (fun (q21:Unit) s20=>[(.cells (A2 a0)),(.cells (B2 a1)),.dead,(.cells (A2 a0)),(.cells (B2 a1)),(.cells (A8 (room_plan.mk 0 (Ar5.mk 0 0 0 0 0)))),(.cells (A8 vo19_0)),(.cells (A2 a0)),(.cells (B2 a1)),(.cells (A8 vo19_0)),(.cells (A2 a0)),(.cells [.i a0.Weather.Lo,.i a0.Weather.Hi,.i a0.Stoves,(.seq 1 (List.map cI a0.Holds)),(.seq 4 (List.map B7 a0.Places)),(.seq 6 (List.map A9 a0.Figures)),(.seq 1 (List.map cI a0.Bill)),(.xseq 2 [[.b false,(.fn (.func 112) [] [])],[.b true,(.fn (.func 113) [] [])]])])]) 12 (fun r e s' H'=>(match r with | (.inl v)=>PX 0 [(5,(.ptr (H.length + 5) 0)),(7,(.ptr (H.length + 11) 0)),(8,(.ptr (H.length + 6) 0))] (H++[(.cells (A2 a0)),(.cells (B2 a1)),.dead,(.cells (A2 a0)),(.cells (B2 a1)),(.cells (A8 (room_plan.mk 0 (Ar5.mk 0 0 0 0 0)))),(.cells (A8 vo19_0)),(.cells (A2 a0)),(.cells (B2 a1)),(.cells (A8 vo19_0)),(.cells (A2 a0)),(.cells [.i a0.Weather.Lo,.i a0.Weather.Hi,.i a0.Stoves,(.seq 1 (List.map cI a0.Holds)),(.seq 4 (List.map B7 a0.Places)),(.seq 6 (List.map A9 a0.Figures)),(.seq 1 (List.map cI a0.Bill)),(.xseq 2 [[.b false,(.fn (.func 112) [] [])],[.b true,(.fn (.func 113) [] [])]])])]) e s' H' | (.inr v)=>e = .ret∧s' = [(4,(.lit (.pointer none))),(5,(.ptr (H.length + 5) 0)),(6,.i 9)]∧H' = (H++[(.cells (A2 a0)),(.cells (B2 a1)),.dead,(.cells (A2 a0)),(.cells (B2 a1)),(.cells (A8 vo19_0)),(.cells (A8 vo19_0)),(.cells (A2 a0)),(.cells (B2 a1)),(.cells (A8 vo19_0)),(.cells (A2 a0)),(.cells [.i a0.Weather.Lo,.i a0.Weather.Hi,.i a0.Stoves,(.seq 1 (List.map cI a0.Holds)),(.seq 4 (List.map B7 a0.Places)),(.seq 6 (List.map A9 a0.Figures)),(.seq 1 (List.map cI a0.Bill)),(.xseq 2 [[.b false,(.fn (.func 112) [] [])],[.b true,(.fn (.func 113) [] [])]])])]):Prop)) () ho28 rfl rfl (fun _ _=>rfl) (fun _=>rfl) rfl (fun s20=>(bdc (D4 rfl) (bdc (D4 rfl) (bdc (D4 rfl) (bdc (H6 rfl) (bdc A5 bdn)))))) (fun q21 s20 ys20 hs20=>?_) ?_
       ·unfold A1o at hs20
        refine s0<|A0 (F8 rfl rfl) rfl<|es (ra6 rfl rfl rfl rfl rfl rfl)<|B6<|wi hs20 rfl (fun hc22 hs20=>?_) fun hc22 hs20=>?_
        ·refine C1<|B6<|C5<|s0<|oB hs20 fun x23 hx23 hs20=>qm rfl<|A0 (A7a (f:=cI) (g:=fun n=>(.i n)) (e:=Ar5.l vo19_0.at_) (fun _=>rfl) rfl rfl rfl rfl hx23) rfl<|qm rfl<|qm rfl<|es (ra7 rfl rfl rfl rfl rfl rfl rfl)<|s0<|oB hs20 fun x26 hx26 hs20=>qm rfl<|A0 (A0a rfl rfl) rfl<|qm rfl<|gp 9 40 (.b x26) 31 rfl rfl (fun hg24=>?_) (fun hg24=>?_) ?_
         ·refine oB (bt hx26 hg24) fun x25 hx25 hx26=>?_
          obtain rfl:=os hx26
          exact gT rfl hg24<|qm rfl<|gT rfl hg24<|qm rfl<|gT rfl hg24<|qm rfl<|gT rfl hg24<|A0 (U8 rfl rfl) rfl<|gT rfl hg24<|A0 (C4 rfl) rfl<|gT rfl hg24<|A0 (C3 rfl rfl rfl) rfl<|gT rfl hg24<|B4 (rs:=[.i x25]) rfl rfl (A1 rfl (A1 rfl (A1 rfl (A1 rfl B5)))) ((A0d (D9 rfl) hx25).frz)<|gT rfl hg24<|A0 (G2 rfl rfl) rfl<|A0 (D0 rfl hg24 rfl) rfl<|ge 9 rfl rfl rfl
         ·obtain rfl:=os (bf hx26 hg24)
          exact nT rfl hg24 rfl<|nT rfl hg24 rfl<|nT rfl hg24 rfl<|nT rfl hg24 rfl<|nT rfl hg24 rfl<|nT rfl hg24 rfl<|I0 (F2 rfl (by rw [hg24]; rfl)) rfl<|nT rfl hg24 rfl<|A0 (D1 rfl hg24 rfl) rfl<|ge 9 rfl rfl rfl
         refine es (ra6 rfl rfl rfl rfl rfl rfl)<|wi hs20 rfl (fun hc27 hs20=>?_) fun hc27 hs20=>?_
         ·refine s0<|A0 (C2 rfl rfl rfl) rfl<|qm rfl<|F0 (C7 (ds:=(A8 vo19_0)) rfl rfl rfl rfl (C0 rfl) rfl) rfl<|qm rfl<|es (ra3 rfl rfl rfl)<|C6 ?_
          obtain rfl:=os hs20
          exact lx rfl (And.intro rfl (And.intro rfl rfl)) (su3 rfl rfl rfl)
         ·refine C1<|r0<|A0 (E1 rfl rfl) rfl<|qm rfl<|en (ra5 rfl rfl rfl rfl rfl) ?_
          cases hs20
          exact lnT () rfl (su5 rfl rfl rfl rfl rfl)
        ·refine E4 ?_
         obtain rfl:=os hs20
         exact lx rfl px (su3 rfl rfl rfl)
       ·rcases o28 with vo28_0 | vo28_1
        ·rintro e s' H' - ⟨rfl,rfl,rfl⟩
         refine B6<|s0<|oB h fun x29 hx29 h=>qm rfl<|A0 (C4 rfl) rfl<|A0 (E3 (ds:=(N6 cI) vo19_0.at_) rfl rfl rfl rfl) rfl<|B4 (rs:=[.b x29]) rfl rfl (A1 rfl (A1 (C8 rfl) (A1 rfl B5))) ((U2 (D9 rfl) hx29).frz)<|A0 (N5 rfl) rfl<|es (ra4 rfl rfl rfl rfl)<|wi h rfl (fun hc30 h=>?_) fun hc30 h=>?_
         ·refine s0<|A0 (C2 rfl rfl rfl) rfl<|qm rfl<|F0 (C7 (ds:=(A8 vo19_0)) rfl rfl rfl rfl (C0 rfl) rfl) rfl<|qm rfl<|es (ra3 rfl rfl rfl)<|C6<|InlQ.mk trivial ⟨_,_,_,[(.lit (.pointer none)),(.agg (A8 vo19_0)),.i 9],_,(B1 rfl (G0 (E3 (ds:=A8 vo19_0) rfl rfl rfl rfl) (B1 rfl B9))),(A4 rfl (A4 (I5 rfl) (A4 rfl B8))),(R7 (A3 A5 (A3 (H6 rfl) (A3 A5 B3))) (D2 rfl (D2 rfl (D2 rfl J7))) (I2 _ _ _)),?_⟩
          refine qm rfl<|A0 (A6 rfl rfl) rfl<|A0 (A6 rfl rfl) rfl<|A0 (A6 rfl rfl) rfl<|A0 D6 rfl<|qm rfl<|F0 (C7 (ds:=(A8 vo19_0)) rfl rfl rfl rfl (C0 rfl) rfl) rfl<|qm rfl<|es (ra3 rfl rfl rfl)<|B6<|s0<|qm rfl<|A0 (F9 (v:=(.b true)) rfl rfl rfl) rfl<|es (ra4 rfl rfl rfl rfl)<|H9 rfl rfl<|s0<|qm rfl<|qm rfl<|qm rfl<|es (ra2 rfl rfl)<|C6 ?_
          obtain rfl:=os h
          exact retq trivial (B1 rfl (B1 rfl B9)) (A4 rfl (A4 rfl B8)) (A3 A5 (A3 A5 B3))
         ·refine C1<|s0<|qm rfl<|A0 (C2 rfl rfl rfl) rfl<|qm rfl<|F0 (C7 (ds:=(A8 vo19_0)) rfl rfl rfl rfl (C0 rfl) rfl) rfl<|qm rfl<|es (ra3 rfl rfl rfl)<|C6<|InlQ.mk trivial ⟨_,_,_,[(.ptr (H.length + 11) 0),(.agg (A8 vo19_0)),.i 0],_,(B1 rfl (G0 (E3 (ds:=A8 vo19_0) rfl rfl rfl rfl) (B1 rfl B9))),(A4 rfl (A4 (I5 rfl) (A4 rfl B8))),(Y5 (O0 (Y3 rfl)) (D2 rfl (D2 rfl (D2 rfl J7)))),?_⟩
          refine qm rfl<|A0 (A6 rfl rfl) rfl<|A0 (A6 rfl rfl) rfl<|A0 (A6 rfl rfl) rfl<|A0 D6 rfl<|qm rfl<|F0 (C7 (ds:=(A8 vo19_0)) rfl rfl rfl rfl (C0 rfl) rfl) rfl<|qm rfl<|es (ra3 rfl rfl rfl)<|B6<|s0<|qm rfl<|A0 (F9 (v:=(.b false)) rfl rfl rfl) rfl<|es (ra4 rfl rfl rfl rfl)<|Q9 rfl rfl<|C1<|s0<|oB h fun x31 hx31 h=>qm rfl<|A0 (C4 rfl) rfl<|A0 (E3 (ds:=(N6 cI) vo19_0.at_) rfl rfl rfl rfl) rfl<|B4 (rs:=[.i x31]) rfl rfl (A1 rfl (A1 (C8 rfl) B5)) ((A7u (D9 rfl) hx31).frz)<|qm rfl<|qm rfl<|es (ra2 rfl rfl)<|C6 ?_
          obtain rfl:=os h
          exact retq trivial (B1 rfl (B1 rfl B9)) (A4 rfl (A4 rfl B8)) (A3 A5 (A3 A5 B3))
        ·rintro e s' H' - ⟨rfl,rfl,rfl⟩
         refine InlQ.mk trivial ⟨_,_,_,[(.lit (.pointer none)),(.agg (A8 vo19_0)),.i 9],_,(B1 rfl (G0 (E3 (ds:=A8 vo19_0) rfl rfl rfl rfl) (B1 rfl B9))),(A4 rfl (A4 (I5 rfl) (A4 rfl B8))),(R7 (A3 A5 (A3 (H6 rfl) (A3 A5 B3))) (D2 rfl (D2 rfl (D2 rfl J7))) (I2 _ _ _)),?_⟩
         refine qm rfl<|A0 (A6 rfl rfl) rfl<|A0 (A6 rfl rfl) rfl<|A0 (A6 rfl rfl) rfl<|A0 D6 rfl<|qm rfl<|F0 (C7 (ds:=(A8 vo19_0)) rfl rfl rfl rfl (C0 rfl) rfl) rfl<|qm rfl<|es (ra3 rfl rfl rfl)<|B6<|s0<|qm rfl<|A0 (F9 (v:=(.b true)) rfl rfl rfl) rfl<|es (ra4 rfl rfl rfl rfl)<|H9 rfl rfl<|s0<|qm rfl<|qm rfl<|qm rfl<|es (ra2 rfl rfl)<|C6 ?_
         obtain rfl:=os h
         exact retq trivial (B1 rfl (B1 rfl B9)) (A4 rfl (A4 rfl B8)) (A3 A5 (A3 A5 B3))
      ·rintro e s' H' - ⟨rfl,rfl,rfl⟩
       refine InlQ.mk trivial ⟨_,_,_,[(.lit (.pointer none)),(.agg (A8 (room_plan.mk 0 (Ar5.mk 0 0 0 0 0)))),.i 5],_,(B1 rfl (G0 (E3 (ds:=A8 (room_plan.mk 0 (Ar5.mk 0 0 0 0 0))) rfl rfl rfl rfl) (B1 rfl B9))),(A4 rfl (A4 (I5 rfl) (A4 rfl B8))),(R7 (A3 A5 (A3 (H6 rfl) (A3 A5 B3))) (D2 rfl (D2 rfl (D2 rfl J7))) (I2 _ _ _)),?_⟩
       refine qm rfl<|A0 (A6 rfl rfl) rfl<|A0 (A6 rfl rfl) rfl<|A0 (A6 rfl rfl) rfl<|A0 D6 rfl<|qm rfl<|F0 (C7 (ds:=(A8 (room_plan.mk 0 (Ar5.mk 0 0 0 0 0)))) rfl rfl rfl rfl (C0 rfl) rfl) rfl<|qm rfl<|es (ra4 rfl rfl rfl rfl)<|B6<|s0<|qm rfl<|A0 (F9 (v:=(.b true)) rfl rfl rfl) rfl<|es (ra5 rfl rfl rfl rfl rfl)<|H9 rfl rfl<|s0<|A0 (C2 rfl rfl rfl) rfl<|qm rfl<|F0 (C7 (ds:=(A8 (room_plan.mk 0 (Ar5.mk 0 0 0 0 0)))) rfl rfl rfl rfl (C0 rfl) rfl) rfl<|qm rfl<|qm rfl<|es (ra3 rfl rfl rfl)<|C6<|InlQ.mk trivial ⟨_,_,_,[(.lit (.pointer none)),(.agg (A8 (room_plan.mk 0 (Ar5.mk 0 0 0 0 0)))),.i 5],_,(B1 rfl (G0 (E3 (ds:=A8 (room_plan.mk 0 (Ar5.mk 0 0 0 0 0))) rfl rfl rfl rfl) (B1 rfl B9))),(A4 rfl (A4 (I5 rfl) (A4 rfl B8))),(R7 (A3 A5 (A3 (H6 rfl) (A3 A5 B3))) (D2 rfl (D2 rfl (D2 rfl J7))) (I2 _ _ _)),?_⟩
       refine qm rfl<|A0 (A6 rfl rfl) rfl<|A0 (A6 rfl rfl) rfl<|A0 (A6 rfl rfl) rfl<|A0 D6 rfl<|qm rfl<|F0 (C7 (ds:=(A8 (room_plan.mk 0 (Ar5.mk 0 0 0 0 0)))) rfl rfl rfl rfl (C0 rfl) rfl) rfl<|qm rfl<|es (ra3 rfl rfl rfl)<|B6<|s0<|qm rfl<|A0 (F9 (v:=(.b true)) rfl rfl rfl) rfl<|es (ra4 rfl rfl rfl rfl)<|H9 rfl rfl<|s0<|qm rfl<|qm rfl<|qm rfl<|es (ra2 rfl rfl)<|C6 ?_
       obtain rfl:=os h
       exact retq trivial (B1 rfl (B1 rfl B9)) (A4 rfl (A4 rfl B8)) (A3 A5 (A3 A5 B3))
end Rm
end
