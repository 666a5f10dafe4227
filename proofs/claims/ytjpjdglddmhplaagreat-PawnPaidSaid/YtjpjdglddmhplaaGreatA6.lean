/- Texts that the claim stands on, one behind another. -/
import Derived.Test.YtjpjdglddmhplaaGreatA5
import Derived.Laws.RangeAny
set_option linter.unusedVariables false
set_option linter.unusedSimpArgs false
set_option linter.unnecessarySimpa false
section
namespace Pw
open Go Am
instance:Inhabited PaGown:=⟨⟨ByteArray.empty,0,false,0,0,0,0,0⟩⟩
instance:Inhabited PaFigure:=⟨⟨ByteArray.empty,0,0,0⟩⟩
instance:Inhabited PaIncome:=⟨⟨0,0⟩⟩
instance:Inhabited PaUse:=⟨⟨0,0,0⟩⟩
def D0j (s:ByteArray) (i:Nat):Bool :=
 !(decide (97≤s[i]!.toNat) && decide (s[i]!.toNat≤122)) && (i == 0 || !((decide (48≤s[i]!.toNat) && decide (s[i]!.toNat≤57)) || s[i]!.toNat == 46))
def bad (s:ByteArray) (i:Nat):Option Unit:=if D0j s i then some () else none
def A27 (s:ByteArray):Bool:=(!(s.size == 0) && decide (s.size≤16)) && (first (bad s) s.size).isNone
theorem nd97 {x:Nat}:decide ((97:Int)≤(x:Int)) = decide (97≤x):=decide_eq_decide.mpr (by omega)
theorem nd122 {x:Nat}:decide ((x:Int)≤122) = decide (x≤122):=decide_eq_decide.mpr (by omega)
theorem nd48 {x:Nat}:decide ((48:Int)≤(x:Int)) = decide (48≤x):=decide_eq_decide.mpr (by omega)
theorem nd57 {x:Nat}:decide ((x:Int)≤57) = decide (x≤57):=decide_eq_decide.mpr (by omega)
theorem nl48 {x:Nat}:decide ((x:Int) < 48) = !decide (48≤x):= by rw [Bool.eq_iff_iff]; simp; omega
theorem nl57 {x:Nat}:decide ((57:Int) < (x:Int)) = !decide (x≤57):= by rw [Bool.eq_iff_iff]; simp; omega
theorem nz0 {x:Nat}:((x:Int) == 0) = (x == 0):= by rw [Bool.eq_iff_iff]; simp
theorem n46 {x:Nat}:((x:Int) == 46) = (x == 46):= by rw [Bool.eq_iff_iff]; simp; omega
theorem n46' {x:Nat}:((x:Int) == 46) = (x == 46):=n46
theorem C92 {s:ByteArray} {i:Nat} (h:i < s.size):B23 s (i:Int) = some (s[i]!.toNat:Int):= by
 unfold B23
 rw [if_pos (Int.natCast_nonneg i),Int.toNat_natCast,getElem?_pos s i h,getElem!_pos s i h]; rfl
theorem B9g (s:ByteArray):A5c s = some (A27 s):= by
 unfold A5c A27
 by_cases h0:s.size = 0
 ·rw [if_pos (by simp [h0])]; simp [h0]
 by_cases h1:s.size > 16
 ·rw [if_pos (by simp; omega)]
  have:decide (s.size≤16) = false:= by simp; omega
  rw [this]; simp
 rw [if_neg (by simp only [Bool.or_eq_true,beq_iff_eq,decide_eq_true_eq]; omega)]
 have hl:loop (A1i s) 0 = some ((first (fun i=>(bad s i).map fun _=>(Sum.inl false:Bool ⊕ Unit)) s.size).getD (.inr ())):= by
  refine A9w s.size _ _ (by omega) ?_ ?_
  ·intro i hi _
   unfold A1i
   rw [if_pos (by simpa using hi),C92 hi]
   have hb:s[i]!.toNat < 256:=s[i]!.toNat_lt
   generalize hx:s[i]!.toNat = x at hb
   simp only [Option.bind_some,A2q,G1 (n:=(x:Int)) (by omega),ge_iff_le,nd97,nd122,nd48,nd57,nz0,n46]
   unfold bad D0j
   rw [hx]
   generalize decide (97≤x) = b1
   generalize decide (x≤122) = b2
   generalize decide (48≤x) = b3
   generalize decide (x≤57) = b4
   generalize (x == 46) = b5
   generalize (i == 0) = b6
   cases b1 <;> cases b2 <;> cases b3 <;> cases b4 <;> cases b5 <;> cases b6 <;> rfl
  ·unfold A1i
   rw [if_neg (by simp)]
 rw [hl]
 cases hf:first (bad s) s.size with
 | none =>
  have:=J3.mp hf
  rw [J3.mpr fun i hi=>by rw [this i hi]; rfl]
  have e1:(s.size == 0) = false:= by rw [beq_eq_false_iff_ne]; exact h0
  have e2:decide (s.size≤16) = true:=decide_eq_true (by omega)
  rw [e1,e2]; rfl
 | some u =>
  obtain ⟨i,hi,h2,h3⟩:=S3 hf
  rw [A6o (r:=.inl false) hi (by rw [h2]; rfl) fun j hj=>by rw [h3 j hj]; rfl]
  simp
theorem B0g (s:ByteArray) (hs:s.size < 9223372036854775808):A26 s = some (A27 s):= by
 unfold A26 A27
 have hl:loop (A1a s) (0:Nat) = some ((first (fun i=>(bad s i).map fun _=>(Sum.inl false:Bool ⊕ Nat)) s.size).getD (.inr s.size)):= by
  refine A9v (fun i=>i) s.size _ _ hs ?_ ?_
  ·intro i hi _
   unfold A1a
   rw [if_pos (by simpa using hi)]
   unfold bad D0j
   rw [getElem!_pos s i hi]
   by_cases ha:(s[i]'hi).toNat < 128
   ·rw [decode_ascii s i hi ha]
    generalize (s[i]'hi).toNat = x at ha ⊢
    simp only [nd97,nd122,gt_iff_lt,nl48,nl57,nz0,n46',bne]
    generalize decide (97≤x) = b1
    generalize decide (x≤122) = b2
    generalize decide (48≤x) = b3
    generalize decide (x≤57) = b4
    generalize (x == 46) = b5
    generalize (i == 0) = b6
    cases b1 <;> cases b2 <;> cases b3 <;> cases b4 <;> cases b5 <;> cases b6 <;> rfl
   ·have hd:=(decode_high s i hi (by omega)).1
    generalize (Utf8.decode s i).1 = y at hd ⊢
    generalize (s[i]'hi).toNat = x at ha ⊢
    rw [if_pos (by simp; omega)]
    have e1:decide (x≤122) = false:= by simp; omega
    have e2:decide (x≤57) = false:= by simp; omega
    have e3:(x == 46) = false:= by simp; omega
    simp [e1,e2,e3]
  ·intro _
   unfold A1a
   rw [if_neg (by simp)]
 rw [hl]
 have he:eqS s (ByteArray.mk #[]) = (s.size == 0):= by
  unfold eqS
  cases hz:s.data.toList with
  | nil =>
   have:s.size = 0:= by show s.data.size = 0; rw [← Array.length_toList,hz]; rfl
   rw [this]; rfl
  | cons a t =>
   have:s.size = t.length + 1:= by show s.data.size = _; rw [← Array.length_toList,hz]; rfl
   rw [this]; rfl
 cases hf:first (bad s) s.size with
 | none =>
  have:=J3.mp hf
  rw [J3.mpr fun i hi=>by rw [this i hi]; rfl]
  have e2:decide ((s.size:Int)≤16) = decide (s.size≤16):=decide_eq_decide.mpr (by omega)
  simp [he,e2]
 | some u =>
  obtain ⟨i,hi,h2,h3⟩:=S3 hf
  rw [A6o (r:=.inl false) hi (by rw [h2]; rfl) fun j hj=>by rw [h3 j hj]; rfl]
  simp
theorem B9q {α:Type} [Inhabited α] (l:List α) (p:α→Bool):(first (fun i=>if p l[i]! then some (i:Int) else none) l.length).isSome = l.any p:= by
 cases hf:first (fun i=>if p l[i]! then some (i:Int) else none) l.length with
 | none =>
  have h0:=J3.mp hf
  cases ha:l.any p with
  | false=>rfl
  | true =>
   rw [List.any_eq_true] at ha
   obtain ⟨x,hx,hp⟩:=ha
   obtain ⟨i,hi,e⟩:=List.mem_iff_getElem.mp hx
   have:=h0 i hi
   rw [getElem!_pos l i hi,e,hp] at this
   exact absurd this (by simp)
 | some r =>
  obtain ⟨i,hi,h1,_⟩:=S3 hf
  rw [getElem!_pos l i hi] at h1
  cases hp:p l[i] with
  | false=>rw [hp] at h1; exact absurd h1 (by simp)
  | true=>exact (List.any_eq_true.mpr ⟨l[i],List.getElem_mem hi,hp⟩).symm
theorem B90 {α:Type} [Inhabited α] (l:List α) (p:α→Bool) {b:Int→Option (Int ⊕ (Int ⊕ Unit))} (hl:l.length < 9223372036854775808)
  (hb:∀i:Nat,i < l.length→b i = some (if p l[i]! then .inr (.inl (i:Int)) else .inl (w64 ((i:Int) + 1)))) (he:b l.length = some (.inr (.inr ()))) :
  ∃ o,loop b 0 = some o∧(match o with | .inl i=>0≤i∧l.any p = true | .inr _=>l.any p = false):= by
 have h:=A9w (b:=b) l.length (fun i=>if p l[i]! then some (.inl (i:Int)) else none) (.inr ()) hl (fun i hi _=>by
  rw [hb i hi]; cases p l[i]! <;> rfl) he
 refine ⟨_,h,?_⟩
 have ha:=B9q l p
 cases hf:first (fun i=>if p l[i]! then some (Sum.inl (i:Int):Int ⊕ Unit) else none) l.length with
 | none =>
  have h0:=J3.mp hf
  rw [J3.mpr fun i hi=>by
   have:=h0 i hi
   cases hp:p l[i]! with
   | false=>rfl
   | true=>rw [hp] at this; exact absurd this (by simp)] at ha
  simpa using ha.symm
 | some r =>
  obtain ⟨i,hi,h1,h2⟩:=S3 hf
  cases hp:p l[i]! with
  | false=>rw [hp] at h1; exact absurd h1 (by simp)
  | true =>
   rw [hp] at h1
   have h1:some (Sum.inl (i:Int)) = some r:=h1
   obtain rfl:=Option.some.inj h1
   refine ⟨Int.natCast_nonneg i,?_⟩
   rw [A6o (r:=(i:Int)) hi (by rw [hp]; rfl) fun j hj=>by
    have:=h2 j hj
    cases hq:p l[j]! with
    | false=>rfl
    | true=>rw [hq] at this; exact absurd this (by simp)] at ha
   exact ha.symm
theorem A4e {α:Type} [Inhabited α] (l:List α) (g:α→Option Bool) (p:α→Bool) {b:Int→Option (Int ⊕ (Int ⊕ Unit))} {F:Option Bool} (hl:l.length < 9223372036854775808) (hg:∀x ∈ l,g x = some (p x))
  (hb:∀i:Int,b i = if decide (i < l.length) = true then (idx l i).bind fun x=>(g x).bind fun y=>if y = true then some (.inr (.inl i)) else some (.inl (w64 (i + 1))) else some (.inr (.inr ())))
  (hF:F = ((loop b 0).bind fun o=>match o with | .inl v=>some v | .inr _=>some (-1)).bind fun x=>some (decide (x ≥ 0))):F = some (l.any p):= by
 obtain ⟨o,ho,hc⟩:=B90 l p (b:=b) hl (fun i hi=>by
  rw [hb,if_pos (by simpa using hi),K1 hi]
  simp only [Option.bind_some]
  rw [hg _ (by rw [getElem!_pos l i hi]; exact List.getElem_mem hi)]
  simp only [Option.bind_some]
  cases p l[i]! <;> rfl) (by
  rw [hb,if_neg (by simp)])
 rw [hF,ho]
 rcases o with i | u
 ·simp only [Option.bind_some]
  rw [hc.2,decide_eq_true hc.1]
 ·simp only [Option.bind_some]
  rw [hc]; rfl
theorem C1i (l:List Int) (g:Int→Option Bool) (p:Int→Bool) (hl:l.length < 9223372036854775808) (hg:∀x ∈ l,g x = some (p x)):N5 l g = some (l.any p) :=
 A4e l g p (b:=R5 l g) hl hg (fun _=>rfl) rfl
theorem B81 (l:List PaGown) (g:PaGown→Option Bool) (p:PaGown→Bool) (hl:l.length < 9223372036854775808) (hg:∀x ∈ l,g x = some (p x)):I2 l g = some (l.any p) :=
 A4e l g p (b:=K6 l g) hl hg (fun _=>rfl) rfl
theorem B5k (l:List PaFigure) (g:PaFigure→Option Bool) (p:PaFigure→Bool) (hl:l.length < 9223372036854775808) (hg:∀x ∈ l,g x = some (p x)):G5 l g = some (l.any p) :=
 A4e l g p (b:=J6 l g) hl hg (fun _=>rfl) rfl
def out (lo hi x:Int):Bool:=decide (x < lo) || decide (x > hi)
theorem B1a (lo hi:Int) (l:List Int) (hl:l.length < 9223372036854775808):E3 lo hi l = some (l.any (out lo hi)):= by
 unfold E3
 exact (congrArg (Option.bind · some) (C1i l (fun y=>A0g y lo hi) (out lo hi) hl fun x _=>rfl)).trans rfl
theorem out1 (lo hi x:Int):E3 lo hi [x] = some (out lo hi x):= by
 rw [B1a lo hi [x] (by simp)]; simp
theorem out2 (lo hi x y:Int):E3 lo hi [x,y] = some (out lo hi x || out lo hi y):= by
 rw [B1a lo hi [x,y] (by simp)]; simp
theorem A23 (lo hi x:Int):M0 x lo hi = some (!out lo hi x):= by
 unfold M0 out
 rw [Option.some_inj,Bool.eq_iff_iff]; simp
def M9 (s:ByteArray) (l:List ByteArray):Int:=if A27 s then (if l.any (fun y=>eqS y s) then 5 else 0) else 6
instance:Inhabited ByteArray:=⟨ByteArray.empty⟩
theorem B2u (s:ByteArray) (l:List ByteArray) (hl:l.length < 9223372036854775808):A4s s l = some (M9 s l):= by
 unfold A4s M9
 rw [B9g]
 cases A27 s
 ·rfl
 ·simp only [Option.bind_some]
  unfold A5y
  obtain ⟨o,ho,hc⟩:=B90 l (fun y=>eqS y s) (b:=A0h l s) hl (fun i hi=>by
   unfold A0h
   rw [if_pos (by simpa using hi),K1 hi]
   simp only [Option.bind_some]
   cases eqS l[i]! s <;> rfl) (by
   unfold A0h
   rw [if_neg (by simp)])
  rw [ho]
  rcases o with i | u
  ·simp only [Option.bind_some]
   rw [hc.2,decide_eq_true hc.1]; rfl
  ·simp only [Option.bind_some]
   rw [hc]; rfl
def wrong (f:Nat→Int) (n:Nat):Option (Int × Int):=first (fun i=>if f i == 0 then none else some ((i:Int),f i)) n
theorem A5n {f:Nat→Int} {n:Nat} {x:Int × Int} (h:wrong f n = some x):(x.2 != 0) = true:= by
 obtain ⟨i,_,h1,_⟩:=S3 h
 cases hb:f i == 0 with
 | true=>rw [hb] at h1; exact absurd h1 (by simp)
 | false =>
  rw [hb] at h1
  have h1:some ((i:Int),f i) = some x:=h1
  rw [← Option.some.inj h1]
  show (f i != 0) = true
  rw [bne,hb]; rfl
theorem N7 {lo hi x:Int}:out lo hi x = false↔lo≤x∧x≤hi:= by
 unfold out
 rw [Bool.or_eq_false_iff,decide_eq_false_iff_not,decide_eq_false_iff_not]
 omega
theorem A25 {ρ:Type} {b:Int→Option (Int ⊕ ρ)} (n:Nat) (f:Nat→Int) (k:Int × Int→ρ) (z:ρ) (hn:n < 9223372036854775808)
  (hs:∀i:Nat,i < n→b (i:Int) = some (if f i == 0 then .inl (w64 ((i:Int) + 1)) else .inr (k ((i:Int),f i))))
  (he:b (n:Int) = some (.inr z)) :
  loop b 0 = some (match wrong f n with | some x=>k x | none=>z):= by
 rw [A9w n (fun i=>if f i == 0 then none else some (k ((i:Int),f i))) z hn (fun i hi _=>by rw [hs i hi]; cases f i == 0 <;> rfl) he]
 unfold wrong
 cases hf:first (fun i=>if f i == 0 then none else some ((i:Int),f i)) n with
 | none =>
  have h0:=J3.mp hf
  rw [J3.mpr fun i hi=>by
   have:=h0 i hi
   cases hb:f i == 0 with
   | true=>rfl
   | false=>rw [hb] at this; exact absurd this (by simp)]
  rfl
 | some x =>
  obtain ⟨i,hi,h1,h2⟩:=S3 hf
  rw [A6o (r:=k x) hi (by
   cases hb:f i == 0 with
   | true=>rw [hb] at h1; exact absurd h1 (by simp)
   | false =>
    rw [hb] at h1
    have h1:some ((i:Int),f i) = some x:=h1
    rw [← Option.some.inj h1]; rfl) fun j hj=>by
   have:=h2 j hj
   cases hb:f j == 0 with
   | true=>rfl
   | false=>rw [hb] at this; exact absurd this (by simp)]
  rfl
theorem M3 {α:Type} [Inhabited α] {l:List α} {i:Nat} (h:i < l.length):l[i]! ∈ l:= by
 rw [getElem!_pos l i h]; exact List.getElem_mem h
theorem B4g {α β:Type} [Inhabited α] (k:α→β) {l:List α} {i:Nat} (h:i < l.length):(l.take i).map k++[k l[i]!] = (l.take (i + 1)).map k:= by
 rw [List.take_succ_eq_append_getElem h,getElem!_pos l i h,List.map_append]; rfl
theorem C6y {f:Nat→Int} {n:Nat} (h:wrong f n = none):∀i,i < n→f i = 0:= by
 intro i hi
 have:=J3.mp h i hi
 by_cases c:f i = 0
 ·exact c
 ·have e:(f i == 0) = false:=beq_eq_false_iff_ne.mpr c
  rw [e] at this; exact absurd this (by simp)
def gOk (g:PaGown):Bool :=
 !out 0 15 g.Looks && (if g.Pawn then !out 0 5000 g.Loan && (!out 0 500 g.Rate && (!out 0 100 g.Fee && (!out 0 364 g.Ago && !out 0 364 g.Last)))
  else g.Loan == 0 && (g.Rate == 0 && (g.Fee == 0 && (g.Ago == 0 && g.Last == 0))))
theorem out00 (x:Int):out 0 0 x = !(x == 0):= by
 unfold out
 rw [Bool.eq_iff_iff]; simp; omega
theorem D3a (g:PaGown):A5a g = some (!gOk g):= by
 unfold A5a gOk
 cases hp:g.Pawn
 ·simp only [out1,Option.bind_some,Bool.not_false,if_true,Bool.false_eq_true,if_false]
  rw [B1a _ _ _ (by simp)]
  simp only [List.any_cons,List.any_nil,out00,Option.bind_some,Bool.or_false]
  generalize out 0 15 g.Looks = b0
  generalize (g.Loan == 0) = b1
  generalize (g.Rate == 0) = b2
  generalize (g.Fee == 0) = b3
  generalize (g.Ago == 0) = b4
  generalize (g.Last == 0) = b5
  cases b0 <;> cases b1 <;> cases b2 <;> cases b3 <;> cases b4 <;> cases b5 <;> rfl
 ·simp only [out1,out2,Option.bind_some,Bool.not_true,Bool.false_eq_true,if_false,if_true]
  generalize out 0 15 g.Looks = b0
  generalize out 0 5000 g.Loan = b1
  generalize out 0 500 g.Rate = b2
  generalize out 0 100 g.Fee = b3
  generalize out 0 364 g.Ago = b4
  generalize out 0 364 g.Last = b5
  cases b0 <;> cases b1 <;> cases b2 <;> cases b3 <;> cases b4 <;> cases b5 <;> rfl
theorem C4q (g:PaGown):A5g g = some (gOk g):= by
 unfold A5g gOk
 simp only [A23,Option.bind_some,Bool.not_not]
 cases hp:g.Pawn
 ·generalize out 0 15 g.Looks = b0
  generalize (g.Loan == 0) = b1
  generalize (g.Rate == 0) = b2
  generalize (g.Fee == 0) = b3
  generalize (g.Ago == 0) = b4
  generalize (g.Last == 0) = b5
  cases b0 <;> cases b1 <;> cases b2 <;> cases b3 <;> cases b4 <;> cases b5 <;> rfl
 ·generalize out 0 15 g.Looks = b0
  generalize out 0 5000 g.Loan = b1
  generalize out 0 500 g.Rate = b2
  generalize out 0 100 g.Fee = b3
  generalize out 0 364 g.Ago = b4
  generalize out 0 364 g.Last = b5
  cases b0 <;> cases b1 <;> cases b2 <;> cases b3 <;> cases b4 <;> cases b5 <;> rfl
def fC (f:PaFigure):Int:=if out 0 364 f.Day || (out 0 364 f.Until || out 0 15 f.Needs) then 7 else if f.Day > f.Until then 2 else 0
theorem B9j (f:PaFigure):A2u f = some (fC f):= by
 unfold A2u fC
 simp only [A23,Option.bind_some,Bool.not_not]
 generalize out 0 364 f.Day = b1
 generalize out 0 364 f.Until = b2
 generalize out 0 15 f.Needs = b3
 by_cases hd:f.Day > f.Until <;> cases b1 <;> cases b2 <;> cases b3 <;> simp [hd]
def A8k (l:List PaGown) (i:Nat):Int:=if M9 l[i]!.Name ((l.take i).map (·.Name)) = 0 then (if gOk l[i]! then 0 else 7) else M9 l[i]!.Name ((l.take i).map (·.Name))
def A8h (l:List PaFigure) (i:Nat):Int:=if M9 l[i]!.Name ((l.take i).map (·.Name)) = 0 then fC l[i]! else M9 l[i]!.Name ((l.take i).map (·.Name))
def A8p (l:List PaIncome) (i:Nat):Int:=if out 0 364 l[i]!.Day || out 0 10000 l[i]!.Pence then 7 else 0
def chk (s:PaShow):Int × Int × Int :=
 if s.Gowns.length > 5 then (1,0,3) else
 match wrong (A8k s.Gowns) s.Gowns.length with
 | some x=>(1,x)
 | none =>
  if s.Figures.length > 3 then (2,0,3) else
  match wrong (A8h s.Figures) s.Figures.length with
  | some x=>(2,x)
  | none =>
   if out 0 10000 s.Purse then (3,0,7) else
   if s.Incomes.length > 3 then (4,0,3) else
   match wrong (A8p s.Incomes) s.Incomes.length with
   | some x=>(4,x)
   | none=>(0,0,0)
def NB (s:PaShow):Prop:=(∀ v ∈ s.Gowns,v.Name.size < 9223372036854775808)∧(∀ v ∈ s.Figures,v.Name.size < 9223372036854775808)
theorem B7i (s:ByteArray) (l:List ByteArray):M9 s l = if A27 s then (if l.any (fun y=>eqS y s) then 5 else 0) else 6:=rfl
theorem C59 {l:List PaGown} {i:Nat} (hi:i < l.length) (hl:l.length≤100) (hb:∀v ∈ l,v.Name.size < 9223372036854775808) :
  O9 l (i:Int) (fun y=>A0v y) = some (M9 l[i]!.Name ((l.take i).map (·.Name))):= by
 unfold O9
 rw [K1 hi]
 simp only [Option.bind_some,A0v]
 rw [B0g _ (hb _ (M3 hi))]
 simp only [Option.bind_some]
 rw [B7i]
 cases A27 l[i]!.Name with
 | false=>rfl
 | true =>
  rw [B6d (Nat.le_of_lt hi)]
  simp only [Option.bind_some,Bool.not_true,Bool.false_eq_true,if_false]
  rw [B81 _ _ (fun y=>eqS y.Name l[i]!.Name) (by rw [List.length_take]; omega) (fun x _=>by unfold N4; rw [K1 hi]; rfl),List.any_map]
  rw [show ((fun y=>eqS y l[i]!.Name)∘fun (x:PaGown)=>x.Name) = (fun (y:PaGown)=>eqS y.Name l[i]!.Name) from rfl]
  cases (l.take i).any (fun (y:PaGown)=>eqS y.Name l[i]!.Name) <;> rfl
theorem C10 {l:List PaFigure} {i:Nat} (hi:i < l.length) (hl:l.length≤100) (hb:∀v ∈ l,v.Name.size < 9223372036854775808) :
  N3 l (i:Int) (fun y=>A0w y) = some (M9 l[i]!.Name ((l.take i).map (·.Name))):= by
 unfold N3
 rw [K1 hi]
 simp only [Option.bind_some,A0w]
 rw [B0g _ (hb _ (M3 hi))]
 simp only [Option.bind_some]
 rw [B7i]
 cases A27 l[i]!.Name with
 | false=>rfl
 | true =>
  rw [B6d (Nat.le_of_lt hi)]
  simp only [Option.bind_some,Bool.not_true,Bool.false_eq_true,if_false]
  rw [B5k _ _ (fun y=>eqS y.Name l[i]!.Name) (by rw [List.length_take]; omega) (fun x _=>by unfold M6; rw [K1 hi]; rfl),List.any_map]
  rw [show ((fun y=>eqS y l[i]!.Name)∘fun (x:PaFigure)=>x.Name) = (fun (y:PaFigure)=>eqS y.Name l[i]!.Name) from rfl]
  cases (l.take i).any (fun (y:PaFigure)=>eqS y.Name l[i]!.Name) <;> rfl
theorem C2o (s:PaShow) (hb:NB s):A1x s = some (chk s):= by
 unfold A1x chk
 by_cases h1:s.Gowns.length > 5
 ·rw [if_pos (by simp; omega),if_pos h1]
 rw [if_neg (by simp; omega),if_neg h1]
 rw [A25 (b:=A1d s) s.Gowns.length (A8k s.Gowns) (fun x=>.inl (1,x)) (.inr ()) (by omega) (fun i hi=>by
  unfold A1d A8k
  rw [if_pos (by simpa using hi),K1 hi]
  simp only [Option.bind_some]
  rw [C59 hi (by omega) hb.1,D3a]
  simp only [Option.bind_some]
  generalize M9 s.Gowns[i]!.Name ((s.Gowns.take i).map (·.Name)) = z
  by_cases hz:z = 0
  ·subst hz
   cases gOk s.Gowns[i]! <;> rfl
  ·have e1:(z == 0) = false:=beq_eq_false_iff_ne.mpr hz
   have e2:(z != 0) = true:= by simpa using hz
   simp only [e1,e2,hz,Bool.false_eq_true,if_false,if_true,Option.bind_some]) (by
  unfold A1d
  rw [if_neg (by simp)])]
 simp only [Option.bind_some]
 cases hw:wrong (A8k s.Gowns) s.Gowns.length with
 | some x=>rfl
 | none =>
  simp only
  by_cases h2:s.Figures.length > 3
  ·rw [if_pos (by simp; omega),if_pos h2]
  rw [if_neg (by simp; omega),if_neg h2]
  rw [A25 (b:=A1e s) s.Figures.length (A8h s.Figures) (fun x=>.inl (2,x)) (.inr ()) (by omega) (fun i hi=>by
   unfold A1e A8h
   rw [if_pos (by simpa using hi),K1 hi]
   simp only [Option.bind_some]
   rw [C10 hi (by omega) hb.2]
   simp only [Option.bind_some,out1,out2]
   generalize M9 s.Figures[i]!.Name ((s.Figures.take i).map (·.Name)) = z
   by_cases hz:z = 0
   ·subst hz
    unfold fC
    generalize s.Figures[i]! = f
    generalize out 0 364 f.Day = b1
    generalize out 0 364 f.Until = b2
    generalize out 0 15 f.Needs = b3
    by_cases hd:f.Until < f.Day
    ·cases b1 <;> cases b2 <;> cases b3 <;> simp [hd]
    ·cases b1 <;> cases b2 <;> cases b3 <;> simp [hd]
   ·have e1:(z == 0) = false:=beq_eq_false_iff_ne.mpr hz
    have e2:(z != 0) = true:= by simpa using hz
    simp only [e1,e2,hz,Bool.false_eq_true,if_false,if_true]) (by
   unfold A1e
   rw [if_neg (by simp)])]
  simp only [Option.bind_some]
  cases hw2:wrong (A8h s.Figures) s.Figures.length with
  | some x=>rfl
  | none =>
   simp only [out1,Option.bind_some]
   cases out 0 10000 s.Purse with
   | true=>rfl
   | false =>
    simp only [Bool.false_eq_true,if_false]
    by_cases h3:s.Incomes.length > 3
    ·rw [if_pos (by simp; omega),if_pos h3]
    rw [if_neg (by simp; omega),if_neg h3]
    rw [A25 (b:=A1f s) s.Incomes.length (A8p s.Incomes) (fun x=>.inl (4,x)) (.inr ()) (by omega) (fun i hi=>by
     unfold A1f A8p
     rw [if_pos (by simpa using hi),K1 hi]
     simp only [Option.bind_some,out1]
     generalize out 0 364 s.Incomes[i]!.Day = b1
     generalize out 0 10000 s.Incomes[i]!.Pence = b2
     cases b1 <;> cases b2 <;> rfl) (by
     unfold A1f
     rw [if_neg (by simp)])]
    simp only [Option.bind_some]
    cases wrong (A8p s.Incomes) s.Incomes.length <;> rfl
theorem B7d {α ρ:Type} [Inhabited α] (l:List α) (nm:α→ByteArray) (f:Nat→Int) (k:Int × Int→ρ) {b:Int × List ByteArray→Option ((Int × List ByteArray) ⊕ (ρ ⊕ List ByteArray))} (hl:l.length≤100)
  (hs:∀i:Nat,i < l.length→b ((i:Int),(l.take i).map nm) = some (if f i == 0 then .inl (w64 ((i:Int) + 1),(l.take (i + 1)).map nm) else .inr (.inl (k ((i:Int),f i)))))
  (he:b ((l.length:Int),l.map nm) = some (.inr (.inr (l.map nm)))) :
  loop b (0,[]) = some (match wrong f l.length with | some x=>.inl (k x) | none=>.inr (l.map nm)):= by
 have:=A9v (b:=b) (fun i=>((i:Int),(l.take i).map nm)) l.length (fun i=>if f i == 0 then none else some (.inl (k ((i:Int),f i)))) (.inr (l.map nm)) (by omega) (fun i hi _=>by
  rw [hs i hi,G1 (by omega)]
  cases f i == 0 <;> rfl) (fun _=>by
  rw [List.take_length]; exact he)
 rw [show ((0:Int),([]:List ByteArray)) = (((0:Nat):Int),(l.take 0).map nm) from rfl,this]
 unfold wrong
 cases hf:first (fun i=>if f i == 0 then none else some ((i:Int),f i)) l.length with
 | none =>
  rw [J3.mpr fun i hi=>by
   have:=J3.mp hf i hi
   cases hb:f i == 0 with
   | true=>rfl
   | false=>rw [hb] at this; exact absurd this (by simp)]
  rfl
 | some x =>
  obtain ⟨i,hi,h1,h2⟩:=S3 hf
  rw [A6o (r:=(.inl (k x):ρ ⊕ List ByteArray)) hi (by
   cases hb:f i == 0 with
   | true=>rw [hb] at h1; exact absurd h1 (by simp)
   | false=>rw [hb] at h1; have h1:some ((i:Int),_) = some x:=h1; rw [← Option.some.inj h1]; rfl) fun j hj=>by
   have:=h2 j hj
   cases hb:f j == 0 with
   | true=>rfl
   | false=>rw [hb] at this; exact absurd this (by simp)]
  rfl
theorem A0z (s:PaShow):U2 s = some (chk s):= by
 unfold U2 chk
 by_cases h1:s.Gowns.length > 5
 ·rw [if_pos (by simp; omega),if_pos h1]
 rw [if_neg (by simp; omega),if_neg h1]
 rw [B7d (b:=A0i s) s.Gowns (·.Name) (A8k s.Gowns) (fun x=>(1,x)) (by omega) (fun i hi=>by
  unfold A0i A8k
  simp only []
  rw [if_pos (by simpa using hi),K1 hi]
  simp only [Option.bind_some]
  rw [B2u _ _ (by rw [List.length_map,List.length_take]; omega),C4q,B0t (by omega) (by rw [List.length_map,List.length_take]; simp; omega),B4g (fun x:PaGown=>x.Name) hi]
  simp only [Option.bind_some]
  generalize M9 s.Gowns[i]!.Name ((s.Gowns.take i).map (·.Name)) = z
  by_cases hz:z = 0
  ·subst hz
   cases gOk s.Gowns[i]! <;> rfl
  ·have e1:(z == 0) = false:=beq_eq_false_iff_ne.mpr hz
   have e2:(z != 0) = true:= by simpa using hz
   simp only [e1,e2,hz,Bool.false_eq_true,if_false,if_true,Option.bind_some]) (by
  unfold A0i
  rw [if_neg (by simp)])]
 simp only [Option.bind_some]
 cases hw:wrong (A8k s.Gowns) s.Gowns.length with
 | some x=>rfl
 | none =>
  simp only
  by_cases h2:s.Figures.length > 3
  ·rw [if_pos (by simp; omega),if_pos h2]
  rw [if_neg (by simp; omega),if_neg h2]
  rw [B7d (b:=A0j s) s.Figures (·.Name) (A8h s.Figures) (fun x=>(2,x)) (by omega) (fun i hi=>by
   unfold A0j A8h
   simp only []
   rw [if_pos (by simpa using hi),K1 hi]
   simp only [Option.bind_some]
   rw [B2u _ _ (by rw [List.length_map,List.length_take]; omega),B9j,B0t (by omega) (by rw [List.length_map,List.length_take]; simp; omega),B4g (fun x:PaFigure=>x.Name) hi]
   simp only [Option.bind_some]
   generalize M9 s.Figures[i]!.Name ((s.Figures.take i).map (·.Name)) = z
   by_cases hz:z = 0
   ·subst hz
    generalize fC s.Figures[i]! = y
    by_cases hy:y = 0
    ·subst hy; rfl
    ·have e1:(y == 0) = false:=beq_eq_false_iff_ne.mpr hy
     have e2:(y != 0) = true:= by simpa using hy
     simp [e1,e2]
   ·have e1:(z == 0) = false:=beq_eq_false_iff_ne.mpr hz
    have e2:(z != 0) = true:= by simpa using hz
    simp only [e1,e2,hz,Bool.false_eq_true,if_false,if_true]) (by
   unfold A0j
   rw [if_neg (by simp)])]
  simp only [Option.bind_some]
  cases hw2:wrong (A8h s.Figures) s.Figures.length with
  | some x=>rfl
  | none =>
   simp only [A23,Option.bind_some,Bool.not_not]
   cases out 0 10000 s.Purse with
   | true=>rfl
   | false =>
    simp only [Bool.false_eq_true,if_false]
    by_cases h3:s.Incomes.length > 3
    ·rw [if_pos (by simp; omega),if_pos h3]
    rw [if_neg (by simp; omega),if_neg h3]
    rw [A25 (b:=A0k s) s.Incomes.length (A8p s.Incomes) (fun x=>.inl (4,x)) (.inr ()) (by omega) (fun i hi=>by
     unfold A0k A8p
     rw [if_pos (by simpa using hi),K1 hi]
     simp only [Option.bind_some,A23,Bool.not_not]
     generalize out 0 364 s.Incomes[i]!.Day = b1
     generalize out 0 10000 s.Incomes[i]!.Pence = b2
     cases b1 <;> cases b2 <;> rfl) (by
     unfold A0k
     rw [if_neg (by simp)])]
    simp only [Option.bind_some]
    cases wrong (A8p s.Incomes) s.Incomes.length <;> rfl
end Pw
end
section
set_option maxRecDepth 100000
set_option maxHeartbeats 0
namespace Pw
open Go Am Go.Proofs.YtjpjdglddmhplaaGreat.Cd
def A06 (a0:Int):Option Bool :=
 some (a0 != a0)
theorem A6w {c:Sc} {H:A1} {a0:Int} {r:Bool} (h:A06 a0 = some r) :
  E1 tab c H (.fn (.func 137) [] []) [.i a0] [.b r]:= by
 unfold A06 at h
 refine cE rfl rfl<|s0<|qm rfl<|es (ra1 rfl)<|s0<|qm rfl<|qm rfl<|A0 (J5 rfl rfl) rfl<|qm rfl<|es (ra1 rfl)<|C5 ?_
 obtain rfl:=os h
 exact retq trivial (A6 rfl B6) (A5 rfl B5) (A3 A4 A8)
def A2h (a0:Int) (a1:Int):Option Bool :=
 (A06 a0).bind fun x1 =>
 (if x1 = true then
  (A06 a1).bind fun x3 =>
  some (!x3)
 else
  some false).bind fun x4 =>
 some (x4 || (decide (a0 < a1)))
theorem B5m {c:Sc} {H:A1} {a0:Int} {a1:Int} {r:Bool} (h:A2h a0 a1 = some r) :
  E1 tab c H (.fn (.func 127) [] []) [.i a0,.i a1] [.b r]:= by
 unfold A2h at h
 refine cE rfl rfl<|s0<|qm rfl<|es (ra2 rfl rfl)<|s0<|oB h fun x1 hx1 h=>oB h fun x4 hx4 h=>qm rfl<|B8 (rs:=[.b x1]) rfl rfl (A2 rfl B7) ((A6w hx1).frz)<|qm rfl<|gp 4 11 (.b x4) 7 rfl rfl (fun hg2=>?_) (fun hg2=>?_) ?_
 ·refine oB (bt hx4 hg2) fun x3 hx3 hx4=>?_
  obtain rfl:=os hx4
  exact gT rfl hg2<|qm rfl<|gT rfl hg2<|B8 (rs:=[.b x3]) rfl rfl (A2 rfl B7) ((A6w hx3).frz)<|gT rfl hg2<|A0 (Q8 rfl) rfl<|A0 (C8 rfl hg2 rfl) rfl<|ge 4 rfl rfl rfl
 ·obtain rfl:=os (bf hx4 hg2)
  exact nT rfl hg2 rfl<|H6 (E0 rfl (by rw [hg2]; rfl)) rfl<|nT rfl hg2 rfl<|A0 (C7 rfl hg2 rfl) rfl<|ge 4 rfl rfl rfl
 refine qm rfl<|gp 4 16 (.b (x4 || (decide (a0 < a1)))) 12 rfl rfl (fun hg5=>?_) (fun hg5=>?_) ?_
 ·exact nF rfl hg5 rfl<|nF rfl hg5 rfl<|nF rfl hg5 rfl<|A0 (C8 rfl hg5 rfl) rfl<|ge 4 (by rw [hg5]; rfl) rfl rfl
 ·exact gF rfl hg5<|qm rfl<|gF rfl hg5<|qm rfl<|gF rfl hg5<|A0 (I0 rfl rfl) rfl<|A0 (C7 rfl hg5 rfl) rfl<|ge 4 (by rw [hg5]; rfl) rfl rfl
 refine qm rfl<|es (ra1 rfl)<|C5 ?_
 obtain rfl:=os h
 exact retq trivial (A6 rfl B6) (A5 rfl B5) (A3 A4 A8)
def A35 (a0:Int):Option Int :=
 (if (decide (a0 ≥ 4294967296)) = true then
  (D2v .u64 a0 32).bind fun x3 =>
  some (x3,32)
  else
  some (a0,0)).bind fun (p1:(Int × Int)) =>
 (if (decide (p1.1 ≥ 65536)) = true then
  (D2v .u64 p1.1 16).bind fun x6 =>
  some (x6,(w64 (p1.2 + 16)))
  else
  some (p1.1,p1.2)).bind fun (p4:(Int × Int)) =>
 if (decide (p4.1 ≥ 256)) = true then
  (D2v .u64 p4.1 8).bind fun x8 =>
  (B23 (ByteArray.mk #[0,1,2,2,3,3,3,3,4,4,4,4,4,4,4,4,5,5,5,5,5,5,5,5,5,5,5,5,5,5,5,5,6,6,6,6,6,6,6,6,6,6,6,6,6,6,6,6,6,6,6,6,6,6,6,6,6,6,6,6,6,6,6,6,7,7,7,7,7,7,7,7,7,7,7,7,7,7,7,7,7,7,7,7,7,7,7,7,7,7,7,7,7,7,7,7,7,7,7,7,7,7,7,7,7,7,7,7,7,7,7,7,7,7,7,7,7,7,7,7,7,7,7,7,7,7,7,7,8,8,8,8,8,8,8,8,8,8,8,8,8,8,8,8,8,8,8,8,8,8,8,8,8,8,8,8,8,8,8,8,8,8,8,8,8,8,8,8,8,8,8,8,8,8,8,8,8,8,8,8,8,8,8,8,8,8,8,8,8,8,8,8,8,8,8,8,8,8,8,8,8,8,8,8,8,8,8,8,8,8,8,8,8,8,8,8,8,8,8,8,8,8,8,8,8,8,8,8,8,8,8,8,8,8,8,8,8,8,8,8,8,8,8,8,8,8,8,8,8,8,8,8,8,8,8,8]) (IntKind.u8.wrap x8)).bind fun x9 =>
  some (w64 ((w64 (p4.2 + 8)) + (w64 x9)))
 else
  (B23 (ByteArray.mk #[0,1,2,2,3,3,3,3,4,4,4,4,4,4,4,4,5,5,5,5,5,5,5,5,5,5,5,5,5,5,5,5,6,6,6,6,6,6,6,6,6,6,6,6,6,6,6,6,6,6,6,6,6,6,6,6,6,6,6,6,6,6,6,6,7,7,7,7,7,7,7,7,7,7,7,7,7,7,7,7,7,7,7,7,7,7,7,7,7,7,7,7,7,7,7,7,7,7,7,7,7,7,7,7,7,7,7,7,7,7,7,7,7,7,7,7,7,7,7,7,7,7,7,7,7,7,7,7,8,8,8,8,8,8,8,8,8,8,8,8,8,8,8,8,8,8,8,8,8,8,8,8,8,8,8,8,8,8,8,8,8,8,8,8,8,8,8,8,8,8,8,8,8,8,8,8,8,8,8,8,8,8,8,8,8,8,8,8,8,8,8,8,8,8,8,8,8,8,8,8,8,8,8,8,8,8,8,8,8,8,8,8,8,8,8,8,8,8,8,8,8,8,8,8,8,8,8,8,8,8,8,8,8,8,8,8,8,8,8,8,8,8,8,8,8,8,8,8,8,8,8,8,8,8,8,8]) (IntKind.u8.wrap p4.1)).bind fun x10 =>
  some (w64 (p4.2 + (w64 x10)))
theorem B05 {c:Sc} {H:A1} {a0:Int} {r:Int} (h:A35 a0 = some r) :
  E1 tab c H (.fn (.func 131) [] []) [(.lit (.int .u64 a0))] [.i r]:= by
 unfold A35 at h
 refine cE rfl rfl<|s0<|qm rfl<|es (ra2 rfl rfl)<|C2<|s0<|qm rfl<|A0 (A71 rfl rfl) rfl<|es (ra3 rfl rfl rfl)<|oB h fun p1 hp1 h=>A6i (Q1:=fun e s' H'=>e = .normal∧s' = [(0,(.lit (.int .u64 p1.1))),(2,.i p1.2)]∧H' = (H++[])) ?_ ?_
 ·refine wi hp1 rfl (fun hc2 hp1=>?_) fun hc2 hp1=>?_
  ·refine s0<|oB hp1 fun x3 hx3 hp1=>qm rfl<|A0 (D11 rfl rfl hx3) rfl<|qm rfl<|es (ra1 rfl)<|r0<|qm rfl<|en (ra2 rfl rfl) ?_
   obtain rfl:=os hp1
   exact me (And.intro rfl (And.intro rfl rfl)) (su2 rfl rfl)
  ·refine C3 ?_
   obtain rfl:=os hp1
   exact me (And.intro rfl (And.intro rfl rfl)) (su2 rfl rfl)
 ·rintro e s' H' ⟨rfl,rfl,rfl⟩
  refine C2<|s0<|qm rfl<|A0 (A71 rfl rfl) rfl<|es (ra3 rfl rfl rfl)<|oB h fun p4 hp4 h=>A6i (Q1:=fun e s' H'=>e = .normal∧s' = [(0,(.lit (.int .u64 p4.1))),(2,.i p4.2)]∧H' = (H++[])) ?_ ?_
  ·refine wi hp4 rfl (fun hc5 hp4=>?_) fun hc5 hp4=>?_
   ·refine s0<|oB hp4 fun x6 hx6 hp4=>qm rfl<|A0 (D11 rfl rfl hx6) rfl<|qm rfl<|es (ra2 rfl rfl)<|r0<|qm rfl<|A0 (F2 rfl rfl) rfl<|qm rfl<|en (ra2 rfl rfl) ?_
    obtain rfl:=os hp4
    exact me (And.intro rfl (And.intro rfl rfl)) (su2 rfl rfl)
   ·refine C3 ?_
    obtain rfl:=os hp4
    exact me (And.intro rfl (And.intro rfl rfl)) (su2 rfl rfl)
  ·rintro e s' H' ⟨rfl,rfl,rfl⟩
   refine C2<|s0<|qm rfl<|A0 (A71 rfl rfl) rfl<|es (ra3 rfl rfl rfl)<|wi h rfl (fun hc7 h=>?_) fun hc7 h=>?_
   ·refine s0<|oB h fun x8 hx8 h=>qm rfl<|A0 (D11 rfl rfl hx8) rfl<|qm rfl<|es (ra2 rfl rfl)<|r0<|qm rfl<|A0 (F2 rfl rfl) rfl<|qm rfl<|en (ra2 rfl rfl)<|s0<|oB h fun x9 hx9 h=>qm rfl<|qm rfl<|A0 (A7q rfl) rfl<|A0 (A8u rfl rfl hx9) rfl<|A0 (A7q rfl) rfl<|A0 (F2 rfl rfl) rfl<|qm rfl<|es (ra1 rfl)<|C5 ?_
    obtain rfl:=os h
    exact retq trivial (A6 rfl B6) (A5 rfl B5) (A3 A4 A8)
   ·refine C3<|s0<|oB h fun x10 hx10 h=>qm rfl<|qm rfl<|A0 (A7q rfl) rfl<|A0 (A8u rfl rfl hx10) rfl<|A0 (A7q rfl) rfl<|A0 (F2 rfl rfl) rfl<|qm rfl<|es (ra1 rfl)<|C5 ?_
    obtain rfl:=os h
    exact retq trivial (A6 rfl B6) (A5 rfl B5) (A3 A4 A8)
def A3k (a0:Int):Option Int :=
 (A35 a0).bind fun x1 =>
 some x1
theorem B3x {c:Sc} {H:A1} {a0:Int} {r:Int} (h:A3k a0 = some r) :
  E1 tab c H (.fn (.func 115) [] []) [(.lit (.int .u64 a0))] [.i r]:= by
 unfold A3k at h
 refine cE rfl rfl<|s0<|qm rfl<|es (ra1 rfl)<|C2<|P7 rfl rfl<|C3<|s0<|oB h fun x1 hx1 h=>qm rfl<|B8 (rs:=[.i x1]) rfl rfl (A2 rfl B7) ((B05 hx1).frz)<|qm rfl<|es (ra1 rfl)<|C5 ?_
 obtain rfl:=os h
 exact retq trivial (A6 rfl B6) (A5 rfl B5) (A3 A4 A8)
end Pw
end
section
set_option maxRecDepth 100000
namespace Am
open Go
theorem C0j {σ ρ:Type} {b:σ→Option (σ ⊕ ρ)} (I:σ→Prop) (J:ρ→Prop) (hs:∀x y,I x→b x = some (.inl y)→I y) (he:∀x r,I x→b x = some (.inr r)→J r) {x0:σ} {r:ρ} (h0:I x0) (h:loop b x0 = some r):J r:= by
 have key:∀n x0,I x0→A6t b n x0 = some r→J r:= by
  intro n
  induction n with
  | zero=>intro x0 _ h; cases h
  | succ n ih =>
   intro x0 hI h
   rw [L9] at h
   split at h
   ·next x' hb=>exact ih x' (hs _ _ hI hb) h
   ·next r' hb=>simp only [Option.some.injEq] at h; subst h; exact he _ _ hI hb
   ·cases h
 exact key _ _ h0 h
end Am
namespace Pw
open Go Am Go.Proofs.YtjpjdglddmhplaaGreat.Cd
def A1t (a:Int) (s:Int × List Int):Option ((Int × List Int) ⊕ List Int) :=
 (if (decide (s.1 > a)) = true then (idx s.2 s.1).bind fun x=>(idx s.2 (w64 (s.1 - 1))).bind fun y=>(A2h x y).bind fun z=>some z else some false).bind fun g =>
 if g = true then
  (idx s.2 (w64 (s.1 - 1))).bind fun y=>(idx s.2 s.1).bind fun x =>
  (idx (Y3 s.2 s.1 y) (w64 (s.1 - 1))).bind fun _ =>
  some (.inl (w64 (s.1 - 1),Y3 (Y3 s.2 s.1 y) (w64 (s.1 - 1)) x))
 else some (.inr s.2)
def A53 (a b:Int) (s:Int × List Int):Option ((Int × List Int) ⊕ List Int) :=
 if (decide (s.1 < b)) = true then
  (loop (A1t a) (s.1,s.2)).bind fun l=>some (.inl (w64 (s.1 + 1),l))
 else some (.inr s.2)
def C03 (a b:Int) (l:List Int):Option (List Int):=loop (A53 a b) (w64 (a + 1),l)
def ar1 (l:List Int):AO:=.arr 1 false (l.map cI)
theorem D2x {c:Sc} {A B:A1} {a b:Int} {l r:List Int} (h:C03 a b l = some r) :
  J1 tab c (A++(ar1 l :: B)) (.fn (.func 121) [] []) [.asl (A.length + 0) l.length,.i a,.i b] [] (A++(ar1 r :: B)):= by
 unfold C03 at h
 have htk:∀x:AO,(x :: B).take (B.length + 1) = x :: B:=fun x=>List.take_of_length_le (Nat.le_refl _)
 refine Z7 (aq:=[.asl (A.length + 0) l.length,.i a,.i b]) rfl rfl rfl ?_
 refine s0<|qm rfl<|A0 (F2 rfl rfl) rfl<|qm rfl<|es (ra4 rfl rfl rfl rfl)<|C6<|wl (fun s=>[(0,.asl (A.length + 0) s.2.length),(1,.i a),(2,.i b),(6,.i s.1)]) (fun (_:Unit) s=>ar1 s.2 :: B) (B.length + 1) (fun r e s' H'=>PX 0 [] (A++(ar1 r :: B)) e s' H') () h rfl rfl (fun _ _=>rfl) (fun _=>rfl) rfl (fun s=>bdc (A05 (Nat.ble_eq_true_of_le (by omega))) (bdc A4 (bdc A4 (bdc A4 bdn)))) (fun _ s o hs=>?_) ?_
 ·unfold A53 at hs
  refine C2<|s0<|qm rfl<|qm rfl<|A0 (I0 rfl rfl) rfl<|es (ra5 rfl rfl rfl rfl rfl)<|wi hs rfl (fun hc hs=>?_) fun hc hs=>?_
  ·refine oB hs fun l1 hl1 hs=>?_
   refine C3<|C2<|C6<|s0<|qm rfl<|qm rfl<|es (ra5 rfl rfl rfl rfl rfl)<|C6<|wl (fun t=>[(0,.asl (A.length + 0) t.2.length),(1,.i a),(2,.i b),(6,.i s.1),(7,.i t.1)]) (fun (_:Unit) t=>ar1 t.2 :: B) (B.length + 1) (fun r e s' H'=>PX 2 [(0,.asl (A.length + 0) r.length),(1,.i a),(2,.i b),(6,.i s.1)] (A++(ar1 r :: B)) e s' H') () hl1 rfl rfl (fun _ _=>rfl) (fun _=>rfl) rfl (fun t=>bdc (A05 (Nat.ble_eq_true_of_le (by omega))) (bdc A4 (bdc A4 (bdc A4 (bdc A4 bdn))))) (fun _ t o' ht=>?_) ?_
   ·unfold A1t at ht
    refine oB ht fun g hg ht=>?_
    refine C2<|s0<|qm rfl<|qm rfl<|A0 (Y8 rfl rfl) rfl<|qm rfl<|gp 11 30 (.b g) 19 rfl rfl (fun hb=>?_) (fun hb=>?_) ?_
    ·refine oB (bt hg hb) fun x hx hg=>oB hg fun y hy hg=>oB hg fun z hz hg=>?_
     obtain rfl:=os hg
     exact gT rfl hb<|qm rfl<|gT rfl hb<|qm rfl<|gT rfl hb<|A0 (A45 (f:=cI) rfl rfl rfl rfl hx) rfl<|gT rfl hb<|A0 (A3l (x:=.i x) rfl rfl (List.length_map _) (A39 hx) rfl) rfl<|gT rfl hb<|qm rfl<|gT rfl hb<|qm rfl<|gT rfl hb<|A0 (T5 rfl rfl) rfl<|gT rfl hb<|A0 (A45 (f:=cI) rfl rfl rfl rfl hy) rfl<|gT rfl hb<|A0 (A3l (x:=.i y) rfl rfl (List.length_map _) (A39 hy) rfl) rfl<|gT rfl hb<|B8 (rs:=[.b z]) rfl rfl (A2 rfl (A2 rfl B7)) ((B5m hz).frz)<|A0 (C8 rfl hb rfl) rfl<|ge 11 rfl rfl rfl
    ·obtain rfl:=os (bf hg hb)
     exact nT rfl hb rfl<|nT rfl hb rfl<|nT rfl hb rfl<|nT rfl hb rfl<|nT rfl hb rfl<|nT rfl hb rfl<|nT rfl hb rfl<|nT rfl hb rfl<|nT rfl hb rfl<|H6 (E0 rfl (by rw [hb]; rfl)) rfl<|A0 (C7 rfl hb rfl) rfl<|ge 11 rfl rfl rfl
    ·refine es (ra6 rfl rfl rfl rfl rfl rfl)<|wi ht rfl (fun hc2 ht=>?_) fun hc2 ht=>?_
     ·refine oB ht fun y hy ht=>oB ht fun x hx ht=>oB ht fun w hw ht=>?_
      refine C3<|C2<|C6<|r0<|qm rfl<|qm rfl<|qm rfl<|qm rfl<|A0 (T5 rfl rfl) rfl<|A0 (A45 (f:=cI) rfl rfl rfl rfl hy) rfl<|A0 (A3l (x:=.i y) rfl rfl (List.length_map _) (A39 hy) rfl) rfl<|qm rfl<|qm rfl<|A0 (A45 (f:=cI) rfl rfl rfl rfl hx) rfl<|A0 (A3l (x:=.i x) rfl rfl (List.length_map _) (A39 hx) rfl) rfl<|A0 (A45 (f:=cI) rfl rfl rfl rfl hx) rfl<|N9 (B2e (ds:=cI y) rfl rfl rfl rfl rfl (List.length_map _) (A39 hx) rfl rfl) rfl ?_
      rw [B2c]
      refine qm rfl<|qm rfl<|A0 (T5 rfl rfl) rfl<|A0 (A45 (f:=cI) (e:=Y3 t.2 t.1 y) rfl rfl rfl (W1 _ _ _) hw) rfl<|N9 (B2e (ds:=cI x) rfl rfl rfl rfl rfl (by rw [List.length_map,W1]) (A39 hw) rfl rfl) rfl ?_
      rw [B2c]
      refine en (ra5 rfl rfl rfl rfl rfl)<|r0<|qm rfl<|A0 (T5 rfl rfl) rfl<|qm rfl<|en (ra5 rfl rfl rfl rfl rfl) ?_
      cases ht
      exact lnT () (htk _) (su5 (by simp only [W1]; rfl) rfl rfl rfl rfl)
     ·refine G6 ?_
      obtain rfl:=os ht
      exact lx rfl px (su4 rfl rfl rfl rfl)
   ·rintro e s' H' - ⟨rfl,rfl,rfl⟩
    refine r0<|qm rfl<|A0 (F2 rfl rfl) rfl<|qm rfl<|en (ra4 rfl rfl rfl rfl) ?_
    cases hs
    exact lnT () (htk _) (su4 rfl rfl rfl rfl)
  ·refine G6 ?_
   obtain rfl:=os hs
   exact lx rfl px (Sub.nil _)
 ·rintro e s' H' - ⟨rfl,rfl,rfl⟩
  show A79 _ _ _ _ .normal _ _
  exact B8d trivial B6 B5 A8 (List.take_of_length_le (by simp))
def D2m (a b:Int) (l:List Int):Option (List Int):=if (decide (w64 (b - a)≤12)) = true then C03 a b l else none
theorem D4s {c:Sc} {A B:A1} {a b k:Int} {l r:List Int} (h:D2m a b l = some r) :
  J1 tab c (A++(ar1 l :: B)) (.fn (.func 114) [] []) [.asl (A.length + 0) l.length,.i a,.i b,.i k] [] (A++(ar1 r :: B)):= by
 unfold D2m at h
 split at h
 ·next hc =>
  refine Z7 (aq:=[.asl (A.length + 0) l.length,.i a,.i b,.i k]) rfl rfl rfl ?_
  refine s0<|qm rfl<|es (ra5 rfl rfl rfl rfl rfl)<|s0<|qm rfl<|es (ra6 rfl rfl rfl rfl rfl rfl)<|C6<|D26 (B.length + 1) rfl _ (fun S hS=>O1 (live:=[0,1,2,3,8,9]) rfl (by decide) (Sub.trans (su6 rfl rfl rfl rfl rfl rfl) hS))<|C6<|s0<|qm rfl<|qm rfl<|A0 (T5 rfl rfl) rfl<|qm rfl<|es (ra7 rfl rfl rfl rfl rfl rfl rfl)<|C2<|s0<|qm rfl<|A0 (A4a rfl rfl) rfl<|es (ra8 rfl rfl rfl rfl rfl rfl rfl rfl)<|N6 rfl hc<|s0<|qm rfl<|qm rfl<|qm rfl<|O4 (A18 rfl rfl (D2x h) rfl) rfl<|es .n<|C5 ?_
  refine .out rfl ?_
  show A79 _ _ _ _ .ret _ _
  exact B8d trivial B6 B5 A8 (List.take_of_length_le (by simp))
 ·cases h
def B5c (l:List Int):Option (List Int) :=
 (A3k (IntKind.u64.wrap (List.length l:Int))).bind fun _=>D2m 0 (List.length l:Int) l
theorem D4z {c:Sc} {A B:A1} {l r:List Int} (h:B5c l = some r) :
  J1 tab c (A++(ar1 l :: B)) (.fn (.func 97) [] []) [.asl (A.length + 0) l.length] [] (A++(ar1 r :: B)):= by
 unfold B5c at h
 refine oB h fun k hk h=>?_
 refine Z7 (aq:=[.asl (A.length + 0) l.length]) rfl rfl rfl ?_
 refine s0<|qm rfl<|A0 (C11 (f:=cI) rfl rfl rfl) rfl<|qm rfl<|es (ra2 rfl rfl)<|r0<|qm rfl<|qm rfl<|qm rfl<|A0 (A7q rfl) rfl<|B8 (rs:=[.i k]) rfl rfl (A2 rfl B7) ((B3x hk).frz)<|O4 (A18 rfl rfl (D4s h) rfl) rfl<|en .n ?_
 show A79 _ _ _ _ .normal _ _
 exact B8d trivial B6 B5 A8 (List.take_of_length_le (by simp))
theorem C9x {a b:Int} {l r:List Int} (h:C03 a b l = some r):r.length = l.length:= by
 unfold C03 at h
 refine C0j (fun s=>s.2.length = l.length) (fun r=>r.length = l.length) (fun x y hx hy=>?_) (fun x r hx hr=>?_) rfl h
 ·unfold A53 at hy
  split at hy
  ·refine oB hy fun l1 hl1 hy=>?_
   cases hy
   refine C0j (fun s=>s.2.length = l.length) (fun r=>r.length = l.length) (fun x y hx hy=>?_) (fun x r hx hr=>?_) hx hl1
   ·unfold A1t at hy
    refine oB hy fun g _ hy=>?_
    split at hy
    ·refine oB hy fun _ _ hy=>oB hy fun _ _ hy=>oB hy fun _ _ hy=>?_
     cases hy
     simpa only [W1] using hx
    ·cases hy
   ·unfold A1t at hr
    refine oB hr fun g _ hr=>?_
    split at hr
    ·refine oB hr fun _ _ hr=>oB hr fun _ _ hr=>oB hr fun _ _ hr=>?_
     cases hr
    ·cases hr; exact hx
  ·cases hy
 ·unfold A53 at hr
  split at hr
  ·refine oB hr fun _ _ hr=>?_
   cases hr
  ·cases hr; exact hx
theorem C9y {l r:List Int} (h:B5c l = some r):r.length = l.length:= by
 unfold B5c D2m at h
 refine oB h fun _ _ h=>?_
 split at h
 ·exact C9x h
 ·cases h
end Pw
end
section
set_option maxRecDepth 100000
namespace Pw
open Go Am Go.Proofs.YtjpjdglddmhplaaGreat.Cd
def C3p (l:List Int) (k0:Int) (i:Int):Option Int:=if 0≤i∧i < ((l.length - k0.toNat:Nat):Int) then idx l (k0 + i) else none
theorem C3q {l:List Int} {k0 i a:Int} (h0:0≤k0) (h:C3p l k0 i = some a):0≤i∧i < ((l.length - k0.toNat:Nat):Int)∧(l.map cI)[k0.toNat + i.toNat]? = some (cI a):= by
 unfold C3p at h
 split at h
 ·next h1 =>
  obtain ⟨h2,h3⟩:=A5v h
  refine ⟨h1.1,h1.2,?_⟩
  rw [show k0.toNat + i.toNat = (k0 + i).toNat by omega,List.getElem?_map,h3]; rfl
 ·cases h
section
variable {T:Tab} {s:B4} {H0:A1} {l:List AO} {c:Sc} {n0:Nat}
theorem D13 {α:Type} {f:α→List AV} {k j m q:Nat} {p:Bool} {x:Opd} {lo hi:Option Opd} {e:List α} {a b:Int} (h:ev s x = some (.asl (H0.length + j) m)) (hl:l[j]? = some (.arr k p (e.map f))) (hm:e.length = m) (h1:bnd s 0 lo = some a) (h2:bnd s m hi = some b) (h3:0≤a∧a < b∧b≤m) (hq:b.toNat - a.toNat = q) :
  One T c n0 s (H0++l) (.sub k x lo hi) (.csl (H0.length + j) a.toNat m q) (H0++l):= by
 have:=D6g (T:=T) (c:=c) (n0:=n0) h hl hm h1 h2 ⟨h3.1,by omega,h3.2.2⟩
 rwa [if_neg (by omega),hq] at this
theorem D5o {N j k o m q:Nat} (h:Nat.ble (j + 1) k = true):(AV.csl (N + j) o m q).bd (N + k) = true:= by simp only [AV.bd]; exact Nat.ble_eq_true_of_le (by have:=Nat.le_of_ble_eq_true h; omega)
end
def Z8 (k0:Int) (s:Int × Int × List Int):Option ((Int × Int × List Int) ⊕ (Int × List Int)) :=
 if (decide (s.1 < ((s.2.2.length - k0.toNat:Nat):Int))) = true then
  (C3p s.2.2 k0 s.1).bind fun a=>(C3p s.2.2 k0 (w64 (s.1 - 1))).bind fun b =>
  if (a != b) = true then
   (idx s.2.2 s.2.1).bind fun _=>some (.inl (w64 (s.1 + 1),w64 (s.2.1 + 1),Y3 s.2.2 s.2.1 a))
  else some (.inl (w64 (s.1 + 1),s.2.1,s.2.2))
 else some (.inr (s.2.1,s.2.2))
def clr (l:List Int) (k:Int):List Int:=l.take k.toNat++(List.replicate (l.length - k.toNat) 0++l.drop (k.toNat + (l.length - k.toNat)))
def A4u (l:List Int) (k:Int):Option (Int ⊕ (Bool × List Int)) :=
 if (decide (k < (l.length:Int))) = true then
  (idx l k).bind fun a=>(idx l (w64 (k - 1))).bind fun b =>
  if (a == b) = true then
   (loop (Z8 k) (1,k,l)).bind fun x =>
   if 0≤x.1∧x.1 < (x.2.length:Int) then (slc (clr x.2 x.1) 0 x.1).bind fun r=>some (.inr (true,r)) else none
  else some (.inl (w64 (k + 1)))
 else some (.inr (false,l))
def A6m (l:List Int):Option (Bool × List Int):=if (decide ((l.length:Int) < 2)) = true then some (false,l) else loop (A4u l) 1
theorem C64 {l:List Int} {k:Int} (h:0≤k∧k < (l.length:Int)):(clr l k).length = l.length:= by
 unfold clr; simp; omega
def CpP (A:A1) (X:AO) (l:List Int) (x:Bool × List Int) (e:Ex) (s:B4) (H:A1):Prop :=
 (x = (false,l)∧e = .exit 0∧s = [(0,.asl (A.length + 0) l.length)]∧H = A++[ar1 l,X,.arr 1 false []]) ∨
 (x.1 = true∧e = .ret∧s = [(2,.asl (A.length + 3) x.2.length)]∧H = A++[.dead,X,.arr 1 false [],.arr 1 false (x.2.map cI)])
theorem C5l {c:Sc} {A:A1} {X:AO} {l:List Int} {x:Bool × List Int} (h:A6m l = some x) :
  J1 tab c (A++[ar1 l,X]) (.fn (.func 98) [] []) [.asl (A.length + 0) l.length] (bif x.1 then [.fresh 1 (x.2.map cI)] else [.seq 1 (x.2.map cI)]) (A++[bif x.1 then .dead else .arr 1 true (l.map cI),X]):= by
 unfold A6m at h
 have hlen:(A++[ar1 l,X]).length = A.length + 2:= by simp
 have fin0:∀s:B4,sget s 2 = some (.asl (A.length + 0) l.length)→A79 (A++[ar1 l,X]) (A++[.arr 1 true (l.map cI),X]) [.tmp 2] [.seq 1 (l.map cI)] .ret s (A++[ar1 l,X,.arr 1 false []]):=fun s hs=>by
  refine ⟨trivial,_,_,A6 hs B6,by rw [hlen]; exact A5 (D3t rfl (List.length_map _) rfl) B5,A3 K0 A8,?_⟩
  rw [hlen,A66]; rfl
 refine Z7 (aq:=[.asl (A.length + 0) l.length]) rfl rfl rfl ?_
 refine sg (H0:=A) 2 rfl<|A0 A5w rfl<|es (ra1 rfl)<|C2<|s0<|qm rfl<|A0 (C11 (f:=cI) rfl rfl rfl) rfl<|A0 (I0 rfl rfl) rfl<|es (ra2 rfl rfl)<|wi h rfl (fun hc h=>?_) fun hc h=>?_
 ·refine s0<|qm rfl<|qm rfl<|es (ra1 rfl)<|C5 ?_
  obtain rfl:=os h
  exact fin0 _ rfl
 ·refine C3<|C2<|s0<|qm rfl<|es (ra2 rfl rfl)<|C6<|wl (fun k=>[(0,.asl (A.length + 0) l.length),(3,.i k)]) (fun (_:Unit) _=>[ar1 l,X,.arr 1 false []]) 3 (CpP A X l) () h rfl rfl (fun _ _=>rfl) (fun _=>rfl) rfl (fun _=>bdc (A05 rfl) (bdc A4 bdn)) (fun _ k o hs=>?_) ?_
  ·unfold A4u at hs
   refine C2<|s0<|qm rfl<|qm rfl<|A0 (C11 (f:=cI) rfl rfl rfl) rfl<|A0 (I0 rfl rfl) rfl<|es (ra3 rfl rfl rfl)<|wi hs rfl (fun hc hs=>?_) fun hc hs=>?_
   ·refine oB hs fun a ha hs=>oB hs fun b hb hs=>?_
    have hk0:0≤k:=(A5v ha).1
    refine C3<|C2<|C6<|s0<|qm rfl<|qm rfl<|A0 (A45 (f:=cI) rfl rfl rfl rfl ha) rfl<|A0 (A3l (x:=.i a) rfl rfl (List.length_map _) (A39 ha) rfl) rfl<|qm rfl<|qm rfl<|A0 (T5 rfl rfl) rfl<|A0 (A45 (f:=cI) rfl rfl rfl rfl hb) rfl<|A0 (A3l (x:=.i b) rfl rfl (List.length_map _) (A39 hb) rfl) rfl<|A0 (G0 rfl rfl) rfl<|es (ra3 rfl rfl rfl)<|wi hs rfl (fun hc2 hs=>?_) fun hc2 hs=>?_
    ·refine oB hs fun y hy hs=>?_
     have hkl:k < (l.length:Int):= by have:=(List.getElem?_eq_some_iff.1 (A5v ha).2).1; omega
     refine s0<|qm rfl<|qm rfl<|A0 (D13 (f:=cI) (e:=l) (q:=l.length - k.toNat) rfl rfl rfl rfl rfl ⟨hk0,hkl,Int.le_refl _⟩ rfl) rfl<|qm rfl<|es (ra3 rfl rfl rfl)<|C2<|s0<|qm rfl<|es (ra4 rfl rfl rfl rfl)<|C6<|wl (fun t=>[(0,.asl (A.length + 0) t.2.2.length),(3,.i t.2.1),(4,.csl (A.length + 0) k.toNat t.2.2.length (t.2.2.length - k.toNat)),(5,.i t.1)]) (fun (_:Unit) t=>[ar1 t.2.2,X,.arr 1 false []]) 3 (fun r e s' H'=>PX 2 [(0,.asl (A.length + 0) r.2.length),(3,.i r.1)] (A++[ar1 r.2,X,.arr 1 false []]) e s' H') () hy rfl rfl (fun _ _=>rfl) (fun _=>rfl) rfl (fun _=>bdc (A05 rfl) (bdc A4 (bdc (D5o rfl) (bdc A4 bdn)))) (fun _ t o ht=>?_) ?_
     ·unfold Z8 at ht
      refine C2<|s0<|qm rfl<|qm rfl<|A0 (D4c rfl) rfl<|A0 (I0 rfl rfl) rfl<|es (ra5 rfl rfl rfl rfl rfl)<|wi ht rfl (fun hc3 ht=>?_) fun hc3 ht=>?_
      ·refine oB ht fun u hu ht=>oB ht fun v hv ht=>?_
       obtain ⟨u1,u2,u3⟩:=C3q hk0 hu
       obtain ⟨v1,v2,v3⟩:=C3q hk0 hv
       refine C3<|C2<|C6<|s0<|qm rfl<|qm rfl<|A0 (C6b (f:=cI) rfl rfl rfl rfl u1 u2) rfl<|A0 (A3l (x:=.i u) rfl rfl (List.length_map _) u3 rfl) rfl<|qm rfl<|qm rfl<|A0 (T5 rfl rfl) rfl<|A0 (C6b (f:=cI) rfl rfl rfl rfl v1 v2) rfl<|A0 (A3l (x:=.i v) rfl rfl (List.length_map _) v3 rfl) rfl<|A0 (J5 rfl rfl) rfl<|es (ra5 rfl rfl rfl rfl rfl)<|wi ht rfl (fun hc4 ht=>?_) fun hc4 ht=>?_
       ·refine oB ht fun w hw ht=>?_
        refine s0<|qm rfl<|qm rfl<|qm rfl<|qm rfl<|A0 (C6b (f:=cI) rfl rfl rfl rfl u1 u2) rfl<|A0 (A3l (x:=.i u) rfl rfl (List.length_map _) u3 rfl) rfl<|A0 (A45 (f:=cI) rfl rfl rfl rfl hw) rfl<|N9 (B2e (ds:=cI u) rfl rfl rfl rfl rfl (List.length_map _) (A39 hw) rfl rfl) rfl ?_
        rw [B2c]
        refine es (ra4 rfl rfl rfl rfl)<|r0<|qm rfl<|A0 (F2 rfl rfl) rfl<|qm rfl<|en (ra4 rfl rfl rfl rfl)<|r0<|qm rfl<|A0 (F2 rfl rfl) rfl<|qm rfl<|en (ra4 rfl rfl rfl rfl) ?_
        cases ht
        exact lnT () rfl (su4 (by simp only [W1]; rfl) rfl (by simp only [W1]; rfl) rfl)
       ·refine C3<|r0<|qm rfl<|A0 (F2 rfl rfl) rfl<|qm rfl<|en (ra4 rfl rfl rfl rfl) ?_
        cases ht
        exact lnT () rfl (su4 rfl rfl rfl rfl)
      ·refine G6 ?_
       obtain rfl:=os ht
       exact lx rfl px (su2 rfl rfl)
     ·rintro e s' H' - ⟨rfl,rfl,rfl⟩
      obtain ⟨k1,l1⟩:=y
      split at hs
      ·next hk1 =>
       refine oB hs fun r hr hs=>?_
       replace hk1:0≤k1∧k1 < (l1.length:Int):=hk1
       replace hr:slc (clr l1 k1) 0 k1 = some r:=hr
       have hcl:=C64 hk1
       refine s0<|qm rfl<|qm rfl<|A0 (D13 (f:=cI) (e:=l1) (q:=l1.length - k1.toNat) rfl rfl rfl rfl rfl ⟨hk1.1,hk1.2,Int.le_refl _⟩ rfl) rfl<|N9 (D37 (f:=cI) (e:=l1) (a:=0) rfl rfl rfl rfl (show k1.toNat + (l1.length - k1.toNat)≤l1.length by omega) (show 0 < l1.length - k1.toNat by omega)) rfl<|es (ra2 rfl rfl)<|sg (H0:=A) 3 rfl<|qm rfl<|qm rfl<|O4 (D8g (f:=cI) (e:=clr l1 k1) rfl rfl hcl rfl hr) rfl<|qm rfl<|es (ra1 rfl)<|C5 ?_
       cases hs
       exact lx rfl (.inr ⟨rfl,rfl,rfl,rfl⟩) (su1 rfl)
      ·cases hs
    ·refine C3<|r0<|qm rfl<|A0 (F2 rfl rfl) rfl<|qm rfl<|en (ra2 rfl rfl) ?_
     cases hs
     exact lnT () rfl (su2 rfl rfl)
   ·refine G6 ?_
    obtain rfl:=os hs
    exact lx rfl (.inl ⟨rfl,rfl,rfl,rfl⟩) (su1 rfl)
  ·rintro e s' H' - (⟨rfl,rfl,rfl,rfl⟩ | ⟨hx,rfl,rfl,rfl⟩)
   ·refine s0<|qm rfl<|qm rfl<|es (ra1 rfl)<|C5 ?_
    exact fin0 _ rfl
   ·obtain ⟨d,r⟩:=x
    obtain rfl:d = true:=hx
    show A79 _ _ _ _ .ret _ _
    refine ⟨trivial,_,_,A6 rfl B6,by rw [hlen]; exact A5 (D52 rfl (List.length_map _) rfl) B5,A3 X7 A8,?_⟩
    rw [hlen,A66]; rfl
end Pw
end
section
namespace Pw
open Go Am
abbrev Srt (l:List Int):Prop:=l.Pairwise (·≤·)
abbrev Str (l:List Int):Prop:=l.Pairwise (· < ·)
theorem C7v (x y:Int):A2h x y = some (decide (x < y)):= by
 unfold A2h A06
 simp
theorem C8f:∀(m:Nat) (P:List Int) (x:Int) (R:List Int) (n:Nat),P.length = m→Srt P→m < 4611686018427387904→m + 1≤n→∃ Q,A6t (A1t 0) n ((m:Int),P++x :: R) = some (Q++R)∧Srt Q∧Q.Perm (x :: P)
 | 0,P,x,R,n + 1,hP,hs,_,_=>by
  obtain rfl:=List.length_eq_zero_iff.mp hP
  refine ⟨[x],?_,by simp [Srt],List.Perm.refl _⟩
  rw [L9]
  have:A1t 0 (((0:Nat):Int),[]++x :: R) = some (.inr (x :: R)):= by unfold A1t; simp
  rw [this]; rfl
 | m + 1,P,x,R,n + 1,hP,hs,hm,hn=>by
  obtain ⟨P',y,rfl⟩:∃P' y,P = P'++[y]:=⟨P.dropLast,P.getLast (by intro e; rw [e] at hP; cases hP),(List.dropLast_concat_getLast _).symm⟩
  have hP':P'.length = m:= by simpa using hP
  subst hP'
  have hs':=List.pairwise_append.mp hs
  have e1:idx (P'++[y]++x :: R) ((P'.length + 1:Nat):Int) = some x:=A40 (by simp)
  have ew:w64 (((P'.length + 1:Nat):Int) - 1) = (P'.length:Int):= by rw [G1 (by omega)]; omega
  have e0:idx (P'++[y]++x :: R) (P'.length:Int) = some y:=A40 (by simp)
  rw [L9]
  by_cases hxy:x < y
  ·obtain ⟨Q,h1,h2,h3⟩:=C8f P'.length P' x (y :: R) n rfl hs'.1 (by omega) (by omega)
   have hset1:Y3 (P'++[y]++x :: R) ((P'.length + 1:Nat):Int) y = P'++[y]++y :: R:= by
    unfold Y3; rw [Int.toNat_natCast,List.set_append_right _ _ (by simp)]; simp
   have hset2:Y3 (P'++[y]++y :: R) (P'.length:Int) x = P'++x :: (y :: R):= by
    unfold Y3; rw [Int.toNat_natCast]; simp
   have hb:A1t 0 (((P'.length + 1:Nat):Int),P'++[y]++x :: R) = some (.inl ((P'.length:Int),P'++x :: (y :: R))):= by
    unfold A1t
    simp only [ew]
    have e3:idx (P'++[y]++y :: R) (P'.length:Int) = some y:=A40 (by simp)
    rw [if_pos (by simp <;> omega),e1,e0]
    simp only [Option.bind_some,C7v,decide_eq_true hxy,if_true]
    rw [hset1,e3,hset2]
    rfl
   rw [hb]
   refine ⟨Q++[y],by show A6t (A1t 0) n ((P'.length:Int),P'++x :: (y :: R)) = _; rw [h1]; simp,?_,?_⟩
   ·refine List.pairwise_append.mpr ⟨h2,by simp,fun a ha b hb=>?_⟩
    have:b = y:= by simpa using hb
    subst this
    rcases List.mem_cons.mp (h3.mem_iff.mp ha) with rfl | ha
    ·omega
    ·exact hs'.2.2 a ha b (by simp)
   ·have:=(List.perm_append_comm (l₁:=Q) (l₂:=[y]))
    refine this.trans ?_
    refine (List.Perm.cons y h3).trans ((List.Perm.swap x y P').trans ?_)
    exact List.Perm.cons x (List.perm_append_comm (l₁:=[y]) (l₂:=P'))
  ·refine ⟨P'++[y]++[x],?_,?_,List.perm_append_comm (l₁:=P'++[y]) (l₂:=[x])⟩
   ·have hb:A1t 0 (((P'.length + 1:Nat):Int),P'++[y]++x :: R) = some (.inr (P'++[y]++x :: R)):= by
     unfold A1t
     simp only [ew]
     rw [if_pos (by simp <;> omega),e1,e0]
     simp only [Option.bind_some,C7v,decide_eq_false hxy,Bool.false_eq_true,if_false]
    rw [hb]; simp
   ·refine List.pairwise_append.mpr ⟨hs,by simp,fun a ha b hb=>?_⟩
    have:b = x:= by simpa using hb
    subst this
    rcases List.mem_append.mp ha with ha | ha
    ·have:=hs'.2.2 a ha y (by simp); omega
    ·have:a = y:= by simpa using ha
     omega
theorem C43:∀(R S:List Int) (n:Nat),Srt S→S.length + R.length < 4611686018427387904→R.length + 1≤n→∃ l',A6t (A53 0 ((S.length + R.length:Nat):Int)) n ((S.length:Int),S++R) = some l'∧Srt l'∧l'.Perm (S++R)
 | [],S,n + 1,hs,_,_=>by
  refine ⟨S,?_,hs,by simp⟩
  rw [L9]
  unfold A53
  simp
 | x :: R,S,n + 1,hs,hl,hn=>by
  obtain ⟨Q,h1,h2,h3⟩:=C8f S.length S x R 9223372036854775808 rfl hs (by simp at hl; omega) (by simp at hl; omega)
  have hQ:Q.length = S.length + 1:= by rw [h3.length_eq]; rfl
  obtain ⟨l',g1,g2,g3⟩:=C43 R Q n h2 (by simp at hl; omega) (by simp at hn; omega)
  refine ⟨l',?_,g2,g3.trans ?_⟩
  ·rw [L9]
   have hb:A53 0 ((S.length + (x :: R).length:Nat):Int) ((S.length:Int),S++x :: R) = some (.inl ((Q.length:Int),Q++R)):= by
    unfold A53
    simp only []
    rw [if_pos (by simp <;> omega)]
    unfold loop
    rw [h1]
    simp only [Option.bind_some]
    rw [G1 (by simp at hl; omega),hQ]; rfl
   rw [hb]
   simp only
   have e:((S.length + (x :: R).length:Nat):Int) = ((Q.length + R.length:Nat):Int):= by rw [hQ]; simp; omega
   rw [e]; exact g1
  ·refine (List.Perm.append_right R h3).trans ?_
   rw [List.cons_append]
   exact (List.perm_middle (l₁:=S) (l₂:=R) (a:=x)).symm
theorem C8l:∀n,n < 13→(A3k (IntKind.u64.wrap ((n:Nat):Int))).isSome = true:= by decide +kernel
theorem D4y (l:List Int) (h0:0 < l.length) (hl:l.length < 13):∃l',B5c l = some l'∧Srt l'∧l'.Perm l:= by
 obtain ⟨k,hk⟩:=Option.isSome_iff_exists.mp (C8l l.length hl)
 cases l with
 | nil=>cases h0
 | cons a l =>
  obtain ⟨l',h1,h2,h3⟩:=C43 l [a] 9223372036854775808 (by simp [Srt]) (by simp at hl ⊢; omega) (by simp at hl; omega)
  refine ⟨l',?_,h2,h3⟩
  unfold B5c D2m C03
  rw [hk]
  simp only [Option.bind_some]
  rw [if_pos (by rw [decide_eq_true_eq,G1 (by simp only [List.length_cons] at hl ⊢; omega)]; simp only [List.length_cons] at hl ⊢; omega)]
  have e:(((a :: l).length:Nat):Int) = (([a].length + l.length:Nat):Int):= by simp; omega
  rw [e]
  exact h1
theorem C0g {l:List Int} {k0 i:Nat} {x:Int} (h:l[k0 + i]? = some x):C3p l (k0:Int) (i:Int) = some x:= by
 unfold C3p
 have:=(List.getElem?_eq_some_iff.mp h).1
 rw [if_pos ⟨by omega,by omega⟩,show (k0:Int) + (i:Int) = ((k0 + i:Nat):Int) by omega]
 exact A40 h
theorem compact2 {O:List Int} {k0:Nat} (hO:Srt O) (hk0:1≤k0) (hlen:O.length < 4611686018427387904):∀(d k2 k:Nat) (cur:List Int) (n:Nat),k0 + k2 + d = O.length→1≤k2→1≤k→k + 1≤k0 + k2→cur.length = O.length→(∀ i,k0 + k2≤i + 1→cur[i]? = O[i]?)→Str (cur.take k)→(∀ x,x ∈ cur.take k↔x ∈ O.take (k0 + k2))→d + 1≤n →
  ∃ (k':Nat) (cur':List Int),A6t (Z8 (k0:Int)) n ((k2:Int),(k:Int),cur) = some ((k':Int),cur')∧cur'.length = O.length∧k' < O.length∧Str (cur'.take k')∧∀ x,x ∈ cur'.take k'↔x ∈ O
 | 0,k2,k,cur,n + 1,hd,h2,hk,hlt,hcl,hdr,hst,hmem,_=>by
  refine ⟨k,cur,?_,hcl,by omega,hst,fun x=>by rw [hmem,List.take_of_length_le (by omega)]⟩
  rw [L9]
  unfold Z8
  simp only []
  rw [if_neg (by rw [hcl,Int.toNat_natCast]; simp; omega)]
 | d + 1,k2,k,cur,n + 1,hd,h2,hk,hlt,hcl,hdr,hst,hmem,hn=>by
  have hi1:k0 + k2 < O.length:= by omega
  have ha:O[k0 + k2]? = some O[k0 + k2]:=List.getElem?_eq_getElem hi1
  have hb:O[k0 + (k2 - 1)]? = some O[k0 + (k2 - 1)]:=List.getElem?_eq_getElem (by omega)
  have hle:O[k0 + (k2 - 1)]≤O[k0 + k2]:=List.pairwise_iff_getElem.mp hO _ _ (by omega) hi1 (by omega)
  have ea:C3p cur (k0:Int) (k2:Int) = some O[k0 + k2]:=C0g (by rw [hdr _ (by omega),ha])
  have eb:C3p cur (k0:Int) (w64 ((k2:Int) - 1)) = some O[k0 + (k2 - 1)]:= by
   rw [G1 (by omega),show (k2:Int) - 1 = ((k2 - 1:Nat):Int) by omega]
   exact C0g (by rw [hdr _ (by omega),hb])
  have hw1:w64 ((k2:Int) + 1) = ((k2 + 1:Nat):Int):= by rw [G1 (by omega)]; omega
  have htk:∀x,x ∈ O.take (k0 + (k2 + 1))↔x ∈ O.take (k0 + k2)∨x = O[k0 + k2]:=fun x=>by
   rw [show k0 + (k2 + 1) = k0 + k2 + 1 by omega,List.take_succ_eq_append_getElem hi1,List.mem_append,List.mem_singleton]
  have hlast:O[k0 + (k2 - 1)] ∈ O.take (k0 + k2):= by
   rw [List.mem_take_iff_getElem]; exact ⟨k0 + (k2 - 1),by omega,rfl⟩
  rw [L9]
  by_cases hab:O[k0 + k2] = O[k0 + (k2 - 1)]
  ·have hB:Z8 (k0:Int) ((k2:Int),(k:Int),cur) = some (.inl (((k2 + 1:Nat):Int),(k:Int),cur)):= by
    unfold Z8
    simp only []
    rw [if_pos (by rw [hcl,Int.toNat_natCast]; simp; omega),ea,eb]
    simp only [Option.bind_some,hw1]
    rw [if_neg (by simp [hab])]
   rw [hB]
   exact compact2 hO hk0 hlen d (k2 + 1) k cur n (by omega) (by omega) hk (by omega) hcl (fun i hi=>hdr i (by omega)) hst (fun x=>by rw [hmem,htk]; exact ⟨fun h=>.inl h,fun h=>h.elim id fun h=>by rw [h,hab]; exact hlast⟩) (by omega)
  ·have hkl:k < cur.length:= by omega
   have hB:Z8 (k0:Int) ((k2:Int),(k:Int),cur) = some (.inl (((k2 + 1:Nat):Int),((k + 1:Nat):Int),cur.set k O[k0 + k2])):= by
    unfold Z8
    simp only []
    rw [if_pos (by rw [hcl,Int.toNat_natCast]; simp; omega),ea,eb]
    simp only [Option.bind_some,hw1]
    rw [if_pos (by simpa using hab),A40 (List.getElem?_eq_getElem hkl)]
    simp only [Option.bind_some]
    rw [G1 (by omega)]
    unfold Y3
    rw [Int.toNat_natCast]; rfl
   rw [hB]
   have htake:(cur.set k O[k0 + k2]).take (k + 1) = cur.take k++[O[k0 + k2]]:= by
    rw [List.take_succ_eq_append_getElem (by simpa using hkl)]
    simp [List.take_set]
    rw [List.set_eq_of_length_le (by rw [List.length_take]; omega)]
   refine compact2 hO hk0 hlen d (k2 + 1) (k + 1) (cur.set k O[k0 + k2]) n (by omega) (by omega) (by omega) (by omega) (by simpa using hcl) (fun i hi=>?_) ?_ ?_ (by omega)
   ·rw [List.getElem?_set_ne (by omega)]; exact hdr i (by omega)
   ·rw [htake]
    refine List.pairwise_append.mpr ⟨hst,by simp,fun x hx z hz=>?_⟩
    have:z = O[k0 + k2]:= by simpa using hz
    subst this
    have hx2:=(hmem x).mp hx
    rw [List.mem_take_iff_getElem] at hx2
    obtain ⟨j,hj,rfl⟩:=hx2
    have h1:O[j]≤O[k0 + (k2 - 1)]:= by
     by_cases hjk:j = k0 + (k2 - 1)
     ·subst hjk; exact Int.le_refl _
     ·exact List.pairwise_iff_getElem.mp hO _ _ (by omega) (by omega) (by omega)
    omega
   ·intro x
    rw [htake,htk]
    simp [hmem x]
theorem compact1 {O:List Int} (hO:Srt O) (hlen:O.length < 4611686018427387904):∀(d k:Nat) (n:Nat),k + d = O.length→1≤k→Str (O.take k)→d + 1≤n →
  ∃ b r,A6t (A4u O) n (k:Int) = some (b,r)∧Str r∧∀ x,x ∈ r↔x ∈ O
 | 0,k,n + 1,hd,hk,hst,_=>by
  refine ⟨false,O,?_,by rwa [List.take_of_length_le (by omega)] at hst,fun x=>Iff.rfl⟩
  rw [L9]
  unfold A4u
  rw [if_neg (by simp <;> omega)]
 | d + 1,k,n + 1,hd,hk,hst,hn=>by
  have hi1:k < O.length:= by omega
  have ea:idx O (k:Int) = some O[k]:=A40 (List.getElem?_eq_getElem hi1)
  have eb:idx O (w64 ((k:Int) - 1)) = some O[k - 1]:= by
   rw [G1 (by omega),show (k:Int) - 1 = ((k - 1:Nat):Int) by omega]
   exact A40 (List.getElem?_eq_getElem (by omega))
  have hle:O[k - 1]≤O[k]:=List.pairwise_iff_getElem.mp hO _ _ (by omega) hi1 (by omega)
  rw [L9]
  unfold A4u
  rw [if_pos (by simp <;> omega),ea,eb]
  simp only [Option.bind_some]
  by_cases hab:O[k] = O[k - 1]
  ·rw [if_pos (by simpa using hab)]
   obtain ⟨k',cur',h1,h2,h3,h4,h5⟩:=compact2 hO hk hlen (O.length - k - 1) 1 k O 9223372036854775808 (by omega) (by omega) hk (by omega) rfl (fun _ _=>rfl) hst (fun x=>by
    rw [List.take_succ_eq_append_getElem hi1]
    simp only [List.mem_append,List.mem_singleton]
    refine ⟨fun h=>.inl h,fun h=>h.elim id fun h=>?_⟩
    rw [h,hab,List.mem_take_iff_getElem]
    exact ⟨k - 1,by omega,rfl⟩) (by omega)
   unfold loop
   rw [show ((1:Int),(k:Int),O) = (((1:Nat):Int),(k:Int),O) from rfl,h1]
   simp only [Option.bind_some]
   rw [if_pos ⟨by omega,by omega⟩]
   have hr:(clr cur' (k':Int)).take k' = cur'.take k':= by
    unfold clr
    rw [Int.toNat_natCast,List.take_append_of_le_length (by simp <;> omega),List.take_take,Nat.min_self]
   rw [B6d (by rw [C64 ⟨by omega,by omega⟩]; omega),hr]
   exact ⟨true,_,rfl,h4,h5⟩
  ·rw [if_neg (by simpa using hab),G1 (by omega),show (k:Int) + 1 = ((k + 1:Nat):Int) by omega]
   refine compact1 hO hlen d (k + 1) n (by omega) (by omega) ?_ (by omega)
   rw [List.take_succ_eq_append_getElem hi1]
   refine List.pairwise_append.mpr ⟨hst,by simp,fun x hx z hz=>?_⟩
   have:z = O[k]:= by simpa using hz
   subst this
   rw [List.mem_take_iff_getElem] at hx
   obtain ⟨j,hj,rfl⟩:=hx
   have h1:O[j]≤O[k - 1]:= by
    by_cases hjk:j = k - 1
    ·subst hjk; exact Int.le_refl _
    ·exact List.pairwise_iff_getElem.mp hO _ _ (by omega) (by omega) (by omega)
   omega
theorem C5k {O:List Int} (hO:Srt O) (h0:0 < O.length) (hlen:O.length < 100):∃b r,A6m O = some (b,r)∧Str r∧∀ x,x ∈ r↔x ∈ O:= by
 unfold A6m
 by_cases h:O.length = 1
 ·rw [if_pos (by simp <;> omega)]
  refine ⟨false,O,rfl,?_,fun x=>Iff.rfl⟩
  match O,h with
  | [a],_=>simp [Str]
 ·rw [if_neg (by simp <;> omega)]
  refine compact1 hO (by omega) (O.length - 1) 1 9223372036854775808 (by omega) (by omega) ?_ (by omega)
  match O,h0 with
  | a :: l,_=>simp [Str]
end Pw
end
section
set_option maxRecDepth 100000
namespace Am
open Go
theorem D16 {c:Sc} {b a n:Nat} (h:a < b):c.okL b [.asl a n] = true:= by
 have key:∀B,(Nat.ble B b || Nat.blt a B) = true:=fun B=>by
  by_cases hB:B≤b
  ·rw [Nat.ble_eq_true_of_le hB]; rfl
  ·rw [show Nat.blt a B = true from Nat.ble_eq_true_of_le (by omega),Bool.or_true]
 have h2:(c.outer.all fun B=>Nat.ble B b || Nat.blt a B) = true:=List.all_eq_true.2 fun B _=>key B
 have h3:=key c.cur
 simp only [Sc.okL,Sc.ok,AV.plain,AV.bd,h2,h3,Bool.or_false,Bool.and_true,Bool.or_true]
theorem C25 {T:Tab} {c:Sc} {i:Nat} {af:AFunc} {first cap args aq rs:List AV} {H H':A1} (haf:T i = some af) (has:first++args++cap = aq) (hn:(Nat.beq aq.length af.nargs && Nat.blt af.nargs 1000) = true)
  (h:WP T af.body (J7 0 aq) H ⟨H.length,c.cur :: c.outer⟩ (fun e s H1=>(match e with | .exit _=>False | _=>True)∧∃ rs0,results s H1 af.results = some rs0∧P4 H.length H1 rs0 = some (rs,H')∧bdL H.length rs = false)):J1 T c H (.fn (.func i) first cap) args rs H':= by
 obtain ⟨e,S',s',H2,h1,h2,h3,rs0,h4,h5,h6⟩:=h _ (Sub.refl _)
 refine J1.fn (af:=af) (bd:=af.body) (aq:=aq) (rs0:=rs0) (rs1:=rs) (H1:=H') (e:=e) (st':=⟨S',H2,⟨H.length,c.cur :: c.outer⟩⟩) rfl haf rfl has.symm hn rfl h1 (by cases e <;> first | rfl | exact h3.elim) (R3 h2 h4) h5 rfl ?_
 unfold trunc
 rw [h6]; rfl
end Am
namespace Am
open Go
def New (T:Tab) (f:AV) (aq:List AV) (i:Nat) (L:List AO):Prop:=∀ (c:Sc) (H:A1) (N:Nat),H.length = N→J1 T c H f aq [.ptr (N + i) 0,.i 0] (H++L)
theorem A3o {T:Tab} {s:B4} {H0:A1} {l l1:List AO} {c:Sc} {n0 k i:Nat} {f:Opd} {args:List Opd} {fv:AV} {as0 aq:List AV} {L:List AO} (hn:New T fv aq i L) (hf:ev s f = some fv) (ha:evs s args = some as0) (hz:P3 (H0++l) as0 = some (aq,H0++l1)) (hk:l1.length = k) :
  One T c n0 s (H0++l) (.call f args [] false) (.tup [.ptr (H0.length + (k + i)) 0,.i 0]) (H0++(l1++L)):= by
 have:=hn c (H0++l1) (H0.length + k) (by rw [List.length_append,hk])
 rw [List.append_assoc,Nat.add_assoc] at this
 exact Q5 hf ha hz this rfl
def inR (n:Nat) (i:Int):Option Unit:=if 0≤i∧i < n then some () else none
theorem C1s {n:Nat} {i:Int} {u:Unit} (h:inR n i = some u):0≤i∧i < n:= by
 unfold inR at h; split at h
 ·assumption
 ·cases h
def isel (i:Int) (a b c:Nat):Nat:=if i = 0 then a else if i = 1 then b else c
def sel3 {α:Type} (i:Int) (a b c:Option α):Option α:=if i = 0 then a else if i = 1 then b else c
theorem B8g {α:Type} {T:Tab} {c:Sc} {H:A1} {i:Int} {n0 n1 n2:Nat} {aq:List AV} {rs:α→List AV} {a b d:Option α} {x:α} (h0:∀{x},a = some x→W0 T c H (.fn (.func n0) [] []) aq (rs x)) (h1:∀{x},b = some x→W0 T c H (.fn (.func n1) [] []) aq (rs x)) (h2:∀{x},d = some x→W0 T c H (.fn (.func n2) [] []) aq (rs x)) (h:sel3 i a b d = some x) :
  W0 T c H (.fn (.func (isel i n0 n1 n2)) [] []) aq (rs x):= by
 unfold sel3 at h
 unfold isel
 split at h
 ·next e=>rw [if_pos e]; exact h0 h
 ·next e =>
  rw [if_neg e]
  split at h
  ·next e=>rw [if_pos e]; exact h1 h
  ·next e=>rw [if_neg e]; exact h2 h
end Am
namespace Am
open Go
theorem C50 {H:A1} {b:Nat} {cs:List AV} (h:hcells H b = some cs):hstk H b = none:= by
 unfold hcells at h
 unfold hstk
 split at h <;> first | (rename_i e; rw [e]) | cases h
end Am
namespace Pw
open Go Am Go.Proofs.YtjpjdglddmhplaaGreat.Cd
def A5j (t:PaShow) (d:AV):List AV:=[.seq 8 (List.map C1 t.Gowns),.seq 4 (List.map B3 t.Figures),.i t.Purse,.seq 2 (List.map D1 t.Incomes),.fn (.func 90) [] [],.fn (.func 91) [] [],.fn (.func 92) [] [],.fn (.func 52) [] [],.fn (.func 93) [] [],.fn (.func 94) [] [],.fn (.func 55) [] [],.fn (.func 95) [] [],.fn (.func 96) [] [],d]
def shI (t:PaShow) (w:List AV) (d:AV):List AV:=.seq 8 (List.map C1 t.Gowns) :: .seq 4 (List.map B3 t.Figures) :: .i t.Purse :: .seq 2 (List.map D1 t.Incomes) :: (w++[d])
def A2y (t:PaShow) (days:List Int):List AV:=A5j t (.seq 1 (List.map cI days))
def shw (t:PaShow) (days:List Int):pawn_show:=⟨t,⟨pawn_way.mk,pawn_way.mk,pawn_way.mk⟩,days⟩
theorem way3 {i:Int} {u:Unit} (h:inR 3 i = some u):i = 0∨i = 1∨i = 2:= by have:=C1s h; omega
theorem D89 {t:PaShow} {d:AV} {i:Int} {u:Unit} (h:inR 3 i = some u):((A5j t d).drop (4 + i.toNat * 3 + 2)).head? = some (.fn (.func (isel i 92 94 96)) [] []):= by rcases way3 h with rfl | rfl | rfl <;> rfl
theorem D9a {t:PaShow} {d:AV} {i:Int} {u:Unit} (h:inR 3 i = some u):((A5j t d).drop (4 + i.toNat * 3)).take 3 = [.fn (.func (isel i 90 52 55)) [] [],.fn (.func (isel i 91 93 95)) [] [],.fn (.func (isel i 92 94 96)) [] []]:= by rcases way3 h with rfl | rfl | rfl <;> rfl
theorem D9b {t:PaShow} {d:AV} {i:Int} {u:Unit} (h:inR 3 i = some u):Nat.ble 3 ((A5j t d).drop (4 + i.toNat * 3)).length = true:= by rcases way3 h with rfl | rfl | rfl <;> rfl
end Pw
end
section
set_option maxRecDepth 100000
namespace Pw
open Go Am Go.Proofs.YtjpjdglddmhplaaGreat.Cd
def A4v (t:PaShow) (s:List Int × Int):Option ((List Int × Int) ⊕ List Int) :=
 if (decide (s.2 < (List.length t.Incomes:Int))) = true then
  (idx t.Incomes s.2).bind fun x=>(app 8 s.1 [x.Day]).bind fun l=>some (.inl (l,w64 (s.2 + 1)))
 else some (.inr s.1)
def A1u (t:PaShow):Option (Int × List Int) :=
 (A1x t).bind fun x =>
 if (x.2.2 != 0) = true then some (x.2.2,[])
 else (loop (A4v t) ([0],0)).bind fun l=>(B5c l).bind fun l=>(A6m l).bind fun y=>some (0,y.2)
theorem A20 {c:Sc} {H:A1} {t:PaShow} {x:Int × List Int} (h:A1u t = some x) (hx:(x.1 == 0) = false) :
  J1 tab c H (.fn (.func 51) [] []) [.agg (B1 t)] [.lit (.pointer none),.i x.1] H:= by
 unfold A1u at h
 refine oB h fun y hy h=>?_
 refine Z7 (aq:=[.agg (B1 t)]) rfl rfl rfl (U5 ?_)
 refine sg 0 rfl<|A0 (E5 (cs:=B1 t) rfl rfl rfl) rfl<|qm rfl<|qm rfl<|es (ra1 rfl)<|C2<|s0<|A0 (D2 rfl rfl rfl) rfl<|B8 (rs:=[.i y.1,.i y.2.1,.i y.2.2]) rfl rfl (A2 (D0 rfl) B7) ((A6a hy).frz)<|qm rfl<|A0 (A9 rfl rfl) rfl<|A0 (A9 rfl rfl) rfl<|A0 (A9 rfl rfl) rfl<|qm rfl<|qm rfl<|qm rfl<|es (ra2 rfl rfl)<|s0<|qm rfl<|A0 (J5 rfl rfl) rfl<|es (ra3 rfl rfl rfl)<|wi h rfl (fun hc h=>?_) fun hc h=>?_
 ·obtain rfl:=os h
  refine s0<|qm rfl<|qm rfl<|qm rfl<|es (ra2 rfl rfl)<|C5 ?_
  refine ⟨trivial,_,_,A6 rfl (A6 rfl B6),A5 rfl (A5 rfl B5),A3 A4 (A3 A4 A8),?_⟩
  exact List.take_left
 ·refine oB h fun l hl h=>oB h fun l2 hl2 h=>oB h fun z hz h=>?_
  cases h
  cases hx
theorem C8u {c:Sc} {H:A1} {t:PaShow} {x:Int × List Int} (h:A1u t = some x) (hx:(x.1 == 0) = true) {y:Int × Int × Int} {l l2:List Int} {z:Bool × List Int} (hy:A1x t = some y) (hl:loop (A4v t) ([0],0) = some l) (hl2:B5c l = some l2) (hz:A6m l2 = some z) :
  J1 tab c H (.fn (.func 51) [] []) [.agg (B1 t)] [.ptr (H.length + 2) 0,.i 0] (H++[.cells (B1 t),bif z.1 then .dead else .arr 1 true (l2.map cI),.cells (A2y t x.2)]):= by
 unfold A1u at h
 rw [hy,Option.bind_some] at h
 split at h
 ·next hc=>cases h; rw [show y.2.2 = 0 by simpa using hx] at hc; cases hc
 next hc =>
 rw [hl,Option.bind_some,hl2,Option.bind_some,hz,Option.bind_some] at h
 obtain rfl:=os h
 have hsort:∀c' d,J1 tab c' (H++[.cells (B1 t),ar1 l,.cells (A5j t d)]) (.fn (.func 97) [] []) [.asl (H.length + 1) l.length] [] (H++[.cells (B1 t),ar1 l2,.cells (A5j t d)]):=fun c' d=>by
  have:=D4z (c:=c') (A:=H++[.cells (B1 t)]) (B:=[.cells (A5j t d)]) hl2
  simpa using this
 have hcomp:∀c' d,J1 tab c' (H++[.cells (B1 t),ar1 l2,.cells (A5j t d)]) (.fn (.func 98) [] []) [.asl (H.length + 1) l2.length] (bif z.1 then [.fresh 1 (z.2.map cI)] else [.seq 1 (z.2.map cI)]) (H++[.cells (B1 t),bif z.1 then .dead else .arr 1 true (l2.map cI),.cells (A5j t d)]):=fun c' d=>by
  have:=C5l (c:=c') (A:=H++[.cells (B1 t)]) (X:=.cells (A5j t d)) hz
  simpa using this
 have hlen2:=C9y hl2
 refine C25 (aq:=[.agg (B1 t)]) rfl rfl rfl (U5 ?_)
 refine sg 0 rfl<|A0 (E5 (cs:=B1 t) rfl rfl rfl) rfl<|qm rfl<|qm rfl<|es (ra1 rfl)<|C2<|s0<|A0 (D2 rfl rfl rfl) rfl<|B8 (rs:=[.i y.1,.i y.2.1,.i y.2.2]) rfl rfl (A2 (D0 rfl) B7) ((A6a hy).frz)<|qm rfl<|A0 (A9 rfl rfl) rfl<|A0 (A9 rfl rfl) rfl<|A0 (A9 rfl rfl) rfl<|qm rfl<|qm rfl<|qm rfl<|es (ra2 rfl rfl)<|s0<|qm rfl<|A0 (J5 rfl rfl) rfl<|es (ra3 rfl rfl rfl)<|P7 rfl (by simpa using hc)<|C3<|sg 1 rfl<|A0 (D2 rfl rfl rfl) rfl<|A0 (D4d (rows:=List.map cI [0]) rfl rfl (E4 (fun _=>rfl) _)) rfl<|A0 (Q4 (cs:=(shI t [.lit .nilFunc,.lit .nilFunc,.lit .nilFunc,.lit .nilFunc,.lit .nilFunc,.lit .nilFunc,.lit .nilFunc,.lit .nilFunc,.lit .nilFunc] (.asl (H.length + 1) 1))) rfl rfl) rfl<|A0 (E5 (cs:=(shI t [.lit .nilFunc,.lit .nilFunc,.lit .nilFunc,.lit .nilFunc,.lit .nilFunc,.lit .nilFunc,.lit .nilFunc,.lit .nilFunc,.lit .nilFunc] (.asl (H.length + 1) 1))) rfl rfl rfl) rfl<|qm rfl<|es (ra2 rfl rfl) ?_
 refine s0<|qm rfl<|A0 (Q4 (cs:=[.fn (.func 90) [] [],.fn (.func 91) [] [],.fn (.func 92) [] []]) rfl rfl) rfl<|A0 (L6 rfl rfl) rfl<|A0 (B9 rfl) rfl<|A0 (A9y rfl rfl (by decide)) rfl<|N9 (E8 (ds:=(shI t [.fn (.func 90) [] [],.fn (.func 91) [] [],.fn (.func 92) [] [],.lit .nilFunc,.lit .nilFunc,.lit .nilFunc,.lit .nilFunc,.lit .nilFunc,.lit .nilFunc] (.asl (H.length + 1) 1))) rfl rfl rfl rfl (A0u (Nat.le_add_right _ _)) rfl) rfl<|es (ra2 rfl rfl) ?_
 refine s0<|qm rfl<|A0 (Q4 (cs:=[.fn (.func 52) [] [],.fn (.func 93) [] [],.fn (.func 94) [] []]) rfl rfl) rfl<|A0 (L6 rfl rfl) rfl<|A0 (B9 rfl) rfl<|A0 (A9y rfl rfl (by decide)) rfl<|N9 (E8 (ds:=(shI t [.fn (.func 90) [] [],.fn (.func 91) [] [],.fn (.func 92) [] [],.fn (.func 52) [] [],.fn (.func 93) [] [],.fn (.func 94) [] [],.lit .nilFunc,.lit .nilFunc,.lit .nilFunc] (.asl (H.length + 1) 1))) rfl rfl rfl rfl (A0u (Nat.le_add_right _ _)) rfl) rfl<|es (ra2 rfl rfl) ?_
 refine s0<|qm rfl<|A0 (Q4 (cs:=[.fn (.func 55) [] [],.fn (.func 95) [] [],.fn (.func 96) [] []]) rfl rfl) rfl<|A0 (L6 rfl rfl) rfl<|A0 (B9 rfl) rfl<|A0 (A9y rfl rfl (by decide)) rfl<|N9 (E8 (ds:=(shI t [.fn (.func 90) [] [],.fn (.func 91) [] [],.fn (.func 92) [] [],.fn (.func 52) [] [],.fn (.func 93) [] [],.fn (.func 94) [] [],.fn (.func 55) [] [],.fn (.func 95) [] [],.fn (.func 96) [] []] (.asl (H.length + 1) 1))) rfl rfl rfl rfl (A0u (Nat.le_add_right _ _)) rfl) rfl<|es (ra2 rfl rfl) ?_
 refine C2<|s0<|A0 (B9 rfl) rfl<|A0 (B2 rfl rfl rfl) rfl<|A0 (F6 (f:=D1) rfl) rfl<|qm rfl<|es (ra4 rfl rfl rfl rfl)<|C6<|wl (fun s=>[(7,.ptr (H.length + 2) 0),(39,.seq 2 (List.map D1 t.Incomes)),(40,.i t.Incomes.length),(41,.i s.2)]) (fun (_:Unit) s=>[.cells (B1 t),ar1 s.1,.cells (A5j t (.asl (H.length + 1) s.1.length))]) 3 (fun r e s' H'=>PX 0 [(7,.ptr (H.length + 2) 0)] (H++[.cells (B1 t),ar1 r,.cells (A5j t (.asl (H.length + 1) r.length))]) e s' H') () hl rfl rfl (fun _ _=>rfl) (fun _=>rfl) rfl (fun _=>bdc (K8 rfl) (bdc K0 (bdc A4 (bdc A4 bdn)))) (fun _ s o hs=>?_) ?_
 ·unfold A4v at hs
  refine s0<|A0 (I0 rfl rfl) rfl<|es (ra5 rfl rfl rfl rfl rfl)<|C2<|wi hs rfl (fun hc hs=>?_) fun hc hs=>?_
  ·refine oB hs fun x hx hs=>oB hs fun l' hl' hs=>?_
   refine C3<|C2<|C6<|sg 3 rfl<|A0 (E9 (f:=D1) rfl rfl hx) rfl<|A0 (C32 (ds:=D1 x) rfl rfl rfl) rfl<|A0 I3 rfl<|N9 (E8 (ds:=D1 x) rfl rfl rfl rfl (A0u (Nat.le_refl _)) rfl) rfl<|es (ra5 rfl rfl rfl rfl rfl)<|r0<|qm rfl<|A0 (L6 rfl rfl) rfl<|A0 (B9 rfl) rfl<|A0 (B2 (x:=.asl (H.length + 1) s.1.length) rfl rfl rfl) rfl<|A0 (B9 rfl) rfl<|A0 (B2 rfl rfl rfl) rfl<|A0 (J4 (rows:=List.map cI [x.Day]) rfl rfl (E4 (fun _=>rfl) _)) rfl<|O4 (A44 (f:=cI) rfl rfl rfl rfl A5b (fun _=>rfl) hl') rfl<|qm rfl<|A0 (L6 rfl rfl) rfl<|A0 (B9 rfl) rfl<|N9 (E8 (ds:=A5j t (.asl (H.length + 1) l'.length)) rfl rfl rfl rfl (D16 (Nat.lt_succ_self _)) rfl) rfl<|en (ra4 rfl rfl rfl rfl)<|r0<|A0 (F2 rfl rfl) rfl<|qm rfl<|en (ra4 rfl rfl rfl rfl) ?_
   cases hs
   exact lnT () rfl (su4 rfl rfl rfl rfl)
  ·refine G6 ?_
   obtain rfl:=os hs
   exact lx rfl px (su1 rfl)
 ·rintro e s' H' - ⟨rfl,rfl,rfl⟩
  refine s0<|qm rfl<|A0 (L6 rfl rfl) rfl<|A0 (B9 rfl) rfl<|A0 (B2 (x:=.asl (H.length + 1) l.length) rfl rfl rfl) rfl<|O4 (A18 rfl rfl (hsort _ _) rfl) rfl<|es (ra1 rfl) ?_
  have hrs:((bif z.1 then [AV.fresh 1 (z.2.map cI)] else [.seq 1 (z.2.map cI)]):List AV).map fzA = [.seq 1 (z.2.map cI)]:= by cases z.1 <;> rfl
  rw [← hlen2]
  refine s0<|qm rfl<|qm rfl<|A0 (L6 rfl rfl) rfl<|A0 (B9 rfl) rfl<|A0 (B2 (x:=.asl (H.length + 1) l2.length) rfl rfl rfl) rfl<|O4 (A18 rfl rfl (hcomp _ _) hrs) rfl<|A0 (L6 rfl rfl) rfl<|A0 (B9 rfl) rfl<|N9 (E8 (ds:=A2y t z.2) rfl rfl rfl rfl (E2 rfl) rfl) rfl<|es (ra1 rfl)<|s0<|qm rfl<|qm rfl<|qm rfl<|es (ra2 rfl rfl)<|C5 ?_
  refine ⟨trivial,_,A6 rfl (A6 rfl B6),A5 rfl (A5 rfl B5),T6 ?_⟩
  have:=A5p (N:=H.length) (B:=0) (j:=2) (o:=0) rfl
  exact this
end Pw
namespace Pw
open Go Am Go.Proofs.YtjpjdglddmhplaaGreat.Cd
theorem nef {a:Int} (h:¬ (a == 0) = true):(a != 0) = true:= by simpa [bne] using h
theorem A15 {t:PaShow} {x:Int × List Int} (h:A1u t = some x) (hx:(x.1 == 0) = true):∃X,New tab (.fn (.func 51) [] []) [.agg (B1 t)] 2 [.cells (B1 t),X,.cells (A2y t x.2)]:= by
 have h0:=h
 unfold A1u at h0
 refine oB h0 fun y hy h0=>?_
 split at h0
 ·next hc=>cases h0; rw [show y.2.2 = 0 by simpa using hx] at hc; cases hc
 refine oB h0 fun l hl h0=>oB h0 fun l2 hl2 h0=>oB h0 fun z hz h0=>?_
 refine ⟨bif z.1 then .dead else .arr 1 true (l2.map cI),fun c H N hN=>?_⟩
 subst hN
 exact C8u h hx hy hl hl2 hz
end Pw
end
section
set_option maxRecDepth 100000
set_option maxHeartbeats 0
namespace Pw
open Go Am Go.Proofs.YtjpjdglddmhplaaGreat.Cd
def A3u (a0:PaShow):Option Bool :=
 (U2 a0).bind fun x1 =>
 some (x1.2.2 == 0)
theorem B7m {c:Sc} {H:A1} {a0:PaShow} {r:Bool} (h:A3u a0 = some r) :
  E1 tab c H (.fn (.func 33) [] []) [(.agg (B1 a0))] [.b r]:= by
 unfold A3u at h
 refine cE rfl rfl<|sg 0 rfl<|A0 (E5 (cs:=B1 a0) rfl rfl rfl) rfl<|qm rfl<|es (ra1 rfl)<|s0<|oB h fun x1 hx1 h=>A0 (D2 rfl rfl rfl) rfl<|B8 (rs:=[.i x1.1,.i x1.2.1,.i x1.2.2]) rfl rfl (A2 (D0 rfl) B7) ((A0d hx1).frz)<|qm rfl<|A0 (A9 rfl rfl) rfl<|A0 (A9 rfl rfl) rfl<|A0 (A9 rfl rfl) rfl<|qm rfl<|qm rfl<|qm rfl<|es (ra1 rfl)<|s0<|qm rfl<|A0 (G0 rfl rfl) rfl<|qm rfl<|es (ra1 rfl)<|C5 ?_
 obtain rfl:=os h
 exact retq trivial (A6 rfl B6) (A5 rfl B5) (A3 A4 A8)
end Pw
end
section
namespace Pw
open Go Am
structure GwOk (g:PaGown):Prop where
 looks:0≤g.Looks∧g.Looks≤15
 loan:0≤g.Loan∧g.Loan≤5000
 rate:0≤g.Rate∧g.Rate≤500
 fee:0≤g.Fee∧g.Fee≤100
 ago:0≤g.Ago∧g.Ago≤364
 last:0≤g.Last∧g.Last≤364
 free:g.Pawn = false→g.Loan = 0∧g.Rate = 0∧g.Fee = 0∧g.Ago = 0∧g.Last = 0
structure FgOk (f:PaFigure):Prop where
 day:0≤f.Day∧f.Day≤f.Until
 til:f.Until≤364
 needs:0≤f.Needs∧f.Needs≤15
structure InOk (x:PaIncome):Prop where
 day:0≤x.Day∧x.Day≤364
 pence:0≤x.Pence∧x.Pence≤10000
theorem B2d {α:Type} [Inhabited α] {l:List α} {x:α} (h:x ∈ l):∃i,i < l.length∧l[i]! = x:= by
 obtain ⟨i,hi,e⟩:=List.mem_iff_getElem.mp h
 exact ⟨i,hi,by rw [getElem!_pos l i hi,e]⟩
structure NmOk (l:List ByteArray):Prop where
 each:∀s ∈ l,A27 s = true
 two:l.Pairwise fun a b=>eqS a b = false
theorem D0v (a b:ByteArray):eqS a b = eqS b a:= by
 unfold eqS
 rw [Bool.eq_iff_iff,beq_iff_eq,beq_iff_eq]
 exact eq_comm
theorem A7p {s:ByteArray} {l:List ByteArray}:M9 s l = 0↔A27 s = true∧∀ y ∈ l,eqS y s = false:= by
 unfold M9
 cases A27 s with
 | false=>simp
 | true =>
  rw [if_pos rfl]
  cases hl:l.any (fun y=>eqS y s) with
  | true =>
   rw [List.any_eq_true] at hl
   obtain ⟨y,h1,h2⟩:=hl
   refine ⟨fun q=>absurd q (by decide),fun q=>?_⟩
   rw [q.2 y h1] at h2; cases h2
  | false =>
   rw [List.any_eq_false] at hl
   refine ⟨fun _=>⟨rfl,fun y hy=>by have:=hl y hy; simpa using this⟩,fun _=>rfl⟩
theorem D1p (l:List ByteArray):(∀ i,i < l.length→M9 l[i]! (l.take i) = 0)↔NmOk l:= by
 constructor
 ·intro h
  refine ⟨fun s hs=>?_,?_⟩
  ·obtain ⟨i,hi,rfl⟩:=B2d hs
   exact (A7p.mp (h i hi)).1
  ·rw [List.pairwise_iff_getElem]
   intro i j hi hj hij
   have:=(A7p.mp (h j hj)).2 l[i] (by
    rw [List.mem_take_iff_getElem]
    exact ⟨i,by omega,rfl⟩)
   rwa [getElem!_pos l j hj] at this
 ·intro h i hi
  refine A7p.mpr ⟨h.each _ (M3 hi),fun y hy=>?_⟩
  rw [List.mem_take_iff_getElem] at hy
  obtain ⟨j,hj,rfl⟩:=hy
  have:=List.pairwise_iff_getElem.mp h.two j i (by omega) hi (by omega)
  rwa [getElem!_pos l i hi]
theorem D1q {α:Type} [Inhabited α] (k:α→ByteArray) (l:List α):(∀ i,i < l.length→M9 (k l[i]!) ((l.take i).map k) = 0)↔NmOk (l.map k):= by
 rw [← D1p,List.length_map]
 refine forall_congr' fun i=>forall_congr' fun hi=>?_
 rw [List.map_take,getElem!_pos (l.map k) i (by rw [List.length_map]; exact hi),List.getElem_map,getElem!_pos l i hi]
theorem NmOk.reverse {l:List ByteArray} (h:NmOk l):NmOk l.reverse :=
 ⟨fun s hs=>h.each s (List.mem_reverse.mp hs),by
  rw [List.pairwise_reverse]
  exact h.two.imp fun {a b} e=>by rw [D0v]; exact e⟩
structure ShOk (s:PaShow):Prop where
 gowns:s.Gowns.length≤5
 gown:∀g ∈ s.Gowns,GwOk g
 gname:NmOk (s.Gowns.map (·.Name))
 figures:s.Figures.length≤3
 figure:∀f ∈ s.Figures,FgOk f
 fname:NmOk (s.Figures.map (·.Name))
 purse:0≤s.Purse∧s.Purse≤10000
 incomes:s.Incomes.length≤3
 income:∀x ∈ s.Incomes,InOk x
theorem C7f (g:PaGown):gOk g = true↔GwOk g:= by
 unfold gOk
 cases hp:g.Pawn
 ·simp only [Bool.and_eq_true,Bool.not_eq_true',N7,Bool.false_eq_true,if_false,beq_iff_eq]
  constructor
  ·rintro ⟨h1,h2,h3,h4,h5,h6⟩
   exact ⟨h1,by omega,by omega,by omega,by omega,by omega,fun _=>⟨h2,h3,h4,h5,h6⟩⟩
  ·intro h
   have:=h.free hp
   exact ⟨h.looks,this⟩
 ·simp only [Bool.and_eq_true,Bool.not_eq_true',N7,if_true]
  constructor
  ·rintro ⟨h1,h2,h3,h4,h5,h6⟩
   exact ⟨h1,h2,h3,h4,h5,h6,fun h=>by rw [hp] at h; cases h⟩
  ·intro h
   exact ⟨h.looks,h.loan,h.rate,h.fee,h.ago,h.last⟩
theorem C69 (f:PaFigure):fC f = 0↔FgOk f:= by
 unfold fC
 constructor
 ·intro h
  split at h
  ·cases h
  ·next h1 =>
   split at h
   ·cases h
   ·next h2 =>
    have h1:(out 0 364 f.Day || (out 0 364 f.Until || out 0 15 f.Needs)) = false:= by simpa using h1
    rw [Bool.or_eq_false_iff,Bool.or_eq_false_iff,N7,N7,N7] at h1
    exact ⟨by omega,by omega,h1.2.2⟩
 ·intro h
  have h1:=h.day
  have h2:=h.til
  rw [N7.mpr (by omega:0≤f.Day∧f.Day≤364),N7.mpr (by omega:0≤f.Until∧f.Until≤364),N7.mpr h.needs,if_neg (by decide),if_neg (by omega)]
theorem A67 {f:Nat→Int} {n:Nat} (h:∀i,i < n→f i = 0):wrong f n = none:= by
 unfold wrong
 rw [J3]
 intro i hi
 rw [h i hi]; rfl
theorem A3r {f:Nat→Int} {n:Nat}:wrong f n = none↔∀ i,i < n→f i = 0:=⟨C6y,A67⟩
theorem B63 {l:List PaGown}:(∀ i,i < l.length→A8k l i = 0)↔(∀ g ∈ l,GwOk g)∧NmOk (l.map (·.Name)):= by
 rw [← D1q]
 have key:∀i,A8k l i = 0↔M9 l[i]!.Name ((l.take i).map (·.Name)) = 0∧gOk l[i]! = true:=fun i=>by
  unfold A8k
  by_cases c:M9 l[i]!.Name ((l.take i).map (·.Name)) = 0
  ·rw [if_pos c]
   cases gOk l[i]! with
   | true=>exact ⟨fun _=>⟨c,rfl⟩,fun _=>rfl⟩
   | false=>exact ⟨fun q=>absurd q (by decide),fun q=>absurd q.2 (by decide)⟩
  ·rw [if_neg c]; exact ⟨fun q=>absurd q c,fun q=>absurd q.1 c⟩
 constructor
 ·intro q
  refine ⟨fun x hx=>?_,fun i hi=>((key i).mp (q i hi)).1⟩
  obtain ⟨i,hi,rfl⟩:=B2d hx
  exact (C7f _).mp ((key i).mp (q i hi)).2
 ·intro q i hi
  exact (key i).mpr ⟨q.2 i hi,(C7f _).mpr (q.1 _ (M3 hi))⟩
theorem B6t {l:List PaFigure}:(∀ i,i < l.length→A8h l i = 0)↔(∀ g ∈ l,FgOk g)∧NmOk (l.map (·.Name)):= by
 rw [← D1q]
 have key:∀i,A8h l i = 0↔M9 l[i]!.Name ((l.take i).map (·.Name)) = 0∧fC l[i]! = 0:=fun i=>by
  unfold A8h
  by_cases c:M9 l[i]!.Name ((l.take i).map (·.Name)) = 0
  ·rw [if_pos c]; exact ⟨fun q=>⟨c,q⟩,fun q=>q.2⟩
  ·rw [if_neg c]; exact ⟨fun q=>absurd q c,fun q=>absurd q.1 c⟩
 constructor
 ·intro q
  refine ⟨fun x hx=>?_,fun i hi=>((key i).mp (q i hi)).1⟩
  obtain ⟨i,hi,rfl⟩:=B2d hx
  exact (C69 _).mp ((key i).mp (q i hi)).2
 ·intro q i hi
  exact (key i).mpr ⟨q.2 i hi,(C69 _).mpr (q.1 _ (M3 hi))⟩
theorem B66 {l:List PaIncome}:(∀ i,i < l.length→A8p l i = 0)↔∀ g ∈ l,InOk g:= by
 have key:∀i,A8p l i = 0↔InOk l[i]!:=fun i=>by
  unfold A8p
  cases h1:out 0 364 l[i]!.Day with
  | true=>exact ⟨fun q=>by simp at q,fun q=>by rw [N7.mpr q.day] at h1; cases h1⟩
  | false =>
   cases h2:out 0 10000 l[i]!.Pence with
   | true=>exact ⟨fun q=>by simp at q,fun q=>by rw [N7.mpr q.pence] at h2; cases h2⟩
   | false=>exact ⟨fun _=>⟨N7.mp h1,N7.mp h2⟩,fun _=>rfl⟩
 constructor
 ·intro q x hx
  obtain ⟨i,hi,rfl⟩:=B2d hx
  exact (key i).mp (q i hi)
 ·intro q i hi
  exact (key i).mpr (q _ (M3 hi))
theorem A1o (s:PaShow):(chk s).2.2 = 0↔ShOk s:= by
 unfold chk
 by_cases h1:s.Gowns.length > 5
 ·rw [if_pos h1]; exact ⟨fun q=>absurd q (by decide:(3:Int) ≠ 0),fun q=>absurd q.gowns (by omega)⟩
 rw [if_neg h1]
 cases hw:wrong (A8k s.Gowns) s.Gowns.length with
 | some x =>
  refine ⟨fun q=>?_,fun q=>?_⟩
  ·have:=A5n hw
   have q:x.2 = 0:=q
   rw [q] at this; cases this
  ·rw [A67 (B63.mpr ⟨q.gown,q.gname⟩)] at hw; cases hw
 | none =>
  simp only
  have hg:=B63.mp (A3r.mp hw)
  by_cases h2:s.Figures.length > 3
  ·rw [if_pos h2]; exact ⟨fun q=>absurd q (by decide:(3:Int) ≠ 0),fun q=>absurd q.figures (by omega)⟩
  rw [if_neg h2]
  cases hw2:wrong (A8h s.Figures) s.Figures.length with
  | some x =>
   refine ⟨fun q=>?_,fun q=>?_⟩
   ·have:=A5n hw2
    have q:x.2 = 0:=q
    rw [q] at this; cases this
   ·rw [A67 (B6t.mpr ⟨q.figure,q.fname⟩)] at hw2; cases hw2
  | none =>
   simp only
   have hf:=B6t.mp (A3r.mp hw2)
   cases hp:out 0 10000 s.Purse with
   | true=>exact ⟨fun q=>absurd q (by decide:(7:Int) ≠ 0),fun q=>by rw [N7.mpr q.purse] at hp; cases hp⟩
   | false =>
    simp only [Bool.false_eq_true,if_false]
    by_cases h3:s.Incomes.length > 3
    ·rw [if_pos h3]; exact ⟨fun q=>absurd q (by decide:(3:Int) ≠ 0),fun q=>absurd q.incomes (by omega)⟩
    rw [if_neg h3]
    cases hw3:wrong (A8p s.Incomes) s.Incomes.length with
    | some x =>
     refine ⟨fun q=>?_,fun q=>?_⟩
     ·have:=A5n hw3
      have q:x.2 = 0:=q
      rw [q] at this; cases this
     ·rw [A67 (B66.mpr q.income)] at hw3; cases hw3
    | none =>
     exact ⟨fun _=>⟨by omega,hg.1,hg.2,by omega,hf.1,hf.2,N7.mp hp,by omega,B66.mp (A3r.mp hw3)⟩,fun _=>rfl⟩
theorem C8g:∀{l m:List Int},Str l→Str m→(∀ x,x ∈ l↔x ∈ m)→l = m
 | [],[],_,_,_=>rfl
 | [],y :: m,_,_,h=>absurd ((h y).mpr (List.mem_cons_self ..)) (by simp)
 | x :: l,[],_,_,h=>absurd ((h x).mp (List.mem_cons_self ..)) (by simp)
 | x :: l,y :: m,hl,hm,h=>by
  have hl':=List.pairwise_cons.mp hl
  have hm':=List.pairwise_cons.mp hm
  have hxy:x = y:= by
   rcases List.mem_cons.mp ((h x).mp (List.mem_cons_self ..)) with e | h1
   ·exact e
   ·rcases List.mem_cons.mp ((h y).mpr (List.mem_cons_self ..)) with e | h2
    ·exact e.symm
    ·have:=hm'.1 x h1; have:=hl'.1 y h2; omega
  subst hxy
  rw [C8g hl'.2 hm'.2 fun z=>?_]
  constructor
  ·intro hz
   rcases List.mem_cons.mp ((h z).mp (List.mem_cons_of_mem _ hz)) with e | h1
   ·subst e; have:=hl'.1 z hz; omega
   ·exact h1
  ·intro hz
   rcases List.mem_cons.mp ((h z).mpr (List.mem_cons_of_mem _ hz)) with e | h1
   ·subst e; have:=hm'.1 z hz; omega
   ·exact h1
def A4c (s:PaShow):List Int:=0 :: ((List.range 364).map fun (i:Nat)=>(i:Int) + 1).filter fun d=>s.Incomes.any fun x=>x.Day == d
theorem C8s (s:PaShow):Str (A4c s):= by
 unfold A4c
 refine List.pairwise_cons.mpr ⟨fun x hx=>?_,?_⟩
 ·have:=(List.mem_filter.mp hx).1
  obtain ⟨i,_,rfl⟩:=List.mem_map.mp this
  omega
 ·refine List.Pairwise.filter _ ?_
  rw [List.pairwise_map]
  exact List.pairwise_lt_range.imp (fun h=>by omega)
theorem C8r {s:PaShow} (hs:ShOk s) (d:Int):d ∈ A4c s↔d = 0∨∃ x ∈ s.Incomes,x.Day = d:= by
 unfold A4c
 rw [List.mem_cons,List.mem_filter,List.mem_map,List.any_eq_true]
 constructor
 ·rintro (h | ⟨_,x,hx,e⟩)
  ·exact .inl h
  ·exact .inr ⟨x,hx,by simpa using e⟩
 ·rintro (h | ⟨x,hx,rfl⟩)
  ·exact .inl h
  ·have:=(hs.income x hx).day
   by_cases h0:x.Day = 0
   ·exact .inl h0
   ·exact .inr ⟨⟨(x.Day - 1).toNat,by simp; omega,by omega⟩,x,hx,by simp⟩
theorem C5s (s:PaShow) (hl:s.Incomes.length≤3):loop (A4v s) ([0],0) = some ([0]++s.Incomes.map (·.Day)):= by
 have:=A9v (b:=A4v s) (fun i=>([0]++(s.Incomes.take i).map (·.Day),(i:Int))) s.Incomes.length (fun _=>none) ([0]++s.Incomes.map (·.Day)) (by omega) (fun i hi _=>by
  unfold A4v
  rw [if_pos (by simpa using hi),K1 hi]
  simp only [Option.bind_some]
  rw [B0t (by omega) (by simp; omega),G1 (by omega)]
  simp only [Option.bind_some]
  rw [List.append_assoc,B4g (fun x:PaIncome=>x.Day) hi]
  rfl) (fun _=>by
  unfold A4v
  rw [if_neg (by simp),List.take_length])
 rw [show (([0]:List Int),(0:Int)) = ([0]++(s.Incomes.take 0).map (·.Day),((0:Nat):Int)) from rfl,this]
 rw [J3.mpr fun _ _=>rfl]; rfl
theorem B1r (s:PaShow) (hb:NB s):A1u s = some (if (chk s).2.2 = 0 then (0,A4c s) else ((chk s).2.2,[])):= by
 unfold A1u
 rw [C2o s hb]
 simp only [Option.bind_some]
 by_cases h:(chk s).2.2 = 0
 ·have hs:=(A1o s).mp h
  rw [if_neg (by simp [h]),if_pos h,C5s s hs.incomes]
  simp only [Option.bind_some]
  have hle:=hs.incomes
  obtain ⟨l',h1,h2,h3⟩:=D4y ([0]++s.Incomes.map (·.Day)) (by simp) (by simp; omega)
  rw [h1]
  simp only [Option.bind_some]
  have hlen:=h3.length_eq
  obtain ⟨b,r,h4,h5,h6⟩:=C5k h2 (by rw [hlen]; simp) (by rw [hlen]; simp; omega)
  rw [h4]
  simp only [Option.bind_some]
  rw [C8g h5 (C8s s) fun x=>?_]
  rw [h6,h3.mem_iff,C8r hs]
  simp
 ·rw [if_pos (by simpa using h),if_neg h]
theorem D25 (s:PaShow):A3u s = some (decide ((chk s).2.2 = 0)):= by
 unfold A3u
 rw [A0z]
 simp only [Option.bind_some]
 by_cases h:(chk s).2.2 = 0 <;> simp [h]
theorem A31 {α:Type} {l:List Sh} {c:α→List AV} {Q:α→Prop} (h:∀r,SatL l r→∃ x,r = c x∧Q x):∀rows:List (List AV),(∀ r ∈ rows,SatL l r)→∃ xs:List α,rows = xs.map c∧xs.length = rows.length∧∀ x ∈ xs,Q x
 | [],_=>⟨[],rfl,rfl,by simp⟩
 | r :: rows,hr=>by
  obtain ⟨x,hx,hq⟩:=h r (hr r (List.mem_cons_self ..))
  obtain ⟨xs,hxs,hlen,hqs⟩:=A31 h rows fun r' h'=>hr r' (List.mem_cons_of_mem _ h')
  refine ⟨x :: xs,by rw [hx,hxs]; rfl,by rw [List.length_cons,List.length_cons,hlen],?_⟩
  intro y hy
  rcases List.mem_cons.mp hy with rfl | hy
  ·exact hq
  ·exact hqs y hy
theorem C9f (r:List AV) (h:SatL [.str,.int .i64,.bool,.int .i64,.int .i64,.int .i64,.int .i64,.int .i64] r):∃x:PaGown,r = C1 x∧x.Name.size≤maxLen:= by
 simp only [SatL,Sat] at h
 obtain ⟨x1,q1,rfl,⟨s,rfl,hs⟩,x2,q2,rfl,⟨n2,rfl,_⟩,x3,q3,rfl,⟨n3,rfl⟩,x4,q4,rfl,⟨n4,rfl,_⟩,x5,q5,rfl,⟨n5,rfl,_⟩,x6,q6,rfl,⟨n6,rfl,_⟩,x7,q7,rfl,⟨n7,rfl,_⟩,x8,q8,rfl,⟨n8,rfl,_⟩,rfl⟩:=h
 exact ⟨⟨s,n2,n3,n4,n5,n6,n7,n8⟩,rfl,hs⟩
theorem C38 (r:List AV) (h:SatL [.str,.int .i64,.int .i64,.int .i64] r):∃x:PaFigure,r = B3 x∧x.Name.size≤maxLen:= by
 simp only [SatL,Sat] at h
 obtain ⟨x1,q1,rfl,⟨s,rfl,hs⟩,x2,q2,rfl,⟨n2,rfl,_⟩,x4,q4,rfl,⟨n4,rfl,_⟩,x5,q5,rfl,⟨n5,rfl,_⟩,rfl⟩:=h
 exact ⟨⟨s,n2,n4,n5⟩,rfl,hs⟩
theorem C39 (r:List AV) (h:SatL [.int .i64,.int .i64] r):∃x:PaIncome,r = D1 x∧True:= by
 simp only [SatL,Sat] at h
 obtain ⟨x1,q1,rfl,⟨n1,rfl,_⟩,x2,q2,rfl,⟨n2,rfl,_⟩,rfl⟩:=h
 exact ⟨⟨n1,n2⟩,rfl,trivial⟩
def C6p:List Sh:=[.seq 8 [.str,.int .i64,.bool,.int .i64,.int .i64,.int .i64,.int .i64,.int .i64],.seq 4 [.str,.int .i64,.int .i64,.int .i64],.int .i64,.seq 2 [.int .i64,.int .i64]]
theorem C9g (r:List AV) (h:SatL C6p r):∃x:PaShow,r = B1 x∧NB x:= by
 unfold C6p at h
 rw [SatL] at h; obtain ⟨x0,q0,rfl,h0,h⟩:=h
 rw [SatL] at h; obtain ⟨x1,q1,rfl,h1,h⟩:=h
 rw [SatL] at h; obtain ⟨x2,q2,rfl,h2,h⟩:=h
 rw [SatL] at h; obtain ⟨x3,q3,rfl,h3,h⟩:=h
 rw [SatL] at h; subst h
 simp only [Sat] at h0 h1 h2 h3
 obtain ⟨rows0,rfl,_,hr0⟩:=h0
 obtain ⟨rows1,rfl,_,hr1⟩:=h1
 obtain ⟨n2,rfl,_⟩:=h2
 obtain ⟨rows3,rfl,_,hr3⟩:=h3
 obtain ⟨xs,rfl,_,hq0⟩:=A31 C9f rows0 hr0
 obtain ⟨ys,rfl,_,hq1⟩:=A31 C38 rows1 hr1
 obtain ⟨ws,rfl,_,_⟩:=A31 C39 rows3 hr3
 refine ⟨⟨xs,ys,n2,ws⟩,rfl,fun v hv=>?_,fun v hv=>?_⟩
 ·have:=hq0 v hv; simp only [maxLen] at this; omega
 ·have:=hq1 v hv; simp only [maxLen] at this; omega
theorem D3d {g:Ghost} {cs:List Value} {r:List AV} (hr:r.length = cs.length) (h:∀(j:Nat) (x:AV),r[j]? = some x→∃ v,cs[j]? = some v∧Den g.Φ x v∧v.oneCell' = true):V g (.agg r) (.agg cs.toArray):= by
 refine .agg r cs.toArray (by simpa using hr.symm) ?_ ?_
 ·intro j x hx
  obtain ⟨v,hv,hd,_⟩:=h j x hx
  rw [List.getElem?_toArray,hv]; exact .den _ _ hd
 ·intro j x hx
  obtain ⟨v,hv,_,h1⟩:=h j x hx
  rw [List.getElem?_toArray,hv]; exact h1
theorem C6w {n:Int} (h:(Lit.int .u16 n).wf = true):0≤n∧n < 65536:= by
 rw [Lit.wf,Bool.and_eq_true,decide_eq_true_eq,decide_eq_true_eq] at h
 have h1:IntKind.u16.min = 0:=rfl
 have h2:IntKind.u16.max = 65535:=rfl
 omega
theorem D15 (r:List AV) (h:SatL [.int .u16] r):∃x:Int,r = [.lit (.int .u16 x)]∧(0≤x∧x < 65536):= by
 simp only [SatL,Sat] at h
 obtain ⟨x1,q1,rfl,⟨n1,rfl,hw⟩,rfl⟩:=h
 exact ⟨n1,rfl,C6w hw⟩
theorem D4k (r:List AV) (h:SatL [.int .u16] r):∃x:Int,r = A5r x∧(0≤x∧x < 65536):=D15 r h
theorem D4l (r:List AV) (h:SatL [.seq 1 [.int .u16]] r):∃xs:List Int,r = [.seq 1 (xs.map A5r)]∧xs.length < 9223372036854775808:= by
 rw [SatL] at h; obtain ⟨x,q1,rfl,hx,hq⟩:=h
 rw [SatL] at hq; subst hq
 simp only [Sat] at hx
 obtain ⟨rows,rfl,hl,hr⟩:=hx
 obtain ⟨xs,rfl,hlen,hq⟩:=A31 D4k rows hr
 simp only [maxLen] at hl
 exact ⟨xs,rfl,by omega⟩
end Pw
end
section
set_option maxRecDepth 100000
set_option maxHeartbeats 0
namespace Pw
open Go Am Go.Proofs.YtjpjdglddmhplaaGreat.Cd
def A2a :Option PaUse :=
 some (PaUse.mk (-1) 0 0)
theorem A4h {c:Sc} {H:A1}  {r:PaUse} (h:A2a  = some r) :
  E1 tab c H (.fn (.func 99) [] []) [] [(.agg (A7 r))]:= by
 unfold A2a at h
 refine cE rfl rfl<|sg 0 rfl<|A0 I3 rfl<|es (ra1 rfl)<|s0<|A0 (Q4 (cs:=A7 (PaUse.mk (-1) 0 0)) rfl rfl) rfl<|N9 (E8 (ds:=(A7 (PaUse.mk (-1) 0 0))) rfl rfl rfl rfl (E2 rfl) rfl) rfl<|es (ra1 rfl)<|C5 ?_
 obtain rfl:=os h
 exact retq trivial (A93 (A3m (ds:=A7 (PaUse.mk (-1) 0 0)) rfl rfl rfl rfl) B6) (A5 (B32 rfl) B5) (A3 (B3b rfl) A8)
def A4k (a0:PaGown) (a1:PaFigure) (a2:Int):Option Bool :=
 some (a2 == 0)
theorem B5q {c:Sc} {H:A1} {a0:PaGown} {a1:PaFigure} {a2:Int} {r:Bool} (h:A4k a0 a1 a2 = some r) :
  E1 tab c H (.fn (.func 92) [] []) [(.agg (C1 a0)),(.agg (B3 a1)),.i a2] [.b r]:= by
 unfold A4k at h
 refine cE rfl rfl<|sg 0 rfl<|A0 (E5 (cs:=C1 a0) rfl rfl rfl) rfl<|A0 (E5 (cs:=B3 a1) rfl rfl rfl) rfl<|qm rfl<|es (ra1 rfl)<|s0<|qm rfl<|A0 (G0 rfl rfl) rfl<|qm rfl<|es (ra1 rfl)<|C5 ?_
 obtain rfl:=os h
 exact retq trivial (A6 rfl B6) (A5 rfl B5) (A3 A4 A8)
def A4l (a0:PaGown) (a1:PaFigure) (a2:Int):Option Bool :=
 some (decide (a2≤(A6u a0.Last a1.Day)))
theorem B5s {c:Sc} {H:A1} {a0:PaGown} {a1:PaFigure} {a2:Int} {r:Bool} (h:A4l a0 a1 a2 = some r) :
  E1 tab c H (.fn (.func 94) [] []) [(.agg (C1 a0)),(.agg (B3 a1)),.i a2] [.b r]:= by
 unfold A4l at h
 refine cE rfl rfl<|sg 0 rfl<|A0 (E5 (cs:=C1 a0) rfl rfl rfl) rfl<|A0 (E5 (cs:=B3 a1) rfl rfl rfl) rfl<|qm rfl<|es (ra3 rfl rfl rfl)<|s0<|qm rfl<|A0 (B9 rfl) rfl<|A0 (B2 rfl rfl rfl) rfl<|A0 (B9 rfl) rfl<|A0 (B2 rfl rfl rfl) rfl<|A0 (C9d rfl rfl) rfl<|A0 (A4a rfl rfl) rfl<|qm rfl<|es (ra1 rfl)<|C5 ?_
 obtain rfl:=os h
 exact retq trivial (A6 rfl B6) (A5 rfl B5) (A3 A4 A8)
def A0x (a0:PaGown) (a1:PaFigure) (a2:Int):Option Bool :=
 some (decide (a1.Until≤a0.Last))
theorem A75 {c:Sc} {H:A1} {a0:PaGown} {a1:PaFigure} {a2:Int} {r:Bool} (h:A0x a0 a1 a2 = some r) :
  E1 tab c H (.fn (.func 96) [] []) [(.agg (C1 a0)),(.agg (B3 a1)),.i a2] [.b r]:= by
 unfold A0x at h
 refine cE rfl rfl<|sg 0 rfl<|A0 (E5 (cs:=C1 a0) rfl rfl rfl) rfl<|A0 (E5 (cs:=B3 a1) rfl rfl rfl) rfl<|qm rfl<|es (ra2 rfl rfl)<|s0<|A0 (B9 rfl) rfl<|A0 (B2 rfl rfl rfl) rfl<|A0 (B9 rfl) rfl<|A0 (B2 rfl rfl rfl) rfl<|A0 (A4a rfl rfl) rfl<|qm rfl<|es (ra1 rfl)<|C5 ?_
 obtain rfl:=os h
 exact retq trivial (A6 rfl B6) (A5 rfl B5) (A3 A4 A8)
def U9 (a0:pawn_show) (a1:Int) (a2:PaUse):Option Int :=
 (A2a).bind fun x1 =>
 if ((a2.Gown == x1.Gown) && ((a2.How == x1.How) && ((a2.Day == x1.Day) && true))) = true then
  some 0
 else
  if (a2.Gown == (-1)) = true then
  some 2
  else
  (E3 0 (w64 ((List.length a0.PaShow.Gowns:Int) - 1)) [a2.Gown]).bind fun x4 =>
  if x4 = true then
   some 4
  else
   (idx a0.PaShow.Gowns a2.Gown).bind fun x6 =>
   (idx a0.PaShow.Figures a1).bind fun x7 =>
   (if (a2.How == 1) = true then
    some 364
   else
    some 0).bind fun (p8:Int) =>
   (E3 0 2 [a2.How]).bind fun x10 =>
   (if (x10 || (!(x6.Pawn == (a2.How != 0)))) = true then
   some true
   else
   (E3 0 p8 [a2.Day]).bind fun x13 =>
   some x13).bind fun x14 =>
   if x14 = true then
   some 2
   else
   (if ((A0o x7.Needs x6.Looks) != 0) = true then
    some true
   else
    (inR 3 a2.How).bind fun x17 =>
    (sel3 a2.How (A4k x6 x7 a2.Day) (A4l x6 x7 a2.Day) (A0x x6 x7 a2.Day)).bind fun x18 =>
    some (!x18)).bind fun x19 =>
   if x19 = true then
    some 9
   else
    some 0
theorem A29 {c:Sc} {H:A1} {a0:pawn_show} {b0:Nat} (hb0:hcells H b0 = some [(.seq 8 (List.map C1 a0.PaShow.Gowns)),(.seq 4 (List.map B3 a0.PaShow.Figures)),.i a0.PaShow.Purse,(.seq 2 (List.map D1 a0.PaShow.Incomes)),(.fn (.func 90) [] []),(.fn (.func 91) [] []),(.fn (.func 92) [] []),(.fn (.func 52) [] []),(.fn (.func 93) [] []),(.fn (.func 94) [] []),(.fn (.func 55) [] []),(.fn (.func 95) [] []),(.fn (.func 96) [] []),(.seq 1 (List.map cI a0.days_))]) {a1:Int} {a2:PaUse} {r:Int} (h:U9 a0 a1 a2 = some r) :
  E1 tab c H (.fn (.func 57) [] []) [.ptr b0 0,.i a1,(.agg (A7 a2))] [.i r]:= by
 unfold U9 at h
 refine cE rfl rfl<|sg 0 rfl<|A0 (E5 (cs:=A7 a2) rfl rfl rfl) rfl<|qm rfl<|es (ra3 rfl rfl rfl)<|C2<|C6<|s0<|oB h fun x1 hx1 h=>A0 (D2 rfl rfl rfl) rfl<|U1 (rs:=[(.agg (A7 x1))]) rfl rfl A0e B7 ((A4h hx1).frz)<|A0 (C6a (a:=A7 a2) (b:=A7 x1) rfl rfl rfl rfl (V5 (V5 (V5 B1t)))) rfl<|qm rfl<|es (ra4 rfl rfl rfl rfl)<|wi h rfl (fun hc2 h=>?_) fun hc2 h=>?_
 ·refine s0<|qm rfl<|es (ra1 rfl)<|C5 ?_
  obtain rfl:=os h
  exact retq trivial (A6 rfl B6) (A5 rfl B5) (A3 A4 A8)
 ·refine s0<|A0 (B9 rfl) rfl<|A0 (B2 rfl rfl rfl) rfl<|A0 (G0 rfl rfl) rfl<|qm rfl<|es (ra4 rfl rfl rfl rfl)<|wi h rfl (fun hc3 h=>?_) fun hc3 h=>?_
  ·refine s0<|qm rfl<|es (ra1 rfl)<|C5 ?_
   obtain rfl:=os h
   exact retq trivial (A6 rfl B6) (A5 rfl B5) (A3 A4 A8)
  ·refine s0<|oB h fun x4 hx4 h=>qm rfl<|A0 (L6 rfl rfl) rfl<|A0 (B9 rfl) rfl<|A0 (B9 rfl) rfl<|A0 (F7 (x:=(.seq 8 (List.map C1 a0.PaShow.Gowns))) rfl hb0 rfl) rfl<|A0 (F6 (f:=C1) rfl) rfl<|A0 (T5 rfl rfl) rfl<|A0 (B9 rfl) rfl<|A0 (B2 rfl rfl rfl) rfl<|A0 (J4 (rows:=List.map cI [a2.Gown]) rfl rfl (E4 (fun _=>rfl) _)) rfl<|B8 (rs:=[.b x4]) rfl rfl (A2 rfl (A2 rfl (A2 rfl B7))) ((F1 hx4).frz)<|qm rfl<|es (ra4 rfl rfl rfl rfl)<|wi h rfl (fun hc5 h=>?_) fun hc5 h=>?_
   ·refine s0<|qm rfl<|es (ra1 rfl)<|C5 ?_
    obtain rfl:=os h
    exact retq trivial (A6 rfl B6) (A5 rfl B5) (A3 A4 A8)
   ·refine C3<|sg 1 rfl<|oB h fun x6 hx6 h=>oB h fun x7 hx7 h=>qm rfl<|A0 (L6 rfl rfl) rfl<|A0 (B9 rfl) rfl<|A0 (B9 rfl) rfl<|I9 [1,2] (O6 [1,2] rfl G4 rfl rfl) (seen0 rfl) (F7 (x:=(.seq 8 (List.map C1 a0.PaShow.Gowns))) rfl hb0 rfl) rfl<|A0 (B9 rfl) rfl<|I9 [1,2] (O6 [1,2] rfl G4 rfl rfl) (seen0 rfl) (B2 rfl rfl rfl) rfl<|I9 [1,2] (O6 [1,2] rfl G4 rfl rfl) (seen0 rfl) (E9 (f:=C1) rfl rfl hx6) rfl<|I9 [1,2] (O6 [1,2] rfl G4 rfl rfl) (seen0 rfl) (F5 rfl rfl) rfl<|A0 I3 rfl<|A0 I3 rfl<|D2e [] [(.cells (A7 a2)),(.cells (C1 x6)),(.cells (B3 (PaFigure.mk (ByteArray.mk #[]) 0 0 0)))] (A4f hb0) (D51 [] rfl (B4m rfl B0w G4) rfl rfl (A4f hb0) (C50 hb0)) (seen0 rfl) (D1t (F4 _ _ _) (ds:=(C1 x6)) rfl rfl rfl rfl rfl rfl) rfl rfl rfl<|qm rfl<|A0 (L6 rfl rfl) rfl<|A0 (B9 rfl) rfl<|A0 (B9 rfl) rfl<|I9 [1,2] (O6 [1,2] rfl G4 rfl rfl) (C2k (b:=b0) rfl (B4e (B82 _ _) B8f)) (F7 (x:=(.seq 4 (List.map B3 a0.PaShow.Figures))) rfl hb0 rfl) rfl<|qm rfl<|I9 [1,2] (O6 [1,2] rfl G4 rfl rfl) (A95 rfl) (E9 (f:=B3) rfl rfl hx7) rfl<|I9 [1,2] (O6 [1,2] rfl G4 rfl rfl) (A95 rfl) (F5 rfl rfl) rfl<|N9 (E8 (ds:=(B3 x7)) rfl rfl rfl rfl (E2 rfl) rfl) rfl<|es (ra4 rfl rfl rfl rfl)<|s0<|qm rfl<|es (ra5 rfl rfl rfl rfl rfl)<|C2<|s0<|A0 (B9 rfl) rfl<|A0 (B2 rfl rfl rfl) rfl<|A0 (G0 rfl rfl) rfl<|es (ra6 rfl rfl rfl rfl rfl rfl)<|oB h fun p8 hp8 h=>A6i (Q1:=fun e s' H'=>e = .normal∧s' = [(0,.ptr b0 0),(5,(.ptr (H.length + 0) 0)),(7,(.ptr (H.length + 1) 0)),(8,(.ptr (H.length + 2) 0)),(9,.i p8)]∧H' = (H++[(.cells (A7 a2)),(.cells (C1 x6)),(.cells (B3 x7))])) ?_ ?_
    ·refine wi hp8 rfl (fun hc9 hp8=>?_) fun hc9 hp8=>?_
     ·refine r0<|qm rfl<|en (ra5 rfl rfl rfl rfl rfl) ?_
      obtain rfl:=os hp8
      exact me (And.intro rfl (And.intro rfl rfl)) (su5 rfl rfl rfl rfl rfl)
     ·refine C3 ?_
      obtain rfl:=os hp8
      exact me (And.intro rfl (And.intro rfl rfl)) (su5 rfl rfl rfl rfl rfl)
    ·rintro e s' H' ⟨rfl,rfl,rfl⟩
     refine C2<|C6<|s0<|oB h fun x10 hx10 h=>oB h fun x14 hx14 h=>A0 (B9 rfl) rfl<|A0 (B2 rfl rfl rfl) rfl<|A0 (J4 (rows:=List.map cI [a2.How]) rfl rfl (E4 (fun _=>rfl) _)) rfl<|B8 (rs:=[.b x10]) rfl rfl (A2 rfl (A2 rfl (A2 rfl B7))) ((F1 hx10).frz)<|qm rfl<|gp 7 62 (.b (x10 || (!(x6.Pawn == (a2.How != 0))))) 55 rfl rfl (fun hg11=>?_) (fun hg11=>?_) ?_
     ·exact nF rfl hg11 rfl<|nF rfl hg11 rfl<|nF rfl hg11 rfl<|nF rfl hg11 rfl<|nF rfl hg11 rfl<|nF rfl hg11 rfl<|A0 (C8 rfl hg11 rfl) rfl<|ge 7 (by rw [hg11]; rfl) rfl rfl
     ·exact gF rfl hg11<|A0 (B9 rfl) rfl<|gF rfl hg11<|A0 (B2 rfl rfl rfl) rfl<|gF rfl hg11<|A0 (B9 rfl) rfl<|gF rfl hg11<|A0 (B2 rfl rfl rfl) rfl<|gF rfl hg11<|A0 (J5 rfl rfl) rfl<|gF rfl hg11<|A0 (D6d rfl rfl) rfl<|A0 (C7 rfl hg11 rfl) rfl<|ge 7 (by rw [hg11]; rfl) rfl rfl
     refine qm rfl<|gp 6 69 (.b x14) 63 rfl rfl (fun hg12=>?_) (fun hg12=>?_) ?_
     ·obtain rfl:=os (bt hx14 hg12)
      exact nF rfl hg12 rfl<|nF rfl hg12 rfl<|nF rfl hg12 rfl<|nF rfl hg12 rfl<|H6 (E0 rfl (by rw [hg12]; rfl)) rfl<|A0 (C8 rfl hg12 rfl) rfl<|ge 6 rfl rfl rfl
     ·refine oB (bf hx14 hg12) fun x13 hx13 hx14=>?_
      obtain rfl:=os hx14
      exact gF rfl hg12<|qm rfl<|gF rfl hg12<|A0 (B9 rfl) rfl<|gF rfl hg12<|A0 (B2 rfl rfl rfl) rfl<|gF rfl hg12<|A0 (J4 (rows:=List.map cI [a2.Day]) rfl rfl (E4 (fun _=>rfl) _)) rfl<|gF rfl hg12<|B8 (rs:=[.b x13]) rfl rfl (A2 rfl (A2 rfl (A2 rfl B7))) ((F1 hx13).frz)<|A0 (C7 rfl hg12 rfl) rfl<|ge 6 rfl rfl rfl
     refine qm rfl<|es (ra5 rfl rfl rfl rfl rfl)<|wi h rfl (fun hc15 h=>?_) fun hc15 h=>?_
     ·refine s0<|qm rfl<|es (ra1 rfl)<|C5 ?_
      obtain rfl:=os h
      exact retq trivial (A6 rfl B6) (A5 rfl B5) (A3 A4 A8)
     ·refine s0<|oB h fun x19 hx19 h=>A0 (B9 rfl) rfl<|A0 (B2 rfl rfl rfl) rfl<|A0 (B9 rfl) rfl<|A0 (B2 rfl rfl rfl) rfl<|A0 (O8 (v:=(.i (A0o x7.Needs x6.Looks))) rfl rfl rfl) rfl<|A0 (J5 rfl rfl) rfl<|qm rfl<|gp 15 92 (.b x19) 77 rfl rfl (fun hg16=>?_) (fun hg16=>?_) ?_
      ·obtain rfl:=os (bt hx19 hg16)
       exact nF rfl hg16 rfl<|nF rfl hg16 rfl<|nF rfl hg16 rfl<|nF rfl hg16 rfl<|nF rfl hg16 rfl<|nF rfl hg16 rfl<|nF rfl hg16 rfl<|nF rfl hg16 rfl<|nF rfl hg16 rfl<|nF rfl hg16 rfl<|nF rfl hg16 rfl<|nF rfl hg16 rfl<|H6 (E0 rfl (by rw [hg16]; rfl)) rfl<|nF rfl hg16 rfl<|A0 (C8 rfl hg16 rfl) rfl<|ge 15 rfl rfl rfl
      ·refine oB (bf hx19 hg16) fun x17 hx17 hx19=>oB hx19 fun x18 hx18 hx19=>?_
       obtain rfl:=os hx19
       exact gF rfl hg16<|qm rfl<|gF rfl hg16<|A0 (B9 rfl) rfl<|gF rfl hg16<|A0 (B2 rfl rfl rfl) rfl<|gF rfl hg16<|A0 (L6 rfl rfl) rfl<|gF rfl hg16<|A0 (B9 rfl) rfl<|gF rfl hg16<|A0 (A9y rfl rfl (C1s hx17)) rfl<|gF rfl hg16<|A0 (B9 rfl) rfl<|gF rfl hg16<|A0 (F7 (x:=(.fn (.func (isel a2.How 92 94 96)) [] [])) rfl hb0 (D89 hx17)) rfl<|gF rfl hg16<|A0 (D2 rfl rfl rfl) rfl<|gF rfl hg16<|A0 (D2 rfl rfl rfl) rfl<|gF rfl hg16<|A0 (B9 rfl) rfl<|gF rfl hg16<|A0 (B2 rfl rfl rfl) rfl<|gF rfl hg16<|B8 (rs:=[.b x18]) rfl rfl (A2 (D0 rfl) (A2 (D0 rfl) (A2 rfl B7))) (B8g (rs:=fun (y:Bool)=>[.b y]) (fun h=>(B5q h).frz) (fun h=>(B5s h).frz) (fun h=>(A75 h).frz) hx18)<|gF rfl hg16<|A0 (Q8 rfl) rfl<|A0 (C7 rfl hg16 rfl) rfl<|ge 15 rfl rfl rfl
      refine qm rfl<|es (ra1 rfl)<|wi h rfl (fun hc20 h=>?_) fun hc20 h=>?_
      ·refine s0<|qm rfl<|es (ra1 rfl)<|C5 ?_
       obtain rfl:=os h
       exact retq trivial (A6 rfl B6) (A5 rfl B5) (A3 A4 A8)
      ·refine C3<|s0<|qm rfl<|es (ra1 rfl)<|C5 ?_
       obtain rfl:=os h
       exact retq trivial (A6 rfl B6) (A5 rfl B5) (A3 A4 A8)
def A3c (a0:PaGown) (a1:PaFigure) (a2:Int):Option Int :=
 some (w64 (a0.Fee * (w64 ((w64 (a1.Until - a1.Day)) + 1))))
theorem B0l {c:Sc} {H:A1} {a0:PaGown} {a1:PaFigure} {a2:Int} {r:Int} (h:A3c a0 a1 a2 = some r) :
  E1 tab c H (.fn (.func 55) [] []) [(.agg (C1 a0)),(.agg (B3 a1)),.i a2] [.i r]:= by
 unfold A3c at h
 refine cE rfl rfl<|sg 0 rfl<|A0 (E5 (cs:=C1 a0) rfl rfl rfl) rfl<|A0 (E5 (cs:=B3 a1) rfl rfl rfl) rfl<|qm rfl<|es (ra2 rfl rfl)<|s0<|A0 (B9 rfl) rfl<|A0 (B2 rfl rfl rfl) rfl<|A0 (B9 rfl) rfl<|A0 (B2 rfl rfl rfl) rfl<|A0 (B9 rfl) rfl<|A0 (B2 rfl rfl rfl) rfl<|A0 (T5 rfl rfl) rfl<|A0 (F2 rfl rfl) rfl<|A0 (B0b rfl rfl) rfl<|qm rfl<|es (ra1 rfl)<|C5 ?_
 obtain rfl:=os h
 exact retq trivial (A6 rfl B6) (A5 rfl B5) (A3 A4 A8)
def A7s (a0:PaFigure) (a1:Int):Option Int :=
 some 0
theorem B5p {c:Sc} {H:A1} {a0:PaFigure} {a1:Int} {r:Int} (h:A7s a0 a1 = some r) :
  E1 tab c H (.fn (.func 91) [] []) [(.agg (B3 a0)),.i a1] [.i r]:= by
 unfold A7s at h
 refine cE rfl rfl<|sg 0 rfl<|A0 (E5 (cs:=B3 a0) rfl rfl rfl) rfl<|qm rfl<|es .n<|s0<|qm rfl<|es (ra1 rfl)<|C5 ?_
 obtain rfl:=os h
 exact retq trivial (A6 rfl B6) (A5 rfl B5) (A3 A4 A8)
def A7t (a0:PaFigure) (a1:Int):Option Int :=
 some a1
theorem B5r {c:Sc} {H:A1} {a0:PaFigure} {a1:Int} {r:Int} (h:A7t a0 a1 = some r) :
  E1 tab c H (.fn (.func 93) [] []) [(.agg (B3 a0)),.i a1] [.i r]:= by
 unfold A7t at h
 refine cE rfl rfl<|sg 0 rfl<|A0 (E5 (cs:=B3 a0) rfl rfl rfl) rfl<|qm rfl<|es (ra1 rfl)<|s0<|qm rfl<|qm rfl<|es (ra1 rfl)<|C5 ?_
 obtain rfl:=os h
 exact retq trivial (A6 rfl B6) (A5 rfl B5) (A3 A4 A8)
def A7u (a0:PaFigure) (a1:Int):Option Int :=
 some a0.Day
theorem B5t {c:Sc} {H:A1} {a0:PaFigure} {a1:Int} {r:Int} (h:A7u a0 a1 = some r) :
  E1 tab c H (.fn (.func 95) [] []) [(.agg (B3 a0)),.i a1] [.i r]:= by
 unfold A7u at h
 refine cE rfl rfl<|sg 0 rfl<|A0 (E5 (cs:=B3 a0) rfl rfl rfl) rfl<|qm rfl<|es (ra1 rfl)<|s0<|A0 (B9 rfl) rfl<|A0 (B2 rfl rfl rfl) rfl<|qm rfl<|es (ra1 rfl)<|C5 ?_
 obtain rfl:=os h
 exact retq trivial (A6 rfl B6) (A5 rfl B5) (A3 A4 A8)
def B39 (a0:PaGown) (a1:PaFigure) (a2:Int):Option Int :=
 some 0
theorem C19 {c:Sc} {H:A1} {a0:PaGown} {a1:PaFigure} {a2:Int} {r:Int} (h:B39 a0 a1 a2 = some r) :
  E1 tab c H (.fn (.func 90) [] []) [(.agg (C1 a0)),(.agg (B3 a1)),.i a2] [.i r]:= by
 unfold B39 at h
 refine cE rfl rfl<|sg 0 rfl<|A0 (E5 (cs:=C1 a0) rfl rfl rfl) rfl<|A0 (E5 (cs:=B3 a1) rfl rfl rfl) rfl<|qm rfl<|es .n<|s0<|qm rfl<|es (ra1 rfl)<|C5 ?_
 obtain rfl:=os h
 exact retq trivial (A6 rfl B6) (A5 rfl B5) (A3 A4 A8)
def W9 (a0:PaGown) (a1:PaFigure) (a2:Int):Option Int :=
 some (w64 (a0.Loan + (w64 (a0.Rate * (w64 (1 + (w64 (Int.tdiv (w64 (a0.Ago + a2)) 30))))))))
theorem A76 {c:Sc} {H:A1} {a0:PaGown} {a1:PaFigure} {a2:Int} {r:Int} (h:W9 a0 a1 a2 = some r) :
  E1 tab c H (.fn (.func 52) [] []) [(.agg (C1 a0)),(.agg (B3 a1)),.i a2] [.i r]:= by
 unfold W9 at h
 refine cE rfl rfl<|sg 0 rfl<|A0 (E5 (cs:=C1 a0) rfl rfl rfl) rfl<|A0 (E5 (cs:=B3 a1) rfl rfl rfl) rfl<|qm rfl<|es (ra2 rfl rfl)<|s0<|A0 (B9 rfl) rfl<|A0 (B2 rfl rfl rfl) rfl<|A0 (B9 rfl) rfl<|A0 (B2 rfl rfl rfl) rfl<|A0 (B9 rfl) rfl<|A0 (B2 rfl rfl rfl) rfl<|qm rfl<|A0 (F2 rfl rfl) rfl<|A0 (O8 (v:=(.i (w64 (Int.tdiv (w64 (a0.Ago + a2)) 30)))) rfl rfl rfl) rfl<|A0 (F2 rfl rfl) rfl<|A0 (B0b rfl rfl) rfl<|A0 (F2 rfl rfl) rfl<|qm rfl<|es (ra1 rfl)<|C5 ?_
 obtain rfl:=os h
 exact retq trivial (A6 rfl B6) (A5 rfl B5) (A3 A4 A8)
def S8 (a0:pawn_show) (a1:Int) (a2:PaUse):Option (Int × Int) :=
 (A2a).bind fun x1 =>
 if ((a2.Gown == x1.Gown) && ((a2.How == x1.How) && ((a2.Day == x1.Day) && true))) = true then
  some (0,0)
 else
  (inR 3 a2.How).bind fun x3 =>
  (idx a0.PaShow.Gowns a2.Gown).bind fun x4 =>
  (idx a0.PaShow.Figures a1).bind fun x5 =>
  (sel3 a2.How (B39 x4 x5 a2.Day) (W9 x4 x5 a2.Day) (A3c x4 x5 a2.Day)).bind fun x6 =>
  (idx a0.PaShow.Figures a1).bind fun x7 =>
  (sel3 a2.How (A7s x7 a2.Day) (A7t x7 a2.Day) (A7u x7 a2.Day)).bind fun x8 =>
  some (x6,x8)
theorem U0 {c:Sc} {H:A1} {a0:pawn_show} {b0:Nat} (hb0:hcells H b0 = some [(.seq 8 (List.map C1 a0.PaShow.Gowns)),(.seq 4 (List.map B3 a0.PaShow.Figures)),.i a0.PaShow.Purse,(.seq 2 (List.map D1 a0.PaShow.Incomes)),(.fn (.func 90) [] []),(.fn (.func 91) [] []),(.fn (.func 92) [] []),(.fn (.func 52) [] []),(.fn (.func 93) [] []),(.fn (.func 94) [] []),(.fn (.func 55) [] []),(.fn (.func 95) [] []),(.fn (.func 96) [] []),(.seq 1 (List.map cI a0.days_))]) {a1:Int} {a2:PaUse} {r:(Int × Int)} (h:S8 a0 a1 a2 = some r) :
  E1 tab c H (.fn (.func 103) [] []) [.ptr b0 0,.i a1,(.agg (A7 a2))] [.i r.1,.i r.2]:= by
 unfold S8 at h
 refine cE rfl rfl<|sg 0 rfl<|A0 (E5 (cs:=A7 a2) rfl rfl rfl) rfl<|qm rfl<|qm rfl<|es (ra3 rfl rfl rfl)<|C2<|s0<|oB h fun x1 hx1 h=>A0 (D2 rfl rfl rfl) rfl<|U1 (rs:=[(.agg (A7 x1))]) rfl rfl A0e B7 ((A4h hx1).frz)<|A0 (C6a (a:=A7 a2) (b:=A7 x1) rfl rfl rfl rfl (V5 (V5 (V5 B1t)))) rfl<|es (ra4 rfl rfl rfl rfl)<|wi h rfl (fun hc2 h=>?_) fun hc2 h=>?_
 ·refine s0<|qm rfl<|qm rfl<|es (ra2 rfl rfl)<|C5 ?_
  obtain rfl:=os h
  exact retq trivial (A6 rfl (A6 rfl B6)) (A5 rfl (A5 rfl B5)) (A3 A4 (A3 A4 A8))
 ·refine C3<|sg 1 rfl<|oB h fun x3 hx3 h=>qm rfl<|A0 (B9 rfl) rfl<|I9 [1] (O6 [1] rfl G4 rfl rfl) (seen0 rfl) (B2 rfl rfl rfl) rfl<|A0 (L6 rfl rfl) rfl<|A0 (B9 rfl) rfl<|A0 (A9y rfl rfl (C1s hx3)) rfl<|I9 [1] (O6 [1] rfl G4 rfl rfl) (seen0 rfl) (B7j (ds:=[(.fn (.func (isel a2.How 90 52 55)) [] []),(.fn (.func (isel a2.How 91 93 95)) [] []),(.fn (.func (isel a2.How 92 94 96)) [] [])]) rfl hb0 (D9b hx3) (D9a hx3)) rfl<|A0 I3 rfl<|N9 (E8 (ds:=[(.fn (.func (isel a2.How 90 52 55)) [] []),(.fn (.func (isel a2.How 91 93 95)) [] []),(.fn (.func (isel a2.How 92 94 96)) [] [])]) rfl rfl rfl rfl (A0u (Nat.le_add_right _ _)) rfl) rfl<|es (ra4 rfl rfl rfl rfl)<|s0<|oB h fun x4 hx4 h=>oB h fun x5 hx5 h=>oB h fun x6 hx6 h=>oB h fun x7 hx7 h=>oB h fun x8 hx8 h=>A0 (B9 rfl) rfl<|A0 (B2 (x:=(.fn (.func (isel a2.How 90 52 55)) [] [])) rfl rfl rfl) rfl<|qm rfl<|A0 (L6 rfl rfl) rfl<|A0 (B9 rfl) rfl<|A0 (B9 rfl) rfl<|A0 (F7 (x:=(.seq 8 (List.map C1 a0.PaShow.Gowns))) rfl hb0 rfl) rfl<|A0 (B9 rfl) rfl<|A0 (B2 rfl rfl rfl) rfl<|A0 (E9 (f:=C1) rfl rfl hx4) rfl<|A0 (F5 rfl rfl) rfl<|qm rfl<|A0 (L6 rfl rfl) rfl<|A0 (B9 rfl) rfl<|A0 (B9 rfl) rfl<|A0 (F7 (x:=(.seq 4 (List.map B3 a0.PaShow.Figures))) rfl hb0 rfl) rfl<|qm rfl<|A0 (E9 (f:=B3) rfl rfl hx5) rfl<|A0 (F5 rfl rfl) rfl<|A0 (B9 rfl) rfl<|A0 (B2 rfl rfl rfl) rfl<|U1 (rs:=[.i x6]) rfl rfl (T0 rfl (T0 rfl (T0 rfl A0e))) (A2 (D0 rfl) (A2 (D0 rfl) (A2 rfl B7))) (B8g (rs:=fun (y:Int)=>[.i y]) (fun h=>(C19 h).frz) (fun h=>(A76 h).frz) (fun h=>(B0l h).frz) hx6)<|A0 (B9 rfl) rfl<|A0 (B2 (x:=(.fn (.func (isel a2.How 91 93 95)) [] [])) rfl rfl rfl) rfl<|qm rfl<|A0 (L6 rfl rfl) rfl<|A0 (B9 rfl) rfl<|A0 (B9 rfl) rfl<|A0 (F7 (x:=(.seq 4 (List.map B3 a0.PaShow.Figures))) rfl hb0 rfl) rfl<|qm rfl<|A0 (E9 (f:=B3) rfl rfl hx7) rfl<|A0 (F5 rfl rfl) rfl<|A0 (B9 rfl) rfl<|A0 (B2 rfl rfl rfl) rfl<|B8 (rs:=[.i x8]) rfl rfl (A2 (D0 rfl) (A2 rfl B7)) (B8g (rs:=fun (y:Int)=>[.i y]) (fun h=>(B5p h).frz) (fun h=>(B5r h).frz) (fun h=>(B5t h).frz) hx8)<|qm rfl<|qm rfl<|es (ra2 rfl rfl)<|C5 ?_
  obtain rfl:=os h
  exact retq trivial (A6 rfl (A6 rfl B6)) (A5 rfl (A5 rfl B5)) (A3 A4 (A3 A4 A8))
def Q6 (a0:pawn_show) (a2:Int) (s1:(Int × Int)):Option ((Int × Int) ⊕ Int) :=
 if (decide (s1.2 < (List.length a0.PaShow.Incomes:Int))) = true then
  (idx a0.PaShow.Incomes s1.2).bind fun x4 =>
  if (decide (x4.Day≤a2)) = true then
  some (.inl ((w64 (s1.1 + x4.Pence)),(w64 (s1.2 + 1))))
  else
  some (.inl (s1.1,(w64 (s1.2 + 1))))
 else
  some (.inr s1.1)
def Q7 (a0:pawn_show) (a1:(List PaUse)) (a2:Int) (s7:(Int × Int)):Option ((Int × Int) ⊕ Int) :=
 if (decide (s7.2 < (List.length a1:Int))) = true then
  (idx a1 s7.2).bind fun x10 =>
  (S8 a0 s7.2 x10).bind fun x11 =>
  if (decide (x11.2≤a2)) = true then
  some (.inl ((w64 (s7.1 - x11.1)),(w64 (s7.2 + 1))))
  else
  some (.inl (s7.1,(w64 (s7.2 + 1))))
 else
  some (.inr s7.1)
def P9 (a0:pawn_show) (a1:(List PaUse)) (a2:Int):Option Int :=
 (loop (Q6 a0 a2) (a0.PaShow.Purse,0)).bind fun (o6:Int) =>
 (loop (Q7 a0 a1 a2) (o6,0)).bind fun (o13:Int) =>
 some o13
theorem A5x {c:Sc} {H:A1} {a0:pawn_show} {b0:Nat} (hb0:hcells H b0 = some [(.seq 8 (List.map C1 a0.PaShow.Gowns)),(.seq 4 (List.map B3 a0.PaShow.Figures)),.i a0.PaShow.Purse,(.seq 2 (List.map D1 a0.PaShow.Incomes)),(.fn (.func 90) [] []),(.fn (.func 91) [] []),(.fn (.func 92) [] []),(.fn (.func 52) [] []),(.fn (.func 93) [] []),(.fn (.func 94) [] []),(.fn (.func 55) [] []),(.fn (.func 95) [] []),(.fn (.func 96) [] []),(.seq 1 (List.map cI a0.days_))]) {a1:(List PaUse)} {a2:Int} {r:Int} (h:P9 a0 a1 a2 = some r) :
  E1 tab c H (.fn (.func 63) [] []) [.ptr b0 0,(.seq 3 (List.map A7 a1)),.i a2] [.i r]:= by
 unfold P9 at h
 refine cE rfl rfl<|s0<|qm rfl<|es (ra3 rfl rfl rfl)<|s0<|qm rfl<|A0 (L6 rfl rfl) rfl<|A0 (B9 rfl) rfl<|A0 (B9 rfl) rfl<|A0 (F7 (x:=(.i a0.PaShow.Purse)) rfl hb0 rfl) rfl<|qm rfl<|es (ra4 rfl rfl rfl rfl)<|C2<|s0<|qm rfl<|A0 (L6 rfl rfl) rfl<|A0 (B9 rfl) rfl<|A0 (B9 rfl) rfl<|A0 (F7 (x:=(.seq 2 (List.map D1 a0.PaShow.Incomes))) rfl hb0 rfl) rfl<|A0 (F6 (f:=D1) rfl) rfl<|qm rfl<|es (ra7 rfl rfl rfl rfl rfl rfl rfl)<|C6<|oB h fun o6 ho6 h=>wl (fun s1=>[(0,.ptr b0 0),(1,(.seq 3 (List.map A7 a1))),(2,.i a2),(7,.i s1.1),(23,(.seq 2 (List.map D1 a0.PaShow.Incomes))),(24,(.i (List.length a0.PaShow.Incomes:Int))),(25,.i s1.2)]) (fun (q2:Unit) s1=>[]) 0 (fun r e s' H'=>PX 0 [(0,.ptr b0 0),(1,(.seq 3 (List.map A7 a1))),(2,.i a2),(7,.i r)] (H++[]) e s' H') () ho6 rfl rfl (fun _ _=>rfl) (fun _=>rfl) rfl (fun s1=>(bdc (A5o hb0) (bdc K0 (bdc A4 (bdc A4 (bdc K0 (bdc A4 (bdc A4 bdn)))))))) (fun q2 s1 ys1 hs1=>?_) ?_
 ·unfold Q6 at hs1
  refine s0<|A0 (I0 rfl rfl) rfl<|es (ra8 rfl rfl rfl rfl rfl rfl rfl rfl)<|C2<|wi hs1 rfl (fun hc3 hs1=>?_) fun hc3 hs1=>?_
  ·refine C3<|C2<|C6<|sg 0 rfl<|oB hs1 fun x4 hx4 hs1=>A0 (E9 (f:=D1) rfl rfl hx4) rfl<|A0 (F5 rfl rfl) rfl<|A0 I3 rfl<|N9 (E8 (ds:=(D1 x4)) rfl rfl rfl rfl (E2 rfl) rfl) rfl<|es (ra8 rfl rfl rfl rfl rfl rfl rfl rfl)<|s0<|A0 (B9 rfl) rfl<|A0 (B2 rfl rfl rfl) rfl<|qm rfl<|A0 (A4a rfl rfl) rfl<|es (ra9 rfl rfl rfl rfl rfl rfl rfl rfl rfl)<|wi hs1 rfl (fun hc5 hs1=>?_) fun hc5 hs1=>?_
   ·refine r0<|qm rfl<|A0 (B9 rfl) rfl<|A0 (B2 rfl rfl rfl) rfl<|A0 (F2 rfl rfl) rfl<|qm rfl<|en (ra7 rfl rfl rfl rfl rfl rfl rfl)<|r0<|A0 (F2 rfl rfl) rfl<|qm rfl<|en (ra7 rfl rfl rfl rfl rfl rfl rfl) ?_
    cases hs1
    exact lnT () rfl (su7 rfl rfl rfl rfl rfl rfl rfl)
   ·refine C3<|r0<|A0 (F2 rfl rfl) rfl<|qm rfl<|en (ra7 rfl rfl rfl rfl rfl rfl rfl) ?_
    cases hs1
    exact lnT () rfl (su7 rfl rfl rfl rfl rfl rfl rfl)
  ·refine G6 ?_
   obtain rfl:=os hs1
   exact lx rfl px (su4 rfl rfl rfl rfl)
 ·rintro e s' H' - ⟨rfl,rfl,rfl⟩
  refine C2<|s0<|qm rfl<|A0 (F6 (f:=A7) rfl) rfl<|qm rfl<|es (ra6 rfl rfl rfl rfl rfl rfl)<|C6<|oB h fun o13 ho13 h=>wl (fun s7=>[(0,.ptr b0 0),(2,.i a2),(7,.i s7.1),(38,(.seq 3 (List.map A7 a1))),(39,(.i (List.length a1:Int))),(40,.i s7.2)]) (fun (q8:Unit) s7=>[]) 0 (fun r e s' H'=>PX 2 [(7,.i r)] (H++[]) e s' H') () ho13 rfl rfl (fun _ _=>rfl) (fun _=>rfl) rfl (fun s7=>(bdc (A5o hb0) (bdc A4 (bdc A4 (bdc K0 (bdc A4 (bdc A4 bdn))))))) (fun q8 s7 ys7 hs7=>?_) ?_
  ·unfold Q7 at hs7
   refine s0<|A0 (I0 rfl rfl) rfl<|es (ra7 rfl rfl rfl rfl rfl rfl rfl)<|C2<|wi hs7 rfl (fun hc9 hs7=>?_) fun hc9 hs7=>?_
   ·refine C3<|C2<|C6<|sg 0 rfl<|oB hs7 fun x10 hx10 hs7=>qm rfl<|A0 (E9 (f:=A7) rfl rfl hx10) rfl<|A0 (F5 rfl rfl) rfl<|A0 I3 rfl<|qm rfl<|N9 (E8 (ds:=(A7 x10)) rfl rfl rfl rfl (E2 rfl) rfl) rfl<|es (ra8 rfl rfl rfl rfl rfl rfl rfl rfl)<|s0<|oB hs7 fun x11 hx11 hs7=>qm rfl<|qm rfl<|A0 (D2 rfl rfl rfl) rfl<|B8 (rs:=[.i x11.1,.i x11.2]) rfl rfl (A2 rfl (A2 rfl (A2 (D0 rfl) B7))) ((U0 (D6 hb0 _) hx11).frz)<|qm rfl<|A0 (A9 rfl rfl) rfl<|A0 (A9 rfl rfl) rfl<|qm rfl<|qm rfl<|es (ra8 rfl rfl rfl rfl rfl rfl rfl rfl)<|s0<|qm rfl<|qm rfl<|A0 (A4a rfl rfl) rfl<|es (ra8 rfl rfl rfl rfl rfl rfl rfl rfl)<|wi hs7 rfl (fun hc12 hs7=>?_) fun hc12 hs7=>?_
    ·refine r0<|qm rfl<|qm rfl<|A0 (T5 rfl rfl) rfl<|qm rfl<|en (ra6 rfl rfl rfl rfl rfl rfl)<|r0<|A0 (F2 rfl rfl) rfl<|qm rfl<|en (ra6 rfl rfl rfl rfl rfl rfl) ?_
     cases hs7
     exact lnT () rfl (su6 rfl rfl rfl rfl rfl rfl)
    ·refine C3<|r0<|A0 (F2 rfl rfl) rfl<|qm rfl<|en (ra6 rfl rfl rfl rfl rfl rfl) ?_
     cases hs7
     exact lnT () rfl (su6 rfl rfl rfl rfl rfl rfl)
   ·refine G6 ?_
    obtain rfl:=os hs7
    exact lx rfl px (su1 rfl)
  ·rintro e s' H' - ⟨rfl,rfl,rfl⟩
   refine s0<|qm rfl<|qm rfl<|es (ra1 rfl)<|C5 ?_
   obtain rfl:=os h
   exact retq trivial (A6 rfl B6) (A5 rfl B5) (A3 A4 A8)
def P1 (a0:pawn_show) (a1:(List PaUse)) (s1:(Int × Int × Int)):Option ((Int × Int × Int) ⊕ (Int × Int)) :=
 if (decide (s1.2.2 < (List.length a1:Int))) = true then
  (idx a1 s1.2.2).bind fun x4 =>
  (S8 a0 s1.2.2 x4).bind fun x5 =>
  (P9 a0 a1 x5.2).bind fun x6 =>
  if (decide (x6 < 0)) = true then
  some (.inl ((C1z s1.1 (w64 (0 - x6))),(A6u s1.2.1 x5.2),(w64 (s1.2.2 + 1))))
  else
  some (.inl (s1.1,s1.2.1,(w64 (s1.2.2 + 1))))
 else
  some (.inr (s1.1,s1.2.1))
def O3 (a0:pawn_show) (a1:(List PaUse)):Option (Int × Int) :=
 (loop (P1 a0 a1) (0,365,0)).bind fun (o8:(Int × Int)) =>
 some (o8.1,o8.2)
theorem B07 {c:Sc} {H:A1} {a0:pawn_show} {b0:Nat} (hb0:hcells H b0 = some [(.seq 8 (List.map C1 a0.PaShow.Gowns)),(.seq 4 (List.map B3 a0.PaShow.Figures)),.i a0.PaShow.Purse,(.seq 2 (List.map D1 a0.PaShow.Incomes)),(.fn (.func 90) [] []),(.fn (.func 91) [] []),(.fn (.func 92) [] []),(.fn (.func 52) [] []),(.fn (.func 93) [] []),(.fn (.func 94) [] []),(.fn (.func 55) [] []),(.fn (.func 95) [] []),(.fn (.func 96) [] []),(.seq 1 (List.map cI a0.days_))]) {a1:(List PaUse)} {r:(Int × Int)} (h:O3 a0 a1 = some r) :
  E1 tab c H (.fn (.func 66) [] []) [.ptr b0 0,(.seq 3 (List.map A7 a1))] [.i r.1,.i r.2]:= by
 unfold O3 at h
 refine cE rfl rfl<|s0<|qm rfl<|qm rfl<|es (ra3 rfl rfl rfl)<|s0<|qm rfl<|es (ra4 rfl rfl rfl rfl)<|C2<|s0<|qm rfl<|A0 (F6 (f:=A7) rfl) rfl<|qm rfl<|es (ra7 rfl rfl rfl rfl rfl rfl rfl)<|C6<|oB h fun o8 ho8 h=>wl (fun s1=>[(0,.ptr b0 0),(1,(.seq 3 (List.map A7 a1))),(4,.i s1.1),(5,.i s1.2.1),(11,(.seq 3 (List.map A7 a1))),(12,(.i (List.length a1:Int))),(13,.i s1.2.2)]) (fun (q2:Unit) s1=>[]) 0 (fun r e s' H'=>PX 0 [(4,.i r.1),(5,.i r.2)] (H++[]) e s' H') () ho8 rfl rfl (fun _ _=>rfl) (fun _=>rfl) rfl (fun s1=>(bdc (A5o hb0) (bdc K0 (bdc A4 (bdc A4 (bdc K0 (bdc A4 (bdc A4 bdn)))))))) (fun q2 s1 ys1 hs1=>?_) ?_
 ·unfold P1 at hs1
  refine s0<|A0 (I0 rfl rfl) rfl<|es (ra8 rfl rfl rfl rfl rfl rfl rfl rfl)<|C2<|wi hs1 rfl (fun hc3 hs1=>?_) fun hc3 hs1=>?_
  ·refine C3<|C2<|C6<|sg 0 rfl<|oB hs1 fun x4 hx4 hs1=>qm rfl<|A0 (E9 (f:=A7) rfl rfl hx4) rfl<|A0 (F5 rfl rfl) rfl<|A0 I3 rfl<|qm rfl<|N9 (E8 (ds:=(A7 x4)) rfl rfl rfl rfl (E2 rfl) rfl) rfl<|es (ra9 rfl rfl rfl rfl rfl rfl rfl rfl rfl)<|s0<|oB hs1 fun x5 hx5 hs1=>qm rfl<|qm rfl<|A0 (D2 rfl rfl rfl) rfl<|B8 (rs:=[.i x5.1,.i x5.2]) rfl rfl (A2 rfl (A2 rfl (A2 (D0 rfl) B7))) ((U0 (D6 hb0 _) hx5).frz)<|qm rfl<|A0 (A9 rfl rfl) rfl<|A0 (A9 rfl rfl) rfl<|qm rfl<|qm rfl<|es (ra8 rfl rfl rfl rfl rfl rfl rfl rfl)<|s0<|oB hs1 fun x6 hx6 hs1=>qm rfl<|qm rfl<|qm rfl<|O4 (U8 (rs:=[.i x6]) rfl rfl ((A5x (D6 hb0 _) hx6).frz)) rfl<|qm rfl<|es (ra9 rfl rfl rfl rfl rfl rfl rfl rfl rfl)<|s0<|qm rfl<|A0 (I0 rfl rfl) rfl<|es (ra10 rfl rfl rfl rfl rfl rfl rfl rfl rfl rfl)<|wi hs1 rfl (fun hc7 hs1=>?_) fun hc7 hs1=>?_
   ·refine r0<|qm rfl<|qm rfl<|A0 (C37 rfl rfl) rfl<|A0 (C9d rfl rfl) rfl<|qm rfl<|qm rfl<|A0 (C9d rfl rfl) rfl<|qm rfl<|qm rfl<|en (ra7 rfl rfl rfl rfl rfl rfl rfl)<|r0<|A0 (F2 rfl rfl) rfl<|qm rfl<|en (ra7 rfl rfl rfl rfl rfl rfl rfl) ?_
    cases hs1
    exact lnT () rfl (su7 rfl rfl rfl rfl rfl rfl rfl)
   ·refine C3<|r0<|A0 (F2 rfl rfl) rfl<|qm rfl<|en (ra7 rfl rfl rfl rfl rfl rfl rfl) ?_
    cases hs1
    exact lnT () rfl (su7 rfl rfl rfl rfl rfl rfl rfl)
  ·refine G6 ?_
   obtain rfl:=os hs1
   exact lx rfl px (su2 rfl rfl)
 ·rintro e s' H' - ⟨rfl,rfl,rfl⟩
  refine s0<|qm rfl<|qm rfl<|qm rfl<|qm rfl<|es (ra2 rfl rfl)<|C5 ?_
  obtain rfl:=os h
  exact retq trivial (A6 rfl (A6 rfl B6)) (A5 rfl (A5 rfl B5)) (A3 A4 (A3 A4 A8))
end Pw
end
section
set_option maxRecDepth 100000
namespace Pw
open Go Am Go.Proofs.YtjpjdglddmhplaaGreat.Cd
inductive SlV (H:A1):AV→List PaUse→Prop
 | seq (l:List PaUse):SlV H (.seq 3 (l.map A7)) l
 | asl (b:Nat) (p:Bool) (l:List PaUse) (h:harr H b = some (3,p,l.map A7)):SlV H (.asl b l.length) l
 | csl (b:Nat) (p:Bool) (o:Nat) (full l:List PaUse) (h:harr H b = some (3,p,full.map A7)) (hl:∀n a,l[n]? = some a→full[o + n]? = some a) (hq:o + l.length≤full.length):SlV H (.csl b o full.length l.length) l
theorem B00 {H:A1} {b:Nat} {x:Nat × Bool × List (List AV)} (h:harr H b = some x):b < H.length:= by
 unfold harr hget at h
 cases e:H[b]? with
 | none=>rw [e] at h; cases h
 | some o=>exact (List.getElem?_eq_some_iff.1 e).1
theorem Z9 {H L:A1} {b:Nat} {x:Nat × Bool × List (List AV)} (h:harr H b = some x):harr (H++L) b = some x:= by
 have:=B00 h
 unfold harr hget at h ⊢
 rw [List.getElem?_append_left this]; exact h
theorem SlV.app {H L:A1} {v:AV} {l:List PaUse} (h:SlV H v l):SlV (H++L) v l:= by
 cases h with
 | seq=>exact .seq l
 | asl b p _ h=>exact .asl b p l (Z9 h)
 | csl b p o full _ h hl hq=>exact .csl b p o full l (Z9 h) hl hq
theorem SlV.bd {H:A1} {v:AV} {l:List PaUse} {k:Nat} (h:SlV H v l):v.bd (H.length + k) = true:= by
 cases h with
 | seq=>exact K0
 | asl b p _ h=>have:=B00 h; simp only [AV.bd]; exact Nat.ble_eq_true_of_le (by omega)
 | csl b p o full _ h hl hq=>have:=B00 h; simp only [AV.bd]; exact Nat.ble_eq_true_of_le (by omega)
def elP (v:AV) (n:Nat):AV:=match v with
 | .seq _ rows=>.cptr ((rows[n]?).getD [])
 | .asl b m=>.eptr b m n 0
 | .csl b o m _=>.eptr b m (o + n) 0
 | _=>.undef
def elF (off:Nat) (v:AV):AV:=match v with
 | .eptr b m i o=>.eptr b m i (o + off)
 | .cptr cs=>.cptr (cs.drop off)
 | _=>.undef
theorem B9v {H:A1} {v:AV} {l:List PaUse} {n:Int} {a:PaUse} (hv:SlV H v l) (ha:idx l n = some a):F0 H (elP v n.toNat) = some (A7 a):= by
 obtain ⟨h1,h2⟩:=A5v ha
 cases hv with
 | seq=>simp only [elP,F0,List.getElem?_map,h2,Option.map_some,Option.getD_some]
 | asl b p _ h=>simp only [elP,F0,h,List.length_map,Nat.beq_refl,if_true,List.getElem?_map,h2,Option.map_some,List.drop_zero]
 | csl b p o full _ h hl hq=>simp only [elP,F0,h,List.length_map,Nat.beq_refl,if_true,List.getElem?_map,hl _ _ h2,Option.map_some,List.drop_zero]
section
variable {T:Tab} {s:B4} {H0:A1} {l:List AO} {c:Sc} {n0:Nat} {v:AV} {e:List PaUse}
theorem B3w {x:Opd} (hv:SlV H0 v e) (h:ev s x = some v):One T c n0 s (H0++l) (.lenL x) (.lit (.int .i64 e.length)) (H0++l):=⟨0,by
 cases hv with
 | seq=>simp [core,prim,h]
 | asl b p _ hb=>simp [core,prim,h,Z9 hb]
 | csl b p o full _ hb hl hq=>simp [core,prim,h]⟩
theorem B3v {x i:Opd} {kk:IntKind} {n:Int} {a:PaUse} (hv:SlV H0 v e) (ha:idx e n = some a) (h:ev s x = some v) (hi:ev s i = some (.lit (.int kk n))):One T c n0 s (H0++l) (.idxS 3 x i) (elP v n.toNat) (H0++l):=⟨0,by
 obtain ⟨h1,h2⟩:=A5v ha
 have hlt:n < (e.length:Int):= by have:=(List.getElem?_eq_some_iff.1 h2).1; omega
 cases hv with
 | seq=>simp [core,prim,h,hi,h1,h2,elP]
 | asl b p _ hb=>simp [core,prim,h,hi,h1,hlt,Z9 hb,elP]
 | csl b p o full _ hb hl hq=>simp [core,prim,h,hi,h1,hlt,Z9 hb,elP]⟩
theorem B59 {x:Opd} {n:Int} {a:PaUse} (hv:SlV H0 v e) (ha:idx e n = some a) (h:ev s x = some (elP v n.toNat)):One T c n0 s (H0++l) (.load (some 3) x) (.agg (A7 a)) (H0++l):=⟨0,by
 have:=B9v (hv.app (L:=l)) ha
 simp [core,prim,h,this,A7,Nat.ble]⟩
theorem D5h {x:Opd} {off:Nat} {n:Int} {a:PaUse} (hv:SlV H0 v e) (ha:idx e n = some a) (h:ev s x = some (elP v n.toNat)):One T c n0 s (H0++l) (.fieldAddr off x) (elF off (elP v n.toNat)) (H0++l):=⟨0,by
 cases hv <;> simp [core,prim,h,elP,elF]⟩
theorem C33 {x:Opd} {off:Nat} {n:Int} {a:PaUse} {y:AV} (hv:SlV H0 v e) (ha:idx e n = some a) (h:ev s x = some (elF off (elP v n.toNat))) (hy:((A7 a).drop off).head? = some y):One T c n0 s (H0++l) (.load none x) y (H0++l):=⟨0,by
 have h1:=B9v (hv.app (L:=l)) ha
 have h2:F0 (H0++l) (elF off (elP v n.toNat)) = some ((A7 a).drop off):= by
  cases hv with
  | seq =>
   simp only [elP,F0,Option.some.injEq] at h1
   simp only [elP,elF,F0,h1]
  | asl b p _ hb =>
   simp only [elP,F0,Z9 hb,List.length_map,Nat.beq_refl,if_true] at h1
   simp only [elP,elF,F0,Z9 hb,List.length_map,Nat.beq_refl,if_true]
   split at h1
   ·next r hr=>simp only [List.drop_zero,Option.some.injEq] at h1; simp only [h1,Nat.zero_add]
   ·cases h1
  | csl b p o full _ hb hl hq =>
   simp only [elP,F0,Z9 hb,List.length_map,Nat.beq_refl,if_true] at h1
   simp only [elP,elF,F0,Z9 hb,List.length_map,Nat.beq_refl,if_true]
   split at h1
   ·next r hr=>simp only [List.drop_zero,Option.some.injEq] at h1; simp only [h1,Nat.zero_add]
   ·cases h1
 simp only [core,prim,h,h2]
 cases hd:(A7 a).drop off with
 | nil=>rw [hd] at hy; cases hy
 | cons u t=>rw [hd] at hy; simp only [List.head?_cons,Option.some.injEq] at hy; subst hy; rfl⟩
def D40 (v:AV) (i:Nat) (m:List PaUse):AV:=match v with
 | .asl b n=>if i = 0 then .seq 3 [] else .csl b 0 n i
 | _=>.seq 3 (m.map A7)
theorem D41 {i:Int} {m:List PaUse} (hv:SlV H0 v e) (hne:∀b o a q,v ≠ .csl b o a q) (hm:slc e 0 i = some m):SlV H0 (D40 v i.toNat m) m:= by
 obtain ⟨h3,rfl⟩:=A3q hm
 simp only [Int.toNat_zero,List.drop_zero]
 cases hv with
 | seq=>exact .seq _
 | asl b p _ hb =>
  have hl:(e.take i.toNat).length = i.toNat:= by simp; omega
  unfold D40
  simp only
  split
  ·next hz=>rw [hz]; exact .seq []
  ·next hz =>
   have:=SlV.csl (H:=H0) b p 0 e (e.take i.toNat) hb (fun n a hn=>by
    rw [Nat.zero_add]
    have:=(List.getElem?_eq_some_iff.1 hn).1
    rw [List.getElem?_take_of_lt (by omega)] at hn; exact hn) (by omega)
   rwa [hl] at this
 | csl b p o full _ hb hl hq=>exact absurd rfl (hne _ _ _ _)
theorem D6h {x hi:Opd} {i:Int} {m:List PaUse} (hv:SlV H0 v e) (hne:∀b o a q,v ≠ .csl b o a q) (hm:slc e 0 i = some m) (h:ev s x = some v) (hi':ev s hi = some (.lit (.int .i64 i))):One T c n0 s (H0++l) (.sub 3 x none (some hi)) (D40 v i.toNat m) (H0++l):= by
 have hm0:=hm
 obtain ⟨h3,rfl⟩:=A3q hm
 simp only [Int.toNat_zero,List.drop_zero]
 cases hv with
 | seq=>exact D8w (f:=A7) (a:=0) (b:=i) h rfl (by simp [bnd,A8f,hi']) (by simpa using hm0)
 | asl b p _ hb =>
  refine ⟨0,?_⟩
  have hq:(0 = i)↔(i.toNat = 0):= by omega
  simp [core,prim,h,Z9 hb,bnd,A8f,hi',h3.2.1,h3.2.2,D40,hq]
 | csl b p o full _ hb hl hq=>exact absurd rfl (hne _ _ _ _)
end
end Pw
namespace Am
open Go
def B0a {α β:Type} (T:Tab) (H:A1) (i:Nat) (ff fc:List AV) (g:α→Option β) (ea:α→List AV) (er:β→List AV):Prop :=
 (bdL H.length ff = true∧bdL H.length fc = true)∧∀ (L:A1) c x r,g x = some r→W0 T c (H++L) (.fn (.func i) ff fc) (ea x) (er r)
theorem B0a.app {α β:Type} {T:Tab} {H:A1} {i:Nat} {ff fc:List AV} {g:α→Option β} {ea:α→List AV} {er:β→List AV} (h:B0a T H i ff fc g ea er) (l:List AO):B0a T (H++l) i ff fc g ea er :=
 ⟨⟨bdL_more (by simp) h.1.1,bdL_more (by simp) h.1.2⟩,fun L c x r e=>by rw [List.append_assoc]; exact h.2 (l++L) c x r e⟩
theorem B0a.call {α β:Type} {T:Tab} {c:Sc} {H:A1} {i:Nat} {ff fc:List AV} {g:α→Option β} {ea:α→List AV} {er:β→List AV} (h:B0a T H i ff fc g ea er) {x:α} {r:β} (e:g x = some r) (l:List AO):W0 T c (H++l) (.fn (.func i) ff fc) (ea x) (er r):=h.2 l c x r e
end Am
end
section
set_option maxRecDepth 100000
set_option maxHeartbeats 0
namespace Pw
open Go Am Go.Proofs.YtjpjdglddmhplaaGreat.Cd
def I5 (a0:(List PaUse)) (g1:(PaUse→Option Bool)) (s1:Int):Option (Int ⊕ (Int ⊕ Unit)) :=
 if (decide (s1 < (List.length a0:Int))) = true then
  (idx a0 s1).bind fun x4 =>
  (g1 x4).bind fun x5 =>
  if x5 = true then
  some (.inr (.inl s1))
  else
  some (.inl (w64 (s1 + 1)))
 else
  some (.inr (.inr ()))
def H8 (a0:(List PaUse)) (g1:(PaUse→Option Bool)):Option Int :=
 (loop (I5 a0 g1) 0).bind fun (o7:(Int ⊕ Unit)) =>
 match o7 with
 | (.inl vo7_0) =>
  some vo7_0
 | (.inr vo7_1) =>
  some (-1)
theorem Z5 {c:Sc} {H:A1} {a0:(List PaUse)} {g1:PaUse→Option Bool} {g1_i:Nat} {g1_f g1_c:List AV} (g1_h:Impl tab H g1_i g1_f g1_c g1 (fun y=>[(.agg (A7 y))]) (fun y=>[.b y])) {r:Int} (h:H8 a0 g1 = some r) :
  E1 tab c H (.fn (.func 117) [] []) [(.seq 3 (List.map A7 a0)),.fn (.func g1_i) g1_f g1_c] [.i r]:= by
 unfold H8 at h
 refine cE rfl rfl<|s0<|qm rfl<|es (ra2 rfl rfl)<|C2<|s0<|qm rfl<|A0 (F6 (f:=A7) rfl) rfl<|qm rfl<|es (ra4 rfl rfl rfl rfl)<|C6<|oB h fun o7 ho7 h=>wl (fun s1=>[(0,(.seq 3 (List.map A7 a0))),(1,(.fn (.func g1_i) g1_f g1_c)),(7,(.i (List.length a0:Int))),(8,.i s1)]) (fun (q2:Unit) s1=>[]) 0 (fun r e s' H'=>(match r with | (.inl v)=>e = .ret∧RetQ H [.tmp 4] [.i v] e s' H' | (.inr v)=>PX 0 [] (H++[]) e s' H':Prop)) () ho7 rfl rfl (fun _ _=>rfl) (fun _=>rfl) rfl (fun s1=>(bdc K0 (bdc (C21 g1_h.1) (bdc A4 (bdc A4 bdn))))) (fun q2 s1 ys1 hs1=>?_) ?_
 ·unfold I5 at hs1
  refine s0<|A0 (I0 rfl rfl) rfl<|es (ra5 rfl rfl rfl rfl rfl)<|C2<|wi hs1 rfl (fun hc3 hs1=>?_) fun hc3 hs1=>?_
  ·refine C3<|C2<|C6<|s0<|qm rfl<|qm rfl<|es (ra5 rfl rfl rfl rfl rfl)<|s0<|oB hs1 fun x4 hx4 hs1=>oB hs1 fun x5 hx5 hs1=>qm rfl<|qm rfl<|qm rfl<|A0 (E9 (f:=A7) rfl rfl hx4) rfl<|A0 (F5 rfl rfl) rfl<|B8 (rs:=[.b x5]) rfl rfl (A2 (D0 rfl) B7) (Impl.call g1_h hx5 _)<|es (ra6 rfl rfl rfl rfl rfl rfl)<|wi hs1 rfl (fun hc6 hs1=>?_) fun hc6 hs1=>?_
   ·refine s0<|qm rfl<|qm rfl<|es (ra1 rfl)<|C5 ?_
    obtain rfl:=os hs1
    exact lx rfl (And.intro rfl (retq trivial (A6 rfl B6) (A5 rfl B5) (A3 A4 A8))) (Sub.refl _)
   ·refine C3<|r0<|A0 (F2 rfl rfl) rfl<|qm rfl<|en (ra4 rfl rfl rfl rfl) ?_
    cases hs1
    exact lnT () rfl (su4 rfl rfl rfl rfl)
  ·refine G6 ?_
   obtain rfl:=os hs1
   exact lx rfl px (.nil _)
 ·rcases o7 with vo7_0 | vo7_1
  ·rintro e s' H' - ⟨rfl,hret⟩
   cases h
   exact hret
  ·rintro e s' H' - ⟨rfl,rfl,rfl⟩
   refine s0<|qm rfl<|es (ra1 rfl)<|C5 ?_
   obtain rfl:=os h
   exact retq trivial (A6 rfl B6) (A5 rfl B5) (A3 A4 A8)
def E7 (a0:(List PaUse)) (g1:(PaUse→Option Bool)):Option Bool :=
 (H8 a0 g1).bind fun x1 =>
 some (decide (x1 ≥ 0))
theorem W6 {c:Sc} {H:A1} {a0:(List PaUse)} {g1:PaUse→Option Bool} {g1_i:Nat} {g1_f g1_c:List AV} (g1_h:Impl tab H g1_i g1_f g1_c g1 (fun y=>[(.agg (A7 y))]) (fun y=>[.b y])) {r:Bool} (h:E7 a0 g1 = some r) :
  E1 tab c H (.fn (.func 104) [] []) [(.seq 3 (List.map A7 a0)),.fn (.func g1_i) g1_f g1_c] [.b r]:= by
 unfold E7 at h
 refine cE rfl rfl<|s0<|qm rfl<|es (ra2 rfl rfl)<|s0<|oB h fun x1 hx1 h=>qm rfl<|qm rfl<|O4 (U8 (rs:=[.i x1]) rfl rfl ((Z5 (Impl.app g1_h _) hx1).frz)) rfl<|A0 (A71 rfl rfl) rfl<|qm rfl<|es (ra1 rfl)<|C5 ?_
 obtain rfl:=os h
 exact retq trivial (A6 rfl B6) (A5 rfl B5) (A3 A4 A8)
theorem Y7 {c:Sc} {H:A1} {a0:(List PaUse)} {v:AV} (hv:SlV H v a0) {g1:PaUse→Option Bool} {g1_i:Nat} {g1_f g1_c:List AV} (g1_h:B0a tab H g1_i g1_f g1_c g1 (fun y=>[(.agg (A7 y))]) (fun y=>[.b y])) {r:Int} (h:H8 a0 g1 = some r) :
  E1 tab c H (.fn (.func 117) [] []) [v,.fn (.func g1_i) g1_f g1_c] [.i r]:= by
 unfold H8 at h
 refine cE rfl rfl<|s0<|qm rfl<|es (ra2 rfl rfl)<|C2<|s0<|qm rfl<|A0 (B3w hv rfl) rfl<|qm rfl<|es (ra4 rfl rfl rfl rfl)<|C6<|oB h fun o7 ho7 h=>wl (fun s1=>[(0,v),(1,(.fn (.func g1_i) g1_f g1_c)),(7,(.i (List.length a0:Int))),(8,.i s1)]) (fun (q2:Unit) s1=>[]) 0 (fun r e s' H'=>(match r with | (.inl v)=>e = .ret∧RetQ H [.tmp 4] [.i v] e s' H' | (.inr v)=>PX 0 [] (H++[]) e s' H':Prop)) () ho7 rfl rfl (fun _ _=>rfl) (fun _=>rfl) rfl (fun s1=>(bdc hv.bd (bdc (C21 g1_h.1) (bdc A4 (bdc A4 bdn))))) (fun q2 s1 ys1 hs1=>?_) ?_
 ·unfold I5 at hs1
  refine s0<|A0 (I0 rfl rfl) rfl<|es (ra5 rfl rfl rfl rfl rfl)<|C2<|wi hs1 rfl (fun hc3 hs1=>?_) fun hc3 hs1=>?_
  ·refine C3<|C2<|C6<|s0<|qm rfl<|qm rfl<|es (ra5 rfl rfl rfl rfl rfl)<|s0<|oB hs1 fun x4 hx4 hs1=>oB hs1 fun x5 hx5 hs1=>qm rfl<|qm rfl<|qm rfl<|A0 (B3v hv hx4 rfl rfl) rfl<|A0 (B59 hv hx4 rfl) rfl<|B8 (rs:=[.b x5]) rfl rfl (A2 (D0 rfl) B7) (B0a.call g1_h hx5 _)<|es (ra6 rfl rfl rfl rfl rfl rfl)<|wi hs1 rfl (fun hc6 hs1=>?_) fun hc6 hs1=>?_
   ·refine s0<|qm rfl<|qm rfl<|es (ra1 rfl)<|C5 ?_
    obtain rfl:=os hs1
    exact lx rfl (And.intro rfl (retq trivial (A6 rfl B6) (A5 rfl B5) (A3 A4 A8))) (Sub.refl _)
   ·refine C3<|r0<|A0 (F2 rfl rfl) rfl<|qm rfl<|en (ra4 rfl rfl rfl rfl) ?_
    cases hs1
    exact lnT () rfl (su4 rfl rfl rfl rfl)
  ·refine G6 ?_
   obtain rfl:=os hs1
   exact lx rfl px (.nil _)
 ·rcases o7 with vo7_0 | vo7_1
  ·rintro e s' H' - ⟨rfl,hret⟩
   cases h
   exact hret
  ·rintro e s' H' - ⟨rfl,rfl,rfl⟩
   refine s0<|qm rfl<|es (ra1 rfl)<|C5 ?_
   obtain rfl:=os h
   exact retq trivial (A6 rfl B6) (A5 rfl B5) (A3 A4 A8)
theorem V9 {c:Sc} {H:A1} {a0:(List PaUse)} {v:AV} (hv:SlV H v a0) {g1:PaUse→Option Bool} {g1_i:Nat} {g1_f g1_c:List AV} (g1_h:B0a tab H g1_i g1_f g1_c g1 (fun y=>[(.agg (A7 y))]) (fun y=>[.b y])) {r:Bool} (h:E7 a0 g1 = some r) :
  E1 tab c H (.fn (.func 104) [] []) [v,.fn (.func g1_i) g1_f g1_c] [.b r]:= by
 unfold E7 at h
 refine cE rfl rfl<|s0<|qm rfl<|es (ra2 rfl rfl)<|s0<|oB h fun x1 hx1 h=>qm rfl<|qm rfl<|O4 (U8 (rs:=[.i x1]) rfl rfl ((Y7 hv.app (B0a.app g1_h _) hx1).frz)) rfl<|A0 (A71 rfl rfl) rfl<|qm rfl<|es (ra1 rfl)<|C5 ?_
 obtain rfl:=os h
 exact retq trivial (A6 rfl B6) (A5 rfl B5) (A3 A4 A8)
def X0 (a0:PaUse) (a1:(List PaUse)) (a2:Int):Option Bool :=
 (idx a1 a2).bind fun x1 =>
 some (a0.Gown == x1.Gown)
theorem B3y {c:Sc} {H:A1} {a0:PaUse} {a1:List PaUse} {v:AV} (hv:SlV H v a1) {b1:Nat} (hb1:hcells H b1 = some [v]) {a2:Int} {b2:Nat} (hb2:hcells H b2 = some (cI a2)) {r:Bool} (h:X0 a0 a1 a2 = some r) :
  E1 tab c H (.fn (.func 116) [] []) [(.agg (A7 a0)),.ptr b1 0,.ptr b2 0] [.b r]:= by
 unfold X0 at h
 refine cE rfl rfl<|sg 0 rfl<|A0 (E5 (cs:=A7 a0) rfl rfl rfl) rfl<|qm rfl<|es (ra3 rfl rfl rfl)<|s0<|oB h fun x1 hx1 h=>A0 (B9 rfl) rfl<|A0 (B2 rfl rfl rfl) rfl<|A0 (F7 rfl hb1 rfl) rfl<|A0 (F7 rfl hb2 rfl) rfl<|A0 (B3v hv hx1 rfl rfl) rfl<|A0 (D5h hv hx1 rfl) rfl<|A0 (C33 (y:=.i x1.Gown) hv hx1 rfl rfl) rfl<|A0 (G0 rfl rfl) rfl<|qm rfl<|es (ra1 rfl)<|C5 ?_
 obtain rfl:=os h
 exact retq trivial (A6 rfl B6) (A5 rfl B5) (A3 A4 A8)
def A3d (a0:List PaUse) (a1:Int):Option Bool :=
 (idx a0 a1).bind fun x =>
 (if (x.Gown != (-1)) = true then (slc a0 0 a1).bind fun m=>(E7 m (fun y=>X0 y a0 a1)).bind fun z=>some z else some false).bind fun g=>some g
theorem A8y {c:Sc} {H:A1} {a0:List PaUse} {v:AV} (hv:SlV H v a0) (hne:∀b o a q,v ≠ .csl b o a q) (hc:v.cellsOf = [v]) {a1:Int} {r:Bool} (h:A3d a0 a1 = some r) :
  E1 tab c H (.fn (.func 102) [] []) [v,.i a1] [.b r]:= by
 unfold A3d at h
 refine oB h fun x hx h=>oB h fun g hg h=>?_
 have hbd:v.bd (H.length + 2) = true:=hv.bd
 refine cE rfl rfl<|sg 0 rfl<|A0 (E5 (cs:=[v]) rfl hc rfl) rfl<|A0 (E5 (cs:=cI a1) rfl rfl rfl) rfl<|qm rfl<|es (ra2 rfl rfl)<|s0<|A0 (B2 (x:=v) rfl rfl rfl) rfl<|A0 (B2 (x:=.i a1) rfl rfl rfl) rfl<|A0 (B3v hv hx rfl rfl) rfl<|A0 (D5h hv hx rfl) rfl<|A0 (C33 (y:=.i x.Gown) hv hx rfl rfl) rfl<|A0 (J5 rfl rfl) rfl<|qm rfl ?_
 refine gp 6 17 (.b g) 11 rfl rfl (fun hb=>?_) (fun hb=>?_) ?_
 ·refine oB (bt hg hb) fun m hm hg=>oB hg fun z hz hg=>?_
  obtain rfl:=os hg
  refine gT rfl hb<|A0 (B2 (x:=v) rfl rfl rfl) rfl<|gT rfl hb<|A0 (B2 (x:=.i a1) rfl rfl rfl) rfl<|gT rfl hb<|A0 (D6h hv hne hm rfl rfl) rfl<|gT rfl hb<|A0 (A28 rfl rfl) rfl<|gT rfl hb<|O4 (U8 (rs:=[.b z]) rfl rfl ((V9 (D41 hv hne hm).app (show B0a tab _ 116 [] [.ptr (H.length + 0) 0,.ptr (H.length + 1) 0] (fun y=>X0 y a0 a1) (fun y=>[.agg (A7 y)]) (fun y=>[.b y]) from ⟨⟨A8,by rw [List.length_append]; exact A3 (K8 rfl) (A3 (K8 rfl) A8)⟩,fun L c y r hr=>(A2z (B3y hv.app.app (D6 (D8 rfl) _) (D6 (D8 rfl) _) hr)).frz⟩) hz).frz)) rfl<|A0 (C8 rfl hb rfl) rfl<|ge 6 rfl rfl rfl
 ·obtain rfl:=os (bf hg hb)
  exact nT rfl hb rfl<|nT rfl hb rfl<|nT rfl hb rfl<|nT rfl hb rfl<|H6 (E0 rfl (by rw [hb]; rfl)) rfl<|A0 (C7 rfl hb rfl) rfl<|ge 6 rfl rfl rfl
 ·refine qm rfl<|es (ra1 rfl)<|C5 ?_
  obtain rfl:=os h
  exact retq trivial (A6 rfl B6) (A5 rfl B5) (A3 A4 A8)
end Pw
end
section
namespace Pw
open Go Am
def A73 (g:PaGown) (x:PaUse):Bool:=if g.Pawn then (x.How == 2 && x.Day == 0) || (x.How == 1 && !out 0 364 x.Day) else x.How == 0 && x.Day == 0
def B4w (g:PaGown) (y:PaFigure) (x:PaUse):Bool:=(x.How == 1 && (decide (x.Day > g.Last) || decide (x.Day > y.Day))) || (x.How == 2 && decide (y.Until > g.Last))
def B19 (g:PaGown) (y:PaFigure):Bool:=A0o y.Needs g.Looks == 0
def D64 (s:PaShow) (f:Int) (x:PaUse):Int :=
 if x.Gown = -1 then (if x.How = 0∧x.Day = 0 then 0 else 2) else
 if out 0 ((s.Gowns.length:Int) - 1) x.Gown then 4 else
 if A73 s.Gowns[x.Gown.toNat]! x = false then 2 else
 if B4w s.Gowns[x.Gown.toNat]! s.Figures[f.toNat]! x || !B19 s.Gowns[x.Gown.toNat]! s.Figures[f.toNat]! then 9 else 0
theorem D24 {s:PaShow} (hs:ShOk s) (days:List Int) {f:Int} (hf:0≤f∧f < s.Figures.length) (x:PaUse):U9 (shw s days) f x = some (D64 s f x):= by
 have hG:=hs.gowns
 unfold U9 A2a D64
 simp only [Option.bind_some]
 by_cases hx:x.Gown = -1
 ·rw [if_pos hx]
  by_cases hb:x.How = 0∧x.Day = 0
  ·rw [if_pos hb,if_pos (by simp [hx,hb.1,hb.2])]
  ·rw [if_neg hb,if_neg (by simp [hx]; omega),if_pos (by simp [hx])]
 ·rw [if_neg hx,if_neg (by simp [hx]),if_neg (by simp [hx])]
  rw [show (shw s days).PaShow = s from rfl,G1 (by omega),out1]
  simp only [Option.bind_some]
  cases ho:out 0 ((s.Gowns.length:Int) - 1) x.Gown with
  | true=>rfl
  | false =>
   have hg:=N7.mp ho
   simp only [Bool.false_eq_true,if_false]
   rw [W3 (l:=s.Gowns) hg.1 (by omega),W3 (l:=s.Figures) hf.1 hf.2]
   simp only [Option.bind_some]
   generalize s.Gowns[x.Gown.toNat]! = g
   generalize s.Figures[f.toNat]! = y
   obtain ⟨gn,how,day⟩:=x
   simp only at hx hg ⊢
   by_cases h0:how = 0
   ·subst h0
    have e1:E3 0 2 [0] = some false:= by rw [out1]; rfl
    have e2:∀z,out 0 0 z = !(z == 0):=out00
    rw [e1]
    simp only [Option.bind_some]
    unfold A73 B4w B19
    cases hp:g.Pawn
    ·simp only [out1,e2,Option.bind_some]
     by_cases hd:day = 0
     ·subst hd
      cases hk:A0o y.Needs g.Looks == 0
      ·have:(A0o y.Needs g.Looks != 0) = true:= by simpa [bne] using hk
       simp [this,e2]
      ·have:(A0o y.Needs g.Looks != 0) = false:= by simpa [bne] using hk
       simp [this,inR,sel3,A4k,e2]
     ·simp [hd,e2]
    ·simp
   ·by_cases h1:how = 1
    ·subst h1
     have e1:E3 0 2 [1] = some false:= by rw [out1]; rfl
     rw [e1]
     simp only [Option.bind_some]
     unfold A73 B4w B19
     cases hp:g.Pawn
     ·simp
     ·simp only [out1,Option.bind_some]
      cases hd:out 0 364 day
      ·have hmin:(decide (day≤A6u g.Last y.Day)) = !(decide (day > g.Last) || decide (day > y.Day)):= by
        unfold A6u
        rw [Bool.eq_iff_iff]
        split <;> simp <;> omega
       cases hk:A0o y.Needs g.Looks == 0
       ·have:(A0o y.Needs g.Looks != 0) = true:= by simpa [bne] using hk
        simp [hd,this]
       ·have:(A0o y.Needs g.Looks != 0) = false:= by simpa [bne] using hk
        simp [hd,this,inR,sel3,A4l,hmin]
        split <;> rfl
      ·simp [hd]
    ·by_cases h2:how = 2
     ·subst h2
      have e1:E3 0 2 [2] = some false:= by rw [out1]; rfl
      have e2:∀z,out 0 0 z = !(z == 0):=out00
      rw [e1]
      simp only [Option.bind_some]
      unfold A73 B4w B19
      cases hp:g.Pawn
      ·simp
      ·simp only [out1,e2,Option.bind_some]
       by_cases hd:day = 0
       ·subst hd
        have hle:(decide (y.Until≤g.Last)) = !(decide (y.Until > g.Last)):= by
         rw [Bool.eq_iff_iff]; simp
        cases hk:A0o y.Needs g.Looks == 0
        ·have:(A0o y.Needs g.Looks != 0) = true:= by simpa [bne] using hk
         simp [this,e2]
        ·have:(A0o y.Needs g.Looks != 0) = false:= by simpa [bne] using hk
         simp [this,inR,sel3,A0x,hle,e2]
         split <;> rfl
       ·simp [hd,e2]
     ·have e1:E3 0 2 [how] = some true:= by
       rw [out1]; unfold out
       rw [Option.some_inj,Bool.eq_iff_iff]; simp; omega
      rw [e1]
      simp only [Option.bind_some]
      unfold A73
      cases hp:g.Pawn <;> simp [h0,h1,h2]
end Pw
end
section
set_option maxRecDepth 100000
set_option maxHeartbeats 0
namespace Pw
open Go Am Go.Proofs.YtjpjdglddmhplaaGreat.Cd
def A19 (a0:PaShow) (a1:Int) (a2:Int):Option (Int × Int) :=
 (A1u a0).bind fun x1 =>
 if (x1.1 == 0) = true then
  (E3 0 (w64 ((List.length a0.Gowns:Int) - 1)) [a1]).bind fun x4 =>
  if x4 = true then
  some (0,4)
  else
  (idx a0.Gowns a1).bind fun x6 =>
  if (!x6.Pawn) = true then
   some (0,2)
  else
   (E3 0 364 [a2]).bind fun x8 =>
   if x8 = true then
   some (0,7)
   else
   (idx a0.Gowns a1).bind fun x10 =>
   if (decide (a2 > x10.Last)) = true then
    some (0,9)
   else
    (idx a0.Gowns a1).bind fun x12 =>
    (W9 x12 (PaFigure.mk (ByteArray.mk #[]) 0 0 0) a2).bind fun x13 =>
    some (x13,0)
 else
  some (0,x1.1)
theorem A8v {c:Sc} {H:A1} {a0:PaShow} {a1:Int} {a2:Int} {r:(Int × Int)} (h:A19 a0 a1 a2 = some r) :
  E1 tab c H (.fn (.func 12) [] []) [(.agg (B1 a0)),.i a1,.i a2] [.i r.1,.i r.2]:= by
 unfold A19 at h
 refine cE rfl rfl<|sg 0 rfl<|A0 (E5 (cs:=B1 a0) rfl rfl rfl) rfl<|qm rfl<|qm rfl<|es (ra3 rfl rfl rfl)<|s0<|oB h fun x1 hx1 h=>A0 (D2 rfl rfl rfl) rfl ?_
 by_cases hc2:(x1.1 == 0) = true
 ·rw [if_pos hc2] at h
  obtain ⟨X3,hX3⟩:=A15 hx1 hc2
  refine O4 (A3o hX3 rfl rfl (A2 (D0 rfl) B7) rfl) rfl<|qm rfl<|A0 (A9 rfl rfl) rfl<|A0 (A9 rfl rfl) rfl<|qm rfl<|qm rfl<|es (ra4 rfl rfl rfl rfl)<|C2<|C6<|s0<|qm rfl<|A0 (O8 (v:=(.b false)) rfl rfl rfl) rfl<|qm rfl<|es (ra5 rfl rfl rfl rfl rfl)<|P7 rfl rfl<|s0<|oB h fun x4 hx4 h=>A0 (B9 rfl) rfl<|A0 (B2 rfl rfl rfl) rfl<|A0 (F6 (f:=C1) rfl) rfl<|A0 (T5 rfl rfl) rfl<|qm rfl<|A0 (J4 (rows:=List.map cI [a1]) rfl rfl (E4 (fun _=>rfl) _)) rfl<|B8 (rs:=[.b x4]) rfl rfl (A2 rfl (A2 rfl (A2 rfl B7))) ((F1 hx4).frz)<|qm rfl<|es (ra4 rfl rfl rfl rfl)<|wi h rfl (fun hc5 h=>?_) fun hc5 h=>?_
  ·refine s0<|qm rfl<|qm rfl<|es (ra2 rfl rfl)<|C5 ?_
   obtain rfl:=os h
   exact retq trivial (A6 rfl (A6 rfl B6)) (A5 rfl (A5 rfl B5)) (A3 A4 (A3 A4 A8))
  ·refine s0<|oB h fun x6 hx6 h=>A0 (B9 rfl) rfl<|A0 (B2 rfl rfl rfl) rfl<|qm rfl<|A0 (E9 (f:=C1) rfl rfl hx6) rfl<|A0 (A04 (ds:=(List.drop 2 (C1 x6))) rfl rfl) rfl<|A0 (L2 rfl rfl) rfl<|A0 (Q8 rfl) rfl<|qm rfl<|es (ra4 rfl rfl rfl rfl)<|wi h rfl (fun hc7 h=>?_) fun hc7 h=>?_
   ·refine s0<|qm rfl<|qm rfl<|es (ra2 rfl rfl)<|C5 ?_
    obtain rfl:=os h
    exact retq trivial (A6 rfl (A6 rfl B6)) (A5 rfl (A5 rfl B5)) (A3 A4 (A3 A4 A8))
   ·refine s0<|oB h fun x8 hx8 h=>qm rfl<|A0 (J4 (rows:=List.map cI [a2]) rfl rfl (E4 (fun _=>rfl) _)) rfl<|B8 (rs:=[.b x8]) rfl rfl (A2 rfl (A2 rfl (A2 rfl B7))) ((F1 hx8).frz)<|qm rfl<|es (ra4 rfl rfl rfl rfl)<|wi h rfl (fun hc9 h=>?_) fun hc9 h=>?_
    ·refine s0<|qm rfl<|qm rfl<|es (ra2 rfl rfl)<|C5 ?_
     obtain rfl:=os h
     exact retq trivial (A6 rfl (A6 rfl B6)) (A5 rfl (A5 rfl B5)) (A3 A4 (A3 A4 A8))
    ·refine s0<|oB h fun x10 hx10 h=>qm rfl<|A0 (B9 rfl) rfl<|A0 (B2 rfl rfl rfl) rfl<|qm rfl<|A0 (E9 (f:=C1) rfl rfl hx10) rfl<|A0 (A04 (ds:=(List.drop 7 (C1 x10))) rfl rfl) rfl<|A0 (L2 rfl rfl) rfl<|A0 (Y8 rfl rfl) rfl<|qm rfl<|es (ra4 rfl rfl rfl rfl)<|wi h rfl (fun hc11 h=>?_) fun hc11 h=>?_
     ·refine s0<|qm rfl<|qm rfl<|es (ra2 rfl rfl)<|C5 ?_
      obtain rfl:=os h
      exact retq trivial (A6 rfl (A6 rfl B6)) (A5 rfl (A5 rfl B5)) (A3 A4 (A3 A4 A8))
     ·refine C3<|s0<|oB h fun x12 hx12 h=>oB h fun x13 hx13 h=>A0 (B9 rfl) rfl<|A0 (B2 rfl rfl rfl) rfl<|qm rfl<|A0 (E9 (f:=C1) rfl rfl hx12) rfl<|A0 (F5 rfl rfl) rfl<|A0 (Q4 (cs:=B3 (PaFigure.mk (ByteArray.mk #[]) 0 0 0)) rfl rfl) rfl<|qm rfl<|B8 (rs:=[.i x13]) rfl rfl (A2 (D0 rfl) (A2 (D0 rfl) (A2 rfl B7))) ((A76 hx13).frz)<|qm rfl<|qm rfl<|es (ra2 rfl rfl)<|C5 ?_
      obtain rfl:=os h
      exact retq trivial (A6 rfl (A6 rfl B6)) (A5 rfl (A5 rfl B5)) (A3 A4 (A3 A4 A8))
 ·rw [if_neg hc2] at h
  refine O4 (Q5 (rs:=[.lit (.pointer none),.i x1.1]) rfl rfl (A2 (D0 rfl) B7) (A20 hx1 (by simpa using hc2)) rfl) rfl<|qm rfl<|A0 (A9 rfl rfl) rfl<|A0 (A9 rfl rfl) rfl<|qm rfl<|qm rfl<|es (ra4 rfl rfl rfl rfl)<|C2<|C6<|s0<|qm rfl<|A0 (J5 rfl rfl) rfl<|qm rfl<|es (ra5 rfl rfl rfl rfl rfl)<|N6 rfl (nef hc2)<|s0<|qm rfl<|qm rfl<|qm rfl<|es (ra2 rfl rfl)<|C5 ?_
  obtain rfl:=os h
  exact retq trivial (A6 rfl (A6 rfl B6)) (A5 rfl (A5 rfl B5)) (A3 A4 (A3 A4 A8))
def A0f (a0:PaShow) (a1:Int) (a2:Int):Option (Int × Int) :=
 (A1u a0).bind fun x1 =>
 if (x1.1 == 0) = true then
  (E3 0 (w64 ((List.length a0.Gowns:Int) - 1)) [a1]).bind fun x4 =>
  (if x4 = true then
  some true
  else
  (E3 0 (w64 ((List.length a0.Figures:Int) - 1)) [a2]).bind fun x6 =>
  some x6).bind fun x7 =>
  if x7 = true then
  some (0,4)
  else
  (idx a0.Gowns a1).bind fun x9 =>
  if (!x9.Pawn) = true then
   some (0,2)
  else
   (idx a0.Gowns a1).bind fun x11 =>
   (idx a0.Figures a2).bind fun x12 =>
   (A0x x11 x12 0).bind fun x13 =>
   if (!x13) = true then
   some (0,9)
   else
   (idx a0.Gowns a1).bind fun x15 =>
   (idx a0.Figures a2).bind fun x16 =>
   (A3c x15 x16 0).bind fun x17 =>
   some (x17,0)
 else
  some (0,x1.1)
theorem A46 {c:Sc} {H:A1} {a0:PaShow} {a1:Int} {a2:Int} {r:(Int × Int)} (h:A0f a0 a1 a2 = some r) :
  E1 tab c H (.fn (.func 14) [] []) [(.agg (B1 a0)),.i a1,.i a2] [.i r.1,.i r.2]:= by
 unfold A0f at h
 refine cE rfl rfl<|sg 0 rfl<|A0 (E5 (cs:=B1 a0) rfl rfl rfl) rfl<|qm rfl<|qm rfl<|es (ra3 rfl rfl rfl)<|s0<|oB h fun x1 hx1 h=>A0 (D2 rfl rfl rfl) rfl ?_
 by_cases hc2:(x1.1 == 0) = true
 ·rw [if_pos hc2] at h
  obtain ⟨X3,hX3⟩:=A15 hx1 hc2
  refine O4 (A3o hX3 rfl rfl (A2 (D0 rfl) B7) rfl) rfl<|qm rfl<|A0 (A9 rfl rfl) rfl<|A0 (A9 rfl rfl) rfl<|qm rfl<|qm rfl<|es (ra5 rfl rfl rfl rfl rfl)<|C2<|C6<|s0<|qm rfl<|A0 (O8 (v:=(.b false)) rfl rfl rfl) rfl<|qm rfl<|es (ra6 rfl rfl rfl rfl rfl rfl)<|P7 rfl rfl<|s0<|oB h fun x4 hx4 h=>oB h fun x7 hx7 h=>A0 (B9 rfl) rfl<|A0 (B2 rfl rfl rfl) rfl<|A0 (F6 (f:=C1) rfl) rfl<|A0 (T5 rfl rfl) rfl<|qm rfl<|A0 (J4 (rows:=List.map cI [a1]) rfl rfl (E4 (fun _=>rfl) _)) rfl<|B8 (rs:=[.b x4]) rfl rfl (A2 rfl (A2 rfl (A2 rfl B7))) ((F1 hx4).frz)<|qm rfl<|gp 8 35 (.b x7) 27 rfl rfl (fun hg5=>?_) (fun hg5=>?_) ?_
  ·obtain rfl:=os (bt hx7 hg5)
   exact nF rfl hg5 rfl<|nF rfl hg5 rfl<|nF rfl hg5 rfl<|nF rfl hg5 rfl<|nF rfl hg5 rfl<|nF rfl hg5 rfl<|H6 (E0 rfl (by rw [hg5]; rfl)) rfl<|A0 (C8 rfl hg5 rfl) rfl<|ge 8 rfl rfl rfl
  ·refine oB (bf hx7 hg5) fun x6 hx6 hx7=>?_
   obtain rfl:=os hx7
   exact gF rfl hg5<|A0 (B9 rfl) rfl<|gF rfl hg5<|A0 (B2 rfl rfl rfl) rfl<|gF rfl hg5<|A0 (F6 (f:=B3) rfl) rfl<|gF rfl hg5<|A0 (T5 rfl rfl) rfl<|gF rfl hg5<|qm rfl<|gF rfl hg5<|A0 (J4 (rows:=List.map cI [a2]) rfl rfl (E4 (fun _=>rfl) _)) rfl<|gF rfl hg5<|B8 (rs:=[.b x6]) rfl rfl (A2 rfl (A2 rfl (A2 rfl B7))) ((F1 hx6).frz)<|A0 (C7 rfl hg5 rfl) rfl<|ge 8 rfl rfl rfl
  refine qm rfl<|es (ra5 rfl rfl rfl rfl rfl)<|wi h rfl (fun hc8 h=>?_) fun hc8 h=>?_
  ·refine s0<|qm rfl<|qm rfl<|es (ra2 rfl rfl)<|C5 ?_
   obtain rfl:=os h
   exact retq trivial (A6 rfl (A6 rfl B6)) (A5 rfl (A5 rfl B5)) (A3 A4 (A3 A4 A8))
  ·refine s0<|oB h fun x9 hx9 h=>A0 (B9 rfl) rfl<|A0 (B2 rfl rfl rfl) rfl<|qm rfl<|A0 (E9 (f:=C1) rfl rfl hx9) rfl<|A0 (A04 (ds:=(List.drop 2 (C1 x9))) rfl rfl) rfl<|A0 (L2 rfl rfl) rfl<|A0 (Q8 rfl) rfl<|qm rfl<|es (ra5 rfl rfl rfl rfl rfl)<|wi h rfl (fun hc10 h=>?_) fun hc10 h=>?_
   ·refine s0<|qm rfl<|qm rfl<|es (ra2 rfl rfl)<|C5 ?_
    obtain rfl:=os h
    exact retq trivial (A6 rfl (A6 rfl B6)) (A5 rfl (A5 rfl B5)) (A3 A4 (A3 A4 A8))
   ·refine s0<|oB h fun x11 hx11 h=>oB h fun x12 hx12 h=>oB h fun x13 hx13 h=>qm rfl<|A0 (L6 rfl rfl) rfl<|A0 (B9 rfl) rfl<|A0 (A9y rfl rfl (by decide)) rfl<|A0 (B9 rfl) rfl<|A0 (B2 (x:=(.fn (.func 96) [] [])) rfl rfl rfl) rfl<|A0 (B9 rfl) rfl<|A0 (B2 rfl rfl rfl) rfl<|qm rfl<|A0 (E9 (f:=C1) rfl rfl hx11) rfl<|A0 (F5 rfl rfl) rfl<|A0 (B9 rfl) rfl<|A0 (B2 rfl rfl rfl) rfl<|qm rfl<|A0 (E9 (f:=B3) rfl rfl hx12) rfl<|A0 (F5 rfl rfl) rfl<|B8 (rs:=[.b x13]) rfl rfl (A2 (D0 rfl) (A2 (D0 rfl) (A2 rfl B7))) ((A75 hx13).frz)<|A0 (Q8 rfl) rfl<|qm rfl<|es (ra4 rfl rfl rfl rfl)<|wi h rfl (fun hc14 h=>?_) fun hc14 h=>?_
    ·refine s0<|qm rfl<|qm rfl<|es (ra2 rfl rfl)<|C5 ?_
     obtain rfl:=os h
     exact retq trivial (A6 rfl (A6 rfl B6)) (A5 rfl (A5 rfl B5)) (A3 A4 (A3 A4 A8))
    ·refine C3<|s0<|oB h fun x15 hx15 h=>oB h fun x16 hx16 h=>oB h fun x17 hx17 h=>A0 (B9 rfl) rfl<|A0 (B2 rfl rfl rfl) rfl<|qm rfl<|A0 (E9 (f:=C1) rfl rfl hx15) rfl<|A0 (F5 rfl rfl) rfl<|A0 (B9 rfl) rfl<|A0 (B2 rfl rfl rfl) rfl<|qm rfl<|A0 (E9 (f:=B3) rfl rfl hx16) rfl<|A0 (F5 rfl rfl) rfl<|B8 (rs:=[.i x17]) rfl rfl (A2 (D0 rfl) (A2 (D0 rfl) (A2 rfl B7))) ((B0l hx17).frz)<|qm rfl<|qm rfl<|es (ra2 rfl rfl)<|C5 ?_
     obtain rfl:=os h
     exact retq trivial (A6 rfl (A6 rfl B6)) (A5 rfl (A5 rfl B5)) (A3 A4 (A3 A4 A8))
 ·rw [if_neg hc2] at h
  refine O4 (Q5 (rs:=[.lit (.pointer none),.i x1.1]) rfl rfl (A2 (D0 rfl) B7) (A20 hx1 (by simpa using hc2)) rfl) rfl<|qm rfl<|A0 (A9 rfl rfl) rfl<|A0 (A9 rfl rfl) rfl<|qm rfl<|qm rfl<|es (ra5 rfl rfl rfl rfl rfl)<|C2<|C6<|s0<|qm rfl<|A0 (J5 rfl rfl) rfl<|qm rfl<|es (ra6 rfl rfl rfl rfl rfl rfl)<|N6 rfl (nef hc2)<|s0<|qm rfl<|qm rfl<|qm rfl<|es (ra2 rfl rfl)<|C5 ?_
  obtain rfl:=os h
  exact retq trivial (A6 rfl (A6 rfl B6)) (A5 rfl (A5 rfl B5)) (A3 A4 (A3 A4 A8))
end Pw
end
section
namespace Pw
open Go Am
theorem A0t {α σ τ ρ:Type} [Inhabited α] {b:σ→Option (σ ⊕ ρ)} (l:List α) (f:τ→α→τ) (t0:τ) (mk:Nat→τ→σ) {r:ρ} (hn:l.length < 9223372036854775808)
  (hs:∀i,i < l.length→b (mk i ((l.take i).foldl f t0)) = some (.inl (mk (i + 1) (f ((l.take i).foldl f t0) l[i]!)))) (he:b (mk l.length (l.foldl f t0)) = some (.inr r)):loop b (mk 0 t0) = some r:= by
 have:=A41 (b:=b) (fun i=>mk i ((l.take i).foldl f t0)) l.length (r:=r) hn (fun i hi=>by
  rw [hs i hi,List.take_succ_eq_append_getElem hi,List.foldl_append,getElem!_pos l i hi]; rfl) (by
  rw [List.take_length]; exact he)
 exact this
def sm:List Int→Int
 | []=>0
 | x :: l=>x + sm l
theorem C8d {a b:Int}:∀{l:List Int},(∀ x ∈ l,a≤x∧x≤b)→a * l.length≤sm l∧sm l≤b * l.length
 | [],_=>by simp [sm]
 | x :: l,h=>by
  have h1:=h x (List.mem_cons_self ..)
  have ih:=C8d (l:=l) fun y hy=>h y (List.mem_cons_of_mem _ hy)
  simp only [sm,List.length_cons,Int.natCast_add,Int.mul_add]
  omega
theorem D2w {α:Type} {f g:α→Int}:∀{l:List α},(∀ x ∈ l,f x≤g x)→sm (l.map f)≤sm (l.map g)
 | [],_=>Int.le_refl _
 | x :: l,h=>by
  have h1:=h x (List.mem_cons_self ..)
  have ih:=D2w (l:=l) fun y hy=>h y (List.mem_cons_of_mem _ hy)
  simp only [List.map_cons,sm]; omega
theorem C8e {α:Type} {f:α→Int} {l:List α} (h:∀x ∈ l,f x = 0):sm (l.map f) = 0:= by
 induction l with
 | nil=>rfl
 | cons x l ih =>
  simp only [List.map_cons,sm,h x (List.mem_cons_self ..),ih fun y hy=>h y (List.mem_cons_of_mem _ hy)]; rfl
theorem A3s {α:Type} (f:α→Int):∀(l:List α) (t:Int),l.foldl (fun a x=>a + f x) t = t + sm (l.map f)
 | [],t=>by simp [sm]
 | x :: l,t=>by simp only [List.foldl_cons,List.map_cons,sm,A3s f l]; omega
def price (g:PaGown) (day:Int):Int:=g.Loan + g.Rate * (1 + (g.Ago + day) / 30)
theorem C4i {g:PaGown} (h:GwOk g) {day:Int} (hd:0≤day∧day≤364):0≤price g day∧price g day≤20000∧0≤g.Rate * (1 + (g.Ago + day) / 30)∧g.Rate * (1 + (g.Ago + day) / 30)≤500 * 26:= by
 have h1:=h.loan
 have h2:=h.rate
 have h3:=h.ago
 have h4:0≤(g.Ago + day) / 30∧(g.Ago + day) / 30≤24:= by omega
 have h5:0≤g.Rate * (1 + (g.Ago + day) / 30):=Int.mul_nonneg h2.1 (by omega)
 have h6:g.Rate * (1 + (g.Ago + day) / 30)≤500 * 26:=Int.mul_le_mul h2.2 (by omega) (by omega) (by omega)
 unfold price
 omega
theorem B03 {g:PaGown} (h:GwOk g) (f:PaFigure) {day:Int} (hd:0≤day∧day≤364):W9 g f day = some (price g day):= by
 have h1:=h.loan
 have h3:=h.ago
 have h7:=C4i h hd
 have hq:Int.tdiv (g.Ago + day) 30 = (g.Ago + day) / 30:=Int.tdiv_eq_ediv_of_nonneg (by omega)
 unfold W9
 unfold price at h7 ⊢
 rw [G1 (n:=g.Ago + day) (by omega),hq,G1 (n:=(g.Ago + day) / 30) (by omega),G1 (n:=1 + (g.Ago + day) / 30) (by omega),G1 (n:=g.Rate * (1 + (g.Ago + day) / 30)) (by omega),G1 (by omega)]
def B6u (g:PaGown) (f:PaFigure):Int:=g.Fee * (f.Until - f.Day + 1)
theorem D0x {g:PaGown} (h:GwOk g) {f:PaFigure} (hf:FgOk f):0≤B6u g f∧B6u g f≤40000:= by
 have h1:=h.fee
 have h2:=hf.day
 have h3:=hf.til
 have h5:0≤g.Fee * (f.Until - f.Day + 1):=Int.mul_nonneg h1.1 (by omega)
 have h6:g.Fee * (f.Until - f.Day + 1)≤100 * 365:=Int.mul_le_mul h1.2 (by omega) (by omega) (by omega)
 unfold B6u
 omega
theorem B6n {g:PaGown} (h:GwOk g) {f:PaFigure} (hf:FgOk f) (d:Int):A3c g f d = some (B6u g f):= by
 have h2:=hf.day
 have h3:=hf.til
 have h4:=D0x h hf
 unfold A3c B6u
 unfold B6u at h4
 rw [G1 (n:=f.Until - f.Day) (by omega),G1 (n:=f.Until - f.Day + 1) (by omega),G1 (by omega)]
end Pw
end
section
set_option maxRecDepth 100000
set_option maxHeartbeats 0
namespace Am
open Go
theorem B55 {N:Nat} {L M:A1} (h:grL N L = true) (k:grL N M = true):grL N (L++M) = true:= by
 unfold grL at h k ⊢
 rw [List.all_append,h,k]; rfl
theorem s0' {T:Tab} {s:B4} {H:A1} {c:Sc} {d:Bool} {live:List Nat} {ops:List AOper} {b:ACode} {Q:Ex→B4→A1→Prop} (h:L5 T c (H.length + 0) ops s (H++[]) [] (RG live (C5g T b c Q))):WP T (.seq (.region d 0 [] ops live) b) s H c Q:=U5 (s0 h)
theorem B5j {T:Tab} {ac:ACode} {s:B4} {H H':A1} {c:Sc} {Q:Ex→B4→A1→Prop} (e:H = H') (h:WP T ac s H' c Q):WP T ac s H c Q:=e ▸ h
def B6f {α:Type} (T:Tab) (i:Nat) (fc:List AV) (sh:Nat→A1→α→AV→Prop) (pre:A1→Prop) (it:∀(σ ρ:Type),(α→σ→Option (σ ⊕ ρ))→σ→Option (σ ⊕ ρ)):Prop :=
 ∀ {σ ρ:Type} (Hm:σ ⊕ ρ→A1) (N:Nat),(∀ x,(Hm x).length = N)→(∀ x,pre (Hm x))→∀ (y:AV),y.bd N = true→y.cellsOf = [y]→∀ (body:α→σ→Option (σ ⊕ ρ)),
  (∀ {L:A1} {c:Sc} {x:α} {s:σ} {o:σ ⊕ ρ} {v:AV},R4 c (Hm (.inl s)++L) = true→grL N L = true→sh N L x v→body x s = some o→J1 T c (Hm (.inl s)++L) y [v] [.b o.isLeft] (Hm o++L)) →
  ∀ {s0:σ} {o:σ ⊕ ρ},it σ ρ body s0 = some o→∀ {c:Sc},R4 c (Hm (.inl s0)) = true→J1 T c (Hm (.inl s0)) (.fn (.func i) [] fc) [y] [] (Hm o)
section
variable {T:Tab} {s:B4} {H0:A1} {l:List AO} {c:Sc} {n0 N:Nat}
theorem A4g {H:A1} {a:Opd} {b o:Nat} {cs:List AV} {x:AV} (h:ev s a = some (.ptr b o)) (hl:hcells H b = some cs) (hd:(cs.drop o).head? = some x):One T c n0 s H (.load none a) x H :=
 ⟨0,by
  simp only [core,prim,h,F0,hl]
  cases hc:cs.drop o with
  | nil=>simp [hc] at hd
  | cons y t=>simp only [hc,List.head?_cons,Option.some.injEq] at hd; subst hd; rfl⟩
theorem A6v {H:A1} {a:Opd} {b o k:Nat} {cs ds:List AV} (h:ev s a = some (.ptr b o)) (hl:hcells H b = some cs) (hk:Nat.ble k (cs.drop o).length = true) (hd:(cs.drop o).take k = ds):One T c n0 s H (.load (some k) a) (.agg ds) H :=
 ⟨0,by simp only [core,prim,h,F0,hl,hk,if_true,hd]⟩
theorem C72 {α:Type} {f:α→List AV} {k j m:Nat} {p:Bool} {kk:IntKind} {x i:Opd} {e:List α} {n:Int} {a:α} (hN:H0.length = N) (h:ev s x = some (.asl (N + j) m)) (hi:ev s i = some (.lit (.int kk n))) (hl:l[j]? = some (.arr k p (e.map f))) (hm:e.length = m) (ha:idx e n = some a) :
  One T c n0 s (H0++l) (.idxS k x i) (.eptr (N + j) m n.toNat 0) (H0++l):= by subst hN; exact A45 h hi hl hm ha
theorem C0n {a x:Opd} {j n i o k kk:Nat} {rows:List (List AV)} {r ds:List AV} {v:AV} (hN:H0.length = N) (h:ev s a = some (.eptr (N + j) n i o)) (hv:ev s x = some v) (hp:v.cellsOf.all AV.plain = true) (hz:v.cellsOf.all AV.frz = true) (hl:l[j]? = some (.arr kk false rows)) (hn:rows.length = n) (hr:rows[i]? = some r)
  (hk:(Nat.beq v.cellsOf.length k && Nat.ble (o + k) r.length) = true) (hd:splice r o v.cellsOf = ds) :
  One T c n0 s (H0++l) (.store k a x) (.tup []) (H0++l.set j (.arr kk false (rows.set i ds))):= by subst hN; exact B2e h hv hp hz hl hn hr hk hd
end
end Am
namespace Pw
open Go Am Go.Proofs.YtjpjdglddmhplaaGreat.Cd
def plx (t:PaShow) (days:List Int) (n:Int):Option PaUse :=
 (C9o n (List.length days:Int)).bind fun q=>(C9o q 3).bind fun g=>(B79 q 3).bind fun h=>(B79 n (List.length days:Int)).bind fun r=>(idx days r).bind fun d=>some ⟨g,h,d⟩
def bare0:PaUse:=⟨-1,0,0⟩
section
variable {σ ρ:Type}
def C6u (t:PaShow) (days:List Int) (figure:Int) (rec:Int→List PaUse→σ→Option (List PaUse × (σ ⊕ ρ))) (x:Int × List PaUse × σ):Option ((Int × List PaUse × σ) ⊕ ((List PaUse × ρ) ⊕ (List PaUse × σ))) :=
 if (decide (x.1 < w64 (w64 ((List.length t.Gowns:Int) * 3) * (List.length days:Int)))) = true then
  (plx t days x.1).bind fun u =>
  (idx x.2.1 figure).bind fun _ =>
  (U9 (shw t days) figure u).bind fun e =>
  (if (e != 0) = true then some true else (A3d (Y3 x.2.1 figure u) figure).bind fun z=>some z).bind fun g =>
  if g = true then some (.inl (w64 (x.1 + 1),Y3 x.2.1 figure u,x.2.2))
  else (rec (w64 (figure + 1)) (Y3 x.2.1 figure u) x.2.2).bind fun y =>
   match y with
   | (p,.inl s')=>some (.inl (w64 (x.1 + 1),p,s'))
   | (p,.inr r)=>some (.inr (.inl (p,r)))
 else some (.inr (.inr (x.2.1,x.2.2)))
def C0l (t:PaShow) (days:List Int) (body:List PaUse→σ→Option (σ ⊕ ρ)):Nat→Int→List PaUse→σ→Option (List PaUse × (σ ⊕ ρ))
 | 0,_,_,_=>none
 | k + 1,figure,p,s =>
  if (figure == (List.length p:Int)) = true then (body p s).bind fun o=>some (p,o)
  else (loop (C6u t days figure (C0l t days body k)) (0,p,s)).bind fun o =>
   match o with
   | .inl (p,r)=>some (p,.inr r)
   | .inr (p,s)=>(A2a).bind fun b=>(idx p figure).bind fun _=>C0l t days body k (w64 (figure + 1)) (Y3 p figure b) s
end
def B6c (t:PaShow) (days:List Int) (σ ρ:Type) (body:List PaUse→σ→Option (σ ⊕ ρ)) (s:σ):Option (σ ⊕ ρ) :=
 (C30 24 (List.length t.Figures:Int) (PaUse.mk 0 0 0)).bind fun p=>(C0l t days body 64 0 p s).bind fun y=>some y.2
def caps (N bS:Nat):List AV:=[.ptr (N + 3) 0,.ptr (N + 0) 0,.ptr bS 0,.ptr (N + 4) 0]
def L0 (N bS:Nat) (y:AV) (p:List PaUse):List AO:=[.cells [y],.arr 3 false (p.map A7),.arr 3 false [],.cells [.asl (N + 1) p.length],.cells [.fn (.func 120) [] (caps N bS)]]
def shP (N:Nat) (L:A1) (x:List PaUse) (v:AV):Prop:=∃ j,v = .asl (N + j) x.length∧L[j]? = some (.arr 3 false (x.map A7))
theorem C8a {l:List PaUse} {i:Int} {u:PaUse}:(l.map A7).set i.toNat (A7 u) = (Y3 l i u).map A7:=B2c l i u
section
variable {σ ρ:Type} {t:PaShow} {days:List Int} {Hm:σ ⊕ ρ→A1} {N bS b:Nat} {y:AV} {body:List PaUse→σ→Option (σ ⊕ ρ)}
theorem C71 (hN:∀x,(Hm x).length = N) (h1:∀x,hcells (Hm x) bS = some [.ptr b 0]) (ht:∀x,hcells (Hm x) b = some (A2y t days))
  (hy:∀{L:A1} {c:Sc} {p:List PaUse} {s:σ} {o:σ ⊕ ρ} {v:AV},R4 c (Hm (.inl s)++L) = true→grL N L = true→shP N L p v→body p s = some o→J1 tab c (Hm (.inl s)++L) y [v] [.b o.isLeft] (Hm o++L)) :
  ∀ (k:Nat) (figure:Int) (p:List PaUse) (s:σ) (x:List PaUse × (σ ⊕ ρ)),C0l t days body k figure p s = some x→∀ (M:A1) (c:Sc),grL N M = true→R4 c (Hm (.inl s)++(L0 N bS y p++M)) = true →
   J1 tab c (Hm (.inl s)++(L0 N bS y p++M)) (.fn (.func 120) [] (caps N bS)) [.i figure] [.b x.2.isLeft] (Hm x.2++(L0 N bS y x.1++M))
 | 0,_,_,_,_,h,_,_,_,_=>by cases h
 | k + 1,figure,p,s,x,h,M,c,hgr,hsc=>by
  have ih:=C71 hN h1 ht hy k
  unfold C0l at h
  have hl5:∀z p,(Hm z++(L0 N bS y p++M)).length = N + (M.length + 5):=fun z p=>by rw [List.length_append,hN,List.length_append]; simp only [L0,List.length_cons,List.length_nil]; omega
  have hb1:∀z p,hcells (Hm z++(L0 N bS y p++M)) bS = some [.ptr b 0]:=fun z p=>D6 (h1 z) _
  have hbt:∀z p,hcells (Hm z++(L0 N bS y p++M)) b = some (A2y t days):=fun z p=>D6 (ht z) _
  have q0:∀z p,hcells (Hm z++(L0 N bS y p++M)) (N + 0) = some [y]:=fun z p=>by rw [← hN z]; exact D8 rfl
  have q3:∀z p,hcells (Hm z++(L0 N bS y p++M)) (N + 3) = some [.asl (N + 1) p.length]:=fun z p=>by rw [← hN z]; exact D8 rfl
  have q4:∀z p,hcells (Hm z++(L0 N bS y p++M)) (N + 4) = some [.fn (.func 120) [] (caps N bS)]:=fun z p=>by rw [← hN z]; exact D8 rfl
  have qa:∀z p,harr (Hm z++(L0 N bS y p++M)) (N + 1) = some (3,false,p.map A7):=fun z p=>by rw [← hN z]; exact N2 rfl
  have hbdS:bS < N:= by have:=A4f (h1 (.inl s)); rwa [hN] at this
  have htk:∀z p' Y,(Hm z++(L0 N bS y p'++M)++Y).take (Hm (.inl s)++(L0 N bS y p++M)).length = Hm z++(L0 N bS y p'++M):=fun z p' Y=>by rw [hl5,← hl5 z p']; exact List.take_left
  have hK:∀z p',(Hm z++(L0 N bS y p'++M)).length = (Hm (.inl s)++(L0 N bS y p++M)).length:=fun z p'=>by rw [hl5,hl5]
  refine Z7 (aq:=[.i figure,.ptr (N + 3) 0,.ptr (N + 0) 0,.ptr bS 0,.ptr (N + 4) 0]) rfl rfl rfl (U5 ?_)
  refine s0<|qm rfl<|es (ra5 rfl rfl rfl rfl rfl)<|C2<|s0<|qm rfl<|A0 (F7 rfl (q3 _ _) rfl) rfl<|A0 (B3w (SlV.asl _ _ _ (qa (.inl s) p)) rfl) rfl<|A0 (G0 rfl rfl) rfl<|es (ra6 rfl rfl rfl rfl rfl rfl)<|wi h rfl (fun hc h=>?_) fun hc h=>?_
  ·refine oB h fun o ho h=>?_
   cases h
   have hcall:J1 tab ⟨(Hm (.inl s)++(L0 N bS y p++M)).length,c.cur :: c.outer⟩ (Hm (.inl s)++(L0 N bS y p++M)++[]) y [.asl (N + 1) p.length] [.b o.isLeft] (Hm o++(L0 N bS y p++M)++[]):= by
    rw [List.append_nil,List.append_nil]
    exact hy (A9c hsc (Nat.le_refl _) (Nat.le_refl _)) (B55 rfl hgr) ⟨1,rfl,rfl⟩ ho
   refine s0<|A0 (F7 rfl (q0 _ _) rfl) rfl<|A0 (F7 rfl (q3 _ _) rfl) rfl<|O4 (A18 rfl rfl hcall rfl) rfl<|qm rfl<|es (ra1 rfl)<|C5 ?_
   show A79 _ _ _ _ .ret _ _
   exact B8d trivial (A6 rfl B6) (A5 (v:=.lit (.bool o.isLeft)) rfl B5) (A3 A4 A8) (htk _ _ _)
  ·refine oB h fun o ho h=>?_
   have hKN:∀z p',(Hm z++(L0 N bS y p'++M)).length = N + (M.length + 5):=hl5
   refine C3<|C2<|s0<|A0 (F7 rfl (hb1 _ _) rfl) rfl<|A0 (L6 rfl rfl) rfl<|A0 (B9 rfl) rfl<|A0 (B9 rfl) rfl<|A0 (F7 (x:=.seq 8 (List.map C1 t.Gowns)) rfl (hbt _ _) rfl) rfl<|A0 (F6 (f:=C1) rfl) rfl<|A0 (B0b rfl rfl) rfl<|A0 (F7 rfl (hb1 _ _) rfl) rfl<|A0 (L6 rfl rfl) rfl<|A0 (B9 rfl) rfl<|A0 (F7 (x:=.seq 1 (List.map cI days)) rfl (hbt _ _) rfl) rfl<|A0 (F6 (f:=cI) rfl) rfl<|A0 (B0b rfl rfl) rfl<|qm rfl<|es (ra6 rfl rfl rfl rfl rfl rfl)<|C6 ?_
   refine A03 (B5j (List.append_nil _) (B8u (γ:=Unit) (live:=[0,1,3,4,28,29]) (body:=C6u t days figure (C0l t days body k)) (fun x=>[(0,.i figure),(1,.ptr (N + 3) 0),(3,.ptr bS 0),(4,.ptr (N + 4) 0),(28,.i (w64 (w64 ((List.length t.Gowns:Int) * 3) * (List.length days:Int)))),(29,.i x.1)]) (fun _ x=>Hm (.inl x.2.2)++(L0 N bS y x.2.1++M)) (N + (M.length + 5))
    (fun r e s' H'=>match r with
     | .inl r=>e = .ret∧s' = [(6,.b false)]∧H'.take (N + (M.length + 5)) = Hm (.inr r.2)++(L0 N bS y r.1++M)
     | .inr r=>e = .exit 0∧s' = [(0,.i figure),(1,.ptr (N + 3) 0),(4,.ptr (N + 4) 0)]∧H' = Hm (.inl r.2)++(L0 N bS y r.1++M)) (fun _ x=>hl5 _ _) (fun _=>rfl) (by decide) (fun x _=>?_) ?_ ho ())) ?_
   ·refine bdc A4 (bdc ?_ (bdc ?_ (bdc ?_ (bdc A4 (bdc A4 bdn)))))
    all_goals (simp only [AV.bd]; exact Nat.ble_eq_true_of_le (by omega))
   ·intro _ x o' hb
    obtain ⟨n,p1,s1⟩:=x
    unfold C6u at hb
    simp only at hb
    refine s0'<|A0 (I0 rfl rfl) rfl<|es (ra7 rfl rfl rfl rfl rfl rfl rfl)<|C2<|wi hb rfl (fun hc hb=>?_) fun hc hb=>?_
    ·refine oB hb fun u hu hb=>oB hb fun w hw hb=>oB hb fun e he hb=>oB hb fun g hg hb=>?_
     refine oB hu fun q hq hu=>oB hu fun ug hug hu=>oB hu fun uh huh hu=>oB hu fun ur hur hu=>oB hu fun ud hud hu=>?_
     obtain rfl:=os hu
     have hKe:=hl5 (.inl s1) p1
     have hu8:∀z p',hcells (Hm z++(L0 N bS y p'++(M++[AO.cells (A7 ⟨ug,uh,ud⟩)]))) ((Hm (.inl s1)++(L0 N bS y p1++M)).length + (0 + 0)) = some (A7 ⟨ug,uh,ud⟩):=fun z p'=>by
      rw [show Hm z++(L0 N bS y p'++(M++[AO.cells (A7 ⟨ug,uh,ud⟩)])) = (Hm z++(L0 N bS y p'++M))++[AO.cells (A7 ⟨ug,uh,ud⟩)] by simp only [List.append_assoc],hKe,← hl5 z p']
      exact D8 rfl
     have hset1:∀z Y,Hm z++(L0 N bS y p1++Y).set 1 (.arr 3 false ((p1.map A7).set figure.toNat (A7 ⟨ug,uh,ud⟩))) = Hm z++(L0 N bS y (Y3 p1 figure ⟨ug,uh,ud⟩)++Y):=fun z Y=>by
      rw [C8a]
      have:(Y3 p1 figure (⟨ug,uh,ud⟩:PaUse)).length = p1.length:=W1 _ _ _
      simp only [L0,this]; rfl
     have hb1':∀z p' Y,hcells (Hm z++(L0 N bS y p'++Y)) bS = some [.ptr b 0]:=fun z p' Y=>D6 (h1 z) _
     have hbt':∀z p' Y,hcells (Hm z++(L0 N bS y p'++Y)) b = some (A2y t days):=fun z p' Y=>D6 (ht z) _
     have q3':∀z p' Y,hcells (Hm z++(L0 N bS y p'++Y)) (N + 3) = some [.asl (N + 1) p'.length]:=fun z p' Y=>by rw [← hN z]; exact D8 rfl
     have q4':∀z p' Y,hcells (Hm z++(L0 N bS y p'++Y)) (N + 4) = some [.fn (.func 120) [] (caps N bS)]:=fun z p' Y=>by rw [← hN z]; exact D8 rfl
     have qa':∀z p' Y,harr (Hm z++(L0 N bS y p'++Y)) (N + 1) = some (3,false,p'.map A7):=fun z p' Y=>by rw [← hN z]; exact N2 rfl
     have htk2:∀z p' Y,(Hm z++(L0 N bS y p'++(M++Y))).take (N + (M.length + 5)) = Hm z++(L0 N bS y p'++M):=fun z p' Y=>by
      rw [show Hm z++(L0 N bS y p'++(M++Y)) = (Hm z++(L0 N bS y p'++M))++Y by simp only [List.append_assoc],← hl5 z p']
      exact List.take_left
     refine C3<|C2<|C6<|s0<|qm rfl<|qm rfl<|es (ra7 rfl rfl rfl rfl rfl rfl rfl)<|sg 0 rfl<|qm rfl<|I9 [0] (O6 [0] rfl G4 rfl rfl) (seen0 rfl) (F7 rfl (hb1 _ _) rfl) rfl<|A0 (L6 rfl rfl) rfl<|A0 (B9 rfl) rfl<|I9 [0] (O6 [0] rfl G4 rfl rfl) (seen0 rfl) (F7 (x:=.seq 1 (List.map cI days)) rfl (hbt _ _) rfl) rfl<|I9 [0] (O6 [0] rfl G4 rfl rfl) (seen0 rfl) (F6 (f:=cI) rfl) rfl<|A0 (C34 rfl rfl hq) rfl<|A0 (C34 rfl rfl hug) rfl<|qm rfl<|I9 [0] (O6 [0] rfl G4 rfl rfl) (seen0 rfl) (F7 rfl (hb1 _ _) rfl) rfl<|A0 (L6 rfl rfl) rfl<|A0 (B9 rfl) rfl<|I9 [0] (O6 [0] rfl G4 rfl rfl) (seen0 rfl) (F7 (x:=.seq 1 (List.map cI days)) rfl (hbt _ _) rfl) rfl<|I9 [0] (O6 [0] rfl G4 rfl rfl) (seen0 rfl) (F6 (f:=cI) rfl) rfl<|A0 (C34 rfl rfl hq) rfl<|A0 (C35 rfl rfl huh) rfl<|I9 [0] (O6 [0] rfl G4 rfl rfl) (seen0 rfl) (F7 rfl (hb1 _ _) rfl) rfl<|A0 (L6 rfl rfl) rfl<|A0 (B9 rfl) rfl<|I9 [0] (O6 [0] rfl G4 rfl rfl) (seen0 rfl) (F7 (x:=.seq 1 (List.map cI days)) rfl (hbt _ _) rfl) rfl<|qm rfl<|I9 [0] (O6 [0] rfl G4 rfl rfl) (seen0 rfl) (F7 rfl (hb1 _ _) rfl) rfl<|A0 (L6 rfl rfl) rfl<|A0 (B9 rfl) rfl<|I9 [0] (O6 [0] rfl G4 rfl rfl) (seen0 rfl) (F7 (x:=.seq 1 (List.map cI days)) rfl (hbt _ _) rfl) rfl<|I9 [0] (O6 [0] rfl G4 rfl rfl) (seen0 rfl) (F6 (f:=cI) rfl) rfl<|A0 (C35 rfl rfl hur) rfl<|I9 [0] (O6 [0] rfl G4 rfl rfl) (seen0 rfl) (E9 (f:=cI) rfl rfl hud) rfl<|I9 [0] (O6 [0] rfl G4 rfl rfl) (seen0 rfl) (L2 (x:=.i ud) rfl rfl) rfl<|A0 (Q4 (cs:=A7 ⟨ug,uh,ud⟩) rfl rfl) rfl<|A0 I3 rfl<|N9 (E8 (ds:=A7 ⟨ug,uh,ud⟩) rfl rfl rfl rfl (E2 rfl) rfl) rfl<|es (ra7 rfl rfl rfl rfl rfl rfl rfl)<|B5j (show _ = Hm (.inl s1)++(L0 N bS y p1++(M++[AO.cells (A7 ⟨ug,uh,ud⟩)])) by simp) ?_
     refine C2<|s0<|A0 (A4g (x:=.asl (N + 1) p1.length) rfl (q3' _ _ _) rfl) rfl<|qm rfl<|A0 (A6v (ds:=A7 ⟨ug,uh,ud⟩) rfl (hu8 _ _) rfl rfl) rfl<|A0 (C72 (f:=A7) (j:=1) (hN _) rfl rfl rfl rfl hw) rfl<|N9 (C0n (ds:=A7 ⟨ug,uh,ud⟩) (j:=1) (hN _) rfl rfl rfl rfl rfl (List.length_map _) (A39 hw) rfl rfl) rfl ?_
     rw [hset1]
     refine es (ra7 rfl rfl rfl rfl rfl rfl rfl)<|s0<|A0 (A4g rfl (hb1' _ _ _) rfl) rfl<|qm rfl<|A0 (A6v (ds:=A7 ⟨ug,uh,ud⟩) rfl (hu8 _ _) rfl rfl) rfl<|B8 (rs:=[.i e]) rfl rfl (A2 rfl (A2 rfl (A2 (D0 rfl) B7))) ((A29 (a0:=shw t days) (hbt' _ _ _) he).frz)<|A0 (J5 rfl rfl) rfl<|qm rfl<|gp 4 75 (.b g) 71 rfl rfl (fun hc1=>?_) (fun hc1=>?_) ?_
     ·obtain rfl:=os (bt hg hc1)
      exact nF rfl hc1 rfl<|nF rfl hc1 rfl<|H6 (E0 rfl (by rw [hc1]; rfl)) rfl<|A0 (C8 rfl hc1 rfl) rfl<|ge 4 rfl rfl rfl
     ·refine oB (bf hg hc1) fun z hz hg=>?_
      obtain rfl:=os hg
      exact gF rfl hc1<|A0 (A4g (x:=.asl (N + 1) (Y3 p1 figure ⟨ug,uh,ud⟩).length) rfl (q3' _ _ _) rfl) rfl<|gF rfl hc1<|qm rfl<|gF rfl hc1<|O4 (U8 (rs:=[.b z]) rfl rfl ((A8y (SlV.asl _ _ _ (qa' _ _ _)) (fun _ _ _ _ hh=>by cases hh) rfl hz).frz)) rfl<|A0 (C7 rfl hc1 rfl) rfl<|ge 4 rfl rfl rfl
     ·refine es (ra7 rfl rfl rfl rfl rfl rfl rfl)<|wi hb rfl (fun hc2 hb=>?_) fun hc2 hb=>?_
      ·cases hb
       refine G6<|r0<|A0 (F2 rfl rfl) rfl<|qm rfl<|en (ra6 rfl rfl rfl rfl rfl rfl) ?_
       exact ⟨rfl,su6 rfl rfl rfl rfl rfl rfl,(),htk2 _ _ _⟩
      ·refine oB hb fun x1 hx1 hb=>?_
       have hnext:∀c',R4 c' (Hm (.inl s1)++(L0 N bS y (Y3 p1 figure ⟨ug,uh,ud⟩)++(M++[AO.cells (A7 ⟨ug,uh,ud⟩)]))) = true→J1 tab c' (Hm (.inl s1)++(L0 N bS y (Y3 p1 figure ⟨ug,uh,ud⟩)++(M++[AO.cells (A7 ⟨ug,uh,ud⟩)]))) (.fn (.func 120) [] (caps N bS)) [.i (w64 (figure + 1))] [.b x1.2.isLeft] (Hm x1.2++(L0 N bS y x1.1++(M++[AO.cells (A7 ⟨ug,uh,ud⟩)]))):=fun c' hc'=>ih _ _ _ _ hx1 (M++[AO.cells (A7 ⟨ug,uh,ud⟩)]) c' (B55 hgr rfl) hc'
       have hlen6:(Hm (.inl s1)++(L0 N bS y (Y3 p1 figure ⟨ug,uh,ud⟩)++(M++[AO.cells (A7 ⟨ug,uh,ud⟩)]))).length = N + (M.length + 5) + 1:= by
        rw [show Hm (.inl s1)++(L0 N bS y (Y3 p1 figure ⟨ug,uh,ud⟩)++(M++[AO.cells (A7 ⟨ug,uh,ud⟩)])) = (Hm (.inl s1)++(L0 N bS y (Y3 p1 figure ⟨ug,uh,ud⟩)++M))++[AO.cells (A7 ⟨ug,uh,ud⟩)] by simp only [List.append_assoc],List.length_append,hl5]; rfl
       refine C3<|s0<|A0 (A4g rfl (q4' _ _ _) rfl) rfl<|qm rfl<|A0 (F2 rfl rfl) rfl<|O4 (A18 rfl rfl (hnext _ ?_) rfl) rfl<|A0 (C37 rfl rfl) rfl<|es (ra7 rfl rfl rfl rfl rfl rfl rfl) ?_
       ·exact A9c (c:=⟨(Hm (.inl s)++(L0 N bS y p++M)).length,c.cur :: c.outer⟩) (H:=Hm (.inl s)++(L0 N bS y p++M)) (A9c hsc (Nat.le_refl _) (Nat.le_refl _)) (by rw [hlen6,hl5]; omega) (by rw [hlen6]; omega)
       ·obtain ⟨p2,x2⟩:=x1
        cases x2 with
        | inl s2 =>
         cases hb
         refine P7 rfl rfl<|C3<|r0<|A0 (F2 rfl rfl) rfl<|qm rfl<|en (ra6 rfl rfl rfl rfl rfl rfl) ?_
         exact ⟨rfl,su6 rfl rfl rfl rfl rfl rfl,(),htk2 _ _ _⟩
        | inr r2 =>
         cases hb
         refine N6 rfl rfl<|s0<|qm rfl<|es (ra1 rfl)<|C5 ?_
         exact ⟨rfl,_,Sub.refl _,rfl,rfl,htk2 _ _ _⟩
    ·refine G6 ?_
     cases hb
     exact ⟨rfl,_,su3 rfl rfl rfl,rfl,rfl,List.append_nil _⟩
   ·intro e s' H' q
    obtain ⟨_,q⟩:=q
    rcases o with r | r
    ·obtain ⟨p1,r⟩:=r
     obtain ⟨rfl,rfl,q⟩:=q
     cases h
     show A79 _ _ _ _ .ret _ _
     exact B8d trivial (A6 rfl B6) (A5 (v:=.lit (.bool false)) rfl B5) (A3 A4 A8) (by rw [hl5]; exact q)
    ·obtain ⟨p1,s1⟩:=r
     obtain ⟨rfl,rfl,rfl⟩:=q
     refine oB h fun bb hbb h=>oB h fun w hw h=>?_
     have hset1:Hm (.inl s1)++(L0 N bS y p1++M).set 1 (.arr 3 false ((p1.map A7).set figure.toNat (A7 bb))) = Hm (.inl s1)++(L0 N bS y (Y3 p1 figure bb)++M):= by
      rw [C8a]
      have:(Y3 p1 figure bb).length = p1.length:=W1 _ _ _
      simp only [L0,this]; rfl
     have hnext:∀c',R4 c' (Hm (.inl s1)++(L0 N bS y (Y3 p1 figure bb)++M)) = true→J1 tab c' (Hm (.inl s1)++(L0 N bS y (Y3 p1 figure bb)++M)) (.fn (.func 120) [] (caps N bS)) [.i (w64 (figure + 1))] [.b x.2.isLeft] (Hm x.2++(L0 N bS y x.1++M)):=fun c' hc'=>ih _ _ _ _ h M c' hgr hc'
     refine s0<|A0 (A4g (x:=.asl (N + 1) p1.length) rfl (q3 _ _) rfl) rfl<|qm rfl<|U1 (rs:=[(.agg (A7 bb))]) rfl rfl A0e B7 ((A4h hbb).frz)<|A0 (C72 (f:=A7) (j:=1) (hN _) rfl rfl rfl rfl hw) rfl<|N9 (C0n (ds:=A7 bb) (j:=1) (hN _) rfl rfl rfl rfl rfl (List.length_map _) (A39 hw) rfl rfl) rfl ?_
     rw [hset1]
     refine es (ra2 rfl rfl)<|s0<|A0 (A4g rfl (q4 _ _) rfl) rfl<|qm rfl<|A0 (F2 rfl rfl) rfl<|O4 (A18 rfl rfl (hnext _ ?_) rfl) rfl<|qm rfl<|es (ra1 rfl)<|C5 ?_
     ·exact A9c hsc (by rw [hl5,hl5]; exact Nat.le_refl _) (by rw [hl5,hl5]; exact Nat.le_refl _)
     ·show A79 _ _ _ _ .ret _ _
      exact B8d trivial (A6 rfl B6) (A5 (v:=.lit (.bool x.2.isLeft)) rfl B5) (A3 A4 A8) (by rw [hl5,← hl5 x.2 x.1]; exact List.take_length)
end
theorem D2o {t:PaShow} {days:List Int} {bS b:Nat}:B6f tab 119 [.ptr bS 0] shP (fun H=>hcells H bS = some [.ptr b 0]∧hcells H b = some (A2y t days)) (B6c t days):= by
 intro σ ρ Hm N hN hpre y hyb hyc body hy a0 o ho c hc
 unfold B6c at ho
 refine oB ho fun p0 hp0 ho=>oB ho fun x0 hx0 ho=>?_
 obtain rfl:=os ho
 have h1:∀x,hcells (Hm x) bS = some [.ptr b 0]:=fun x=>(hpre x).1
 have ht:∀x,hcells (Hm x) b = some (A2y t days):=fun x=>(hpre x).2
 have e:=hN (.inl a0)
 have hl5:∀x p,(Hm x++L0 N bS y p).length = N + 5:=fun x p=>by rw [List.length_append,hN]; rfl
 have htk:∀x p,(Hm x++L0 N bS y p).take (Hm (.inl a0)).length = Hm x:=fun x p=>by rw [e,← hN x]; exact List.take_left
 have hcall:∀c',R4 c' (Hm (.inl a0)++L0 N bS y p0) = true→J1 tab c' (Hm (.inl a0)++L0 N bS y p0) (.fn (.func 120) [] (caps N bS)) [.i 0] [.b x0.2.isLeft] (Hm x0.2++L0 N bS y x0.1):=fun c' hc'=>by
  have:=C71 hN h1 ht hy 64 0 p0 a0 x0 hx0 [] c' rfl (by rw [List.append_nil]; exact hc')
  rwa [List.append_nil,List.append_nil] at this
 have key:WP tab c119 [(0,y),(1,.ptr bS 0)] (Hm (.inl a0)++[]) ⟨(Hm (.inl a0)).length,c.cur :: c.outer⟩ (A79 (Hm (.inl a0)) (Hm x0.2) [] []):= by
  subst e
  refine sg 0 rfl<|A0 (E5 rfl hyc rfl) rfl<|es (ra2 rfl rfl)<|sg 1 rfl<|A0 (F7 rfl (h1 _) rfl) rfl<|A0 (L6 rfl rfl) rfl<|A0 (B9 rfl) rfl<|A0 (B9 rfl) rfl<|A0 (F7 (x:=.seq 4 (List.map B3 t.Figures)) rfl (ht _) rfl) rfl<|A0 (F6 (f:=B3) rfl) rfl<|A0 (C0o (f:=A7) (zt:=PaUse.mk 0 0 0) rfl rfl rfl hp0) rfl<|A0 C31 rfl<|N9 (E8 (ds:=[.asl ((Hm (.inl a0)).length + 1) p0.length]) rfl rfl rfl rfl (A0u ?_) rfl) rfl<|es (ra3 rfl rfl rfl)<|sg 4 rfl<|A0 I3 rfl<|es (ra4 rfl rfl rfl rfl)<|s0<|A0 (A28 rfl rfl) rfl<|N9 (E8 (ds:=[.fn (.func 120) [] (caps (Hm (.inl a0)).length bS)]) rfl rfl rfl rfl (A0u ?_) rfl) rfl<|es (ra1 rfl)<|r0<|A0 (B2 (x:=.fn (.func 120) [] (caps (Hm (.inl a0)).length bS)) rfl rfl rfl) rfl<|O4 (Q5 (rs:=[.b x0.2.isLeft]) rfl rfl (A2 rfl B7) (hcall _ ?_) rfl) rfl<|en .n ?_
  ·exact Nat.le_add_right _ _
  ·exact Nat.le_add_right _ _
  ·exact A9c hc (by rw [hl5]; omega) (by rw [hl5]; omega)
  ·show A79 _ _ _ _ .normal _ _
   exact B8d trivial rfl rfl rfl (htk _ _)
 rw [List.append_nil] at key
 exact Z7 (aq:=[y,.ptr bS 0]) rfl rfl rfl key
end Pw
end
section
namespace Pw
open Go Am
def A2f (G:List PaGown) (y:PaFigure) (x:PaUse):Int :=
 if x.Gown = -1 then (if x.How = 0∧x.Day = 0 then 0 else 2) else
 if out 0 ((G.length:Int) - 1) x.Gown then 4 else
 if A73 G[x.Gown.toNat]! x = false then 2 else
 if B4w G[x.Gown.toNat]! y x || !B19 G[x.Gown.toNat]! y then 9 else 0
theorem D23 (s:PaShow) (f:Int) (x:PaUse):D64 s f x = A2f s.Gowns s.Figures[f.toNat]! x:=rfl
structure Hu (G:List PaGown) (y:PaFigure) (x:PaUse):Prop where
 lo:0≤x.Gown
 hi:x.Gown < G.length
 form:A73 G[x.Gown.toNat]! x = true
 late:B4w G[x.Gown.toNat]! y x = false
 look:B19 G[x.Gown.toNat]! y = true
theorem B24 {G:List PaGown} {y:PaFigure} {x:PaUse}:A2f G y x = 0↔x = bare0∨Hu G y x:= by
 obtain ⟨g,how,day⟩:=x
 unfold A2f bare0
 simp only
 constructor
 ·intro h
  split at h
  ·next hg =>
   split at h
   ·next hh=>left; subst hg; rw [hh.1,hh.2]
   ·cases h
  ·next hg =>
   split at h
   ·cases h
   ·next ho =>
    split at h
    ·cases h
    ·next hf =>
     split at h
     ·cases h
     ·next hl =>
      have ho:=N7.mp (by simpa using ho)
      have hl:B4w G[g.toNat]! y ⟨g,how,day⟩ = false∧B19 G[g.toNat]! y = true:= by simpa using hl
      exact .inr ⟨ho.1,by simp only; omega,by simpa using hf,hl.1,hl.2⟩
 ·rintro (h | h)
  ·cases h
   rfl
  ·have h1:=h.lo
   have h2:=h.hi
   have h3:=h.form
   have h4:=h.late
   have h5:=h.look
   simp only at h1 h2 h3 h4 h5
   rw [if_neg (by omega),if_neg (by rw [N7.mpr (by omega)]; decide),if_neg (by rw [h3]; decide),h4,h5]
   rfl
def A99 (G:List PaGown) (y:PaFigure) (x:PaUse):Int × Int :=
 if x.Gown = -1 then (0,0) else if x.How = 1 then (price G[x.Gown.toNat]! x.Day,x.Day) else if x.How = 2 then (B6u G[x.Gown.toNat]! y,y.Day) else (0,0)
theorem form1 {g:PaGown} {x:PaUse} (h:A73 g x = true):(g.Pawn = false∧x.How = 0∧x.Day = 0)∨(g.Pawn = true∧((x.How = 2∧x.Day = 0)∨(x.How = 1∧0≤x.Day∧x.Day≤364))):= by
 unfold A73 at h
 cases hp:g.Pawn
 ·rw [hp] at h
  simp at h
  exact .inl ⟨rfl,h⟩
 ·rw [hp] at h
  simp only [if_true,Bool.or_eq_true,Bool.and_eq_true,beq_iff_eq,Bool.not_eq_true',N7] at h
  exact .inr ⟨rfl,h⟩
theorem D6x {G:List PaGown} (hG:∀g ∈ G,GwOk g) {y:PaFigure} (hy:FgOk y) {x:PaUse} (h:A2f G y x = 0):(0≤(A99 G y x).1∧(A99 G y x).1≤100000)∧(0≤(A99 G y x).2∧(A99 G y x).2≤364):= by
 rcases B24.mp h with rfl | h
 ·exact ⟨⟨Int.le_refl _,by show (0:Int)≤100000; decide⟩,Int.le_refl _,by show (0:Int)≤364; decide⟩
 ·have h1:=h.lo
  have h2:=h.hi
  have hg:=hG _ (M3 (l:=G) (i:=x.Gown.toNat) (by omega))
  have hf:=hy.day
  have ht:=hy.til
  unfold A99
  rw [if_neg (by omega)]
  rcases form1 h.form with ⟨_,hh,hd⟩ | ⟨_,⟨hh,hd⟩ | ⟨hh,hd⟩⟩
  ·rw [if_neg (by omega),if_neg (by omega)]
   exact ⟨by decide,by decide⟩
  ·rw [if_neg (by omega),if_pos hh]
   have:=D0x hg hy
   exact ⟨⟨this.1,by show B6u _ _≤100000; omega⟩,hf.1,by show y.Day≤364; omega⟩
  ·rw [if_pos hh]
   have:=C4i hg hd
   exact ⟨⟨this.1,by show price _ _≤100000; omega⟩,hd⟩
theorem C76 {s:PaShow} (hs:ShOk s) (days:List Int) {f:Int} (hf:0≤f∧f < s.Figures.length) {x:PaUse} (h:A2f s.Gowns s.Figures[f.toNat]! x = 0):S8 (shw s days) f x = some (A99 s.Gowns s.Figures[f.toNat]! x):= by
 have hy:=hs.figure _ (M3 (l:=s.Figures) (i:=f.toNat) (by omega))
 unfold S8 A2a
 simp only [Option.bind_some]
 rcases B24.mp h with rfl | h
 ·rfl
 ·have h1:=h.lo
  have h2:=h.hi
  have hg:=hs.gown _ (M3 (l:=s.Gowns) (i:=x.Gown.toNat) (by omega))
  have hfm:=h.form
  rw [if_neg (by simp only [Bool.and_eq_true,beq_iff_eq]; omega),show (shw s days).PaShow = s from rfl,W3 (l:=s.Gowns) h1 h2,W3 (l:=s.Figures) hf.1 hf.2]
  unfold A99
  rw [if_neg (by omega)]
  generalize s.Figures[f.toNat]! = y at hy
  generalize s.Gowns[x.Gown.toNat]! = g at hg hfm
  rcases form1 hfm with ⟨_,hh,hd⟩ | ⟨_,⟨hh,hd⟩ | ⟨hh,hd⟩⟩
  ·rw [hh]; rfl
  ·rw [hh]
   simp only [sel3,inR,Option.bind_some]
   rw [B6n hg hy]
   rfl
  ·rw [hh]
   simp only [sel3,inR,Option.bind_some]
   rw [B03 hg y hd]
   rfl
def V1 (l:List (Int × Int)) (d:Int):Int:=sm (l.map fun x=>if x.2≤d then x.1 else 0)
def incs (s:PaShow):List (Int × Int):=s.Incomes.map fun x=>(x.Pence,x.Day)
def pays (s:PaShow) (p:List PaUse):List (Int × Int):=List.zipWith (A99 s.Gowns) s.Figures p
def H9 (s:PaShow) (p:List PaUse) (d:Int):Int:=s.Purse + V1 (incs s) d - V1 (pays s p) d
theorem A2v {l:List (Int × Int)} (h:∀x ∈ l,0≤x.1∧x.1≤100000) (d:Int):0≤V1 l d∧V1 l d≤100000 * l.length:= by
 have:=C8d (a:=0) (b:=100000) (l:=l.map fun x=>if x.2≤d then x.1 else 0) (fun z hz=>by
  obtain ⟨x,hx,rfl⟩:=List.mem_map.mp hz
  have:=h x hx
  split <;> omega)
 rw [List.length_map] at this
 unfold V1
 omega
structure PlU (s:PaShow) (p:List PaUse):Prop where
 len:p.length = s.Figures.length
 use:∀i,i < p.length→A2f s.Gowns s.Figures[i]! p[i]! = 0
theorem L3 {s:PaShow} {p:List PaUse} (h:PlU s p):(pays s p).length = p.length:= by
 have:=h.len
 unfold pays
 rw [List.length_zipWith]; omega
theorem A60 {s:PaShow} {p:List PaUse} (h:PlU s p) {i:Nat} (hi:i < p.length):(pays s p)[i]! = A99 s.Gowns s.Figures[i]! p[i]!:= by
 have:=h.len
 rw [getElem!_pos (pays s p) i (by rw [L3 h]; exact hi)]
 unfold pays
 rw [List.getElem_zipWith,getElem!_pos p i hi,getElem!_pos s.Figures i (by omega)]
theorem X1 {s:PaShow} (hs:ShOk s) {p:List PaUse} (h:PlU s p):∀x ∈ pays s p,(0≤x.1∧x.1≤100000)∧(0≤x.2∧x.2≤364):= by
 intro x hx
 obtain ⟨i,hi,rfl⟩:=B2d hx
 rw [L3 h] at hi
 have:=h.len
 rw [A60 h hi]
 exact D6x hs.gown (hs.figure _ (M3 (by omega))) (h.use i hi)
theorem Z1 {s:PaShow} (hs:ShOk s):∀x ∈ incs s,(0≤x.1∧x.1≤100000)∧(0≤x.2∧x.2≤364):= by
 intro x hx
 obtain ⟨y,hy,rfl⟩:=List.mem_map.mp hx
 have:=hs.income y hy
 have h1:=this.pence
 have h2:=this.day
 exact ⟨⟨h1.1,by show y.Pence≤_; omega⟩,h2⟩
theorem O7 (s:PaShow):(incs s).length = s.Incomes.length:= by simp [incs]
theorem B69 {s:PaShow} {i:Nat} (hi:i < s.Incomes.length):(incs s)[i]! = (s.Incomes[i]!.Pence,s.Incomes[i]!.Day):= by
 rw [getElem!_pos (incs s) i (by rw [O7]; exact hi),getElem!_pos s.Incomes i hi]
 simp [incs]
theorem C05 (l:List (Int × Int)) (d:Int) (t:Int) (i:Nat):(l.take i).foldl (fun a (x:Int × Int)=>a + if x.2≤d then x.1 else 0) t = t + V1 (l.take i) d:=A3s _ _ _
theorem C1x {s:PaShow} (hs:ShOk s) {p:List PaUse} (h:PlU s p) (d:Int):-300000≤H9 s p d∧H9 s p d≤310000:= by
 have h1:=A2v (fun x hx=>(Z1 hs x hx).1) d
 have h2:=A2v (fun x hx=>(X1 hs h x hx).1) d
 rw [O7] at h1
 rw [L3 h] at h2
 have:=hs.incomes
 have:=hs.figures
 have:=h.len
 have:=hs.purse
 unfold H9
 omega
theorem C7u {s:PaShow} (hs:ShOk s) (days:List Int) {p:List PaUse} (h:PlU s p) (d:Int):P9 (shw s days) p d = some (H9 s p d):= by
 have hin:=hs.incomes
 have hfl:=hs.figures
 have hlen:=h.len
 have hpu:=hs.purse
 have hb1:∀i,0≤V1 ((incs s).take i) d∧V1 ((incs s).take i) d≤300000:=fun i=>by
  have:=A2v (l:=(incs s).take i) (fun x hx=>(Z1 hs x (List.mem_of_mem_take hx)).1) d
  rw [List.length_take,O7] at this
  omega
 have hb2:∀i,0≤V1 ((pays s p).take i) d∧V1 ((pays s p).take i) d≤300000:=fun i=>by
  have:=A2v (l:=(pays s p).take i) (fun x hx=>(X1 hs h x (List.mem_of_mem_take hx)).1) d
  rw [List.length_take,L3 h] at this
  omega
 unfold P9
 rw [show (shw s days).PaShow = s from rfl]
 have e1:loop (Q6 (shw s days) d) (s.Purse,0) = some (s.Purse + V1 (incs s) d):= by
  refine A0t (incs s) (fun a (x:Int × Int)=>a + if x.2≤d then x.1 else 0) s.Purse (fun i t=>(t,(i:Int))) (by rw [O7]; omega) (fun i hi=>?_) ?_
  ·rw [O7] at hi
   have hx:=(Z1 hs _ (M3 (l:=incs s) (i:=i) (by rw [O7]; exact hi))).1
   rw [B69 hi] at hx ⊢
   rw [C05]
   have:=hb1 i
   unfold Q6
   rw [show (shw s days).PaShow = s from rfl,if_pos (by simpa using hi),K1 hi]
   simp only [Option.bind_some]
   rw [G1 (n:=(i:Int) + 1) (by omega)]
   by_cases hd:s.Incomes[i]!.Day≤d
   ·rw [if_pos (decide_eq_true hd),if_pos hd,G1 (by omega)]; rfl
   ·rw [if_neg (by simpa using hd),if_neg hd,Int.add_zero]; rfl
  ·rw [A3s,O7]
   unfold Q6
   rw [show (shw s days).PaShow = s from rfl,if_neg (by simp)]
   rfl
 rw [e1]
 simp only [Option.bind_some]
 have hI:=hb1 (incs s).length
 rw [List.take_length] at hI
 have e2:loop (Q7 (shw s days) p d) (s.Purse + V1 (incs s) d,0) = some (H9 s p d):= by
  refine A0t (pays s p) (fun a (x:Int × Int)=>a - if x.2≤d then x.1 else 0) (s.Purse + V1 (incs s) d) (fun i t=>(t,(i:Int))) (by rw [L3 h]; omega) (fun i hi=>?_) ?_
  ·rw [L3 h] at hi
   have hx:=(X1 hs h _ (M3 (l:=pays s p) (i:=i) (by rw [L3 h]; exact hi))).1
   have hsub:∀(l:List (Int × Int)) (t:Int),l.foldl (fun a (x:Int × Int)=>a - if x.2≤d then x.1 else 0) t = t - V1 l d:= by
    intro l
    induction l with
    | nil=>intro t; simp [V1,sm]
    | cons x l ih=>intro t; rw [List.foldl_cons,ih]; simp only [V1,List.map_cons,sm]; omega
   rw [hsub,A60 h hi] at *
   have:=hb2 i
   unfold Q7
   simp only []
   rw [if_pos (by simpa using hi),K1 hi]
   simp only [Option.bind_some]
   rw [C76 hs days (f:=(i:Int)) (by omega) (by rw [Int.toNat_natCast]; exact h.use i hi),Int.toNat_natCast]
   simp only [Option.bind_some]
   rw [G1 (n:=(i:Int) + 1) (by omega)]
   generalize A99 s.Gowns s.Figures[i]! p[i]! = z at hx
   by_cases hd:z.2≤d
   ·rw [if_pos (decide_eq_true hd),if_pos hd,G1 (by omega)]; rfl
   ·rw [if_neg (by simpa using hd),if_neg hd,Int.sub_zero]; rfl
  ·unfold Q7
   simp only []
   rw [L3 h,if_neg (by simp)]
   have hsub:∀(l:List (Int × Int)) (t:Int),l.foldl (fun a (x:Int × Int)=>a - if x.2≤d then x.1 else 0) t = t - V1 l d:= by
    intro l
    induction l with
    | nil=>intro t; simp [V1,sm]
    | cons x l ih=>intro t; rw [List.foldl_cons,ih]; simp only [V1,List.map_cons,sm]; omega
   rw [hsub]; rfl
 rw [e2]; rfl
end Pw
end
section
set_option maxRecDepth 100000
set_option maxHeartbeats 0
namespace Pw
open Go Am Go.Proofs.YtjpjdglddmhplaaGreat.Cd
def A3e (t:PaShow) (days:List Int) (plan:List PaUse) (i:Int):Option (Int ⊕ (Int ⊕ Unit)) :=
 if (decide (i < (List.length plan:Int))) = true then
  (idx plan i).bind fun u=>(U9 (shw t days) i u).bind fun e =>
  (if (e != 4) = true then (A3d plan i).bind fun z=>some z else some false).bind fun g =>
  (if g = true then some 5 else some e).bind fun e' =>
  if (e' != 0) = true then some (.inr (.inl e')) else some (.inl (w64 (i + 1)))
 else some (.inr (.inr ()))
def A2p (t:PaShow) (plan:List PaUse):Option (Int × List Int) :=
 (A1u t).bind fun x =>
 if (x.1 == 0) = true then
  if ((List.length plan:Int) != (List.length t.Figures:Int)) = true then some (3,[])
  else (loop (A3e t x.2 plan) 0).bind fun o=>match o with
   | .inl e=>some (e,[])
   | .inr _=>some (0,x.2)
 else some (x.1,[])
def plB (t:PaShow) (X:AO) (days:List Int):List AO:=[.cells (B1 t),.cells (B1 t),X,.cells (A2y t days)]
def PlQ (H:A1) (t:PaShow) (X:AO) (x:Int × List Int) (e:Ex) (s:B4) (H1:A1):Prop :=
 e = .ret∧sget s 5 = some (.i x.1)∧(((x.1 != 0) = true∧sget s 4 = some (.lit (.pointer none))∧∃ L,H1 = H++L)∨(x.1 = 0∧sget s 4 = some (.ptr (H.length + 3) 0)∧H1 = H++plB t X x.2))
theorem B2m {c:Sc} {H:A1} {t:PaShow} {plan:List PaUse} {x y:Int × List Int} {X:AO} (hX:New tab (.fn (.func 51) [] []) [.agg (B1 t)] 2 [.cells (B1 t),X,.cells (A2y t y.2)])
  (h:(if ((List.length plan:Int) != (List.length t.Figures:Int)) = true then some (3,[])
  else (loop (A3e t y.2 plan) 0).bind fun o=>match o with
   | .inl e=>some (e,[])
   | .inr _=>some (0,y.2)) = some x) :
  WP tab c62 [(0,.agg (B1 t)),(1,.seq 3 (plan.map A7))] (H++[]) ⟨H.length,c.cur :: c.outer⟩ (PlQ H t X x):= by
 refine sg 0 rfl<|A0 (E5 (cs:=B1 t) rfl rfl rfl) rfl<|qm rfl<|qm rfl<|es (ra2 rfl rfl)<|s0<|A0 (D2 rfl rfl rfl) rfl<|O4 (A3o hX rfl rfl (A2 (D0 rfl) B7) rfl) rfl<|qm rfl<|A0 (A9 rfl rfl) rfl<|A0 (A9 rfl rfl) rfl<|qm rfl<|qm rfl<|es (ra4 rfl rfl rfl rfl)<|C2<|C6<|s0<|qm rfl<|A0 (J5 rfl rfl) rfl<|qm rfl<|es (ra5 rfl rfl rfl rfl rfl)<|P7 rfl rfl<|s0<|qm rfl<|A0 (F6 (f:=A7) rfl) rfl<|A0 (B9 rfl) rfl<|A0 (B2 rfl rfl rfl) rfl<|A0 (F6 (f:=B3) rfl) rfl<|A0 (J5 rfl rfl) rfl<|qm rfl<|es (ra3 rfl rfl rfl)<|wi h rfl (fun hc h=>?_) fun hc h=>?_
 ·refine s0<|qm rfl<|qm rfl<|es (ra2 rfl rfl)<|C5 ?_
  obtain rfl:=os h
  exact ⟨rfl,rfl,.inl ⟨rfl,rfl,_,rfl⟩⟩
 ·refine oB h fun o ho h=>?_
  have hsl:SlV H (.seq 3 (plan.map A7)) plan:=.seq plan
  refine C3<|C2<|s0<|qm rfl<|A0 (F6 (f:=A7) rfl) rfl<|qm rfl<|es (ra5 rfl rfl rfl rfl rfl)<|C6<|wl (fun i=>[(1,.seq 3 (plan.map A7)),(6,.ptr (H.length + 3) 0),(26,.seq 3 (plan.map A7)),(27,.i plan.length),(28,.i i)]) (fun (_:Unit) _=>plB t X y.2) 4 (fun r e s' H'=>match r with | .inl v=>e = .ret∧s' = [(4,.lit (.pointer none)),(5,.i v)]∧(v != 0) = true∧∃ L,H' = H++L | .inr _=>PX 1 [(6,.ptr (H.length + 3) 0)] (H++plB t X y.2) e s' H') () ho rfl rfl (fun _ _=>rfl) (fun _=>rfl) rfl (fun _=>bdc K0 (bdc (K8 rfl) (bdc K0 (bdc A4 (bdc A4 bdn))))) (fun _ i o hs=>?_) ?_
  ·unfold A3e at hs
   refine s0<|A0 (I0 rfl rfl) rfl<|es (ra6 rfl rfl rfl rfl rfl rfl)<|C2<|wi hs rfl (fun hc hs=>?_) fun hc hs=>?_
   ·refine oB hs fun u hu hs=>oB hs fun e he hs=>oB hs fun g hg hs=>oB hs fun e' he' hs=>?_
    refine C3<|C2<|C6<|sg 4 rfl<|qm rfl<|A0 (E9 (f:=A7) rfl rfl hu) rfl<|A0 (F5 rfl rfl) rfl<|A0 I3 rfl<|qm rfl<|N9 (E8 (ds:=A7 u) rfl rfl rfl rfl (E2 rfl) rfl) rfl<|es (ra7 rfl rfl rfl rfl rfl rfl rfl)<|s0<|qm rfl<|qm rfl<|A0 (D2 rfl rfl rfl) rfl<|B8 (rs:=[.i e]) rfl rfl (A2 rfl (A2 rfl (A2 (D0 rfl) B7))) ((A29 (a0:=shw t y.2) (D8 rfl) he).frz)<|qm rfl<|es (ra7 rfl rfl rfl rfl rfl rfl rfl)<|C2<|s0<|qm rfl<|A0 (J5 rfl rfl) rfl<|qm rfl<|gp 4 43 (.b g) 39 rfl rfl (fun hb=>?_) (fun hb=>?_) ?_
    ·refine oB (bt hg hb) fun z hz hg=>?_
     obtain rfl:=os hg
     exact gT rfl hb<|qm rfl<|gT rfl hb<|qm rfl<|gT rfl hb<|O4 (U8 (rs:=[.b z]) rfl rfl ((A8y hsl.app (fun _ _ _ _ hh=>by cases hh) rfl hz).frz)) rfl<|A0 (C8 rfl hb rfl) rfl<|ge 4 rfl rfl rfl
    ·obtain rfl:=os (bf hg hb)
     exact nT rfl hb rfl<|nT rfl hb rfl<|H6 (E0 rfl (by rw [hb]; rfl)) rfl<|A0 (C7 rfl hb rfl) rfl<|ge 4 rfl rfl rfl
    ·refine es (ra7 rfl rfl rfl rfl rfl rfl rfl) ?_
     have fin:∀{e'':Int},e'' = e'→WP tab (.s 0 [M 0 44 7,B 1 45 .neq 44 (.i 0)] [1,6,7,26,27,28,45] (.cond 45 (.s 0 [M 0 46 7,M 1 4 (.c (.lit (.pointer none))),M 2 5 46] [4,5] .ret) .skip)) [(1,.seq 3 (plan.map A7)),(6,.ptr (H.length + 3) 0),(7,.i e''),(26,.seq 3 (plan.map A7)),(27,.i plan.length),(28,.i i)] (H++(plB t X y.2++[.cells (A7 u)])) ⟨H.length + 4,H.length :: c.cur :: c.outer⟩ (B6e 2 (C5g tab (.g 0 [B 0 47 .add 28 (.i 1),M 1 28 47] [1,6,26,27,28]) ⟨H.length + 4,H.length :: c.cur :: c.outer⟩ (C6z true (fun i=>[(1,.seq 3 (plan.map A7)),(6,.ptr (H.length + 3) 0),(26,.seq 3 (plan.map A7)),(27,.i plan.length),(28,.i i)]) (fun (_:Unit) _=>H++plB t X y.2) (H.length + 4) (fun r e s' H'=>match r with | .inl v=>e = .ret∧s' = [(4,.lit (.pointer none)),(5,.i v)]∧(v != 0) = true∧∃ L,H' = H++L | .inr _=>PX 1 [(6,.ptr (H.length + 3) 0)] (H++plB t X y.2) e s' H') o))):=fun {e''} hee=>by
      subst hee
      refine s0<|qm rfl<|A0 (J5 rfl rfl) rfl<|es (ra7 rfl rfl rfl rfl rfl rfl rfl)<|wi hs rfl (fun hc2 hs=>?_) fun hc2 hs=>?_
      ·refine s0<|qm rfl<|qm rfl<|qm rfl<|es (ra2 rfl rfl)<|C5 ?_
       obtain rfl:=os hs
       exact lx rfl ⟨rfl,rfl,hc2,_,rfl⟩ (su2 rfl rfl)
      ·refine C3<|r0<|A0 (F2 rfl rfl) rfl<|qm rfl<|en (ra5 rfl rfl rfl rfl rfl) ?_
       cases hs
       exact lnT () rfl (su5 rfl rfl rfl rfl rfl)
     cases g with
     | true =>
      obtain rfl:=os he'
      exact N6 rfl rfl<|r0<|qm rfl<|en (ra6 rfl rfl rfl rfl rfl rfl) (fin rfl)
     | false =>
      obtain rfl:=os he'
      exact P7 rfl rfl<|C3<|C96 (su6 rfl rfl rfl rfl rfl rfl) (fin rfl)
   ·refine G6 ?_
    obtain rfl:=os hs
    exact lx rfl px (su1 rfl)
  ·rcases o with v | v
   ·rintro e s' H' - ⟨rfl,rfl,hv,L,rfl⟩
    obtain rfl:=os h
    exact ⟨rfl,rfl,.inl ⟨hv,rfl,L,rfl⟩⟩
   ·rintro e s' H' - ⟨rfl,rfl,rfl⟩
    obtain rfl:=os h
    refine s0<|qm rfl<|qm rfl<|qm rfl<|es (ra2 rfl rfl)<|C5 ?_
    exact ⟨rfl,rfl,.inr ⟨rfl,rfl,rfl⟩⟩
theorem A84 {t:PaShow} {plan:List PaUse} {x:Int × List Int} (h:A2p t plan = some x) (hx:(x.1 == 0) = true):∃X,New tab (.fn (.func 62) [] []) [.agg (B1 t),.seq 3 (plan.map A7)] 3 [.cells (B1 t),.cells (B1 t),X,.cells (A2y t x.2)]:= by
 unfold A2p at h
 refine oB h fun y hy h=>?_
 split at h
 ·next hc =>
  obtain ⟨X,hX⟩:=A15 hy hc
  refine ⟨X,fun c H N hN=>?_⟩
  subst hN
  refine C25 (aq:=[.agg (B1 t),.seq 3 (plan.map A7)]) rfl rfl rfl (U5 (A03 (B2m hX h) ?_))
  rintro e s' H' ⟨rfl,h5,⟨h6,_⟩ | ⟨h6,h4,rfl⟩⟩
  ·rw [show x.1 = 0 by simpa using hx] at h6; cases h6
  ·rw [h6] at h5
   refine ⟨trivial,_,A6 h4 (A6 h5 B6),A5 rfl (A5 rfl B5),T6 ?_⟩
   exact A5p (N:=H.length) (B:=0) (j:=3) (o:=0) rfl
 ·next hc=>cases h; exact absurd hx hc
theorem A83 {c:Sc} {H:A1} {t:PaShow} {plan:List PaUse} {x:Int × List Int} (h:A2p t plan = some x) (hx:(x.1 == 0) = false) :
  J1 tab c H (.fn (.func 62) [] []) [.agg (B1 t),.seq 3 (plan.map A7)] [.lit (.pointer none),.i x.1] H:= by
 unfold A2p at h
 refine oB h fun y hy h=>?_
 split at h
 ·next hc =>
  obtain ⟨X,hX⟩:=A15 hy hc
  refine Z7 (aq:=[.agg (B1 t),.seq 3 (plan.map A7)]) rfl rfl rfl (U5 (A03 (B2m hX h) ?_))
  rintro e s' H' ⟨rfl,h5,⟨h6,h4,L,rfl⟩ | ⟨h6,_⟩⟩
  ·exact ⟨trivial,_,_,A6 h4 (A6 h5 B6),A5 rfl (A5 rfl B5),A3 A4 (A3 A4 A8),List.take_left⟩
  ·rw [h6] at hx; cases hx
 ·next hc =>
  obtain rfl:=os h
  refine Z7 (aq:=[.agg (B1 t),.seq 3 (plan.map A7)]) rfl rfl rfl (U5 ?_)
  refine sg 0 rfl<|A0 (E5 (cs:=B1 t) rfl rfl rfl) rfl<|qm rfl<|qm rfl<|es (ra2 rfl rfl)<|s0<|A0 (D2 rfl rfl rfl) rfl<|O4 (Q5 (rs:=[.lit (.pointer none),.i y.1]) rfl rfl (A2 (D0 rfl) B7) (A20 hy (by simpa using hc)) rfl) rfl<|qm rfl<|A0 (A9 rfl rfl) rfl<|A0 (A9 rfl rfl) rfl<|qm rfl<|qm rfl<|es (ra4 rfl rfl rfl rfl)<|C2<|C6<|s0<|qm rfl<|A0 (J5 rfl rfl) rfl<|qm rfl<|es (ra5 rfl rfl rfl rfl rfl)<|N6 rfl (nef hc)<|s0<|qm rfl<|qm rfl<|qm rfl<|es (ra2 rfl rfl)<|C5 ?_
  exact ⟨trivial,_,_,A6 rfl (A6 rfl B6),A5 rfl (A5 rfl B5),A3 A4 (A3 A4 A8),List.take_left⟩
end Pw
end
section
namespace Pw
open Go Am
theorem C1j (l:List PaUse) (g:PaUse→Option Bool) (p:PaUse→Bool) (hl:l.length < 9223372036854775808) (hg:∀x ∈ l,g x = some (p x)):E7 l g = some (l.any p) :=
 A4e l g p (b:=I5 l g) hl hg (fun _=>rfl) rfl
def twP (p:List PaUse) (i:Nat):Bool:=(p[i]!.Gown != -1) && (p.take i).any fun x=>x.Gown == p[i]!.Gown
theorem D22 {p:List PaUse} {i:Nat} (hi:i < p.length) (hl:p.length≤100):A3d p (i:Int) = some (twP p i):= by
 unfold A3d twP
 rw [K1 hi]
 simp only [Option.bind_some]
 cases hg:p[i]!.Gown != -1
 ·rfl
 ·rw [if_pos rfl,B6d (Nat.le_of_lt hi)]
  simp only [Option.bind_some]
  rw [C1j _ _ (fun x=>x.Gown == p[i]!.Gown) (by rw [List.length_take]; omega) (fun x _=>by unfold X0; rw [K1 hi]; rfl)]
  rfl
def ucode (s:PaShow) (p:List PaUse) (i:Nat):Int:=if A2f s.Gowns s.Figures[i]! p[i]! ≠ 4∧twP p i = true then 5 else A2f s.Gowns s.Figures[i]! p[i]!
def C0x (s:PaShow) (p:List PaUse):Int:=if p.length ≠ s.Figures.length then 3 else match wrong (ucode s p) p.length with | some x=>x.2 | none=>0
def O0 (s:PaShow) (p:List PaUse):Int:=if (chk s).2.2 ≠ 0 then (chk s).2.2 else C0x s p
structure PlOk (s:PaShow) (p:List PaUse):Prop where
 u:PlU s p
 tw:∀i,i < p.length→twP p i = false
theorem B71 {s:PaShow} {p:List PaUse}:C0x s p = 0↔PlOk s p:= by
 unfold C0x
 constructor
 ·intro h
  split at h
  ·cases h
  ·next hl =>
   cases hw:wrong (ucode s p) p.length with
   | some x =>
    have:=A5n hw
    rw [hw] at h
    simp only at h
    rw [h] at this; cases this
   | none =>
    have h0:=A3r.mp hw
    have key:∀i,i < p.length→A2f s.Gowns s.Figures[i]! p[i]! = 0∧twP p i = false:=fun i hi=>by
     have:=h0 i hi
     unfold ucode at this
     split at this
     ·cases this
     ·next hn =>
      refine ⟨this,?_⟩
      cases ht:twP p i
      ·rfl
      ·exact absurd ⟨by rw [this]; decide,ht⟩ hn
    exact ⟨⟨by omega,fun i hi=>(key i hi).1⟩,fun i hi=>(key i hi).2⟩
 ·intro h
  have hl:=h.u.len
  rw [if_neg (by omega),A67 fun i hi=>by
   unfold ucode
   rw [h.u.use i hi,h.tw i hi,if_neg (by simp)]]
theorem B72 (s:PaShow) (hb:NB s) (p:List PaUse):A2p s p = some (O0 s p,if O0 s p = 0 then A4c s else []):= by
 unfold A2p
 rw [B1r s hb]
 simp only [Option.bind_some]
 unfold O0
 by_cases h:(chk s).2.2 = 0
 ·have hs:=(A1o s).mp h
  have hle:=hs.gowns
  have hle2:=hs.figures
  simp only [h,if_true,ne_eq,not_true,if_false,BEq.rfl]
  unfold C0x
  by_cases hl:p.length = s.Figures.length
  ·rw [if_neg (by simp [hl]),if_neg (by simp [hl])]
   rw [A25 (b:=A3e s (A4c s) p) p.length (ucode s p) (fun x=>.inl x.2) (.inr ()) (by omega) (fun i hi=>by
    unfold A3e
    rw [if_pos (by simpa using hi),K1 hi]
    simp only [Option.bind_some]
    rw [D24 hs (A4c s) (f:=(i:Int)) (by omega),D23,Int.toNat_natCast]
    simp only [Option.bind_some]
    rw [D22 hi (by omega)]
    unfold ucode
    generalize A2f s.Gowns s.Figures[i]! p[i]! = e
    by_cases h4:e = 4
    ·subst h4; rfl
    ·have e1:(e != 4) = true:= by simpa using h4
     rw [e1]
     cases twP p i
     ·simp only [if_true,Option.bind_some,Bool.false_eq_true,if_false,and_false]
      by_cases h0:e = 0
      ·subst h0; rfl
      ·have e2:(e != 0) = true:= by simpa using h0
       have e3:(e == 0) = false:= by simpa using h0
       simp [e2,e3]
     ·simp [h4]) (by
    unfold A3e
    rw [if_neg (by simp)])]
   cases hw:wrong (ucode s p) p.length with
   | some x =>
    have:=A5n hw
    simp only [Option.bind_some]
    rw [if_neg (by simpa using this)]
   | none=>rfl
  ·rw [if_pos (by simp; omega),if_pos hl,if_neg (by decide)]
 ·rw [if_neg h,if_neg (by simpa using h),if_pos h,if_neg h]
theorem C8c (F:Int→Int):∀(l:List (Int × Int)) (t:Int × Int),∀ r,r = l.foldl (fun (a:Int × Int) (x:Int × Int)=>if F x.2 < 0 then (C1z a.1 (0 - F x.2),A6u a.2 x.2) else a) t →
  t.1≤r.1∧(∀ x ∈ l,F x.2 < 0→-F x.2≤r.1)∧(r.1 = t.1∨∃ x ∈ l,F x.2 < 0∧-F x.2 = r.1)∧r.2≤t.2∧(∀ x ∈ l,F x.2 < 0→r.2≤x.2)∧(r.2 = t.2∨∃ x ∈ l,F x.2 < 0∧x.2 = r.2)
 | [],t,r,h=>by subst h; exact ⟨Int.le_refl _,by simp,.inl rfl,Int.le_refl _,by simp,.inl rfl⟩
 | x :: l,t,r,h=>by
  rw [List.foldl_cons] at h
  obtain ⟨h1,h2,h3,h4,h5,h6⟩:=C8c F l _ r h
  by_cases hx:F x.2 < 0
  ·rw [if_pos hx] at h1 h3 h4 h6
   simp only at h1 h3 h4 h6
   have m1:t.1≤C1z t.1 (0 - F x.2)∧-F x.2≤C1z t.1 (0 - F x.2)∧(C1z t.1 (0 - F x.2) = t.1∨C1z t.1 (0 - F x.2) = -F x.2):= by unfold C1z; split <;> omega
   have m2:A6u t.2 x.2≤t.2∧A6u t.2 x.2≤x.2∧(A6u t.2 x.2 = t.2∨A6u t.2 x.2 = x.2):= by unfold A6u; split <;> omega
   refine ⟨by omega,?_,?_,by omega,?_,?_⟩
   ·intro y hy hf
    rcases List.mem_cons.mp hy with rfl | hy
    ·omega
    ·exact h2 y hy hf
   ·rcases h3 with h3 | ⟨y,hy,hf,e⟩
    ·rcases m1.2.2 with e | e
     ·left; omega
     ·exact .inr ⟨x,List.mem_cons_self ..,hx,by omega⟩
    ·exact .inr ⟨y,List.mem_cons_of_mem _ hy,hf,e⟩
   ·intro y hy hf
    rcases List.mem_cons.mp hy with rfl | hy
    ·omega
    ·exact h5 y hy hf
   ·rcases h6 with h6 | ⟨y,hy,hf,e⟩
    ·rcases m2.2.2 with e | e
     ·left; omega
     ·exact .inr ⟨x,List.mem_cons_self ..,hx,by omega⟩
    ·exact .inr ⟨y,List.mem_cons_of_mem _ hy,hf,e⟩
  ·rw [if_neg hx] at h1 h3 h4 h6
   refine ⟨h1,?_,?_,h4,?_,?_⟩
   ·intro y hy hf
    rcases List.mem_cons.mp hy with rfl | hy
    ·exact absurd hf hx
    ·exact h2 y hy hf
   ·rcases h3 with h3 | ⟨y,hy,hf,e⟩
    ·exact .inl h3
    ·exact .inr ⟨y,List.mem_cons_of_mem _ hy,hf,e⟩
   ·intro y hy hf
    rcases List.mem_cons.mp hy with rfl | hy
    ·exact absurd hf hx
    ·exact h5 y hy hf
   ·rcases h6 with h6 | ⟨y,hy,hf,e⟩
    ·exact .inl h6
    ·exact .inr ⟨y,List.mem_cons_of_mem _ hy,hf,e⟩
def Q0 (s:PaShow) (p:List PaUse):Int × Int:=(pays s p).foldl (fun (a:Int × Int) (x:Int × Int)=>if H9 s p x.2 < 0 then (C1z a.1 (0 - H9 s p x.2),A6u a.2 x.2) else a) (0,365)
theorem D2u {s:PaShow} (hs:ShOk s) (days:List Int) {p:List PaUse} (h:PlU s p):O3 (shw s days) p = some (Q0 s p):= by
 have hfl:=hs.figures
 have hlen:=h.len
 unfold O3
 have e1:loop (P1 (shw s days) p) (0,365,0) = some (Q0 s p):= by
  refine A0t (pays s p) (fun (a:Int × Int) (x:Int × Int)=>if H9 s p x.2 < 0 then (C1z a.1 (0 - H9 s p x.2),A6u a.2 x.2) else a) (0,365) (fun i t=>(t.1,t.2,(i:Int))) (by rw [L3 h]; omega) (fun i hi=>?_) ?_
  ·rw [L3 h] at hi
   rw [A60 h hi]
   unfold P1
   simp only []
   rw [if_pos (by simpa using hi),K1 hi]
   simp only [Option.bind_some]
   rw [C76 hs days (f:=(i:Int)) (by omega) (by rw [Int.toNat_natCast]; exact h.use i hi),Int.toNat_natCast]
   simp only [Option.bind_some]
   rw [C7u hs days h]
   simp only [Option.bind_some]
   have:=C1x hs h (A99 s.Gowns s.Figures[i]! p[i]!).2
   rw [G1 (n:=(i:Int) + 1) (by omega),G1 (by omega)]
   by_cases hd:H9 s p (A99 s.Gowns s.Figures[i]! p[i]!).2 < 0
   ·rw [if_pos (decide_eq_true hd),if_pos hd]; rfl
   ·rw [if_neg (by simpa using hd),if_neg hd]; rfl
  ·rw [L3 h]
   unfold P1
   simp only []
   rw [if_neg (by simp)]
   rfl
 rw [e1]; rfl
theorem B8j (s:PaShow) (p:List PaUse):0≤(Q0 s p).1∧(∀ x ∈ pays s p,H9 s p x.2 < 0→-H9 s p x.2≤(Q0 s p).1)∧((Q0 s p).1 = 0∨∃ x ∈ pays s p,H9 s p x.2 < 0∧-H9 s p x.2 = (Q0 s p).1)∧(Q0 s p).2≤365∧(∀ x ∈ pays s p,H9 s p x.2 < 0→(Q0 s p).2≤x.2)∧((Q0 s p).2 = 365∨∃ x ∈ pays s p,H9 s p x.2 < 0∧x.2 = (Q0 s p).2) :=
 C8c (H9 s p) (pays s p) (0,365) _ rfl
end Pw
end
section
set_option maxRecDepth 100000
set_option maxHeartbeats 0
namespace Pw
open Go Am Go.Proofs.YtjpjdglddmhplaaGreat.Cd
def A86 (a0:PaGown) (a1:PaFigure) (s1:Int):Option (Int ⊕ (Bool ⊕ Unit)) :=
 if (decide (s1≤15)) = true then
  (C9o a1.Needs s1).bind fun x4 =>
  (if ((Int.tmod x4 2) == 1) = true then
  (C9o a0.Looks s1).bind fun x6 =>
  some ((Int.tmod x6 2) == 0)
  else
  some false).bind fun x7 =>
  if x7 = true then
  some (.inr (.inl false))
  else
  some (.inl (w64 (2 * s1)))
 else
  some (.inr (.inr ()))
def A3y (a0:PaGown) (a1:PaFigure):Option Bool :=
 (loop (A86 a0 a1) 1).bind fun (o9:(Bool ⊕ Unit)) =>
 match o9 with
 | (.inl vo9_0) =>
  some vo9_0
 | (.inr vo9_1) =>
  some true
theorem B7s {c:Sc} {H:A1} {a0:PaGown} {a1:PaFigure} {r:Bool} (h:A3y a0 a1 = some r) :
  E1 tab c H (.fn (.func 101) [] []) [(.agg (C1 a0)),(.agg (B3 a1))] [.b r]:= by
 unfold A3y at h
 refine cE rfl rfl<|sg 0 rfl<|A0 (E5 (cs:=C1 a0) rfl rfl rfl) rfl<|A0 (E5 (cs:=B3 a1) rfl rfl rfl) rfl<|qm rfl<|es (ra2 rfl rfl)<|C2<|s0<|qm rfl<|es (ra3 rfl rfl rfl)<|C6<|oB h fun o9 ho9 h=>wl (fun s1=>[(2,(.ptr (H.length + 0) 0)),(3,(.ptr (H.length + 1) 0)),(5,.i s1)]) (fun (q2:Unit) s1=>[(.cells (C1 a0)),(.cells (B3 a1))]) 2 (fun r e s' H'=>(match r with | (.inl v)=>e = .ret∧RetQ H [.tmp 4] [.b v] e s' H' | (.inr v)=>PX 0 [] (H++[(.cells (C1 a0)),(.cells (B3 a1))]) e s' H':Prop)) () ho9 rfl rfl (fun _ _=>rfl) (fun _=>rfl) rfl (fun s1=>(bdc (K8 rfl) (bdc (K8 rfl) (bdc A4 bdn)))) (fun q2 s1 ys1 hs1=>?_) ?_
 ·unfold A86 at hs1
  refine C2<|s0<|qm rfl<|A0 (A4a rfl rfl) rfl<|es (ra4 rfl rfl rfl rfl)<|wi hs1 rfl (fun hc3 hs1=>?_) fun hc3 hs1=>?_
  ·refine C3<|C2<|C6<|s0<|oB hs1 fun x4 hx4 hs1=>oB hs1 fun x7 hx7 hs1=>A0 (B9 rfl) rfl<|A0 (B2 rfl rfl rfl) rfl<|qm rfl<|A0 (C34 rfl rfl hx4) rfl<|A0 (O8 (v:=(.i (Int.tmod x4 2))) rfl rfl rfl) rfl<|A0 (G0 rfl rfl) rfl<|qm rfl<|gp 7 23 (.b x7) 16 rfl rfl (fun hg5=>?_) (fun hg5=>?_) ?_
   ·refine oB (bt hx7 hg5) fun x6 hx6 hx7=>?_
    obtain rfl:=os hx7
    exact gT rfl hg5<|A0 (B9 rfl) rfl<|gT rfl hg5<|A0 (B2 rfl rfl rfl) rfl<|gT rfl hg5<|qm rfl<|gT rfl hg5<|A0 (C34 rfl rfl hx6) rfl<|gT rfl hg5<|A0 (O8 (v:=(.i (Int.tmod x6 2))) rfl rfl rfl) rfl<|gT rfl hg5<|A0 (G0 rfl rfl) rfl<|A0 (C8 rfl hg5 rfl) rfl<|ge 7 rfl rfl rfl
   ·obtain rfl:=os (bf hx7 hg5)
    exact nT rfl hg5 rfl<|nT rfl hg5 rfl<|nT rfl hg5 rfl<|nT rfl hg5 rfl<|nT rfl hg5 rfl<|nT rfl hg5 rfl<|A0 (C7 rfl hg5 rfl) rfl<|ge 7 rfl rfl rfl
   refine es (ra4 rfl rfl rfl rfl)<|wi hs1 rfl (fun hc8 hs1=>?_) fun hc8 hs1=>?_
   ·refine s0<|qm rfl<|es (ra1 rfl)<|C5 ?_
    obtain rfl:=os hs1
    exact lx rfl (And.intro rfl (retq trivial (A6 rfl B6) (A5 rfl B5) (A3 A4 A8))) (Sub.refl _)
   ·refine C3<|r0<|qm rfl<|A0 (B0b rfl rfl) rfl<|qm rfl<|en (ra3 rfl rfl rfl) ?_
    cases hs1
    exact lnT () rfl (su3 rfl rfl rfl)
  ·refine G6 ?_
   obtain rfl:=os hs1
   exact lx rfl px (.nil _)
 ·rcases o9 with vo9_0 | vo9_1
  ·rintro e s' H' - ⟨rfl,hret⟩
   cases h
   exact hret
  ·rintro e s' H' - ⟨rfl,rfl,rfl⟩
   refine s0<|qm rfl<|es (ra1 rfl)<|C5 ?_
   obtain rfl:=os h
   exact retq trivial (A6 rfl B6) (A5 rfl B5) (A3 A4 A8)
def A5f (a0:PaGown) (a1:PaUse):Option Bool :=
 if (!a0.Pawn) = true then
  some ((a1.How == 0) && (a1.Day == 0))
 else
  (if ((a1.How == 2) && (a1.Day == 0)) = true then
  some true
  else
  (if (a1.How == 1) = true then
   (M0 a1.Day 0 364).bind fun x6 =>
   some x6
  else
   some false).bind fun x7 =>
  some x7).bind fun x8 =>
  some x8
theorem B9c {c:Sc} {H:A1} {a0:PaGown} {a1:PaUse} {r:Bool} (h:A5f a0 a1 = some r) :
  E1 tab c H (.fn (.func 100) [] []) [(.agg (C1 a0)),(.agg (A7 a1))] [.b r]:= by
 unfold A5f at h
 refine cE rfl rfl<|sg 0 rfl<|A0 (E5 (cs:=C1 a0) rfl rfl rfl) rfl<|A0 (E5 (cs:=A7 a1) rfl rfl rfl) rfl<|qm rfl<|es (ra2 rfl rfl)<|C2<|s0<|A0 (B9 rfl) rfl<|A0 (B2 rfl rfl rfl) rfl<|A0 (Q8 rfl) rfl<|es (ra2 rfl rfl)<|wi h rfl (fun hc1 h=>?_) fun hc1 h=>?_
 ·refine s0<|A0 (B9 rfl) rfl<|A0 (B2 rfl rfl rfl) rfl<|A0 (G0 rfl rfl) rfl<|qm rfl<|gp 4 15 (.b ((a1.How == 0) && (a1.Day == 0))) 11 rfl rfl (fun hg2=>?_) (fun hg2=>?_) ?_
  ·exact gT rfl hg2<|A0 (B9 rfl) rfl<|gT rfl hg2<|A0 (B2 rfl rfl rfl) rfl<|gT rfl hg2<|A0 (G0 rfl rfl) rfl<|A0 (C8 rfl hg2 rfl) rfl<|ge 4 (by rw [hg2]; rfl) rfl rfl
  ·exact nT rfl hg2 rfl<|nT rfl hg2 rfl<|nT rfl hg2 rfl<|A0 (C7 rfl hg2 rfl) rfl<|ge 4 (by rw [hg2]; rfl) rfl rfl
  refine qm rfl<|es (ra1 rfl)<|C5 ?_
  obtain rfl:=os h
  exact retq trivial (A6 rfl B6) (A5 rfl B5) (A3 A4 A8)
 ·refine C3<|s0<|oB h fun x8 hx8 h=>A0 (B9 rfl) rfl<|A0 (B2 rfl rfl rfl) rfl<|A0 (G0 rfl rfl) rfl<|qm rfl<|gp 4 23 (.b ((a1.How == 2) && (a1.Day == 0))) 19 rfl rfl (fun hg3=>?_) (fun hg3=>?_) ?_
  ·exact gT rfl hg3<|A0 (B9 rfl) rfl<|gT rfl hg3<|A0 (B2 rfl rfl rfl) rfl<|gT rfl hg3<|A0 (G0 rfl rfl) rfl<|A0 (C8 rfl hg3 rfl) rfl<|ge 4 (by rw [hg3]; rfl) rfl rfl
  ·exact nT rfl hg3 rfl<|nT rfl hg3 rfl<|nT rfl hg3 rfl<|A0 (C7 rfl hg3 rfl) rfl<|ge 4 (by rw [hg3]; rfl) rfl rfl
  refine qm rfl<|gp 9 33 (.b x8) 24 rfl rfl (fun hg4=>?_) (fun hg4=>?_) ?_
  ·obtain rfl:=os (bt hx8 hg4)
   exact nF rfl hg4 rfl<|nF rfl hg4 rfl<|nF rfl hg4 rfl<|nF rfl hg4 rfl<|nX rfl rfl<|nX rfl rfl<|H6 (B8s rfl) rfl<|nF rfl hg4 rfl<|A0 (C8 rfl hg4 rfl) rfl<|ge 9 rfl rfl rfl
  ·refine oB (bf hx8 hg4) fun x7 hx7 hx8=>?_
   obtain rfl:=os hx8
   refine gF rfl hg4<|A0 (B9 rfl) rfl<|gF rfl hg4<|A0 (B2 rfl rfl rfl) rfl<|gF rfl hg4<|A0 (G0 rfl rfl) rfl<|gF rfl hg4<|qm rfl<|gq 4 32 (.b x7) 28 rfl rfl (fun hg5=>?_) (fun hg5=>?_) ?_
   ·refine oB (bt hx7 hg5) fun x6 hx6 hx7=>?_
    obtain rfl:=os hx7
    exact gT rfl hg5<|A0 (B9 rfl) rfl<|gT rfl hg5<|A0 (B2 rfl rfl rfl) rfl<|gT rfl hg5<|B8 (rs:=[.b x6]) rfl rfl (A2 rfl (A2 rfl (A2 rfl B7))) ((I8 hx6).frz)<|gF rfl hg4<|A0 (C8 rfl hg5 rfl) rfl<|ge 4 rfl rfl rfl
   ·obtain rfl:=os (bf hx7 hg5)
    exact nT rfl hg5 rfl<|nT rfl hg5 rfl<|H6 (E0 rfl (by rw [hg5]; rfl)) rfl<|gF rfl hg4<|A0 (C7 rfl hg5 rfl) rfl<|ge 4 rfl rfl rfl
   exact A0 (C7 rfl hg4 rfl) rfl<|ge 6 rfl rfl rfl
  refine qm rfl<|es (ra1 rfl)<|C5 ?_
  obtain rfl:=os h
  exact retq trivial (A6 rfl B6) (A5 rfl B5) (A3 A4 A8)
def A2c (a0:PaShow) (a1:Int) (a2:PaUse):Option Int :=
 if (a2.Gown == (-1)) = true then
  if ((a2.How != 0) || (a2.Day != 0)) = true then
  some 2
  else
  some 0
 else
  (M0 a2.Gown 0 (w64 ((List.length a0.Gowns:Int) - 1))).bind fun x4 =>
  if (!x4) = true then
  some 4
  else
  (idx a0.Gowns a2.Gown).bind fun x6 =>
  (idx a0.Figures a1).bind fun x7 =>
  (A5f x6 a2).bind fun x8 =>
  if (!x8) = true then
   some 2
  else
   (if (((a2.How == 1) && ((decide (a2.Day > x6.Last)) || (decide (a2.Day > x7.Day)))) || ((a2.How == 2) && (decide (x7.Until > x6.Last)))) = true then
   some true
   else
   (A3y x6 x7).bind fun x15 =>
   some (!x15)).bind fun x16 =>
   if x16 = true then
   some 9
   else
   some 0
theorem A7r {c:Sc} {H:A1} {a0:PaShow} {a1:Int} {a2:PaUse} {r:Int} (h:A2c a0 a1 a2 = some r) :
  E1 tab c H (.fn (.func 58) [] []) [(.agg (B1 a0)),.i a1,(.agg (A7 a2))] [.i r]:= by
 unfold A2c at h
 refine cE rfl rfl<|sg 0 rfl<|A0 (E5 (cs:=B1 a0) rfl rfl rfl) rfl<|A0 (E5 (cs:=A7 a2) rfl rfl rfl) rfl<|qm rfl<|es (ra3 rfl rfl rfl)<|C2<|s0<|A0 (B9 rfl) rfl<|A0 (B2 rfl rfl rfl) rfl<|A0 (G0 rfl rfl) rfl<|es (ra4 rfl rfl rfl rfl)<|wi h rfl (fun hc1 h=>?_) fun hc1 h=>?_
 ·refine C2<|s0<|A0 (B9 rfl) rfl<|A0 (B2 rfl rfl rfl) rfl<|A0 (J5 rfl rfl) rfl<|qm rfl<|gp 4 20 (.b ((a2.How != 0) || (a2.Day != 0))) 16 rfl rfl (fun hg2=>?_) (fun hg2=>?_) ?_
  ·exact nF rfl hg2 rfl<|nF rfl hg2 rfl<|nF rfl hg2 rfl<|A0 (C8 rfl hg2 rfl) rfl<|ge 4 (by rw [hg2]; rfl) rfl rfl
  ·exact gF rfl hg2<|A0 (B9 rfl) rfl<|gF rfl hg2<|A0 (B2 rfl rfl rfl) rfl<|gF rfl hg2<|A0 (J5 rfl rfl) rfl<|A0 (C7 rfl hg2 rfl) rfl<|ge 4 (by rw [hg2]; rfl) rfl rfl
  refine es (ra1 rfl)<|wi h rfl (fun hc3 h=>?_) fun hc3 h=>?_
  ·refine s0<|qm rfl<|es (ra1 rfl)<|C5 ?_
   obtain rfl:=os h
   exact retq trivial (A6 rfl B6) (A5 rfl B5) (A3 A4 A8)
  ·refine C3<|s0<|qm rfl<|es (ra1 rfl)<|C5 ?_
   obtain rfl:=os h
   exact retq trivial (A6 rfl B6) (A5 rfl B5) (A3 A4 A8)
 ·refine C3<|C2<|s0<|oB h fun x4 hx4 h=>A0 (B9 rfl) rfl<|A0 (B2 rfl rfl rfl) rfl<|A0 (B9 rfl) rfl<|A0 (B2 rfl rfl rfl) rfl<|A0 (F6 (f:=C1) rfl) rfl<|A0 (T5 rfl rfl) rfl<|B8 (rs:=[.b x4]) rfl rfl (A2 rfl (A2 rfl (A2 rfl B7))) ((I8 hx4).frz)<|A0 (Q8 rfl) rfl<|es (ra4 rfl rfl rfl rfl)<|wi h rfl (fun hc5 h=>?_) fun hc5 h=>?_
  ·refine s0<|qm rfl<|es (ra1 rfl)<|C5 ?_
   obtain rfl:=os h
   exact retq trivial (A6 rfl B6) (A5 rfl B5) (A3 A4 A8)
  ·refine C3<|sg 2 rfl<|oB h fun x6 hx6 h=>oB h fun x7 hx7 h=>A0 (B9 rfl) rfl<|I9 [2,3] (O6 [2,3] rfl G4 rfl rfl) (seen0 rfl) (B2 rfl rfl rfl) rfl<|A0 (B9 rfl) rfl<|I9 [2,3] (O6 [2,3] rfl G4 rfl rfl) (seen0 rfl) (B2 rfl rfl rfl) rfl<|I9 [2,3] (O6 [2,3] rfl G4 rfl rfl) (seen0 rfl) (E9 (f:=C1) rfl rfl hx6) rfl<|I9 [2,3] (O6 [2,3] rfl G4 rfl rfl) (seen0 rfl) (F5 rfl rfl) rfl<|A0 I3 rfl<|A0 I3 rfl<|C2a [0] [(.cells (B1 a0)),(.cells (A7 a2)),(.cells (C1 x6)),(.cells (B3 (PaFigure.mk (ByteArray.mk #[]) 0 0 0)))] (O6 [] rfl (B4m rfl B0w G4) rfl rfl) (seen0 rfl) (E8 (ds:=(C1 x6)) rfl rfl rfl rfl (E2 rfl) rfl) rfl rfl rfl<|A0 (B9 rfl) rfl<|I9 [2,3] (O6 [2,3] rfl G4 rfl rfl) (C2k (b:=H.length + 0) rfl (B4e (A7e _ rfl) B8f)) (B2 rfl rfl rfl) rfl<|qm rfl<|I9 [2,3] (O6 [2,3] rfl G4 rfl rfl) (A95 rfl) (E9 (f:=B3) rfl rfl hx7) rfl<|I9 [2,3] (O6 [2,3] rfl G4 rfl rfl) (A95 rfl) (F5 rfl rfl) rfl<|N9 (E8 (ds:=(B3 x7)) rfl rfl rfl rfl (E2 rfl) rfl) rfl<|es (ra3 rfl rfl rfl)<|C2<|s0<|oB h fun x8 hx8 h=>A0 (D2 rfl rfl rfl) rfl<|A0 (D2 rfl rfl rfl) rfl<|B8 (rs:=[.b x8]) rfl rfl (A2 (D0 rfl) (A2 (D0 rfl) B7)) ((B9c hx8).frz)<|A0 (Q8 rfl) rfl<|es (ra4 rfl rfl rfl rfl)<|wi h rfl (fun hc9 h=>?_) fun hc9 h=>?_
   ·refine s0<|qm rfl<|es (ra1 rfl)<|C5 ?_
    obtain rfl:=os h
    exact retq trivial (A6 rfl B6) (A5 rfl B5) (A3 A4 A8)
   ·refine C3<|s0<|A0 (B9 rfl) rfl<|A0 (B2 rfl rfl rfl) rfl<|A0 (G0 rfl rfl) rfl<|qm rfl<|gp 13 60 (.b ((a2.How == 1) && ((decide (a2.Day > x6.Last)) || (decide (a2.Day > x7.Day))))) 47 rfl rfl (fun hg10=>?_) (fun hg10=>?_) ?_
    ·refine gT rfl hg10<|A0 (B9 rfl) rfl<|gT rfl hg10<|A0 (B2 rfl rfl rfl) rfl<|gT rfl hg10<|A0 (B9 rfl) rfl<|gT rfl hg10<|A0 (B2 rfl rfl rfl) rfl<|gT rfl hg10<|A0 (Y8 rfl rfl) rfl<|gT rfl hg10<|qm rfl<|gq 6 59 (.b ((decide (a2.Day > x6.Last)) || (decide (a2.Day > x7.Day)))) 53 rfl rfl (fun hg11=>?_) (fun hg11=>?_) ?_
     ·exact nF rfl hg11 rfl<|nF rfl hg11 rfl<|nF rfl hg11 rfl<|nF rfl hg11 rfl<|nF rfl hg11 rfl<|gT rfl hg10<|A0 (C8 rfl hg11 rfl) rfl<|ge 6 (by rw [hg11]; rfl) rfl rfl
     ·exact gF rfl hg11<|A0 (B9 rfl) rfl<|gF rfl hg11<|A0 (B2 rfl rfl rfl) rfl<|gF rfl hg11<|A0 (B9 rfl) rfl<|gF rfl hg11<|A0 (B2 rfl rfl rfl) rfl<|gF rfl hg11<|A0 (Y8 rfl rfl) rfl<|gT rfl hg10<|A0 (C7 rfl hg11 rfl) rfl<|ge 6 (by rw [hg11]; rfl) rfl rfl
     exact A0 (C8 rfl hg10 rfl) rfl<|ge 8 (by rw [hg10]; rfl) rfl rfl
    ·exact nT rfl hg10 rfl<|nT rfl hg10 rfl<|nT rfl hg10 rfl<|nT rfl hg10 rfl<|nT rfl hg10 rfl<|nT rfl hg10 rfl<|nX rfl rfl<|nX rfl rfl<|nX rfl rfl<|nX rfl rfl<|nX rfl rfl<|nT rfl hg10 rfl<|A0 (C7 rfl hg10 rfl) rfl<|ge 13 (by rw [hg10]; rfl) rfl rfl
    refine qm rfl<|gp 11 72 (.b (((a2.How == 1) && ((decide (a2.Day > x6.Last)) || (decide (a2.Day > x7.Day)))) || ((a2.How == 2) && (decide (x7.Until > x6.Last))))) 61 rfl rfl (fun hg12=>?_) (fun hg12=>?_) ?_
    ·exact nF rfl hg12 rfl<|nF rfl hg12 rfl<|nF rfl hg12 rfl<|nF rfl hg12 rfl<|nX rfl rfl<|nX rfl rfl<|nX rfl rfl<|nX rfl rfl<|nX rfl rfl<|nF rfl hg12 rfl<|A0 (C8 rfl hg12 rfl) rfl<|ge 11 (by rw [hg12]; rfl) rfl rfl
    ·refine gF rfl hg12<|A0 (B9 rfl) rfl<|gF rfl hg12<|A0 (B2 rfl rfl rfl) rfl<|gF rfl hg12<|A0 (G0 rfl rfl) rfl<|gF rfl hg12<|qm rfl<|gq 6 71 (.b ((a2.How == 2) && (decide (x7.Until > x6.Last)))) 65 rfl rfl (fun hg13=>?_) (fun hg13=>?_) ?_
     ·exact gT rfl hg13<|A0 (B9 rfl) rfl<|gT rfl hg13<|A0 (B2 rfl rfl rfl) rfl<|gT rfl hg13<|A0 (B9 rfl) rfl<|gT rfl hg13<|A0 (B2 rfl rfl rfl) rfl<|gT rfl hg13<|A0 (Y8 rfl rfl) rfl<|gF rfl hg12<|A0 (C8 rfl hg13 rfl) rfl<|ge 6 (by rw [hg13]; rfl) rfl rfl
     ·exact nT rfl hg13 rfl<|nT rfl hg13 rfl<|nT rfl hg13 rfl<|nT rfl hg13 rfl<|nT rfl hg13 rfl<|gF rfl hg12<|A0 (C7 rfl hg13 rfl) rfl<|ge 6 (by rw [hg13]; rfl) rfl rfl
     exact A0 (C7 rfl hg12 rfl) rfl<|ge 6 (by rw [hg12]; rfl) rfl rfl
    refine qm rfl<|es (ra3 rfl rfl rfl)<|C2<|s0<|oB h fun x16 hx16 h=>qm rfl<|qm rfl<|gp 5 79 (.b x16) 74 rfl rfl (fun hg14=>?_) (fun hg14=>?_) ?_
    ·obtain rfl:=os (bt hx16 hg14)
     exact nF rfl hg14 rfl<|nF rfl hg14 rfl<|H6 (E0 rfl (by rw [hg14]; rfl)) rfl<|nF rfl hg14 rfl<|A0 (C8 rfl hg14 rfl) rfl<|ge 5 rfl rfl rfl
    ·refine oB (bf hx16 hg14) fun x15 hx15 hx16=>?_
     obtain rfl:=os hx16
     exact gF rfl hg14<|A0 (D2 rfl rfl rfl) rfl<|gF rfl hg14<|A0 (D2 rfl rfl rfl) rfl<|gF rfl hg14<|B8 (rs:=[.b x15]) rfl rfl (A2 (D0 rfl) (A2 (D0 rfl) B7)) ((B7s hx15).frz)<|gF rfl hg14<|A0 (Q8 rfl) rfl<|A0 (C7 rfl hg14 rfl) rfl<|ge 5 rfl rfl rfl
    refine es (ra1 rfl)<|wi h rfl (fun hc17 h=>?_) fun hc17 h=>?_
    ·refine s0<|qm rfl<|es (ra1 rfl)<|C5 ?_
     obtain rfl:=os h
     exact retq trivial (A6 rfl B6) (A5 rfl B5) (A3 A4 A8)
    ·refine C3<|s0<|qm rfl<|es (ra1 rfl)<|C5 ?_
     obtain rfl:=os h
     exact retq trivial (A6 rfl B6) (A5 rfl B5) (A3 A4 A8)
def A2b (a0:PaGown) (a1:Int):Option Int :=
 some (w64 (a0.Loan + (w64 (a0.Rate * (w64 ((w64 (Int.tdiv (w64 (a0.Ago + a1)) 30)) + 1))))))
theorem A8x {c:Sc} {H:A1} {a0:PaGown} {a1:Int} {r:Int} (h:A2b a0 a1 = some r) :
  E1 tab c H (.fn (.func 54) [] []) [(.agg (C1 a0)),.i a1] [.i r]:= by
 unfold A2b at h
 refine cE rfl rfl<|sg 0 rfl<|A0 (E5 (cs:=C1 a0) rfl rfl rfl) rfl<|qm rfl<|es (ra2 rfl rfl)<|s0<|A0 (B9 rfl) rfl<|A0 (B2 rfl rfl rfl) rfl<|A0 (B9 rfl) rfl<|A0 (B2 rfl rfl rfl) rfl<|A0 (B9 rfl) rfl<|A0 (B2 rfl rfl rfl) rfl<|qm rfl<|A0 (F2 rfl rfl) rfl<|A0 (O8 (v:=(.i (w64 (Int.tdiv (w64 (a0.Ago + a1)) 30)))) rfl rfl rfl) rfl<|A0 (F2 rfl rfl) rfl<|A0 (B0b rfl rfl) rfl<|A0 (F2 rfl rfl) rfl<|qm rfl<|es (ra1 rfl)<|C5 ?_
 obtain rfl:=os h
 exact retq trivial (A6 rfl B6) (A5 rfl B5) (A3 A4 A8)
def A61 (a0:PaGown) (a1:PaFigure):Option Int :=
 some (w64 (a0.Fee * (w64 ((w64 (a1.Until - a1.Day)) + 1))))
theorem B2j {c:Sc} {H:A1} {a0:PaGown} {a1:PaFigure} {r:Int} (h:A61 a0 a1 = some r) :
  E1 tab c H (.fn (.func 56) [] []) [(.agg (C1 a0)),(.agg (B3 a1))] [.i r]:= by
 unfold A61 at h
 refine cE rfl rfl<|sg 0 rfl<|A0 (E5 (cs:=C1 a0) rfl rfl rfl) rfl<|A0 (E5 (cs:=B3 a1) rfl rfl rfl) rfl<|qm rfl<|es (ra2 rfl rfl)<|s0<|A0 (B9 rfl) rfl<|A0 (B2 rfl rfl rfl) rfl<|A0 (B9 rfl) rfl<|A0 (B2 rfl rfl rfl) rfl<|A0 (B9 rfl) rfl<|A0 (B2 rfl rfl rfl) rfl<|A0 (T5 rfl rfl) rfl<|A0 (F2 rfl rfl) rfl<|A0 (B0b rfl rfl) rfl<|qm rfl<|es (ra1 rfl)<|C5 ?_
 obtain rfl:=os h
 exact retq trivial (A6 rfl B6) (A5 rfl B5) (A3 A4 A8)
def A1g (a0:PaShow) (a1:Int) (x1:(Int × (List Int))) (s6:(Int × (List Int))) (s9:Int):Option (Int ⊕ ((List Int) ⊕ Unit)) :=
 if (decide (s9 < 3)) = true then
  (U9 (pawn_show.mk a0 (Ar3.mk (pawn_way.mk ) (pawn_way.mk ) (pawn_way.mk )) x1.2) a1 (PaUse.mk s6.1 s9 0)).bind fun x12 =>
  if (x12 == 0) = true then
  (app 8 s6.2 [s6.1]).bind fun x14 =>
  some (.inr (.inl x14))
  else
  some (.inl (w64 (s9 + 1)))
 else
  some (.inr (.inr ()))
def A3p (a0:PaShow) (a1:Int) (x1:(Int × (List Int))) (s6:(Int × (List Int))):Option ((Int × (List Int)) ⊕ (List Int)) :=
 if (decide (s6.1 < (List.length a0.Gowns:Int))) = true then
  (loop (A1g a0 a1 x1 s6) 0).bind fun (o15:((List Int) ⊕ Unit)) =>
  match o15 with
  | (.inl vo15_0) =>
  some (.inl ((w64 (s6.1 + 1)),vo15_0))
  | (.inr vo15_1) =>
  some (.inl ((w64 (s6.1 + 1)),s6.2))
 else
  some (.inr s6.2)
def A3b (a0:PaShow) (a1:Int):Option ((List Int) × Int) :=
 (A1u a0).bind fun x1 =>
 if (x1.1 == 0) = true then
  (E3 0 (w64 ((List.length a0.Figures:Int) - 1)) [a1]).bind fun x4 =>
  if x4 = true then
  some (([]:List Int),4)
  else
  (loop (A3p a0 a1 x1) (0,([]:List Int))).bind fun (o16:(List Int)) =>
  some (o16,0)
 else
  some (([]:List Int),x1.1)
theorem B0k {c:Sc} {H:A1} {a0:PaShow} {a1:Int} {r:((List Int) × Int)} (h:A3b a0 a1 = some r) :
  E1 tab c H (.fn (.func 16) [] []) [(.agg (B1 a0)),.i a1] [(.fresh 1 (List.map cI r.1)),.i r.2]:= by
 unfold A3b at h
 refine cE rfl rfl<|sg 0 rfl<|A0 (E5 (cs:=B1 a0) rfl rfl rfl) rfl<|A0 A5w rfl<|qm rfl<|es (ra3 rfl rfl rfl)<|C8i<|s0<|oB h fun x1 hx1 h=>A0 (D2 rfl rfl rfl) rfl ?_
 by_cases hc2:(x1.1 == 0) = true
 ·rw [if_pos hc2] at h
  obtain ⟨X3,hX3⟩:=A15 hx1 hc2
  refine O4 (A3o hX3 rfl rfl (A2 (D0 rfl) B7) rfl) rfl<|qm rfl<|A0 (A9 rfl rfl) rfl<|A0 (A9 rfl rfl) rfl<|qm rfl<|qm rfl<|es (ra5 rfl rfl rfl rfl rfl)<|C2<|C6<|s0<|qm rfl<|A0 (O8 (v:=(.b false)) rfl rfl rfl) rfl<|qm rfl<|es (ra6 rfl rfl rfl rfl rfl rfl)<|P7 rfl rfl<|s0<|oB h fun x4 hx4 h=>A0 (B9 rfl) rfl<|A0 (B2 rfl rfl rfl) rfl<|A0 (F6 (f:=B3) rfl) rfl<|A0 (T5 rfl rfl) rfl<|qm rfl<|A0 (J4 (rows:=List.map cI [a1]) rfl rfl (E4 (fun _=>rfl) _)) rfl<|B8 (rs:=[.b x4]) rfl rfl (A2 rfl (A2 rfl (A2 rfl B7))) ((F1 hx4).frz)<|qm rfl<|es (ra5 rfl rfl rfl rfl rfl)<|wi h rfl (fun hc5 h=>?_) fun hc5 h=>?_
  ·refine sg 5 rfl<|A0 A5w rfl<|qm rfl<|es (ra2 rfl rfl)<|C5 ?_
   obtain rfl:=os h
   exact retq trivial (A6 rfl (A6 rfl B6)) (A5 (A49 rfl (List.length_map _)) (A5 rfl B5)) (A3 X7 (A3 A4 A8))
  ·refine C3<|C2<|C3<|C2<|s0<|A0 (B9 rfl) rfl<|A0 (B2 rfl rfl rfl) rfl<|A0 (F6 (f:=C1) rfl) rfl<|qm rfl<|es (ra5 rfl rfl rfl rfl rfl)<|C6<|oB h fun o16 ho16 h=>wl (fun s6=>[(1,.i a1),(4,(.asl (H.length + 1) (List.length s6.2))),(6,(.ptr (H.length + 4) 0)),(28,(.i (List.length a0.Gowns:Int))),(29,.i s6.1)]) (fun (q7:Unit) s6=>[(.cells (B1 a0)),(.arr 1 false (List.map cI s6.2)),(.cells (B1 a0)),X3,(.cells [(.seq 8 (List.map C1 a0.Gowns)),(.seq 4 (List.map B3 a0.Figures)),.i a0.Purse,(.seq 2 (List.map D1 a0.Incomes)),(.fn (.func 90) [] []),(.fn (.func 91) [] []),(.fn (.func 92) [] []),(.fn (.func 52) [] []),(.fn (.func 93) [] []),(.fn (.func 94) [] []),(.fn (.func 55) [] []),(.fn (.func 95) [] []),(.fn (.func 96) [] []),(.seq 1 (List.map cI x1.2))])]) 5 (fun r e s' H'=>PX 1 [(4,(.asl (H.length + 1) (List.length r)))] (H++[(.cells (B1 a0)),(.arr 1 false (List.map cI r)),(.cells (B1 a0)),X3,(.cells [(.seq 8 (List.map C1 a0.Gowns)),(.seq 4 (List.map B3 a0.Figures)),.i a0.Purse,(.seq 2 (List.map D1 a0.Incomes)),(.fn (.func 90) [] []),(.fn (.func 91) [] []),(.fn (.func 92) [] []),(.fn (.func 52) [] []),(.fn (.func 93) [] []),(.fn (.func 94) [] []),(.fn (.func 55) [] []),(.fn (.func 95) [] []),(.fn (.func 96) [] []),(.seq 1 (List.map cI x1.2))])]) e s' H') () ho16 rfl rfl (fun _ _=>rfl) (fun _=>rfl) rfl (fun s6=>(bdc A4 (bdc (A05 rfl) (bdc (K8 rfl) (bdc A4 (bdc A4 bdn)))))) (fun q7 s6 ys6 hs6=>?_) ?_
   ·unfold A3p at hs6
    refine s0<|A0 (I0 rfl rfl) rfl<|es (ra6 rfl rfl rfl rfl rfl rfl)<|C2<|wi hs6 rfl (fun hc8 hs6=>?_) fun hc8 hs6=>?_
    ·refine C3<|C2<|C6<|s0<|qm rfl<|qm rfl<|es (ra6 rfl rfl rfl rfl rfl rfl)<|s0<|qm rfl<|es (ra7 rfl rfl rfl rfl rfl rfl rfl)<|C6<|oB hs6 fun o15 ho15 hs6=>wl (fun s9=>[(1,.i a1),(4,(.asl (H.length + 1) (List.length s6.2))),(6,(.ptr (H.length + 4) 0)),(7,.i s6.1),(28,(.i (List.length a0.Gowns:Int))),(29,.i s6.1),(32,.i s9)]) (fun (q10:Unit) s9=>[(.cells (B1 a0)),(.arr 1 false (List.map cI s6.2)),(.cells (B1 a0)),X3,(.cells [(.seq 8 (List.map C1 a0.Gowns)),(.seq 4 (List.map B3 a0.Figures)),.i a0.Purse,(.seq 2 (List.map D1 a0.Incomes)),(.fn (.func 90) [] []),(.fn (.func 91) [] []),(.fn (.func 92) [] []),(.fn (.func 52) [] []),(.fn (.func 93) [] []),(.fn (.func 94) [] []),(.fn (.func 55) [] []),(.fn (.func 95) [] []),(.fn (.func 96) [] []),(.seq 1 (List.map cI x1.2))])]) 5 (fun r e s' H'=>(match r with | (.inl v)=>PX 2 [(1,.i a1),(4,(.asl (H.length + 1) (List.length v))),(6,(.ptr (H.length + 4) 0)),(28,(.i (List.length a0.Gowns:Int))),(29,.i s6.1)] (H++[(.cells (B1 a0)),(.arr 1 false (List.map cI v)),(.cells (B1 a0)),X3,(.cells [(.seq 8 (List.map C1 a0.Gowns)),(.seq 4 (List.map B3 a0.Figures)),.i a0.Purse,(.seq 2 (List.map D1 a0.Incomes)),(.fn (.func 90) [] []),(.fn (.func 91) [] []),(.fn (.func 92) [] []),(.fn (.func 52) [] []),(.fn (.func 93) [] []),(.fn (.func 94) [] []),(.fn (.func 55) [] []),(.fn (.func 95) [] []),(.fn (.func 96) [] []),(.seq 1 (List.map cI x1.2))])]) e s' H' | (.inr v)=>PX 3 [(1,.i a1),(4,(.asl (H.length + 1) (List.length s6.2))),(6,(.ptr (H.length + 4) 0)),(28,(.i (List.length a0.Gowns:Int))),(29,.i s6.1)] (H++[(.cells (B1 a0)),(.arr 1 false (List.map cI s6.2)),(.cells (B1 a0)),X3,(.cells [(.seq 8 (List.map C1 a0.Gowns)),(.seq 4 (List.map B3 a0.Figures)),.i a0.Purse,(.seq 2 (List.map D1 a0.Incomes)),(.fn (.func 90) [] []),(.fn (.func 91) [] []),(.fn (.func 92) [] []),(.fn (.func 52) [] []),(.fn (.func 93) [] []),(.fn (.func 94) [] []),(.fn (.func 55) [] []),(.fn (.func 95) [] []),(.fn (.func 96) [] []),(.seq 1 (List.map cI x1.2))])]) e s' H':Prop)) () ho15 rfl rfl (fun _ _=>rfl) (fun _=>rfl) rfl (fun s9=>(bdc A4 (bdc (A05 rfl) (bdc (K8 rfl) (bdc A4 (bdc A4 (bdc A4 (bdc A4 bdn)))))))) (fun q10 s9 ys9 hs9=>?_) ?_
     ·unfold A1g at hs9
      refine s0<|A0 (I0 rfl rfl) rfl<|es (ra8 rfl rfl rfl rfl rfl rfl rfl rfl)<|C2<|wi hs9 rfl (fun hc11 hs9=>?_) fun hc11 hs9=>?_
      ·refine C3<|C2<|C6<|s0<|qm rfl<|qm rfl<|es (ra8 rfl rfl rfl rfl rfl rfl rfl rfl)<|s0<|oB hs9 fun x12 hx12 hs9=>qm rfl<|qm rfl<|qm rfl<|qm rfl<|A0 (Q4 (cs:=A7 (PaUse.mk s6.1 s9 0)) rfl rfl) rfl<|B8 (rs:=[.i x12]) rfl rfl (A2 rfl (A2 rfl (A2 (D0 rfl) B7))) ((A29 (D8 rfl) hx12).frz)<|A0 (G0 rfl rfl) rfl<|es (ra8 rfl rfl rfl rfl rfl rfl rfl rfl)<|wi hs9 rfl (fun hc13 hs9=>?_) fun hc13 hs9=>?_
       ·refine s0<|oB hs9 fun x14 hx14 hs9=>qm rfl<|qm rfl<|A0 (J4 (rows:=List.map cI [s6.1]) rfl rfl (E4 (fun _=>rfl) _)) rfl<|O4 (A44 (f:=cI) rfl rfl rfl rfl A5b (fun _=>rfl) hx14) rfl<|qm rfl<|es (ra5 rfl rfl rfl rfl rfl)<|G6 ?_
        obtain rfl:=os hs9
        exact lx rfl px (su5 rfl rfl rfl rfl rfl)
       ·refine C3<|r0<|A0 (F2 rfl rfl) rfl<|qm rfl<|en (ra7 rfl rfl rfl rfl rfl rfl rfl) ?_
        cases hs9
        exact lnT () rfl (su7 rfl rfl rfl rfl rfl rfl rfl)
      ·refine G6 ?_
       obtain rfl:=os hs9
       exact lx rfl px (su5 rfl rfl rfl rfl rfl)
     ·rcases o15 with vo15_0 | vo15_1
      ·rintro e s' H' - ⟨rfl,rfl,rfl⟩
       refine r0<|A0 (F2 rfl rfl) rfl<|qm rfl<|en (ra5 rfl rfl rfl rfl rfl) ?_
       cases hs6
       exact lnT () rfl (su5 rfl rfl rfl rfl rfl)
      ·rintro e s' H' - ⟨rfl,rfl,rfl⟩
       refine r0<|A0 (F2 rfl rfl) rfl<|qm rfl<|en (ra5 rfl rfl rfl rfl rfl) ?_
       cases hs6
       exact lnT () rfl (su5 rfl rfl rfl rfl rfl)
    ·refine G6 ?_
     obtain rfl:=os hs6
     exact lx rfl px (su1 rfl)
   ·rintro e s' H' - ⟨rfl,rfl,rfl⟩
    refine s0<|qm rfl<|qm rfl<|qm rfl<|es (ra2 rfl rfl)<|C5 ?_
    obtain rfl:=os h
    exact retq trivial (A6 rfl (A6 rfl B6)) (A5 (A49 rfl (List.length_map _)) (A5 rfl B5)) (A3 X7 (A3 A4 A8))
 ·rw [if_neg hc2] at h
  refine O4 (Q5 (rs:=[.lit (.pointer none),.i x1.1]) rfl rfl (A2 (D0 rfl) B7) (A20 hx1 (by simpa using hc2)) rfl) rfl<|qm rfl<|A0 (A9 rfl rfl) rfl<|A0 (A9 rfl rfl) rfl<|qm rfl<|qm rfl<|es (ra5 rfl rfl rfl rfl rfl)<|C2<|C6<|s0<|qm rfl<|A0 (J5 rfl rfl) rfl<|qm rfl<|es (ra6 rfl rfl rfl rfl rfl rfl)<|N6 rfl (nef hc2)<|sg 2 rfl<|qm rfl<|A0 A5w rfl<|qm rfl<|es (ra2 rfl rfl)<|C5 ?_
  obtain rfl:=os h
  exact retq trivial (A6 rfl (A6 rfl B6)) (A5 (A49 rfl (List.length_map _)) (A5 rfl B5)) (A3 X7 (A3 A4 A8))
def A1h (a0:(List Int)) (a1:(List Int)) (s1:(Bool × Int)):Option ((Bool × Int) ⊕ Bool) :=
 if (s1.1 && (decide (s1.2 < (List.length a0:Int)))) = true then
  (idx a0 s1.2).bind fun x5 =>
  (idx a1 s1.2).bind fun x6 =>
  some (.inl ((x5 == x6),(w64 (s1.2 + 1))))
 else
  some (.inr s1.1)
def X4 (a0:(List Int)) (a1:(List Int)):Option Bool :=
 (loop (A1h a0 a1) (((List.length a0:Int) == (List.length a1:Int)),0)).bind fun (o7:Bool) =>
 some o7
theorem A1c {c:Sc} {H:A1} {a0:(List Int)} {a1:(List Int)} {r:Bool} (h:X4 a0 a1 = some r) :
  E1 tab c H (.fn (.func 18) [] []) [(.seq 1 (List.map cI a0)),(.seq 1 (List.map cI a1))] [.b r]:= by
 unfold X4 at h
 refine cE rfl rfl<|s0<|qm rfl<|es (ra2 rfl rfl)<|s0<|qm rfl<|A0 (F6 (f:=cI) rfl) rfl<|qm rfl<|A0 (F6 (f:=cI) rfl) rfl<|A0 (G0 rfl rfl) rfl<|qm rfl<|es (ra3 rfl rfl rfl)<|C2<|s0<|qm rfl<|es (ra4 rfl rfl rfl rfl)<|C6<|oB h fun o7 ho7 h=>wl (fun s1=>[(0,(.seq 1 (List.map cI a0))),(1,(.seq 1 (List.map cI a1))),(5,.b s1.1),(6,.i s1.2)]) (fun (q2:Unit) s1=>[]) 0 (fun r e s' H'=>PX 0 [(5,.b r)] (H++[]) e s' H') () ho7 rfl rfl (fun _ _=>rfl) (fun _=>rfl) rfl (fun s1=>(bdc K0 (bdc K0 (bdc A4 (bdc A4 bdn))))) (fun q2 s1 ys1 hs1=>?_) ?_
 ·unfold A1h at hs1
  refine C2<|s0<|qm rfl<|qm rfl<|gp 5 18 (.b (s1.1 && (decide (s1.2 < (List.length a0:Int))))) 13 rfl rfl (fun hg3=>?_) (fun hg3=>?_) ?_
  ·exact gT rfl hg3<|qm rfl<|gT rfl hg3<|qm rfl<|gT rfl hg3<|A0 (F6 (f:=cI) rfl) rfl<|gT rfl hg3<|A0 (I0 rfl rfl) rfl<|A0 (C8 rfl hg3 rfl) rfl<|ge 5 (by rw [hg3]; rfl) rfl rfl
  ·exact nT rfl hg3 rfl<|nT rfl hg3 rfl<|nT rfl hg3 rfl<|nT rfl hg3 rfl<|A0 (C7 rfl hg3 rfl) rfl<|ge 5 (by rw [hg3]; rfl) rfl rfl
  refine es (ra5 rfl rfl rfl rfl rfl)<|wi hs1 rfl (fun hc4 hs1=>?_) fun hc4 hs1=>?_
  ·refine C3<|C2<|C6<|r0<|oB hs1 fun x5 hx5 hs1=>oB hs1 fun x6 hx6 hs1=>qm rfl<|qm rfl<|A0 (E9 (f:=cI) rfl rfl hx5) rfl<|A0 (L2 rfl rfl) rfl<|qm rfl<|qm rfl<|A0 (E9 (f:=cI) rfl rfl hx6) rfl<|A0 (L2 rfl rfl) rfl<|A0 (G0 rfl rfl) rfl<|qm rfl<|en (ra4 rfl rfl rfl rfl)<|r0<|qm rfl<|A0 (F2 rfl rfl) rfl<|qm rfl<|en (ra4 rfl rfl rfl rfl) ?_
   cases hs1
   exact lnT () rfl (su4 rfl rfl rfl rfl)
  ·refine G6 ?_
   obtain rfl:=os hs1
   exact lx rfl px (su1 rfl)
 ·rintro e s' H' - ⟨rfl,rfl,rfl⟩
  refine s0<|qm rfl<|qm rfl<|es (ra1 rfl)<|C5 ?_
  obtain rfl:=os h
  exact retq trivial (A6 rfl B6) (A5 rfl B5) (A3 A4 A8)
def Q2 (a0:Int) (a1:Int) (a2:Int):Option PaUse :=
 some (PaUse.mk a0 a1 a2)
theorem T9 {c:Sc} {H:A1} {a0:Int} {a1:Int} {a2:Int} {r:PaUse} (h:Q2 a0 a1 a2 = some r) :
  E1 tab c H (.fn (.func 61) [] []) [.i a0,.i a1,.i a2] [(.agg (A7 r))]:= by
 unfold Q2 at h
 refine cE rfl rfl<|sg 0 rfl<|A0 I3 rfl<|es (ra4 rfl rfl rfl rfl)<|s0<|qm rfl<|qm rfl<|qm rfl<|A0 (Q4 (cs:=A7 (PaUse.mk a0 a1 a2)) rfl rfl) rfl<|N9 (E8 (ds:=(A7 (PaUse.mk a0 a1 a2))) rfl rfl rfl rfl (E2 rfl) rfl) rfl<|es (ra1 rfl)<|C5 ?_
 obtain rfl:=os h
 exact retq trivial (A93 (A3m (ds:=A7 (PaUse.mk a0 a1 a2)) rfl rfl rfl rfl) B6) (A5 (B32 rfl) B5) (A3 (B3b rfl) A8)
def A24 :Option (List PaUse) :=
 (Q2 0 1 0).bind fun x1 =>
 (Q2 1 0 0).bind fun x2 =>
 (Q2 2 2 0).bind fun x3 =>
 some [x1,x2,x3]
theorem A3n {c:Sc} {H:A1}  {r:(List PaUse)} (h:A24  = some r) :
  E1 tab c H (.fn (.func 60) [] []) [] [(.seq 3 (List.map A7 r))]:= by
 unfold A24 at h
 refine cE rfl rfl<|s0<|qm rfl<|es .n<|s0<|oB h fun x1 hx1 h=>oB h fun x2 hx2 h=>oB h fun x3 hx3 h=>B8 (rs:=[(.agg (A7 x1))]) rfl rfl (A2 rfl (A2 rfl (A2 rfl B7))) ((T9 hx1).frz)<|B8 (rs:=[(.agg (A7 x2))]) rfl rfl (A2 rfl (A2 rfl (A2 rfl B7))) ((T9 hx2).frz)<|B8 (rs:=[(.agg (A7 x3))]) rfl rfl (A2 rfl (A2 rfl (A2 rfl B7))) ((T9 hx3).frz)<|A0 (J4 (rows:=List.map A7 [x1,x2,x3]) rfl rfl (E4 (fun _=>rfl) _)) rfl<|qm rfl<|es (ra1 rfl)<|C5 ?_
 obtain rfl:=os h
 exact retq trivial (A6 rfl B6) (A5 rfl B5) (A3 K0 A8)
def A7o (a0:Bool):Option PaShow :=
 if a0 = true then
  some (PaShow.mk ((PaShow.mk [(PaGown.mk (ByteArray.mk #[114,101,100]) 3 true 90 10 3 20 100),(PaGown.mk (ByteArray.mk #[98,108,117,101]) 1 false 0 0 0 0 0),(PaGown.mk (ByteArray.mk #[103,111,108,100]) 7 true 120 5 8 0 60)] [(PaFigure.mk (ByteArray.mk #[113,117,101,101,110]) 50 59 2),(PaFigure.mk (ByteArray.mk #[98,105,115,104,111,112]) 20 80 1),(PaFigure.mk (ByteArray.mk #[108,97,100,121]) 45 50 4)] 100 [(PaIncome.mk 40 150)]).Gowns) ((PaShow.mk [(PaGown.mk (ByteArray.mk #[114,101,100]) 3 true 90 10 3 20 100),(PaGown.mk (ByteArray.mk #[98,108,117,101]) 1 false 0 0 0 0 0),(PaGown.mk (ByteArray.mk #[103,111,108,100]) 7 true 120 5 8 0 60)] [(PaFigure.mk (ByteArray.mk #[113,117,101,101,110]) 50 59 2),(PaFigure.mk (ByteArray.mk #[98,105,115,104,111,112]) 20 80 1),(PaFigure.mk (ByteArray.mk #[108,97,100,121]) 45 50 4)] 100 [(PaIncome.mk 40 150)]).Figures) 20 ([]:List PaIncome))
 else
  some (PaShow.mk [(PaGown.mk (ByteArray.mk #[114,101,100]) 3 true 90 10 3 20 100),(PaGown.mk (ByteArray.mk #[98,108,117,101]) 1 false 0 0 0 0 0),(PaGown.mk (ByteArray.mk #[103,111,108,100]) 7 true 120 5 8 0 60)] [(PaFigure.mk (ByteArray.mk #[113,117,101,101,110]) 50 59 2),(PaFigure.mk (ByteArray.mk #[98,105,115,104,111,112]) 20 80 1),(PaFigure.mk (ByteArray.mk #[108,97,100,121]) 45 50 4)] 100 [(PaIncome.mk 40 150)])
theorem B0i {c:Sc} {H:A1} {a0:Bool} {r:PaShow} (h:A7o a0 = some r) :
  E1 tab c H (.fn (.func 59) [] []) [.b a0] [(.agg (B1 r))]:= by
 unfold A7o at h
 refine cE rfl rfl<|sg 0 rfl<|A0 I3 rfl<|es (ra2 rfl rfl)<|sg 1 rfl<|A0 (Q4 (cs:=C1 (PaGown.mk (ByteArray.mk #[114,101,100]) 3 true 90 10 3 20 100)) rfl rfl) rfl<|A0 (Q4 (cs:=C1 (PaGown.mk (ByteArray.mk #[98,108,117,101]) 1 false 0 0 0 0 0)) rfl rfl) rfl<|A0 (Q4 (cs:=C1 (PaGown.mk (ByteArray.mk #[103,111,108,100]) 7 true 120 5 8 0 60)) rfl rfl) rfl<|A0 (J4 (rows:=List.map C1 [(PaGown.mk (ByteArray.mk #[114,101,100]) 3 true 90 10 3 20 100),(PaGown.mk (ByteArray.mk #[98,108,117,101]) 1 false 0 0 0 0 0),(PaGown.mk (ByteArray.mk #[103,111,108,100]) 7 true 120 5 8 0 60)]) rfl rfl (E4 (fun _=>rfl) _)) rfl<|A0 (Q4 (cs:=B3 (PaFigure.mk (ByteArray.mk #[113,117,101,101,110]) 50 59 2)) rfl rfl) rfl<|A0 (Q4 (cs:=B3 (PaFigure.mk (ByteArray.mk #[98,105,115,104,111,112]) 20 80 1)) rfl rfl) rfl<|A0 (Q4 (cs:=B3 (PaFigure.mk (ByteArray.mk #[108,97,100,121]) 45 50 4)) rfl rfl) rfl<|A0 (J4 (rows:=List.map B3 [(PaFigure.mk (ByteArray.mk #[113,117,101,101,110]) 50 59 2),(PaFigure.mk (ByteArray.mk #[98,105,115,104,111,112]) 20 80 1),(PaFigure.mk (ByteArray.mk #[108,97,100,121]) 45 50 4)]) rfl rfl (E4 (fun _=>rfl) _)) rfl<|A0 (Q4 (cs:=D1 (PaIncome.mk 40 150)) rfl rfl) rfl<|A0 (J4 (rows:=List.map D1 [(PaIncome.mk 40 150)]) rfl rfl (E4 (fun _=>rfl) _)) rfl<|A0 (Q4 (cs:=B1 (PaShow.mk [(PaGown.mk (ByteArray.mk #[114,101,100]) 3 true 90 10 3 20 100),(PaGown.mk (ByteArray.mk #[98,108,117,101]) 1 false 0 0 0 0 0),(PaGown.mk (ByteArray.mk #[103,111,108,100]) 7 true 120 5 8 0 60)] [(PaFigure.mk (ByteArray.mk #[113,117,101,101,110]) 50 59 2),(PaFigure.mk (ByteArray.mk #[98,105,115,104,111,112]) 20 80 1),(PaFigure.mk (ByteArray.mk #[108,97,100,121]) 45 50 4)] 100 [(PaIncome.mk 40 150)])) rfl rfl) rfl<|A0 I3 rfl<|N9 (E8 (ds:=(B1 (PaShow.mk [(PaGown.mk (ByteArray.mk #[114,101,100]) 3 true 90 10 3 20 100),(PaGown.mk (ByteArray.mk #[98,108,117,101]) 1 false 0 0 0 0 0),(PaGown.mk (ByteArray.mk #[103,111,108,100]) 7 true 120 5 8 0 60)] [(PaFigure.mk (ByteArray.mk #[113,117,101,101,110]) 50 59 2),(PaFigure.mk (ByteArray.mk #[98,105,115,104,111,112]) 20 80 1),(PaFigure.mk (ByteArray.mk #[108,97,100,121]) 45 50 4)] 100 [(PaIncome.mk 40 150)]))) rfl rfl rfl rfl (E2 rfl) rfl) rfl<|es (ra3 rfl rfl rfl)<|C2<|s0<|qm rfl<|es (ra3 rfl rfl rfl)<|wi h rfl (fun hc1 h=>?_) fun hc1 h=>?_
 ·refine r0<|A0 (B9 rfl) rfl<|N9 (E8 (ds:=(B1 (PaShow.mk ((PaShow.mk [(PaGown.mk (ByteArray.mk #[114,101,100]) 3 true 90 10 3 20 100),(PaGown.mk (ByteArray.mk #[98,108,117,101]) 1 false 0 0 0 0 0),(PaGown.mk (ByteArray.mk #[103,111,108,100]) 7 true 120 5 8 0 60)] [(PaFigure.mk (ByteArray.mk #[113,117,101,101,110]) 50 59 2),(PaFigure.mk (ByteArray.mk #[98,105,115,104,111,112]) 20 80 1),(PaFigure.mk (ByteArray.mk #[108,97,100,121]) 45 50 4)] 100 [(PaIncome.mk 40 150)]).Gowns) ((PaShow.mk [(PaGown.mk (ByteArray.mk #[114,101,100]) 3 true 90 10 3 20 100),(PaGown.mk (ByteArray.mk #[98,108,117,101]) 1 false 0 0 0 0 0),(PaGown.mk (ByteArray.mk #[103,111,108,100]) 7 true 120 5 8 0 60)] [(PaFigure.mk (ByteArray.mk #[113,117,101,101,110]) 50 59 2),(PaFigure.mk (ByteArray.mk #[98,105,115,104,111,112]) 20 80 1),(PaFigure.mk (ByteArray.mk #[108,97,100,121]) 45 50 4)] 100 [(PaIncome.mk 40 150)]).Figures) 20 ((PaShow.mk [(PaGown.mk (ByteArray.mk #[114,101,100]) 3 true 90 10 3 20 100),(PaGown.mk (ByteArray.mk #[98,108,117,101]) 1 false 0 0 0 0 0),(PaGown.mk (ByteArray.mk #[103,111,108,100]) 7 true 120 5 8 0 60)] [(PaFigure.mk (ByteArray.mk #[113,117,101,101,110]) 50 59 2),(PaFigure.mk (ByteArray.mk #[98,105,115,104,111,112]) 20 80 1),(PaFigure.mk (ByteArray.mk #[108,97,100,121]) 45 50 4)] 100 [(PaIncome.mk 40 150)]).Incomes)))) rfl rfl rfl rfl (E2 rfl) rfl) rfl<|A0 (B9 rfl) rfl<|N9 (E8 (ds:=(B1 (PaShow.mk ((PaShow.mk [(PaGown.mk (ByteArray.mk #[114,101,100]) 3 true 90 10 3 20 100),(PaGown.mk (ByteArray.mk #[98,108,117,101]) 1 false 0 0 0 0 0),(PaGown.mk (ByteArray.mk #[103,111,108,100]) 7 true 120 5 8 0 60)] [(PaFigure.mk (ByteArray.mk #[113,117,101,101,110]) 50 59 2),(PaFigure.mk (ByteArray.mk #[98,105,115,104,111,112]) 20 80 1),(PaFigure.mk (ByteArray.mk #[108,97,100,121]) 45 50 4)] 100 [(PaIncome.mk 40 150)]).Gowns) ((PaShow.mk [(PaGown.mk (ByteArray.mk #[114,101,100]) 3 true 90 10 3 20 100),(PaGown.mk (ByteArray.mk #[98,108,117,101]) 1 false 0 0 0 0 0),(PaGown.mk (ByteArray.mk #[103,111,108,100]) 7 true 120 5 8 0 60)] [(PaFigure.mk (ByteArray.mk #[113,117,101,101,110]) 50 59 2),(PaFigure.mk (ByteArray.mk #[98,105,115,104,111,112]) 20 80 1),(PaFigure.mk (ByteArray.mk #[108,97,100,121]) 45 50 4)] 100 [(PaIncome.mk 40 150)]).Figures) 20 ([]:List PaIncome)))) rfl rfl rfl rfl (E2 rfl) rfl) rfl<|en (ra2 rfl rfl)<|s0<|A0 (D2 rfl rfl rfl) rfl<|N9 (E8 (ds:=(B1 (PaShow.mk ((PaShow.mk [(PaGown.mk (ByteArray.mk #[114,101,100]) 3 true 90 10 3 20 100),(PaGown.mk (ByteArray.mk #[98,108,117,101]) 1 false 0 0 0 0 0),(PaGown.mk (ByteArray.mk #[103,111,108,100]) 7 true 120 5 8 0 60)] [(PaFigure.mk (ByteArray.mk #[113,117,101,101,110]) 50 59 2),(PaFigure.mk (ByteArray.mk #[98,105,115,104,111,112]) 20 80 1),(PaFigure.mk (ByteArray.mk #[108,97,100,121]) 45 50 4)] 100 [(PaIncome.mk 40 150)]).Gowns) ((PaShow.mk [(PaGown.mk (ByteArray.mk #[114,101,100]) 3 true 90 10 3 20 100),(PaGown.mk (ByteArray.mk #[98,108,117,101]) 1 false 0 0 0 0 0),(PaGown.mk (ByteArray.mk #[103,111,108,100]) 7 true 120 5 8 0 60)] [(PaFigure.mk (ByteArray.mk #[113,117,101,101,110]) 50 59 2),(PaFigure.mk (ByteArray.mk #[98,105,115,104,111,112]) 20 80 1),(PaFigure.mk (ByteArray.mk #[108,97,100,121]) 45 50 4)] 100 [(PaIncome.mk 40 150)]).Figures) 20 ([]:List PaIncome)))) rfl rfl rfl rfl (E2 rfl) rfl) rfl<|es (ra1 rfl)<|C5 ?_
  obtain rfl:=os h
  exact retq trivial (A93 (A3m (ds:=B1 (PaShow.mk ((PaShow.mk [(PaGown.mk (ByteArray.mk #[114,101,100]) 3 true 90 10 3 20 100),(PaGown.mk (ByteArray.mk #[98,108,117,101]) 1 false 0 0 0 0 0),(PaGown.mk (ByteArray.mk #[103,111,108,100]) 7 true 120 5 8 0 60)] [(PaFigure.mk (ByteArray.mk #[113,117,101,101,110]) 50 59 2),(PaFigure.mk (ByteArray.mk #[98,105,115,104,111,112]) 20 80 1),(PaFigure.mk (ByteArray.mk #[108,97,100,121]) 45 50 4)] 100 [(PaIncome.mk 40 150)]).Gowns) ((PaShow.mk [(PaGown.mk (ByteArray.mk #[114,101,100]) 3 true 90 10 3 20 100),(PaGown.mk (ByteArray.mk #[98,108,117,101]) 1 false 0 0 0 0 0),(PaGown.mk (ByteArray.mk #[103,111,108,100]) 7 true 120 5 8 0 60)] [(PaFigure.mk (ByteArray.mk #[113,117,101,101,110]) 50 59 2),(PaFigure.mk (ByteArray.mk #[98,105,115,104,111,112]) 20 80 1),(PaFigure.mk (ByteArray.mk #[108,97,100,121]) 45 50 4)] 100 [(PaIncome.mk 40 150)]).Figures) 20 ([]:List PaIncome))) rfl rfl rfl rfl) B6) (A5 (B32 rfl) B5) (A3 (B3b rfl) A8)
 ·refine C3<|s0<|A0 (D2 rfl rfl rfl) rfl<|N9 (E8 (ds:=(B1 (PaShow.mk [(PaGown.mk (ByteArray.mk #[114,101,100]) 3 true 90 10 3 20 100),(PaGown.mk (ByteArray.mk #[98,108,117,101]) 1 false 0 0 0 0 0),(PaGown.mk (ByteArray.mk #[103,111,108,100]) 7 true 120 5 8 0 60)] [(PaFigure.mk (ByteArray.mk #[113,117,101,101,110]) 50 59 2),(PaFigure.mk (ByteArray.mk #[98,105,115,104,111,112]) 20 80 1),(PaFigure.mk (ByteArray.mk #[108,97,100,121]) 45 50 4)] 100 [(PaIncome.mk 40 150)]))) rfl rfl rfl rfl (E2 rfl) rfl) rfl<|es (ra1 rfl)<|C5 ?_
  obtain rfl:=os h
  exact retq trivial (A93 (A3m (ds:=B1 (PaShow.mk [(PaGown.mk (ByteArray.mk #[114,101,100]) 3 true 90 10 3 20 100),(PaGown.mk (ByteArray.mk #[98,108,117,101]) 1 false 0 0 0 0 0),(PaGown.mk (ByteArray.mk #[103,111,108,100]) 7 true 120 5 8 0 60)] [(PaFigure.mk (ByteArray.mk #[113,117,101,101,110]) 50 59 2),(PaFigure.mk (ByteArray.mk #[98,105,115,104,111,112]) 20 80 1),(PaFigure.mk (ByteArray.mk #[108,97,100,121]) 45 50 4)] 100 [(PaIncome.mk 40 150)])) rfl rfl rfl rfl) B6) (A5 (B32 rfl) B5) (A3 (B3b rfl) A8)
def B0c (a0:(List Int)) (s1:Int):Option (Int ⊕ (Int ⊕ Unit)) :=
 if (decide (s1 < (List.length a0:Int))) = true then
  (idx a0 s1).bind fun x4 =>
  if (x4 != 0) = true then
  some (.inr (.inl x4))
  else
  some (.inl (w64 (s1 + 1)))
 else
  some (.inr (.inr ()))
def A7d (a0:(List Int)):Option Int :=
 (loop (B0c a0) 0).bind fun (o6:(Int ⊕ Unit)) =>
 match o6 with
 | (.inl vo6_0) =>
  some vo6_0
 | (.inr vo6_1) =>
  some 0
theorem B0h {c:Sc} {H:A1} {a0:(List Int)} {r:Int} (h:A7d a0 = some r) :
  E1 tab c H (.fn (.func 72) [] []) [(.seq 1 (List.map cI a0))] [.i r]:= by
 unfold A7d at h
 refine cE rfl rfl<|s0<|qm rfl<|es (ra1 rfl)<|s0<|qm rfl<|es (ra2 rfl rfl)<|C2<|s0<|qm rfl<|A0 (F6 (f:=cI) rfl) rfl<|qm rfl<|es (ra4 rfl rfl rfl rfl)<|C6<|oB h fun o6 ho6 h=>wl (fun s1=>[(3,.i 0),(6,(.seq 1 (List.map cI a0))),(7,(.i (List.length a0:Int))),(8,.i s1)]) (fun (q2:Unit) s1=>[]) 0 (fun r e s' H'=>(match r with | (.inl v)=>e = .ret∧RetQ H [.tmp 2] [.i v] e s' H' | (.inr v)=>PX 0 [(3,.i 0)] (H++[]) e s' H':Prop)) () ho6 rfl rfl (fun _ _=>rfl) (fun _=>rfl) rfl (fun s1=>(bdc A4 (bdc K0 (bdc A4 (bdc A4 bdn))))) (fun q2 s1 ys1 hs1=>?_) ?_
 ·unfold B0c at hs1
  refine s0<|A0 (I0 rfl rfl) rfl<|es (ra5 rfl rfl rfl rfl rfl)<|C2<|wi hs1 rfl (fun hc3 hs1=>?_) fun hc3 hs1=>?_
  ·refine C3<|C2<|C6<|s0<|oB hs1 fun x4 hx4 hs1=>A0 (E9 (f:=cI) rfl rfl hx4) rfl<|A0 (L2 rfl rfl) rfl<|qm rfl<|es (ra5 rfl rfl rfl rfl rfl)<|s0<|qm rfl<|qm rfl<|A0 (J5 rfl rfl) rfl<|es (ra6 rfl rfl rfl rfl rfl rfl)<|wi hs1 rfl (fun hc5 hs1=>?_) fun hc5 hs1=>?_
   ·refine s0<|qm rfl<|qm rfl<|es (ra1 rfl)<|C5 ?_
    obtain rfl:=os hs1
    exact lx rfl (And.intro rfl (retq trivial (A6 rfl B6) (A5 rfl B5) (A3 A4 A8))) (Sub.refl _)
   ·refine C3<|r0<|A0 (F2 rfl rfl) rfl<|qm rfl<|en (ra4 rfl rfl rfl rfl) ?_
    cases hs1
    exact lnT () rfl (su4 rfl rfl rfl rfl)
  ·refine G6 ?_
   obtain rfl:=os hs1
   exact lx rfl px (su1 rfl)
 ·rcases o6 with vo6_0 | vo6_1
  ·rintro e s' H' - ⟨rfl,hret⟩
   cases h
   exact hret
  ·rintro e s' H' - ⟨rfl,rfl,rfl⟩
   refine s0<|qm rfl<|qm rfl<|es (ra1 rfl)<|C5 ?_
   obtain rfl:=os h
   exact retq trivial (A6 rfl B6) (A5 rfl B5) (A3 A4 A8)
def A81 (a0:pawn_found) (a1:pawn_found):Option Int :=
 (A7d [(w64 (a0.without_ - a1.without_)),(w64 (a0.cost_ - a1.cost_))]).bind fun x1 =>
 some x1
theorem B7o {c:Sc} {H:A1} {a0:pawn_found} {a1:pawn_found} {r:Int} (h:A81 a0 a1 = some r) :
  E1 tab c H (.fn (.func 71) [] []) [(.agg (C4 a0)),(.agg (C4 a1))] [.i r]:= by
 unfold A81 at h
 refine cE rfl rfl<|sg 0 rfl<|A0 (E5 (cs:=C4 a0) rfl rfl rfl) rfl<|A0 (E5 (cs:=C4 a1) rfl rfl rfl) rfl<|qm rfl<|es (ra2 rfl rfl)<|s0<|oB h fun x1 hx1 h=>A0 (B9 rfl) rfl<|A0 (B2 rfl rfl rfl) rfl<|A0 (B9 rfl) rfl<|A0 (B2 rfl rfl rfl) rfl<|A0 (T5 rfl rfl) rfl<|A0 (B9 rfl) rfl<|A0 (B2 rfl rfl rfl) rfl<|A0 (B9 rfl) rfl<|A0 (B2 rfl rfl rfl) rfl<|A0 (T5 rfl rfl) rfl<|A0 (J4 (rows:=List.map cI [(w64 (a0.without_ - a1.without_)),(w64 (a0.cost_ - a1.cost_))]) rfl rfl (E4 (fun _=>rfl) _)) rfl<|B8 (rs:=[.i x1]) rfl rfl (A2 rfl B7) ((B0h hx1).frz)<|qm rfl<|es (ra1 rfl)<|C5 ?_
 obtain rfl:=os h
 exact retq trivial (A6 rfl B6) (A5 rfl B5) (A3 A4 A8)
end Pw
end
section
set_option maxRecDepth 100000
namespace Am
open Go
theorem C2j {c:Sc} {H H':A1} (h:R4 c H = true) (hl:H.length≤H'.length):R4 c H' = true:= by
 unfold R4 at h ⊢
 rw [List.all_eq_true] at h ⊢
 intro B hB
 have:=Nat.le_of_ble_eq_true (h B hB)
 exact Nat.ble_eq_true_of_le (by omega)
theorem C3n {M N:Nat} {L:A1} (hMN:N≤M) (h:grL M L = true):grL N L = true:= by
 unfold grL at h ⊢
 rw [List.all_eq_true] at h ⊢
 intro o ho
 have:=h o ho
 rw [List.all_eq_true] at this ⊢
 intro b hb
 have:=Nat.le_of_ble_eq_true (this b hb)
 exact Nat.ble_eq_true_of_le (by omega)
theorem A6q {N:Nat} {o:AO} {L:A1} (ho:o.anc = []) (h:grL N L = true):grL N (o :: L) = true:= by
 unfold grL at h ⊢
 rw [List.all_cons,h,ho]; rfl
theorem C93 {H:A1} {n K:Nat} {o:AO}:(hset H K o).take n = hset (H.take n) K o:= by unfold hset; rw [List.take_set]
section
variable {T:Tab} {s:B4} {H:A1} {c:Sc} {Q:Ex→B4→A1→Prop}
def E0k {σ ρ:Type} (Hs:σ→A1) (Hx:ρ→A1) (K:Nat) (ex:ρ→Ex) (b:AO) (L:A1) (o:σ ⊕ ρ) (e:Ex) (_s:B4) (H2:A1):Prop :=
 match o with
  | .inl s'=>e = .normal∧H2.take (K + 1 + L.length) = Hs s'++b :: L
  | .inr r=>e = ex r∧H2.take (K + 1 + L.length) = Hx r++b :: L
def E0j (T:Tab) (G:A1) (b0 b1:AO) (bd:ACode) (c:Sc) (Q:Ex→B4→A1→Prop) (e:Ex) (s1:B4) (H1:A1):Prop :=
 e = .normal∧∃ L1,H1 = G++b0 :: L1∧WP T bd s1 (G++b1 :: L1) c Q
theorem B25 {σ ρ α:Type} {f:Opd} {p i K:Nat} {live:List Nat} {aq bd:ACode} {fc:List AV} {sh:Nat→A1→α→AV→Prop} {pre:A1→Prop} {it:∀(σ ρ:Type),(α→σ→Option (σ ⊕ ρ))→σ→Option (σ ⊕ ρ)} {s0:σ} {o:σ ⊕ ρ} {body:α→σ→Option (σ ⊕ ρ)}
  (hit:B6f T i fc sh pre it) (sl:B4) (Hs:σ→A1) (Hx:ρ→A1) (ex:ρ→Ex) (h:it σ ρ body s0 = some o) (hex:∀r,(ex r).out = true)
  (hf:ev s f = some (.fn (.func i) [] fc)) (hs:∀S,Sub s S→restrict S live = sl) (hH:Hs s0 = H) (hk:∀x,(Hs x).length = K) (hkx:∀x,(Hx x).length = K)
  (hpre:(∀ x b,pre (Hs x++[b]))∧∀ x b,pre (Hx x++[b])) (hc:R4 c H = true)
  (hb:∀c x s o L v,R4 ⟨K + 1 + L.length,c⟩ (Hs s++.dead :: L) = true→grL (K + 1) L = true→sh (K + 1) L x v→body x s = some o→∀ y0 y1:AO,y0.anc = []→y1.anc = []→WP T aq ((p,v) :: sl) (Hs s++y0 :: L) ⟨K + 1 + L.length,c⟩ (E0j T (Hs s) y0 y1 bd ⟨K + 1 + L.length,c⟩ (E0k Hs Hx K ex y1 L o)))
  (kont:match o with | .inl s'=>Q .normal s (Hs s'++[.dead]) | .inr r=>Q (ex r) s (Hx r++[.dead])):WP T (.rangeFunc f [p] live aq bd) s H c Q:= by
 subst hH
 intro S hS
 let Hm:σ ⊕ ρ→A1:=fun o=>match o with
  | .inl x=>Hs x++[.loop 0 sl [p] aq bd false none]
  | .inr r=>Hx r++[.loop 0 sl [p] aq bd false (some (ex r))]
 have hN:∀x,(Hm x).length = K + 1:= by
  intro x
  cases x with
  | inl x=>simp [Hm,hk]
  | inr x=>simp [Hm,hkx]
 have hap:∀(A:List AO) (b:AO) (L:A1),A++[b]++L = A++b :: L:=fun A b L=>by simp
 have gat:∀(A:A1) (b:AO) (L:A1),A.length = K→hget (A++b :: L) K = some b:=fun A b L hA=>by
  unfold hget; rw [← hA,List.getElem?_append_right (Nat.le_refl _),Nat.sub_self]; rfl
 have sat:∀(A:A1) (b b':AO) (L:A1),A.length = K→hset (A++b :: L) K b' = A++b' :: L:=fun A b b' L hA=>by
  unfold hset; rw [← hA,List.set_append_right _ _ (Nat.le_refl _),Nat.sub_self]; rfl
 have hy:∀{L:A1} {c:Sc} {x:α} {s:σ} {o:σ ⊕ ρ} {v:AV},R4 c (Hm (.inl s)++L) = true→grL (K + 1) L = true→sh (K + 1) L x v→body x s = some o→J1 T c (Hm (.inl s)++L) (.fn (.yield K) [] []) [v] [.b o.isLeft] (Hm o++L):= by
  intro L c x s o v hsc hgr hsh hbo
  have hml:∀b,(Hs s++b :: L).length = K + 1 + L.length:=fun b=>by simp [hk]; omega
  have hm:Hm (.inl s)++L = Hs s++.loop 0 sl [p] aq bd false none :: L:=hap _ _ _
  have hsc2:R4 ⟨K + 1 + L.length,c.cur :: c.outer⟩ (Hs s++.dead :: L) = true:= by
   rw [hm] at hsc
   exact A9c (c:=c) hsc (by rw [hml,hml]; exact Nat.le_refl _) (by rw [hml]; exact Nat.le_refl _)
  obtain ⟨e1,S1,s1,H1,r1,q1,rfl,L1,rfl,hw⟩:=hb (c.cur :: c.outer) x s o L v hsc2 hgr hsh hbo (.loop 0 sl [p] aq bd false none) (.loop 0 sl [p] aq bd true none) rfl rfl _ (Sub.refl _)
  obtain ⟨e2,S2,s2,H2,r2,q2,hb2⟩:=hw S1 q1
  rw [hm]
  have fin:∀(B:A1) (er:Ex),B.length = K→H2.take (K + 1 + L.length) = B++.loop 0 sl [p] aq bd true none :: L→e2 = er→J1 T c (Hs s++.loop 0 sl [p] aq bd false none :: L) (.fn (.yield K) [] []) [v] [.b (!er.out)] (B++.loop 0 sl [p] aq bd false (match er with | .normal=>none | e=>some e) :: L):= by
   intro B er hB tk he
   subst he
   have g2:hget H2 K = some (.loop 0 sl [p] aq bd true none):= by
    have:hget (H2.take (K + 1 + L.length)) K = hget H2 K:= by unfold hget; exact List.getElem?_take_of_lt (by omega)
    rw [← this,tk]; exact gat _ _ _ hB
   refine J1.yield (ps:=[p]) (st0:=⟨(p,v) :: sl,Hs s++.loop 0 sl [p] aq bd false none :: L,⟨K + 1 + L.length,c.cur :: c.outer⟩⟩) (st1:=⟨S1,Hs s++.loop 0 sl [p] aq bd false none :: L1,⟨K + 1 + L.length,c.cur :: c.outer⟩⟩)
    (st2:=⟨S2,H2,⟨K + 1 + L.length,c.cur :: c.outer⟩⟩) (e:=e2) rfl (gat _ _ _ (hk s)) rfl (by rw [hml]; rfl) r1 (gat _ _ _ (hk s)) (by rw [sat _ _ _ _ (hk s)]) r2 g2 rfl ?_
   rw [hml]
   simp only [trunc,bdL,if_true]
   rw [C93,tk,sat _ _ _ _ hB]
   cases e2 <;> rfl
  cases o with
  | inl s' =>
   have:=fin (Hs s') .normal (hk s') hb2.2 hb2.1
   have hm2:Hm (.inl s')++L = Hs s'++.loop 0 sl [p] aq bd false none :: L:=hap _ _ _
   rw [hm2]; exact this
  | inr r =>
   have:=fin (Hx r) (ex r) (hkx r) hb2.2 hb2.1
   have he:(match ex r with | .normal=>none | e=>some e) = some (ex r):= by
    have:=hex r
    cases hq:ex r <;> rw [hq] at this <;> first | rfl | cases this
   rw [he,hex r] at this
   have hm2:Hm (.inr r)++L = Hx r++.loop 0 sl [p] aq bd false (some (ex r)) :: L:=hap _ _ _
   rw [hm2]; exact this
 have hcall:=hit Hm (K + 1) hN (by
  intro x
  cases x with
  | inl x=>exact hpre.1 x _
  | inr x=>exact hpre.2 x _) (.fn (.yield K) [] []) (by simp only [AV.bd,bdL,Bool.and_true]; exact Nat.ble_eq_true_of_le (by omega)) rfl body hy h (c:=c) (by
  have hq:=hN (.inl s0)
  exact C2j hc (by rw [hq,hk]; omega))
 have hres:=hs S hS
 have g:∀o:σ ⊕ ρ,hget (Hm o) K = some (.loop 0 sl [p] aq bd false (C2b ex o)):= by
  intro o
  cases o with
  | inl x=>exact gat _ _ [] (hk x)
  | inr x=>exact gat _ _ [] (hkx x)
 have hr:=G7.rangeFunc (T:=T) (ac:=.rangeFunc f [p] live aq bd) (st:=⟨S,Hs s0,c⟩) (l:=K) (H0:=Hm (.inl s0)) (H':=Hm o) (pend:=C2b ex o) (e:=D71 ex o)
  (st':=⟨S,hset (Hm o) K .dead,c⟩) rfl (A1p hS hf) (hk s0).symm (by simp only [hres,Hm]) hcall (g o) (by cases o <;> rfl) rfl
 refine ⟨_,S,s,_,hr,hS,?_⟩
 cases o with
 | inl x =>
  have:hset (Hm (.inl x)) K .dead = Hs x++[.dead]:=sat _ _ _ [] (hk x)
  show Q .normal s (hset (Hm (.inl x)) K .dead)
  rw [this]; exact kont
 | inr r =>
  have:hset (Hm (.inr r)) K .dead = Hx r++[.dead]:=sat _ _ _ [] (hkx r)
  show Q (ex r) s (hset (Hm (.inr r)) K .dead)
  rw [this]; exact kont
end
end Am
end
section
set_option maxRecDepth 100000
set_option maxHeartbeats 0
namespace Pw
open Go Am Go.Proofs.YtjpjdglddmhplaaGreat.Cd
theorem B08 {c:Sc} {H:A1} {a0:pawn_show} {b0:Nat} (hb0:hcells H b0 = some [(.seq 8 (List.map C1 a0.PaShow.Gowns)),(.seq 4 (List.map B3 a0.PaShow.Figures)),.i a0.PaShow.Purse,(.seq 2 (List.map D1 a0.PaShow.Incomes)),(.fn (.func 90) [] []),(.fn (.func 91) [] []),(.fn (.func 92) [] []),(.fn (.func 52) [] []),(.fn (.func 93) [] []),(.fn (.func 94) [] []),(.fn (.func 55) [] []),(.fn (.func 95) [] []),(.fn (.func 96) [] []),(.seq 1 (List.map cI a0.days_))]) {a1:(List PaUse)} {v:AV} (hv:SlV H v a1) {a2:Int} {r:Int} (h:P9 a0 a1 a2 = some r) :
  E1 tab c H (.fn (.func 63) [] []) [.ptr b0 0,v,.i a2] [.i r]:= by
 unfold P9 at h
 refine cE rfl rfl<|s0<|qm rfl<|es (ra3 rfl rfl rfl)<|s0<|qm rfl<|A0 (L6 rfl rfl) rfl<|A0 (B9 rfl) rfl<|A0 (B9 rfl) rfl<|A0 (F7 (x:=(.i a0.PaShow.Purse)) rfl hb0 rfl) rfl<|qm rfl<|es (ra4 rfl rfl rfl rfl)<|C2<|s0<|qm rfl<|A0 (L6 rfl rfl) rfl<|A0 (B9 rfl) rfl<|A0 (B9 rfl) rfl<|A0 (F7 (x:=(.seq 2 (List.map D1 a0.PaShow.Incomes))) rfl hb0 rfl) rfl<|A0 (F6 (f:=D1) rfl) rfl<|qm rfl<|es (ra7 rfl rfl rfl rfl rfl rfl rfl)<|C6<|oB h fun o6 ho6 h=>wl (fun s1=>[(0,.ptr b0 0),(1,v),(2,.i a2),(7,.i s1.1),(23,(.seq 2 (List.map D1 a0.PaShow.Incomes))),(24,(.i (List.length a0.PaShow.Incomes:Int))),(25,.i s1.2)]) (fun (q2:Unit) s1=>[]) 0 (fun r e s' H'=>PX 0 [(0,.ptr b0 0),(1,v),(2,.i a2),(7,.i r)] (H++[]) e s' H') () ho6 rfl rfl (fun _ _=>rfl) (fun _=>rfl) rfl (fun s1=>(bdc (A5o hb0) (bdc hv.bd (bdc A4 (bdc A4 (bdc K0 (bdc A4 (bdc A4 bdn)))))))) (fun q2 s1 ys1 hs1=>?_) ?_
 ·unfold Q6 at hs1
  refine s0<|A0 (I0 rfl rfl) rfl<|es (ra8 rfl rfl rfl rfl rfl rfl rfl rfl)<|C2<|wi hs1 rfl (fun hc3 hs1=>?_) fun hc3 hs1=>?_
  ·refine C3<|C2<|C6<|sg 0 rfl<|oB hs1 fun x4 hx4 hs1=>A0 (E9 (f:=D1) rfl rfl hx4) rfl<|A0 (F5 rfl rfl) rfl<|A0 I3 rfl<|N9 (E8 (ds:=(D1 x4)) rfl rfl rfl rfl (E2 rfl) rfl) rfl<|es (ra8 rfl rfl rfl rfl rfl rfl rfl rfl)<|s0<|A0 (B9 rfl) rfl<|A0 (B2 rfl rfl rfl) rfl<|qm rfl<|A0 (A4a rfl rfl) rfl<|es (ra9 rfl rfl rfl rfl rfl rfl rfl rfl rfl)<|wi hs1 rfl (fun hc5 hs1=>?_) fun hc5 hs1=>?_
   ·refine r0<|qm rfl<|A0 (B9 rfl) rfl<|A0 (B2 rfl rfl rfl) rfl<|A0 (F2 rfl rfl) rfl<|qm rfl<|en (ra7 rfl rfl rfl rfl rfl rfl rfl)<|r0<|A0 (F2 rfl rfl) rfl<|qm rfl<|en (ra7 rfl rfl rfl rfl rfl rfl rfl) ?_
    cases hs1
    exact lnT () rfl (su7 rfl rfl rfl rfl rfl rfl rfl)
   ·refine C3<|r0<|A0 (F2 rfl rfl) rfl<|qm rfl<|en (ra7 rfl rfl rfl rfl rfl rfl rfl) ?_
    cases hs1
    exact lnT () rfl (su7 rfl rfl rfl rfl rfl rfl rfl)
  ·refine G6 ?_
   obtain rfl:=os hs1
   exact lx rfl px (su4 rfl rfl rfl rfl)
 ·rintro e s' H' - ⟨rfl,rfl,rfl⟩
  refine C2<|s0<|qm rfl<|A0 (B3w hv rfl) rfl<|qm rfl<|es (ra6 rfl rfl rfl rfl rfl rfl)<|C6<|oB h fun o13 ho13 h=>wl (fun s7=>[(0,.ptr b0 0),(2,.i a2),(7,.i s7.1),(38,v),(39,(.i (List.length a1:Int))),(40,.i s7.2)]) (fun (q8:Unit) s7=>[]) 0 (fun r e s' H'=>PX 2 [(7,.i r)] (H++[]) e s' H') () ho13 rfl rfl (fun _ _=>rfl) (fun _=>rfl) rfl (fun s7=>(bdc (A5o hb0) (bdc A4 (bdc A4 (bdc hv.bd (bdc A4 (bdc A4 bdn))))))) (fun q8 s7 ys7 hs7=>?_) ?_
  ·unfold Q7 at hs7
   refine s0<|A0 (I0 rfl rfl) rfl<|es (ra7 rfl rfl rfl rfl rfl rfl rfl)<|C2<|wi hs7 rfl (fun hc9 hs7=>?_) fun hc9 hs7=>?_
   ·refine C3<|C2<|C6<|sg 0 rfl<|oB hs7 fun x10 hx10 hs7=>qm rfl<|A0 (B3v hv hx10 rfl rfl) rfl<|A0 (B59 hv hx10 rfl) rfl<|A0 I3 rfl<|qm rfl<|N9 (E8 (ds:=(A7 x10)) rfl rfl rfl rfl (E2 rfl) rfl) rfl<|es (ra8 rfl rfl rfl rfl rfl rfl rfl rfl)<|s0<|oB hs7 fun x11 hx11 hs7=>qm rfl<|qm rfl<|A0 (D2 rfl rfl rfl) rfl<|B8 (rs:=[.i x11.1,.i x11.2]) rfl rfl (A2 rfl (A2 rfl (A2 (D0 rfl) B7))) ((U0 (D6 hb0 _) hx11).frz)<|qm rfl<|A0 (A9 rfl rfl) rfl<|A0 (A9 rfl rfl) rfl<|qm rfl<|qm rfl<|es (ra8 rfl rfl rfl rfl rfl rfl rfl rfl)<|s0<|qm rfl<|qm rfl<|A0 (A4a rfl rfl) rfl<|es (ra8 rfl rfl rfl rfl rfl rfl rfl rfl)<|wi hs7 rfl (fun hc12 hs7=>?_) fun hc12 hs7=>?_
    ·refine r0<|qm rfl<|qm rfl<|A0 (T5 rfl rfl) rfl<|qm rfl<|en (ra6 rfl rfl rfl rfl rfl rfl)<|r0<|A0 (F2 rfl rfl) rfl<|qm rfl<|en (ra6 rfl rfl rfl rfl rfl rfl) ?_
     cases hs7
     exact lnT () rfl (su6 rfl rfl rfl rfl rfl rfl)
    ·refine C3<|r0<|A0 (F2 rfl rfl) rfl<|qm rfl<|en (ra6 rfl rfl rfl rfl rfl rfl) ?_
     cases hs7
     exact lnT () rfl (su6 rfl rfl rfl rfl rfl rfl)
   ·refine G6 ?_
    obtain rfl:=os hs7
    exact lx rfl px (su1 rfl)
  ·rintro e s' H' - ⟨rfl,rfl,rfl⟩
   refine s0<|qm rfl<|qm rfl<|es (ra1 rfl)<|C5 ?_
   obtain rfl:=os h
   exact retq trivial (A6 rfl B6) (A5 rfl B5) (A3 A4 A8)
theorem A98 {c:Sc} {H:A1} {a0:pawn_show} {b0:Nat} (hb0:hcells H b0 = some [(.seq 8 (List.map C1 a0.PaShow.Gowns)),(.seq 4 (List.map B3 a0.PaShow.Figures)),.i a0.PaShow.Purse,(.seq 2 (List.map D1 a0.PaShow.Incomes)),(.fn (.func 90) [] []),(.fn (.func 91) [] []),(.fn (.func 92) [] []),(.fn (.func 52) [] []),(.fn (.func 93) [] []),(.fn (.func 94) [] []),(.fn (.func 55) [] []),(.fn (.func 95) [] []),(.fn (.func 96) [] []),(.seq 1 (List.map cI a0.days_))]) {a1:(List PaUse)} {v:AV} (hv:SlV H v a1) {r:(Int × Int)} (h:O3 a0 a1 = some r) :
  E1 tab c H (.fn (.func 66) [] []) [.ptr b0 0,v] [.i r.1,.i r.2]:= by
 unfold O3 at h
 refine cE rfl rfl<|s0<|qm rfl<|qm rfl<|es (ra3 rfl rfl rfl)<|s0<|qm rfl<|es (ra4 rfl rfl rfl rfl)<|C2<|s0<|qm rfl<|A0 (B3w hv rfl) rfl<|qm rfl<|es (ra7 rfl rfl rfl rfl rfl rfl rfl)<|C6<|oB h fun o8 ho8 h=>wl (fun s1=>[(0,.ptr b0 0),(1,v),(4,.i s1.1),(5,.i s1.2.1),(11,v),(12,(.i (List.length a1:Int))),(13,.i s1.2.2)]) (fun (q2:Unit) s1=>[]) 0 (fun r e s' H'=>PX 0 [(4,.i r.1),(5,.i r.2)] (H++[]) e s' H') () ho8 rfl rfl (fun _ _=>rfl) (fun _=>rfl) rfl (fun s1=>(bdc (A5o hb0) (bdc hv.bd (bdc A4 (bdc A4 (bdc hv.bd (bdc A4 (bdc A4 bdn)))))))) (fun q2 s1 ys1 hs1=>?_) ?_
 ·unfold P1 at hs1
  refine s0<|A0 (I0 rfl rfl) rfl<|es (ra8 rfl rfl rfl rfl rfl rfl rfl rfl)<|C2<|wi hs1 rfl (fun hc3 hs1=>?_) fun hc3 hs1=>?_
  ·refine C3<|C2<|C6<|sg 0 rfl<|oB hs1 fun x4 hx4 hs1=>qm rfl<|A0 (B3v hv hx4 rfl rfl) rfl<|A0 (B59 hv hx4 rfl) rfl<|A0 I3 rfl<|qm rfl<|N9 (E8 (ds:=(A7 x4)) rfl rfl rfl rfl (E2 rfl) rfl) rfl<|es (ra9 rfl rfl rfl rfl rfl rfl rfl rfl rfl)<|s0<|oB hs1 fun x5 hx5 hs1=>qm rfl<|qm rfl<|A0 (D2 rfl rfl rfl) rfl<|B8 (rs:=[.i x5.1,.i x5.2]) rfl rfl (A2 rfl (A2 rfl (A2 (D0 rfl) B7))) ((U0 (D6 hb0 _) hx5).frz)<|qm rfl<|A0 (A9 rfl rfl) rfl<|A0 (A9 rfl rfl) rfl<|qm rfl<|qm rfl<|es (ra8 rfl rfl rfl rfl rfl rfl rfl rfl)<|s0<|oB hs1 fun x6 hx6 hs1=>qm rfl<|qm rfl<|qm rfl<|O4 (U8 (rs:=[.i x6]) rfl rfl ((B08 (D6 hb0 _) hv.app hx6).frz)) rfl<|qm rfl<|es (ra9 rfl rfl rfl rfl rfl rfl rfl rfl rfl)<|s0<|qm rfl<|A0 (I0 rfl rfl) rfl<|es (ra10 rfl rfl rfl rfl rfl rfl rfl rfl rfl rfl)<|wi hs1 rfl (fun hc7 hs1=>?_) fun hc7 hs1=>?_
   ·refine r0<|qm rfl<|qm rfl<|A0 (C37 rfl rfl) rfl<|A0 (C9d rfl rfl) rfl<|qm rfl<|qm rfl<|A0 (C9d rfl rfl) rfl<|qm rfl<|qm rfl<|en (ra7 rfl rfl rfl rfl rfl rfl rfl)<|r0<|A0 (F2 rfl rfl) rfl<|qm rfl<|en (ra7 rfl rfl rfl rfl rfl rfl rfl) ?_
    cases hs1
    exact lnT () rfl (su7 rfl rfl rfl rfl rfl rfl rfl)
   ·refine C3<|r0<|A0 (F2 rfl rfl) rfl<|qm rfl<|en (ra7 rfl rfl rfl rfl rfl rfl rfl) ?_
    cases hs1
    exact lnT () rfl (su7 rfl rfl rfl rfl rfl rfl rfl)
  ·refine G6 ?_
   obtain rfl:=os hs1
   exact lx rfl px (su2 rfl rfl)
 ·rintro e s' H' - ⟨rfl,rfl,rfl⟩
  refine s0<|qm rfl<|qm rfl<|qm rfl<|qm rfl<|es (ra2 rfl rfl)<|C5 ?_
  obtain rfl:=os h
  exact retq trivial (A6 rfl (A6 rfl B6)) (A5 rfl (A5 rfl B5)) (A3 A4 (A3 A4 A8))
end Pw
end
