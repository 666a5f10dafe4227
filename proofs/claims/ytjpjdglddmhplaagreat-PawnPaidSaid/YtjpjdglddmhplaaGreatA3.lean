/- Texts that the claim stands on, one behind another. -/
import Derived.Test.YtjpjdglddmhplaaGreatA2
import Derived.Maps.RangeRun
import Derived.Below
set_option linter.unusedVariables false
set_option linter.unusedSimpArgs false
set_option linter.unnecessarySimpa false
section
namespace Am
open Go
section
variable {M:Mach} {c:Sc} {n0:Nat}
def act (M:Mach) (c:Sc) (n0:Nat) (s:B4) (H:A1) (o:AOper):Option (AV × A1 × Option (List Nat)) :=
 match wanted s o.guard with
 | none=>none
 | some false=>some (.tup [],H,none)
 | some true=>match A2j n0 s H o with
  | some hs=>match core M c n0 s (hide H hs) o.op with
   | some r=>if hs.isEmpty || Nat.ble H.length r.2.length then some (r.1,unhide H r.2 hs,some hs) else none
   | none=>none
  | none=>none
theorem A6y {s s':B4} {H H':A1} {hc hc':List (Option (List Nat))} {o:AOper}:oper M c n0 s H hc o = some (s',H',hc') ↔
  ∃ v e,act M c n0 s H o = some (v,H',e)∧(e = none∨N1 s o hc = true)∧s' = sput s o.dst v∧hc' = if writes o.op then e :: hc else hc:= by
 unfold oper act
 constructor
 ·intro h
  split at h
  ·cases h
  ·next hw =>
   simp only [Option.some.injEq,Prod.mk.injEq] at h
   obtain ⟨rfl,rfl,rfl⟩:=h
   exact ⟨.tup [],none,by simp only [hw],.inl rfl,rfl,rfl⟩
  ·next hw =>
   split at h
   ·next hs e1 e2 =>
    split at h
    ·next r hr =>
     split at h
     case isFalse=>cases h
     next hlen =>
     simp only [Option.some.injEq,Prod.mk.injEq] at h
     obtain ⟨rfl,rfl,rfl⟩:=h
     exact ⟨r.1,some hs,by simp only [hw,e1,hr,hlen,if_true],.inr e2,rfl,rfl⟩
    ·cases h
   ·cases h
 ·rintro ⟨v,e,h,h1,rfl,rfl⟩
  split at h
  ·cases h
  ·next hw =>
   simp only [Option.some.injEq,Prod.mk.injEq] at h
   obtain ⟨rfl,rfl,rfl⟩:=h
   simp only [hw]
  ·next hw =>
   split at h
   ·next hs e1 =>
    split at h
    ·next r hr =>
     split at h
     case isFalse=>cases h
     next hlen =>
     simp only [Option.some.injEq,Prod.mk.injEq] at h
     obtain ⟨rfl,rfl,rfl⟩:=h
     have h2:=h1.resolve_left (by simp)
     simp only [hw,e1,h2,hr,hlen,if_true]
    ·cases h
   ·cases h
theorem B26 {s s':B4} {H:A1} {o:AOper} (h:∀t ∈ A6h o,sget s t = sget s' t):act M c n0 s H o = act M c n0 s' H o:= by
 simp only [A6h,List.mem_append] at h
 have e1:wanted s o.guard = wanted s' o.guard:=C2n _ (fun t ht=>h t (.inl (.inr ht)))
 have e2:∀K,ways s K o.hida = ways s' K o.hida:=fun K=>B8t _ (fun t ht=>h t (.inr ht))
 have e3:∀K,core M c n0 s K o.op = core M c n0 s' K o.op:=fun K=>C5m (fun t ht=>h t (.inl (.inl ht)))
 simp only [act,A2j,e1,e2,e3]
theorem B9e {op:AOp} {x:Opd} (h:L7 op = some x):∀t ∈ M5 x,t ∈ A02 op:= by
 intro t ht
 cases op <;> simp [L7] at h <;> subst h <;> simp [A02,ht]
theorem C6k {s s':B4} {op:AOp} (h:∀t ∈ A02 op,sget s t = sget s' t):rbox s op = rbox s' op:= by
 unfold rbox
 cases ha:L7 op with
 | none=>rfl
 | some x=>simp only [Option.bind_some,R0 x (fun t ht=>h t (B9e ha t ht))]
theorem A7y {s s':B4} {o:AOper} {hc:List (Option (List Nat))} (h:∀t ∈ A6h o,sget s t = sget s' t):N1 s o hc = N1 s' o hc:= by
 simp only [A6h,List.mem_append] at h
 simp only [N1,C6k (fun t ht=>h t (.inl (.inl ht)))]
def Eqv (s s':B4):Prop:=∀ t,sget s t = sget s' t
theorem A9e (s:B4) (d:Option Nat) (v:AV) (t:Nat):sget (sput s d v) t = if d = some t then some v else sget s t:= by
 cases d with
 | none=>simp [sput]
 | some d =>
  simp only [sput,M1,I7]
  cases h:Nat.beq d t with
  | true=>simp [Nat.eq_of_beq_eq_true h]
  | false=>simp [Nat.ne_of_beq_eq_false h]
theorem Eqv.put {s s':B4} (h:Eqv s s') (d:Option Nat) (v:AV):Eqv (sput s d v) (sput s' d v):=fun t=>by rw [A9e,A9e,h t]
theorem D2a {s s1 s':B4} {H H':A1} {hc hc':List (Option (List Nat))} {o:AOper} (he:Eqv s s1) (h:oper M c n0 s H hc o = some (s',H',hc')) :
  ∃ s1',oper M c n0 s1 H hc o = some (s1',H',hc')∧Eqv s' s1':= by
 obtain ⟨v,e,h1,h2,rfl,rfl⟩:=A6y.1 h
 exact ⟨_,A6y.2 ⟨v,e,by rw [← B26 (fun t _=>he t)]; exact h1,by rw [← A7y (fun t _=>he t)]; exact h2,rfl,rfl⟩,he.put _ _⟩
theorem C0r:∀{l:List AOper} {s s1 s':B4} {H H':A1} {hc:List (Option (List Nat))},Eqv s s1→opers M c n0 l s H hc = some (s',H') →
  ∃ s1',opers M c n0 l s1 H hc = some (s1',H')∧Eqv s' s1'
 | [],s,s1,s',H,H',hc,he,h=>by
  simp only [opers,Option.some.injEq,Prod.mk.injEq] at h
  obtain ⟨rfl,rfl⟩:=h
  exact ⟨s1,rfl,he⟩
 | o :: l,s,s1,s',H,H',hc,he,h=>by
  simp only [opers] at h
  split at h
  ·cases h
  ·next s2 H2 hc2 h2 =>
   obtain ⟨s3,q1,q2⟩:=D2a he h2
   obtain ⟨s4,q3,q4⟩:=C0r q2 h
   exact ⟨s4,by simp only [opers,q1,q3],q4⟩
theorem B5x {s:B4} {H H':A1} {o:AOper} {v:AV} {e:Option (List Nat)} (hw:writes o.op = false) (h1:A5s o = true) (h:act M c n0 s H o = some (v,H',e)) :
  ∃ S:List (Nat × AO),(∀ x ∈ S,∃ r ∈ D7 o.op,x.1 = n0 + r)∧H' = H7 H S ∧
   ∀ K,Same s o.op (hide H (o.hid.map (n0 + ·))) (hide K (o.hid.map (n0 + ·)))→act M c n0 s K o = some (v,H7 K S,e):= by
 simp only [A5s,hw,Bool.false_or,Bool.and_eq_true,List.isEmpty_iff] at h1
 obtain ⟨h1,h2⟩:=h1
 unfold act at h ⊢
 split at h
 ·cases h
 ·next hwt =>
  simp only [Option.some.injEq,Prod.mk.injEq] at h
  obtain ⟨rfl,rfl,rfl⟩:=h
  exact ⟨[],by simp,rfl,fun K _=>by simp only [hwt,H7]⟩
 ·next hwt =>
  have hs0:∀K:A1,A2j n0 s K o = some (o.hid.map (n0 + ·)):= by
   intro K; simp [A2j,h1,ways,hw]
  simp only [hs0] at h
  split at h
  ·next r hr =>
   split at h
   case isFalse=>cases h
   simp only [Option.some.injEq,Prod.mk.injEq] at h
   obtain ⟨rfl,rfl,rfl⟩:=h
   obtain ⟨v,H2⟩:=r
   obtain ⟨S,q1,q2,q3⟩:=D2g hw hr
   have hd:∀x ∈ S,x.1 ∉ o.hid.map (n0 + ·):= by
    intro x hx hm
    obtain ⟨r,hr',he⟩:=q1 x hx
    obtain ⟨r',hr2,he2⟩:=List.mem_map.1 hm
    have:r = r':= by omega
    subst this
    simp only [C1c,List.all_eq_true,Bool.not_eq_true',List.contains_eq_mem,decide_eq_false_iff_not] at h2
    exact h2 r hr' hr2
   refine ⟨S,q1,by simp only [q2]; exact A5l hd,fun K hS=>?_⟩
   have hle:Nat.ble K.length (H7 (hide K (o.hid.map (n0 + ·))) S).length = true:= by rw [A7z,B3n]; simp
   simp only [hwt,hs0,q3 _ hS,A5l hd,hle,Bool.or_true,if_true]
  ·cases h
theorem C2x {s:B4} {H:A1} {o:AOper} {S:List (Nat × AO)} (hw:writes o.op = true) (hS:∀x ∈ S,∃ r ∈ o.hid,x.1 = n0 + r):act M c n0 s (H7 H S) o = (act M c n0 s H o).map fun r=>(r.1,H7 r.2.1 S,r.2.2):= by
 have hS0:∀x ∈ S,x.1 ∈ o.hid.map (n0 + ·):=fun x hx=>by
  obtain ⟨r,hr,he⟩:=hS x hx
  rw [he]; exact List.mem_map_of_mem hr
 have e0:A2j n0 s (H7 H S) o = A2j n0 s H o:= by
  simp only [A2j,A5u hS0,A7z]
 unfold act
 split
 ·rfl
 ·rfl
 ·rw [e0]
  split
  ·next hs e1 =>
   have hsub:∀x ∈ S,x.1 ∈ hs:= by
    intro x hx
    unfold A2j at e1
    split at e1
    ·dsimp only at e1
     split at e1
     ·simp only [Option.some.injEq] at e1
      subst e1
      exact List.mem_append_left _ (hS0 x hx)
     ·cases e1
    ·cases e1
   have hb:∀b ∈ hs,b < H.length:= by
    unfold A2j at e1
    split at e1
    ·dsimp only at e1
     split at e1
     ·next hall =>
      simp only [Option.some.injEq] at e1
      subst e1
      intro b hb
      simp only [hw,Bool.not_true,Bool.false_or,Bool.and_eq_true] at hall
      have:=List.all_eq_true.1 hall.1 b hb
      simpa [Nat.blt_eq] using this
     ·cases e1
    ·cases e1
   rw [A5u hsub]
   split
   ·next r hr =>
    rw [A7z]
    split
    ·simp only [Option.map_some,B9n hsub hb]
    ·rfl
   ·rfl
  ·rfl
theorem D73 {s:B4} {H:A1} {o:AOper} {v:AV} {H':A1} {hs:List Nat} (hw:writes o.op = true) (h:act M c n0 s H o = some (v,H',some hs)):(∀ b ∈ hs,b < H.length)∧∃ H2,H' = unhide H H2 hs∧(hs = []∨H.length≤H2.length):= by
 unfold act at h
 split at h
 ·cases h
 ·cases h
 ·split at h
  ·next hs' e1 =>
   split at h
   ·next r hr =>
    split at h
    case isFalse=>cases h
    next hle =>
    simp only [Option.some.injEq,Prod.mk.injEq] at h
    obtain ⟨_,rfl,rfl⟩:=h
    refine ⟨?_,r.2,rfl,by simpa using hle⟩
    unfold A2j at e1
    split at e1
    ·dsimp only at e1
     split at e1
     ·next hall =>
      simp only [Option.some.injEq] at e1
      subst e1
      intro b hb
      simp only [hw,Bool.not_true,Bool.false_or,Bool.and_eq_true] at hall
      have:=List.all_eq_true.1 hall.1 b hb
      simpa [Nat.blt_eq] using this
     ·cases e1
    ·cases e1
   ·cases h
  ·cases h
theorem C2w {s:B4} {H:A1} {o:AOper} {v:AV} {H':A1} (h:act M c n0 s H o = some (v,H',none)):v = .tup []∧H' = H∧∀ K,act M c n0 s K o = some (.tup [],K,none):= by
 unfold act at h ⊢
 split at h
 ·cases h
 ·next hw =>
  simp only [Option.some.injEq,Prod.mk.injEq] at h
  exact ⟨h.1.symm,h.2.1.symm,fun K=>by simp only [hw]⟩
 ·split at h
  ·split at h
   ·split at h
    ·simp at h
    ·cases h
   ·cases h
  ·cases h
theorem D2z {l m:List Nat}:C6t l m = true↔∀ x ∈ l,x ∈ m:= by simp [C6t]
theorem D2s {op:AOp} (h:X2 op = false):isR op = false∧writes op = false:= by
 simp only [X2,Bool.or_eq_false_iff] at h
 exact ⟨h.1.1,h.2⟩
theorem C9q {s:B4} {op:AOp} (h:isR op = false):rbox s op = none:= by
 unfold rbox
 cases ha:L7 op with
 | none=>rfl
 | some x=>simp [isR,ha] at h
theorem D3c {op:AOp} (h:isR op = true):D7 op = []∧writes op = false:= by
 cases op <;> simp [isR,L7] at h <;> simp [D7,writes]
theorem B83 {a x:AOper} (h:B6o a x = true):(∀ d,a.dst = some d→d ∉ A6h x∧x.dst ≠ some d)∧∀ d,x.dst = some d→d ∉ A6h a:= by
 simp only [B6o,Bool.and_eq_true] at h
 refine ⟨fun d hd=>?_,fun d hd=>?_⟩
 ·have:=h.1; rw [hd] at this
  simpa using this
 ·have:=h.2; rw [hd] at this
  simpa using this
theorem swap {s s1 s2:B4} {H H1 H2:A1} {hc hc1 hc2:List (Option (List Nat))} {a x:AOper} (hda:A5s a = true) (hdx:A5s x = true) (hp:A6f a x (if writes a.op then 1 else 0) = true)
  (hdis:∀r ∈ D7 a.op,r ∉ D7 x.op)
  (ha:oper M c n0 s H hc a = some (s1,H1,hc1)) (hx:oper M c n0 s1 H1 hc1 x = some (s2,H2,hc2)) :
  ∃ s1' H1' hc1' s2',oper M c n0 s H hc { x with inc:=if writes a.op then x.inc - 1 else x.inc } = some (s1',H1',hc1')∧oper M c n0 s1' H1' hc1' a = some (s2',H2,hc2)∧Eqv s2 s2':= by
 obtain ⟨va,ea,a1,a2,rfl,rfl⟩:=A6y.1 ha
 obtain ⟨vx,ex,x1,x2,rfl,rfl⟩:=A6y.1 hx
 simp only [A6f,Bool.and_eq_true] at hp
 obtain ⟨hap,hp⟩:=hp
 obtain ⟨ap1,ap2⟩:=B83 hap
 have cx:∀t ∈ A6h x,sget (sput s a.dst va) t = sget s t:= by
  intro t ht
  rw [A9e]
  split
  ·next e=>exact absurd ht (ap1 t e).1
  ·rfl
 have ca:∀v,∀ t ∈ A6h a,sget s t = sget (sput s x.dst v) t:= by
  intro v t ht
  rw [A9e]
  split
  ·next e=>exact absurd ht (ap2 t e)
  ·rfl
 rw [B26 cx] at x1
 rw [A7y cx] at x2
 have eqv:Eqv (sput (sput s a.dst va) x.dst vx) (sput (sput s x.dst vx) a.dst va):= by
  intro t
  simp only [A9e]
  by_cases e1:x.dst = some t <;> by_cases e2:a.dst = some t <;> simp [e1,e2]
  exact absurd e1 (ap1 t e2).2
 have x':∀K,act M c n0 s K { x with inc:=if writes a.op then x.inc - 1 else x.inc } = act M c n0 s K x:=fun K=>rfl
 have goal:∀(H1':A1) (hc1':List (Option (List Nat))),act M c n0 s H x = some (vx,H1',ex)→act M c n0 s H1' a = some (va,H2,ea) →
   (ex = none∨N1 s { x with inc:=if writes a.op then x.inc - 1 else x.inc } hc = true)→hc1' = (if writes x.op then ex :: hc else hc)→(ea = none∨N1 s a hc1' = true) →
   ((if writes a.op then ea :: hc1' else hc1') = if writes x.op then ex :: (if writes a.op then ea :: hc else hc) else (if writes a.op then ea :: hc else hc)) →
   ∃ s1' H1' hc1' s2',oper M c n0 s H hc { x with inc:=if writes a.op then x.inc - 1 else x.inc } = some (s1',H1',hc1')∧oper M c n0 s1' H1' hc1' a = some (s2',H2,if writes x.op then ex :: (if writes a.op then ea :: hc else hc) else (if writes a.op then ea :: hc else hc))∧Eqv (sput (sput s a.dst va) x.dst vx) s2':= by
  intro H1' hc1' g1 g2 g3 g4 g5 g6
  refine ⟨sput s x.dst vx,H1',hc1',sput (sput s x.dst vx) a.dst va,?_,?_,eqv⟩
  ·exact A6y.2 ⟨vx,ex,by rw [x']; exact g1,g3,rfl,g4⟩
  ·refine A6y.2 ⟨va,ea,by rw [← B26 (ca vx)]; exact g2,?_,rfl,g6.symm⟩
   rw [← A7y (ca vx)]; exact g5
 have ranksIn:∀{S:List (Nat × AO)} {l m:List Nat},(∀ q ∈ S,∃ r ∈ l,q.1 = n0 + r)→C6t l m = true→∀ q ∈ S,∃ r ∈ m,q.1 = n0 + r:= by
  intro S l m h1 h2 q hq
  obtain ⟨r,hr,e⟩:=h1 q hq
  exact ⟨r,D2z.1 h2 r hr,e⟩
 have inHid:∀{S:List (Nat × AO)} {m:List Nat},(∀ q ∈ S,∃ r ∈ m,q.1 = n0 + r)→∀ q ∈ S,q.1 ∈ m.map (n0 + ·):= by
  intro S m h q hq
  obtain ⟨r,hr,e⟩:=h q hq
  rw [e]; exact List.mem_map_of_mem hr
 have unseen:∀(o:AOper) (l:List (Option (List Nat))),isR o.op = false→N1 s o l = true:= by
  intro o l h
  simp [N1,C9q h]
 cases hwa:writes a.op <;> cases hwx:writes x.op <;> simp only [hwa,hwx,if_true,if_false,Bool.false_eq_true] at hp goal x2 ⊢
 ·
  simp only [Bool.and_eq_true,Bool.or_eq_true,Bool.not_eq_true'] at hp
  obtain ⟨S,s1,rfl,s3⟩:=B5x hwa hda a1
  obtain ⟨T,t1,rfl,t3⟩:=B5x hwx hdx x1
  have hST:∀q ∈ S,∀ p ∈ T,q.1 ≠ p.1:= by
   intro q hq p hp' e
   obtain ⟨r,hr,e1⟩:=s1 q hq
   obtain ⟨r',hr',e2⟩:=t1 p hp'
   have:r = r':= by omega
   subst this
   exact hdis r hr hr'
  have g1:=t3 H (by
   rcases hp.2 with h | h
   ·exact .inl h
   ·right; left; rw [A5u (inHid (ranksIn s1 h))])
  have g2:=s3 (H7 H T) (by
   rcases hp.1 with h | h
   ·exact .inl h
   ·right; left; rw [A5u (inHid (ranksIn t1 h))])
  refine goal _ hc g1 (by rw [g2,C4y hST]) x2 rfl a2 rfl
 ·
  simp only [Bool.and_eq_true,Bool.not_eq_true'] at hp
  obtain ⟨S,s1,rfl,s3⟩:=B5x hwa hda a1
  rw [C2x hwx (ranksIn s1 hp.2)] at x1
  cases hq:act M c n0 s H x with
  | none=>simp [hq] at x1
  | some r =>
   obtain ⟨v',H1',e'⟩:=r
   simp only [hq,Option.map_some,Option.some.injEq,Prod.mk.injEq] at x1
   obtain ⟨rfl,rfl,rfl⟩:=x1
   exact goal H1' (e' :: hc) hq (s3 H1' (.inl hp.1)) x2 rfl (.inr (unseen a _ (D2s hp.1).1)) rfl
 ·
  obtain ⟨T,t1,rfl,t3⟩:=B5x hwx hdx x1
  have aT:(∀ q ∈ T,∃ r ∈ a.hid,q.1 = n0 + r)→act M c n0 s (H7 H T) a = some (va,H7 H1 T,ea):= by
   intro hT
   rw [C2x hwa hT,a1]; rfl
  cases hR:isR x.op with
  | true =>
   simp only [hR,if_true,Nat.ble_eq] at hp
   have hT:T = []:= by
    cases T with
    | nil=>rfl
    | cons q T=>obtain ⟨r,hr,_⟩:=t1 q (by simp); rw [(D3c hR).1] at hr; cases hr
   subst hT
   have hinc:∃m,x.inc = m + 1:=⟨x.inc - 1,by omega⟩
   obtain ⟨m,hm⟩:=hinc
   have hlook:ex = none∨(N1 s { x with inc:=x.inc - 1 } hc = true∧(Same s x.op (hide H1 (x.hid.map (n0 + ·))) (hide H (x.hid.map (n0 + ·))))):= by
    rcases x2 with h | h
    ·exact .inl h
    ·right
     simp only [N1,hm] at h ⊢
     cases hb:rbox s x.op with
     | none =>
      refine ⟨by simp,.inr (.inr ⟨hR,fun b h=>by rw [hb] at h; cases h⟩)⟩
     | some b =>
      simp only [hb,List.take_succ_cons,List.all_cons,Bool.and_eq_true] at h
      refine ⟨by simpa using h.2,.inr (.inr ⟨hR,fun b' hb'=>?_⟩)⟩
      rw [hb] at hb'; cases hb'
      have e1:H1[b]? = H[b]?:= by
       cases ea with
       | none=>rw [(C2w a1).2.1]
       | some hs =>
        obtain ⟨q1,H2',rfl,q2⟩:=D73 hwa a1
        have hbs:b ∈ hs:= by simpa using h.1
        have hlt:=q1 b hbs
        have hget:=List.getElem?_eq_getElem hlt
        have hle:H.length≤H2'.length:=q2.resolve_left (by rintro rfl; simp at hbs)
        have hget2:H2'[b]? = some (H2'[b]'(by omega)):=List.getElem?_eq_getElem (by omega)
        rw [A2e,hget,hget2]
        simp only [hbs,if_true,Option.getD_some,Option.map_some]
      show (hide H _)[b]? = (hide H1 _)[b]?
      rw [A4o,A4o,e1]
   rcases hlook with rfl | ⟨h1,h2⟩
   ·have:=C2w x1
    exact goal H hc (this.2.2 H |>.trans (by rw [this.1])) (by simpa [H7] using a1) (.inl rfl) rfl a2 rfl
   ·exact goal H hc (by simpa [H7] using t3 H h2) (by simpa [H7] using a1) (.inr h1) rfl a2 rfl
  | false =>
   simp only [hR,Bool.false_eq_true,if_false,Bool.and_eq_true,Bool.not_eq_true'] at hp
   have g1:=t3 H (.inl hp.1)
   exact goal (H7 H T) hc g1 (aT (ranksIn t1 hp.2)) (.inr (unseen _ _ hR)) rfl a2 rfl
def wc:List AOper→Nat
 | []=>0
 | a :: l=>(if writes a.op then 1 else 0) + wc l
theorem B7k {ms:List Nat} {a x:AOper}:∀{A B:List AOper} {n:Nat},A1s ms a n (A++x :: B) = true→(ms.getD x.src 0).testBit a.src = true∨A6f a x (n + wc A) = true
 | [],B,n,h=>by
  simp only [List.nil_append,A1s,Bool.and_eq_true,Bool.or_eq_true] at h
  simpa [wc] using h.1
 | y :: A,B,n,h=>by
  simp only [List.cons_append,A1s,Bool.and_eq_true] at h
  have:=B7k h.2
  rcases this with h1 | h1
  ·exact .inl h1
  ·right
   cases hw:writes y.op <;> simp only [hw,if_true,if_false,Bool.false_eq_true,wc] at h1 ⊢
   ·simpa using h1
   ·rw [show n + (1 + wc A) = n + 1 + wc A by omega]; exact h1
theorem C9l {a x:AOper} {n m:Nat} (h:A6f a x n = true) (hm:m≤n):A6f a x m = true:= by
 simp only [A6f,Bool.and_eq_true] at h ⊢
 refine ⟨h.1,?_⟩
 have h2:=h.2
 revert h2
 cases writes a.op <;> cases writes x.op <;> simp only [imp_self]
 split
 ·intro h2; simp only [Nat.ble_eq] at h2 ⊢; omega
 ·exact id
theorem B7l {ms:List Nat} {a:AOper}:∀{l:List AOper} {n m:Nat},A1s ms a n l = true→m≤n→A1s ms a m l = true
 | [],n,m,h,_=>rfl
 | x :: l,n,m,h,hm=>by
  simp only [A1s,Bool.and_eq_true,Bool.or_eq_true] at h ⊢
  refine ⟨h.1.imp id (fun q=>C9l q hm),B7l h.2 ?_⟩
  split <;> omega
theorem B4z {ms:List Nat} {a x:AOper}:∀{A B:List AOper} {n:Nat},A1s ms a n (A++x :: B) = true→A1s ms a n (A++B) = true
 | [],B,n,h=>by
  simp only [List.nil_append,A1s,Bool.and_eq_true] at h ⊢
  exact B7l h.2 (by split <;> omega)
 | y :: A,B,n,h=>by
  simp only [List.cons_append,A1s,Bool.and_eq_true] at h ⊢
  exact ⟨h.1,B4z h.2⟩
theorem B43 {ms:List Nat} {x:AOper}:∀{A B:List AOper},A4j ms (A++x :: B) = true→A4j ms (A++B) = true
 | [],B,h=>by simp only [List.nil_append,A4j,Bool.and_eq_true] at h; exact h.2
 | y :: A,B,h=>by
  simp only [List.cons_append,A4j,Bool.and_eq_true] at h ⊢
  exact ⟨B4z h.1,B43 h.2⟩
theorem C6e {a x:AOper} {n m:Nat} (h:A6f a x n = true) (hm:m≤n):A6f a { x with inc:=x.inc - (n - m) } m = true:= by
 simp only [A6f,Bool.and_eq_true] at h ⊢
 refine ⟨h.1,?_⟩
 have h2:=h.2
 revert h2
 cases writes a.op <;> cases writes x.op <;> simp only [imp_self]
 split
 ·intro h2; simp only [Nat.ble_eq] at h2 ⊢; omega
 ·exact id
theorem B7h {ms:List Nat} {x:AOper} {B:List AOper} (hdx:A5s x = true):∀{A:List AOper} {s s':B4} {H H':A1} {hc:List (Option (List Nat))},(∀ a ∈ A,A5s a = true)→(∀ a ∈ A,(ms.getD x.src 0).testBit a.src = false)→A4j ms (A++x :: B) = true →
  (∀ a ∈ A,∀ r ∈ D7 a.op,r ∉ D7 x.op)→opers M c n0 (A++x :: B) s H hc = some (s',H') →
  ∃ s1 H1 hc1 s'',oper M c n0 s H hc { x with inc:=x.inc - wc A } = some (s1,H1,hc1)∧opers M c n0 (A++B) s1 H1 hc1 = some (s'',H')∧Eqv s' s''
 | [],s,s',H,H',hc,hA,hms,hp,hr,h=>by
  simp only [List.nil_append,opers] at h
  split at h
  ·cases h
  ·next s1 H1 hc1 h1 =>
   exact ⟨s1,H1,hc1,s',by simpa [wc] using h1,h,fun _=>rfl⟩
 | a :: A,s,s',H,H',hc,hA,hms,hp,hr,h=>by
  simp only [List.cons_append,opers] at h
  split at h
  ·cases h
  ·next s1 H1 hc1 h1 =>
   simp only [List.cons_append,A4j,Bool.and_eq_true] at hp
   obtain ⟨s2,H2,hc2,s3,q1,q2,q3⟩:=B7h (ms:=ms) hdx (fun y hy=>hA y (by simp [hy])) (fun y hy=>hms y (by simp [hy])) hp.2 (fun y hy=>hr y (by simp [hy])) h
   have hpo:=(B7k hp.1).resolve_left (by rw [hms a (by simp)]; simp)
   have hpo':=C6e hpo (Nat.le_add_right (if writes a.op then 1 else 0) (wc A))
   rw [show (if writes a.op = true then 1 else 0) + wc A - (if writes a.op = true then 1 else 0) = wc A by omega] at hpo'
   obtain ⟨s1',H1',hc1',s2',p1,p2,p3⟩:=swap (hA a (by simp)) (x:={ x with inc:=x.inc - wc A }) hdx hpo' (hr a (by simp)) h1 q1
   obtain ⟨s3',r1,r2⟩:=C0r p3 q2
   refine ⟨s1',H1',hc1',s3',?_,by simp only [List.cons_append,opers,p2,r1],fun t=>(q3 t).trans (r2 t)⟩
   have e:x.inc - wc (a :: A) = if writes a.op = true then x.inc - wc A - 1 else x.inc - wc A:= by
    simp only [wc]
    cases writes a.op <;> simp <;> omega
   rw [e]; exact p1
end
theorem B6z {D:Nat→Prop} {acc:List Nat}:∀(es:List Edge) (m:Nat),(∀ i,m.testBit i = true→D i)→(∀ e ∈ es,Region.binds .any e = true→D e.on∧∀ i,(acc.getD e.on 0).testBit i = true→D i) →
  ∀ i,(es.foldl (fun m e=>if Region.binds .any e then m ||| 2 ^ e.on ||| acc.getD e.on 0 else m) m).testBit i = true→D i
 | [],m,h,_,i,hi=>h i hi
 | e :: es,m,h,he,i,hi=>by
  simp only [List.foldl_cons] at hi
  refine B6z es _ ?_ (fun e' he'=>he e' (by simp [he'])) i hi
  intro j hj
  split at hj
  ·next hb =>
   obtain ⟨q1,q2⟩:=he e (by simp) hb
   simp only [Nat.testBit_or,Bool.or_eq_true,Nat.testBit_two_pow,decide_eq_true_eq] at hj
   rcases hj with (hj | hj) | hj
   ·exact h j hj
   ·exact hj ▸ q1
   ·exact q2 j hj
  ·exact h j hj
def MOk (ops:List Oper) (D:Nat→Prop) (acc:List Nat):Prop :=
 ∀ (j:Nat) (m:Nat),acc[j]? = some m→∀ o,ops[j]? = some o→(∀ e ∈ o.after.toList,Region.binds .any e = true→D e.on)→∀ i,m.testBit i = true→D i
theorem C3y {ops:List Oper} {D:Nat→Prop} (hD:∀(y:Nat) o,ops[y]? = some o→D y→∀ e ∈ o.after.toList,Region.binds .any e = true→D e.on) :
  ∀ (l:List Oper) (pre:List Oper) (acc:List Nat),ops = pre++l→acc.length = pre.length→MOk ops D acc→MOk ops D (masks l acc)
 | [],pre,acc,_,_,h=>h
 | o :: l,pre,acc,e,hl,h=>by
  simp only [masks]
  refine C3y hD l (pre++[o]) _ (by simp [e]) (by simp [hl]) ?_
  intro j m hj o' ho' he i hi
  rcases Nat.lt_or_ge j acc.length with hlt | hge
  ·rw [List.getElem?_append_left hlt] at hj
   exact h j m hj o' ho' he i hi
  ·have hj':j = acc.length:= by
    have:=(List.getElem?_eq_some_iff.1 hj).1
    simp at this; omega
   subst hj'
   rw [List.getElem?_append_right (Nat.le_refl _)] at hj
   simp only [Nat.sub_self,List.getElem?_cons_zero,Option.some.injEq] at hj
   have:o' = o:= by
    rw [e,hl,List.getElem?_append_right (Nat.le_refl _)] at ho'
    simpa using ho'.symm
   subst this
   subst hj
   refine B6z _ 0 (by simp) (fun ed hed hb=>?_) i hi
   have hDe:=he ed hed hb
   refine ⟨hDe,fun i hi=>?_⟩
   rw [List.getD_eq_getElem?_getD] at hi
   cases hq:acc[ed.on]? with
   | none=>simp [hq] at hi
   | some m' =>
    simp only [hq,Option.getD_some] at hi
    have hlt:=(List.getElem?_eq_some_iff.1 hq).1
    have hlo:ed.on < ops.length:= by rw [e]; simp; omega
    have ho2:=List.getElem?_eq_getElem hlo
    exact h ed.on m' hq _ ho2 (hD ed.on _ ho2 hDe) i hi
theorem C56 {ops:List Oper} {D:Nat→Prop} (hD:∀(y:Nat) o,ops[y]? = some o→D y→∀ e ∈ o.after.toList,Region.binds .any e = true→D e.on)
  {j:Nat} {o:Oper} (ho:ops[j]? = some o) (he:∀e ∈ o.after.toList,Region.binds .any e = true→D e.on) {i:Nat} (hi:((masks ops []).getD j 0).testBit i = true):D i:= by
 have h:=C3y hD ops [] [] rfl rfl (fun j m hj=>by simp at hj)
 rw [List.getD_eq_getElem?_getD] at hi
 cases hq:(masks ops [])[j]? with
 | none=>simp [hq] at hi
 | some m=>simp only [hq,Option.getD_some] at hi; exact h j m hq o ho he i hi
theorem gD (a:Array Bool) (i:Nat) (d:Bool):a.getD i d = (a[i]?).getD d:= by simp [Array.getD_eq_getD_getElem?]
theorem C1q (a:Array Bool) {j:Nat} (h:j < a.size) (i:Nat) (d:Bool):(a.setIfInBounds j true).getD i d = if i = j then true else a.getD i d:= by
 rw [gD,gD,Array.getElem?_setIfInBounds]
 by_cases e:j = i
 ·subst e; simp [h]
 ·have e':¬ i = j:=fun h=>e h.symm
  simp [e,e']
theorem D72 {a:Array Bool} {i:Nat} (h:i < a.size) (d d':Bool):a.getD i d = a.getD i d':= by
 rw [gD,gD]; simp [h]
def B1l (l l':List AOper):Prop:=∀ o ∈ l',∃ o0 ∈ l,∃ n,o = { o0 with inc:=n }
section
variable {M:Mach} {c:Sc} {n0:Nat}
theorem C67 {ops:Array Oper} (hback:B3e ops.toList = true):∀(fuel t:Nat) (listed:Array Bool) (l:List AOper) (s s':B4) (H H':A1) (hc:List (Option (List Nat))),
  l.length = fuel→listed.size = ops.size→(∀ i,i < ops.size→(listed.getD i true = false↔∃ o ∈ l,o.src = i))→(∀ o ∈ l,o.src < ops.size)→(l.map (·.src)).Nodup →
  (∀ (y:Nat) o,ops[y]? = some o→listed.getD y false = true→∀ e ∈ o.after.toList,Region.binds .any e = true→listed.getD e.on false = true) →
  (∀ a ∈ l,A5s a = true)→A4j (masks ops.toList []) l = true→(l.flatMap fun o=>D7 o.op).Nodup→opers M c n0 l s H hc = some (s',H') →
  ∃ l' s'',l'.map (·.src) = Region.linearise.go .any ops fuel t listed []∧B1l l l'∧(l'.flatMap fun o=>D7 o.op).Perm (l.flatMap fun o=>D7 o.op)∧opers M c n0 l' s H hc = some (s'',H')∧Eqv s' s''
 | 0,t,listed,l,s,s',H,H',hc,hf,_,_,_,_,_,_,_,_,h=>by
  have:l = []:=List.length_eq_zero_iff.1 hf
  subst this
  exact ⟨[],s',by simp [Region.linearise.go],by simp [B1l],List.Perm.refl _,h,fun _=>rfl⟩
 | fuel + 1,t,listed,l,s,s',H,H',hc,hf,hsz,hun,hlt,hnd,hcl,hd,hp,hrk,h=>by
  simp only [Region.linearise.go]
  change ∃(l':List AOper) (s'':B4),l'.map (·.src) = (match (Region.ready .any ops listed)[t % (Region.ready .any ops listed).length]? with
   | some i=>Region.linearise.go .any ops fuel (t / (Region.ready .any ops listed).length) (listed.setIfInBounds i true) [i]
   | none=>[].reverse)∧_
  have hne:Region.ready .any ops listed ≠ []:= by
   obtain ⟨o0,ho0⟩:∃o0,o0 ∈ l:= by
    cases l with
    | nil=>simp at hf
    | cons o l=>exact ⟨o,by simp⟩
   have hmin:∀n,(∃ i,i < n∧i < ops.size∧listed.getD i true = false)→∃ i,i ∈ Region.ready .any ops listed:= by
    intro n
    induction n with
    | zero=>rintro ⟨i,hi,_⟩; omega
    | succ n ih =>
     by_cases hex:∃i,i < n∧i < ops.size∧listed.getD i true = false
     ·exact fun _=>ih hex
     ·rintro ⟨i,hi,hi2,hi3⟩
      have hin:i = n:= by
       rcases Nat.lt_or_ge i n with h1 | h1
       ·exact absurd ⟨i,h1,hi2,hi3⟩ hex
       ·omega
      subst hin
      refine ⟨i,?_⟩
      have hq:ops[i]? = some ops[i]:= by simp [hi2]
      simp only [Region.ready,List.mem_filter,List.mem_range,hi2,hi3,hq,Option.map_some,Option.getD_some,true_and,Bool.not_false,Bool.true_and,Array.all_eq_true]
      intro k hk
      cases hbk:Region.binds .any ops[i].after[k] with
      | false=>simp
      | true =>
      have hon:ops[i].after[k].on < i:= by
       simp only [B3e,List.all_eq_true] at hback
       have:=hback (ops[i],i) (by
        rw [List.mem_zipIdx_iff_getElem?]
        simp [hi2]) ops[i].after[k] (by simp)
       simpa [hbk] using this
      have:listed.getD ops[i].after[k].on true ≠ false:=fun hc=>hex ⟨_,hon,by omega,hc⟩
      have hlt2:ops[i].after[k].on < listed.size:= by omega
      simp only [Bool.or_eq_true]
      right
      simpa [Array.getD,hlt2] using this
   have h1:=hlt o0 ho0
   obtain ⟨i,hi⟩:=hmin ops.size ⟨o0.src,h1,h1,(hun o0.src h1).2 ⟨o0,ho0,rfl⟩⟩
   intro hnil; rw [hnil] at hi; cases hi
  have hpos:0 < (Region.ready .any ops listed).length:= by
   cases hr:Region.ready .any ops listed with
   | nil=>exact absurd hr hne
   | cons=>simp
  have hmod:t % (Region.ready .any ops listed).length < (Region.ready .any ops listed).length:=Nat.mod_lt _ hpos
  obtain ⟨i,hi⟩:∃i,(Region.ready .any ops listed)[t % (Region.ready .any ops listed).length]? = some i:=⟨_,List.getElem?_eq_getElem hmod⟩
  rw [hi]
  have hmem:=List.mem_of_getElem? hi
  simp only [Region.ready,List.mem_filter,List.mem_range,Bool.and_eq_true,Bool.not_eq_true'] at hmem
  obtain ⟨hi1,hi2,hi3⟩:=hmem
  have hq:ops[i]? = some ops[i]:= by simp [hi1]
  simp only [hq,Option.map_some,Option.getD_some,Array.all_eq_true] at hi3
  have hedges:∀e ∈ ops[i].after.toList,Region.binds .any e = true→listed.getD e.on false = true:= by
   intro e he hb
   obtain ⟨k,hk,rfl⟩:=List.mem_iff_getElem.1 he
   have:=hi3 k (by simpa using hk)
   simp only [Array.getElem_toList] at hb ⊢
   rw [hb] at this
   simpa using this
  obtain ⟨x,hx,hsrc⟩:=(hun i hi1).1 hi2
  obtain ⟨A,B,rfl⟩:=List.append_of_mem hx
  subst hsrc
  have hms:∀a ∈ A,((masks ops.toList []).getD x.src 0).testBit a.src = false:= by
   intro a ha
   cases hb:((masks ops.toList []).getD x.src 0).testBit a.src with
   | false=>rfl
   | true =>
    have hD:=C56 (ops:=ops.toList) (D:=fun i=>listed.getD i false = true) (fun y o ho=>hcl y o (by simpa using ho)) (j:=x.src) (o:=ops[x.src]) (by simpa using hq) hedges hb
    have halt:=hlt a (by simp [ha])
    have hunl:=(hun a.src halt).2 ⟨a,by simp [ha],rfl⟩
    have:a.src < listed.size:= by omega
    rw [D72 this true false] at hunl
    rw [hunl] at hD; cases hD
  have hdisj:∀a ∈ A,∀ r ∈ D7 a.op,r ∉ D7 x.op:= by
   intro a ha r hr hr'
   rw [List.flatMap_append] at hrk
   exact (List.nodup_append.1 hrk).2.2 r (List.mem_flatMap.2 ⟨a,ha,hr⟩) r (List.mem_flatMap.2 ⟨x,by simp,hr'⟩) rfl
  obtain ⟨s1,H1,hc1,s2,q1,q2,q3⟩:=B7h (ms:=masks ops.toList []) (hd x (by simp)) (fun a ha=>hd a (by simp [ha])) hms hp hdisj h
  simp only [List.map_append,List.map_cons] at hnd
  have hnd':((A++B).map (·.src)).Nodup∧∀ o ∈ A++B,o.src ≠ x.src:= by
   obtain ⟨n1,n2,n3⟩:=List.nodup_append.1 hnd
   obtain ⟨n4,n5⟩:=List.nodup_cons.1 n2
   refine ⟨by rw [List.map_append]; exact List.nodup_append.2 ⟨n1,n5,fun a ha b hb=>n3 a ha b (List.mem_cons_of_mem _ hb)⟩,fun o ho e=>?_⟩
   rcases List.mem_append.1 ho with ho | ho
   ·exact n3 _ (List.mem_map_of_mem ho) _ (by simp) e
   ·exact n4 (e ▸ List.mem_map_of_mem ho)
  obtain ⟨l',s3,r1,r2,r3,r4,r5⟩:=C67 hback fuel (t / (Region.ready .any ops listed).length) (listed.setIfInBounds x.src true) (A++B) s1 s2 H1 H' hc1
   (by simp at hf ⊢; omega) (by simpa using hsz) (fun i hi=>by
    by_cases e:i = x.src
    ·subst e
     have:x.src < listed.size:= by omega
     rw [C1q _ this,if_pos rfl]
     constructor
     ·intro h; cases h
     ·rintro ⟨o,ho,e⟩; exact absurd e (hnd'.2 o ho)
    ·have hxs:x.src < listed.size:= by omega
     have e2:(listed.setIfInBounds x.src true).getD i true = listed.getD i true:= by rw [C1q _ hxs,if_neg e]
     rw [e2,hun i hi]
     constructor
     ·rintro ⟨o,ho,rfl⟩
      refine ⟨o,?_,rfl⟩
      rcases List.mem_append.1 ho with ho | ho
      ·exact List.mem_append_left _ ho
      ·rcases List.mem_cons.1 ho with rfl | ho
       ·exact absurd rfl e
       ·exact List.mem_append_right _ ho
     ·rintro ⟨o,ho,rfl⟩
      refine ⟨o,?_,rfl⟩
      rcases List.mem_append.1 ho with ho | ho
      ·exact List.mem_append_left _ ho
      ·exact List.mem_append_right _ (List.mem_cons_of_mem _ ho))
   (fun o ho=>hlt o (by rcases List.mem_append.1 ho with ho | ho <;> simp [ho])) hnd'.1
   (fun y o ho hy e he hb=>by
    have hxs:x.src < listed.size:= by omega
    have mono:∀i,listed.getD i false = true→(listed.setIfInBounds x.src true).getD i false = true:= by
     intro i hi
     rw [C1q _ hxs]
     split
     ·rfl
     ·exact hi
    by_cases e2:y = x.src
    ·subst e2
     rw [hq] at ho; cases ho
     exact mono _ (hedges e he hb)
    ·refine mono _ (hcl y o ho ?_ e he hb)
     rw [C1q _ hxs,if_neg e2] at hy
     exact hy)
   (fun a ha=>hd a (by rcases List.mem_append.1 ha with ha | ha <;> simp [ha])) (B43 hp)
   (by
    rw [List.flatMap_append] at hrk ⊢
    rw [List.flatMap_cons] at hrk
    obtain ⟨n1,n2,n3⟩:=List.nodup_append.1 hrk
    obtain ⟨n4,n5,n6⟩:=List.nodup_append.1 n2
    exact List.nodup_append.2 ⟨n1,n5,fun a ha b hb=>n3 a ha b (List.mem_append_right _ hb)⟩) q2
  refine ⟨{ x with inc:=x.inc - wc A } :: l',s3,?_,?_,?_,by simp only [opers,q1,r4],fun t=>(q3 t).trans (r5 t)⟩
  ·simp only []
   rw [linearise_go_acc]
   simp [r1]
  ·intro o ho
   rcases List.mem_cons.1 ho with rfl | ho
   ·exact ⟨x,by simp,_,rfl⟩
   ·obtain ⟨o0,h0,n,e⟩:=r2 o ho
    exact ⟨o0,by rcases List.mem_append.1 h0 with h0 | h0 <;> simp [h0],n,e⟩
  ·simp only [List.flatMap_cons]
   refine (List.Perm.append_left _ r3).trans ?_
   rw [List.flatMap_append,List.flatMap_append,List.flatMap_cons]
   exact List.perm_append_comm_assoc _ _ _
theorem short:∀(n:Nat) (l:List Nat),l.Nodup→(∀ x ∈ l,x < n)→l.length≤n
 | 0,l,_,h=>by
  cases l with
  | nil=>simp
  | cons x l=>have:=h x (by simp); omega
 | n + 1,l,hn,h=>by
  by_cases hm:n ∈ l
  ·have h1:=short n (l.erase n) (hn.erase n) (fun x hx=>by
    obtain ⟨h1,h2⟩:=(hn.mem_erase_iff).1 hx
    have:=h x h2
    omega)
   rw [List.length_erase_of_mem hm] at h1
   omega
  ·have h1:=short n l hn (fun x hx=>by
    have:=h x hx
    have:x ≠ n:=fun e=>hm (e ▸ hx)
    omega)
   omega
theorem C8k {n:Nat} {l:List Nat} (hn:l.Nodup) (h:∀x ∈ l,x < n) (hl:l.length = n) {i:Nat} (hi:i < n):i ∈ l:= by
 by_cases hm:i ∈ l
 ·exact hm
 ·have:=short n (i :: l) (List.nodup_cons.2 ⟨hm,hn⟩) (fun x hx=>by
   rcases List.mem_cons.1 hx with rfl | hx
   ·exact hi
   ·exact h x hx)
  simp at this
  omega
theorem C8t {ops:Array Oper} {l:List AOper} (hd:C5r ops l = true) (hsrc:∀o ∈ l,o.src < ops.size) (hrk:(l.flatMap fun o=>D7 o.op).Nodup) {s s':B4} {H H':A1} (h:opers M c n0 l s H [] = some (s',H')) (t:Nat) :
  ∃ l' s'',l'.map (·.src) = Region.schedule true ops t∧B1l l l'∧(l'.flatMap fun o=>D7 o.op).Perm (l.flatMap fun o=>D7 o.op)∧opers M c n0 l' s H [] = some (s'',H')∧Eqv s' s'':= by
 simp only [C5r,Bool.and_eq_true] at hd
 obtain ⟨⟨⟨⟨d1,d2⟩,d3⟩,d4⟩,d5⟩:=hd
 have hlen:l.length = ops.size:= by simpa using d5
 have hnd:=A43 d4
 have go:∀t,∃ l' s'',l'.map (·.src) = Region.linearise .any ops t∧B1l l l'∧(l'.flatMap fun o=>D7 o.op).Perm (l.flatMap fun o=>D7 o.op)∧opers M c n0 l' s H [] = some (s'',H')∧Eqv s' s'':= by
  intro t
  refine C67 d1 ops.size t (Array.replicate ops.size false) l s s' H H' [] hlen (by simp) (fun i hi=>?_) hsrc hnd (fun y o ho hy=>?_) (fun a ha=>List.all_eq_true.1 d3 a ha) d2 hrk h
  ·have:(Array.replicate ops.size false).getD i true = false:= by simp [Array.getD,hi]
   simp only [this,true_iff]
   have this:i ∈ l.map (·.src):=C8k hnd (fun j hj=>by
    obtain ⟨o,ho,rfl⟩:=List.mem_map.1 hj
    exact hsrc o ho) (by simpa using hlen) hi
   obtain ⟨o,ho,e⟩:=List.mem_map.1 this
   exact ⟨o,ho,e⟩
  ·by_cases hlt:y < ops.size
   ·simp [Array.getD,hlt] at hy
   ·simp [Array.getD,hlt] at hy
 simp only [Region.schedule,Bool.true_or,if_true]
 exact go t
end
section
variable {MC:Nat→Code→ACode→Prop} {P:Program} {B0:Nat}
theorem hao (w:World) (o:Obj) (i:Nat) (h:i < w.heap.size):(w.alloc o).heap[i]? = w.heap[i]?:=heap_alloc_old w o h
structure CInv (MC:Nat→Code→ACode→Prop) (P:Program) (B0 nt lo:Nat) (fn:Bool) (st:St) (g:Ghost) (a:Act) (w:World):Prop where
 rel:Rel MC P B0 st.H g w
 slots:D4 g st.s a.tmps
 size:a.tmps.size = nt
 sc:ScOk st.c st.H
 dl:fn = true→B9o lo a.defers g w
def Enters (code:Code) (i:Item):Prop:=i = .code code∨∃ c,code = .loop c∧i = .inLoop c
def B0q (MC:Nat→Code→ACode→Prop) (P:Program) (B0:Nat) (M:Mach):Prop :=
 ∀ nt code ac st e st',F9 P nt code ac = true→M.code ac st = some (e,st')→∀ (b:Frame) a k cs g w lo i,Enters code i→(b.roundOf = none∨A36 ac = true)→CInv MC P B0 nt lo b.roundOf.isNone st g a w →
  ∃ a' g' w',Arr P (lone (b.atR a (i :: k)) cs w) b k cs e a' w'∧CInv MC P B0 nt lo b.roundOf.isNone st' g' a' w'∧Ext st.H g w st'.H g' w'∧Unborn st.H g g'∧st'.c = st.c
theorem Enters.code {c:Code} {i:Item} (h:Enters c i) (hc:∀b,c ≠ .loop b):i = .code c:= by
 rcases h with h | ⟨b,h,_⟩
 ·exact h
 ·exact absurd h (hc b)
theorem D4.eqv {g:Ghost} {s s':B4} {tmps:Array Value} (h:D4 g s tmps) (he:Eqv s' s):D4 g s' tmps:=fun t v hv=>h t v (by rw [← he t]; exact hv)
theorem C6h {l l':List Nat} (h:l'.Perm l) (hn:l.Nodup):l'.Nodup:=h.nodup_iff.2 hn
theorem C2i (hmix:P.follows .mixedOrders = true) {M:Mach} (hM:B0p MC P B0 M) (hN:NoS M) {nt:Nat} {id:Nat} {ops:Array Oper} {d d':Bool} {nres:Nat} {pre live:List Nat} {l:List AOper} {st st':St} {e:Ex} (hm:A8t P nt ops d d' nres l = true)
  (h:D5 M st (.region d' nres pre l live) = some (e,st')) {b:Frame} {a:Act} {k:List Item} {cs:List Frame} {g:Ghost} {w:World} {lo:Nat} (hI:CInv MC P B0 nt lo b.roundOf.isNone st g a w) :
  ∃ a' g' w',Arr P (lone (b.atR a (.code (.region id ops d) :: k)) cs w) b k cs e a' w'∧CInv MC P B0 nt lo b.roundOf.isNone st' g' a' w'∧Ext st.H g w st'.H g' w'∧Unborn st.H g g'∧st'.c = st.c:= by
 simp only [D5] at h
 split at h
 ·next H1 hpub =>
  split at h
  ·next r hr =>
   simp only [Option.some.injEq,Prod.mk.injEq] at h
   obtain ⟨rfl,rfl⟩:=h
   obtain ⟨s',H'⟩:=r
   obtain ⟨g1,hFz⟩:=B0m hI.rel hI.slots hpub
   simp only [A8t,Bool.and_eq_true] at hm
   obtain ⟨⟨⟨⟨⟨⟨m1,m2⟩,m3⟩,m4⟩,m5⟩,m6⟩,m7⟩:=hm
   have hnd:=A43 m4
   have hrk:∀r ∈ l.flatMap fun o=>D7 o.op,r < nres:=fun r hr=>by simpa using List.all_eq_true.1 m3 r hr
   have hsrc:∀o ∈ l,o.src < ops.size:= by
    intro o ho
    have:=List.all_eq_true.1 m2 o ho
    unfold A4q at this
    split at this
    ·cases this
    ·next o' ho' =>
     rcases Nat.lt_or_ge o.src ops.size with h | h
     ·exact h
     ·simp [Array.getElem?_eq_none h] at ho'
   obtain ⟨hR2,hE2⟩:=hFz.rel.reserve nres
   have hE3:=hFz.ext.trans hE2
   have hC1:=B75 hI.sc hpub
   have main:∀(l':List AOper) (s'':B4) (w0:World),B1l l l'→(l'.flatMap fun o=>D7 o.op).Perm (l.flatMap fun o=>D7 o.op)→opers M st.c H1.length l' st.s (H1++List.replicate nres .dead) [] = some (s'',H')→Eqv s' s'' →
     Rel MC P B0 (H1++List.replicate nres .dead) g1 w0→Ext st.H g w (H1++List.replicate nres .dead) g1 w0→step P (lone (b.atR a (.code (.region id ops d) :: k)) cs w) = .next (lone (b.atR a (.inRegion ops (l'.map (·.src)) :: k)) cs w0) →
     ∃ a' g' w',Arr P (lone (b.atR a (.code (.region id ops d) :: k)) cs w) b k cs .normal a' w'∧CInv MC P B0 nt lo b.roundOf.isNone { s:=restrict s' live,H:=H',c:=st.c } g' a' w'∧Ext st.H g w H' g' w'∧Unborn st.H g g'∧st.c = st.c:= by
    intro l' s'' w0 hsame hperm hops heqv hR0 hE0 hstep
    have hm':(l'.all fun o=>A4q P ops nt o) = true:= by
     rw [List.all_eq_true]
     intro o ho
     obtain ⟨o0,h0,n,rfl⟩:=hsame o ho
     exact List.all_eq_true.1 m2 o0 h0
    obtain ⟨a',g',w',q1,q2,q3,q4⟩:=B40 (b:=b) (k:=k) (cs:=cs) hM (lo:=lo) (fn:=b.roundOf.isNone) (a:=a) (g:=g1) (w:=w0) hN (hh:=l.flatMap fun o=>o.hid) hm' (fun o ho=>by
      obtain ⟨o0,h0,n,rfl⟩:=hsame o ho
      refine ⟨fun r hr=>List.mem_flatMap.mpr ⟨o0,h0,hr⟩,?_⟩
      rw [Bool.or_eq_true] at m7
      rcases m7 with m7 | m7
      ·left; simpa using List.all_eq_true.1 m7 o0 h0
      ·right
       rw [List.flatMap_eq_nil_iff]
       intro o1 h1
       have:=List.all_eq_true.1 m7 o1 h1
       simpa using this)
     ⟨hR0,hI.slots.mono hE0.le,hI.size,hC1.app _,hC1.cur,fun r hr=>by
      have hr':=hrk r (hperm.mem_iff.1 hr)
      exact ⟨by simp; omega,hFz.rel.nolive _ (by omega)⟩,fun r hr=>by
      have hr':r < nres:= by simpa using List.all_eq_true.1 m6 r hr
      refine ⟨by simp; omega,D1s (o:=.dead) rfl ?_⟩
      rw [List.getElem?_append_right (by omega),List.getElem?_replicate,if_pos (by omega)],fun hfn=>(hI.dl hfn).ext hE0⟩ (C6h hperm hnd) hops
    refine ⟨a',g',w',.head hstep (q1.trans (.one stepR_region_end)),⟨q2.rel,(q2.slots.eqv heqv).restrict live,q2.size,q2.sc,q2.dl⟩,hE0.trans q3,?_,rfl⟩
    intro i hi hn
    refine q4 i (by rw [hFz.len]; exact hi) (by simp; have:=hFz.len; omega) ?_
    rw [hFz.L]; exact hn
   simp only [beq_iff_eq] at m1
   subst m1
   cases d with
   | false =>
    simp only [Bool.false_eq_true,if_false,beq_iff_eq] at m5
    exact main l s' w (fun o ho=>⟨o,ho,o.inc,rfl⟩) (List.Perm.refl _) hr (fun _=>rfl) hR2 hE3 (by rw [m5]; exact stepR_region)
   | true =>
    simp only [if_true] at m5
    obtain ⟨l',s'',r1,r2,r3,r4,r5⟩:=C8t m5 hsrc hnd hr (w.tape w.drawn (.order b.fn id))
    exact main l' s'' w.drew r2 r3 r4 r5 hR2.drew (hE3.trans (Ext.drew _ _ _)) (by rw [r1]; have hs:=stepR_region_draw (P:=P) (b:=b) (a:=a) (k:=k) (cs:=cs) (w:=w) (ops:=ops) (id:=id); rw [hmix] at hs; exact hs)
  ·cases h
 ·cases h
theorem B29 {N:Nat}:∀{s:B4},Y9 N s = true→∀ t v,sget s t = some v→v.bd N = true
 | [],_,t,v,h=>by simp [M1,I7] at h
 | x :: s,hb,t,v,h=>by
  simp only [Y9,Bool.and_eq_true] at hb
  simp only [M1,I7] at h
  cases hq:Nat.beq x.1 t with
  | true=>simp [hq] at h; subst h; exact hb.1
  | false=>simp [hq] at h; exact B29 hb.2 t v h
theorem Unborn.cut {H:A1} {g g':Ghost} {N:Nat} (h:Unborn H g g'):Unborn H g (Z4 N g'):=fun i hi hn=>by
 simp only [Z4]; split
 ·exact h i hi hn
 ·rfl
theorem Rel.spare {H:A1} {g:Ghost} {w:World} (hR:Rel MC P B0 H g w) (ob:Obj):Rel MC P B0 H g (w.alloc ob)∧Ext H g w H g (w.alloc ob):= by
 refine ⟨⟨?_,?_,hR.inj,?_,hR.nolive,?_⟩,⟨Nat.le_refl _,rfl,rfl,rfl,by simp,Ghost.le_refl g,fun _ _ h=>.inl h,fun _ _ _ _ _=>rfl,fun i o h k=>.inr ⟨o,h,k⟩,?_⟩⟩
 ·intro β off u h
  rw [World.cell?_alloc_lt _ _ _ (hR.phi_lt h)]; exact hR.phi β off u h
 ·intro i β h
  obtain ⟨h1,h2⟩:=hR.base i β h
  exact ⟨h1,by simp; omega⟩
 ·intro i o hi
  refine (hR.box i o hi).mono (Ghost.le_refl g) (fun β hb=>?_)
  exact ⟨hao w _ β (hR.base i β hb).2,fun off=>rfl⟩
 ·simp; have:=hR.b0; omega
 ·intro β hβ _
  exact ⟨hao w _ β hβ,fun off=>rfl⟩
theorem B4f {b:Frame} {a:Act} {k:List Item} {cs:List Frame} {w w1:World} {f:Operand} {ps:Array Tmp} {assign body:Code} {l:Nat} {mark:List Deferred} {fr0:Frame}
  (he:(Instr.enterLoop b.fn a.tmps ps assign body b.roundOf).run P w = .ok (l,mark) w1) (hc:Begins P w1 (a.eval f) #[.func (.yield l) #[] #[]] fr0) :
  step P (lone (b.atR a (.code (.rangeFunc f ps assign body) :: k)) cs w) = .next (lone fr0 (b.atR { a with defers:=mark++a.defers } (.inRangeFunc l :: k) :: cs) w1):= by
 rcases hc with ⟨i,aq,h,rfl⟩ | ⟨l',i,tmps,aq,bd,h,rfl⟩
 ·exact B8m he h
 ·refine step_lone_go ?_
  have hev:=Frame.eval_atR b { a with defers:=mark++a.defers } (.inRangeFunc l :: k)
  simp only [Frame.atR] at hev
  have hc':Sem.run P (resolve ({ tmps:=a.tmps,defers:=mark++a.defers }:Act).eval { callee:=.value f,args:=#[.const (.func (.yield l) #[] #[])],argTypes:=#[] } 0 >>= fun d=>invoke d.target d.args) w1 = .ok (.round l' i tmps aq bd) w1:= by
   have e1:({ tmps:=a.tmps,defers:=mark++a.defers }:Act).eval f = a.eval f:= by cases f <;> rfl
   have e2:({ tmps:=a.tmps,defers:=mark++a.defers }:Act).eval (.const (.func (.yield l) #[] #[])) = .func (.yield l) #[] #[]:=rfl
   simpa [resolve,A4m,e1,e2] using h
  simp [stepG,stepG.exec,Frame.atR,Sem.runT_eq,he,GStep.bare_after,stepG.apply,hev,hc']
theorem B3u {w:World} {β:Nat} {r:Loop} (h:w.heap[β]? = some (.loop r)) (off:Nat):w.cell? ⟨β,off,none⟩ = none:= by
 simp [World.cell?,h]
def MCof (P:Program):Nat→Code→ACode→Prop:=fun nt c ac=>F9 P nt c ac = true∧A36 ac = true
theorem A1n {s:B4} {t:Nat} {v:AV}:∀{l:List Nat},sget (restrict s l) t = some v↔t ∈ l∧sget s t = some v
 | []=>by simp [restrict,M1,I7]
 | u :: l=>by
  have ih:=A1n (s:=s) (t:=t) (v:=v) (l:=l)
  simp only [restrict]
  cases hu:sget s u with
  | none =>
   simp only [List.mem_cons]
   constructor
   ·intro h; have:=ih.1 h; exact ⟨.inr this.1,this.2⟩
   ·rintro ⟨rfl | h,k⟩
    ·simp [hu] at k
    ·exact ih.2 ⟨h,k⟩
  | some w =>
   simp only [M1,I7,List.mem_cons]
   cases hb:Nat.beq u t with
   | true =>
    have:=Nat.eq_of_beq_eq_true hb
    subst this
    simp [hu]
   | false =>
    have:t ≠ u:=fun e=>by subst e; simp at hb
    simp only [cond_false]
    rw [ih]; simp [this]
theorem B5l {nt:Nat} {x:Code} {y:Opd} {nx ok:Nat} {l0 l1 l2:List Nat} {ax:ACode} (hm:F9 P nt (.loop x) (.loopM y nx ok l0 l1 l2 ax) = true) :
  ∃ id ops c,x = .seq (.region id ops false) c∧A9x nt ops y nx ok = true∧F9 P nt c ax = true:= by
 cases x with
 | seq p c =>
  cases p with
  | region id ops d =>
   cases d with
   | false =>
    simp only [F9,Bool.and_eq_true] at hm
    exact ⟨id,ops,c,rfl,hm.1,hm.2⟩
   | true=>simp [F9] at hm
  | _=>simp [F9] at hm
 | _=>simp [F9] at hm
theorem B85 {nt:Nat} {ops:Array Oper} {x:Opd} {nx ok:Nat} (h:A9x nt ops x nx ok = true) :
  ∃ o0 o1 y,ops.size = 2∧ops[0]? = some o0∧ops[1]? = some o1∧o0.guard = none∧o1.guard = none∧o0.op = .next y false∧D3 y x = true∧o0.dst = some nx∧o1.op = .extract (.tmp nx) 0∧o1.dst = some ok∧nx < nt∧ok < nt:= by
 unfold A9x at h
 simp only [Bool.and_eq_true,beq_iff_eq] at h
 obtain ⟨h0,h⟩:=h
 split at h
 ·next o0 o1 e0 e1 =>
  simp only [Bool.and_eq_true,beq_iff_eq,decide_eq_true_eq,Option.isNone_iff_eq_none] at h
  obtain ⟨⟨⟨⟨⟨⟨⟨g0,g1⟩,n0⟩,d0⟩,n1⟩,d1⟩,b0⟩,b1⟩:=h
  split at n0
  ·next y hy =>
   split at n1
   ·next t ht =>
    obtain rfl:t = nx:= by simpa using n1
    exact ⟨o0,o1,y,h0,e0,e1,g0,g1,hy,n0,d0,ht,d1,b0,b1⟩
   ·cases n1
  ·cases n0
 ·cases h
theorem C9t {w:World} {ty:TypeId} {r bm n:Nat} {seen:List Nat} {en:Array MapEntry} (hr:w.heap[r]? = some (.mapIter (some bm) n seen.toArray n)) (hb:w.heap[bm]? = some (.map en n)) (hn:n = en.size)
  (hborn:∀(i:Nat) (m:MapEntry),en[i]? = some m→m.born = i) :
  (K7 n seen = []∧(Instr.next (.pointer (some ⟨r,0,none⟩)) false ty).run P w = .ok (.tuple #[.bool false]) w) ∨
  ∃ i ∈ K7 n seen,∃ m,en[i]? = some m∧∃ w1:World,(w1 = w∨w1 = w.drew)∧(Instr.next (.pointer (some ⟨r,0,none⟩)) false ty).run P w = .ok (.tuple #[.bool true,m.key,m.val]) (w1.putObj r (.mapIter (some bm) n (seen++[i]).toArray n)):= by
 have hold:∀x ∈ en.toList,x.born < n:=fun x hx=>by
  obtain ⟨i,hi,e⟩:=List.mem_iff_getElem.1 hx
  have hi:i < en.size:= by simpa using hi
  have:=hborn i x (by rw [← e]; simp [hi])
  omega
 rcases run_next_at w ty r bm n n seen.toArray en n hr hb hold (Nat.le_refl n) with ⟨h0,h1⟩ | ⟨m,hm,w1,hw1,h1⟩
 ·refine .inl ⟨?_,h1⟩
  unfold K7
  rw [List.filter_eq_nil_iff]
  intro i hi
  have hi:i < en.size:= by have:=List.mem_range.1 hi; omega
  intro hc
  have hmem:en[i] ∈ (leftOf en seen.toArray).toList:= by
   unfold leftOf
   have:=hborn i en[i] (by simp [hi])
   simp only [Array.toList_filter,List.mem_filter]
   refine ⟨by simp,?_⟩
   rw [this]
   simpa using hc
  have:0 < (leftOf en seen.toArray).toList.length:=List.length_pos_of_mem hmem
  simp at this
  omega
 ·obtain ⟨m1,m2⟩:=mem_left hm
  obtain ⟨i,hi,e⟩:=List.mem_iff_getElem.1 m1
  have hi:i < en.size:= by simpa using hi
  have hei:en[i]? = some m:= by rw [← e]; simp [hi]
  have hbi:=hborn i m hei
  refine .inr ⟨i,?_,m,hei,w1,hw1,?_⟩
  ·unfold K7
   rw [List.mem_filter,List.mem_range]
   refine ⟨by omega,?_⟩
   rw [hbi] at m2
   simpa using m2
  ·rw [h1,hbi]
   simp only [List.push_toArray]
   rfl
theorem B1q {liveX:List Nat} {l:Nat} {c:Sc} {e e':Ex} {st st':St} (h:A2g liveX l c e st = some (e',st')) {nt lo:Nat} {fn:Bool} {g:Ghost} {a:Act} {w:World} (hI:CInv MC P B0 nt lo fn st g a w) (hc:st.c = c) :
  e' = e∧CInv MC P B0 nt lo fn st' g a w∧Ext st.H g w st'.H g w∧st'.c = c:= by
 unfold A2g at h
 split at h
 ·next hg =>
  simp only [Option.some.injEq,Prod.mk.injEq] at h
  obtain ⟨rfl,rfl⟩:=h
  obtain ⟨r1,r2⟩:=hI.rel.kill (b:=l) ⟨_,hg,rfl⟩
  exact ⟨rfl,⟨r1,hI.slots.restrict liveX,hI.size,hc ▸ hI.sc.setTriv l .dead (fun _=>trivial),fun hfn=>(hI.dl hfn).ext r2⟩,r2,rfl⟩
 ·cases h
theorem C3w {M:Mach} (hC:B0q (MCof P) P B0 M) {nt:Nat} {x:Code} {y:Opd} {nx ok:Nat} {l0 l1 l2:List Nat} {ax:ACode} {st st':St} {e:Ex} (hm:F9 P nt (.loop x) (.loopM y nx ok l0 l1 l2 ax) = true)
  (h:D5 M st (.loopM y nx ok l0 l1 l2 ax) = some (e,st')) {b:Frame} {a:Act} {k:List Item} {cs:List Frame} {g:Ghost} {w:World} {lo:Nat} {i:Item} (hi:Enters (.loop x) i) (hb:b.roundOf = none∨A36 (.loopM y nx ok l0 l1 l2 ax) = true) (hI:CInv (MCof P) P B0 nt lo b.roundOf.isNone st g a w) :
  ∃ a' g' w',Arr P (lone (b.atR a (i :: k)) cs w) b k cs e a' w'∧CInv (MCof P) P B0 nt lo b.roundOf.isNone st' g' a' w'∧Ext st.H g w st'.H g' w'∧Unborn st.H g g'∧st'.c = st.c:= by
 obtain ⟨id,ops,c,rfl,hn,hc⟩:=B5l hm
 obtain ⟨o0,o1,yo,z0,e0,e1,g0,g1,n0,m0,d0,n1,d1,b0,b1⟩:=B85 hn
 have hb1:b.roundOf = none∨A36 ax = true:=hb.imp (fun h=>h) (fun h=>by simpa only [A36] using h)
 have s0:step P (lone (b.atR a (i :: k)) cs w) = .next (lone (b.atR a (.code (.seq (.region id ops false) c) :: .inLoop (.seq (.region id ops false) c) :: k)) cs w):= by
  rcases hi with rfl | ⟨c',hc',rfl⟩
  ·exact stepR_loop
  ·cases hc'; exact stepR_inLoop
 have s1:step P (lone (b.atR a (.code (.seq (.region id ops false) c) :: .inLoop (.seq (.region id ops false) c) :: k)) cs w) = .next (lone (b.atR a (.code (.region id ops false) :: .code c :: .inLoop (.seq (.region id ops false) c) :: k)) cs w):=stepR_seq
 have s2:step P (lone (b.atR a (.code (.region id ops false) :: .code c :: .inLoop (.seq (.region id ops false) c) :: k)) cs w) = .next (lone (b.atR a (.inRegion ops [0,1] :: .code c :: .inLoop (.seq (.region id ops false) c) :: k)) cs w):= by
  have:=stepR_region (P:=P) (b:=b) (a:=a) (k:=.code c :: .inLoop (.seq (.region id ops false) c) :: k) (cs:=cs) (w:=w) (ops:=ops) (id:=id)
  rw [z0] at this
  exact this
 simp only [D5] at h
 split at h
 ·next l hl =>
  split at h
  ·next m n seen hg =>
   split at h
   ·next es hes =>
    split at h
    ·next hif =>
     simp only [Bool.and_eq_true,decide_eq_true_eq,Bool.not_eq_true',beq_iff_eq] at hif
     obtain ⟨⟨⟨f1,f2⟩,f3⟩,f4⟩:=hif
     have hbx:st.H[l]? = some (.mit m n seen):=hg
     obtain ⟨βm',hLm,en,clock,q1,q2,q3,q4,q5⟩:=hI.rel.map hes
     have hV:=J2 hI.slots m0 hl
     generalize hev:a.eval yo = u at hV
     cases hV with
     | den _ _ hd=>cases hd
     | itr _ β hL =>
      have hbox:=hI.rel.box l _ hbx
      simp only [AO.rd,hL] at hbox
      obtain ⟨βm,l1',l2⟩:=hbox
      rw [hLm] at l1'; cases l1'
      have hcl:clock = n:= by omega
      subst hcl
      have hlt:β < w.heap.size:=(Array.getElem?_eq_some_iff.1 l2).1
      have region:∀(v:Value) (t:Bool) (w':World),(Instr.next (.pointer (some ⟨β,0,none⟩)) false o0.type).run P w = .ok v w'→(∃ vs,v = .tuple vs∧vs[0]? = some (.bool t)) →
        Steps P (lone (b.atR a (i :: k)) cs w) (lone (b.atR ((a.put (some nx) v).put (some ok) (.bool t)) (.code c :: .inLoop (.seq (.region id ops false) c) :: k)) cs w'):= by
       intro v t w' hrun ⟨vs,hv,ht⟩
       subst hv
       have t0:=B1j (P:=P) (b:=b) (a:=a) (k:=.code c :: .inLoop (.seq (.region id ops false) c) :: k) (cs:=cs) (w:=w) (w':=w') (rest:=[1]) (x:=.tuple vs) e0 (by unfold Region.wanted; rw [g0]) (by rw [n0]; intro c hc; cases hc) (.inl (by simp [execOp,n0,hev,hrun,Sem.run_bind,Result.andThen]))
       have hev1:(a.put (some nx) (.tuple vs)).eval (.tmp nx) = .tuple vs:= by
        have:nx < a.tmps.size:= by rw [hI.size]; exact b0
        simp [Act.eval,Act.put,this]
       have t1:=B1j (P:=P) (b:=b) (a:=a.put (some nx) (.tuple vs)) (k:=.code c :: .inLoop (.seq (.region id ops false) c) :: k) (cs:=cs) (w:=w') (w':=w') (rest:=[]) (x:=.bool t) e1 (by unfold Region.wanted; rw [g1]) (by rw [n1]; intro c hc; cases hc) (.inl (by simp [execOp,n1,hev1,Instr.extract,ht,Sem.run,Sem.run_bind,Result.andThen]))
       rw [d0] at t0
       rw [d1] at t1
       exact .head s0 (.head s1 (.head s2 (.head t0 (.head t1 (.one stepR_region_end)))))
      have slots:∀(g':Ghost) (v:Value) (t:Bool),g.le g'→D4 g' ((ok,.b t) :: Am.restrict st.s l0) ((a.put (some nx) v).put (some ok) (.bool t)).tmps:= by
       intro g' v t hle t' v' hv'
       have hok:ok < a.tmps.size:= by rw [hI.size]; exact b1
       simp only [I7] at hv'
       cases hq:Nat.beq ok t' with
       | true =>
        rw [hq] at hv'
        simp only [cond_true,Option.some.injEq] at hv'
        subst hv'
        obtain rfl:=Nat.eq_of_beq_eq_true hq
        exact ⟨.bool t,by simp [Act.put,hok],J8 rfl⟩
       | false =>
        rw [hq] at hv'
        simp only [cond_false] at hv'
        obtain ⟨hmem,hs⟩:=A1n.1 hv'
        obtain ⟨x,hx,hV⟩:=hI.slots _ _ hs
        have ne1:nx ≠ t':= by rintro rfl; rw [List.contains_iff_mem.mpr hmem] at f2; cases f2
        have ne2:ok ≠ t':= by rintro rfl; rw [List.contains_iff_mem.mpr hmem] at f3; cases f3
        exact ⟨x,by simp only [Act.put]; rw [Array.getElem?_setIfInBounds_ne ne2,Array.getElem?_setIfInBounds_ne ne1]; exact hx,hV.mono hle⟩
      have hsz:∀(v:Value) (t:Bool),((a.put (some nx) v).put (some ok) (.bool t)).tmps.size = nt:=fun v t=>by rw [B2s,B2s]; exact hI.size
      rcases C9t (P:=P) (ty:=o0.type) l2 q1 q4 q5 with ⟨hleft,hrun⟩ | ⟨j,hj,me,hme,w1,hw1,hrun⟩
      ·
       rw [hleft] at h
       simp only [List.isEmpty_nil,if_true] at h
       have hst:=region (.tuple #[.bool false]) false w hrun ⟨_,rfl,rfl⟩
       have hI0:CInv (MCof P) P B0 nt lo b.roundOf.isNone { st with s:=(ok,.b false) :: Am.restrict st.s l0 } g ((a.put (some nx) (.tuple #[.bool false])).put (some ok) (.bool false)) w :=
        ⟨hI.rel,slots g _ false (Ghost.le_refl g),hsz _ _,hI.sc,by rw [A3f,A3f]; exact hI.dl⟩
       split at h
       ·cases h
       ·next e1' st1 hne h1 =>
        obtain ⟨a1,g1,w1,p1,p2,p3,p4,p5⟩:=hC _ _ _ _ _ _ hc h1 b _ (.inLoop (.seq (.region id ops false) c) :: k) cs g w lo _ (.inl rfl) hb1 hI0
        have hen:e1' ≠ .normal:= by rintro rfl; first | exact hne rfl | exact hne _ rfl
        obtain ⟨rfl,c1,c2,c3⟩:=B1q h p2 p5
        exact ⟨a1,g1,w1,.of_steps hst (.pass hen (fun _ _=>rfl) p1),c1,p3.trans c2,p4,c3⟩
       ·cases h
      ·
       have hne:(K7 clock seen).isEmpty = false:= by
        cases hq:K7 clock seen with
        | nil=>rw [hq] at hj; cases hj
        | cons _ _=>rfl
       rw [hne] at h
       simp only [Bool.false_eq_true,if_false] at h
       have h:=A68 h hj
       have hst:=region (.tuple #[.bool true,me.key,me.val]) true _ hrun ⟨_,rfl,rfl⟩
       have hR1:Rel (MCof P) P B0 st.H g w1∧Ext st.H g w st.H g w1∧w1.heap = w.heap:= by
        rcases hw1 with rfl | rfl
        ·exact ⟨hI.rel,Ext.refl _ _ _,rfl⟩
        ·exact ⟨hI.rel.drew,Ext.drew _ _ _,rfl⟩
       obtain ⟨r1,r2,r3⟩:=hR1
       have hput:=r1.put hbx rfl (β:=β) (by rw [hL]; rfl) (fun off=>by simp [World.cell?,r3,l2]) (.mapIter (some βm') clock (seen++[j]).toArray clock) (o':=.mit m clock (seen++[j]))
        (by rw [hL]; exact ⟨βm',hLm,A3w w1 _ (by rw [r3]; exact hlt)⟩)
       have hE:=r2.trans hput.2
       have hsc:ScOk st.c (hset st.H l (.mit m clock (seen++[j]))):=hI.sc.set l _ (fun B hB hlB=>by have:=hI.sc.bd B hB l hlB _ hbx; exact this)
       have hI0:CInv (MCof P) P B0 nt lo b.roundOf.isNone { s:=(ok,.b true) :: Am.restrict st.s l0,H:=hset st.H l (.mit m clock (seen++[j])),c:=⟨st.H.length,st.c.cur :: st.c.outer⟩ } g ((a.put (some nx) (.tuple #[.bool true,me.key,me.val])).put (some ok) (.bool true)) (w1.putObj β (.mapIter (some βm') clock (seen++[j]).toArray clock)) :=
        ⟨hput.1,slots g _ true (Ghost.le_refl g),hsz _ _,by have:=hsc.enter hput.1; rw [F4] at this; exact this,fun hfn=>by rw [A3f,A3f]; exact (hI.dl hfn).ext hE⟩
       split at h
       ·next st1 h1 =>
        obtain ⟨a1,g1,w2,p1,p2,p3,p4,p5⟩:=hC _ _ _ _ _ _ hc h1 b _ (.inLoop (.seq (.region id ops false) c) :: k) cs g _ lo _ (.inl rfl) hb1 hI0
        split at h
        ·next hbd =>
         have hE3:=hE.trans p3
         have hsc1:ScOk ⟨st.H.length,st.c.cur :: st.c.outer⟩ st1.H:= by
          have p5':st1.c = ⟨st.H.length,st.c.cur :: st.c.outer⟩:=p5
          exact p5' ▸ p2.sc
         obtain ⟨u1,u2⟩:=Rel.take hI.rel hE3 p2.rel (fun i hi o ho=>hsc1.bd _ (by simp) i hi o ho)
         obtain ⟨a2,g2,w3,t1,t2,t3,t4,t5⟩:=hC _ _ _ _ _ _ hm h b a1 k cs (Z4 st.H.length g1) w2 lo (.inLoop (.seq (.region id ops false) c)) (.inr ⟨_,rfl,rfl⟩) hb
          ⟨u1,(p2.slots.restrict l1).cut (B29 hbd),p2.size,(hsc1.leave hI.sc.out).take hI.sc.cur,fun hfn=>by
           obtain ⟨d0,βs,d1,d2,d3⟩:=p2.dl hfn
           exact ⟨d0,βs,d1,d2,fun β hβ=>⟨(d3 β hβ).1,(d3 β hβ).2.1,(d3 β hβ).2.2.1,fun i hc=>by
            simp only [Z4] at hc
            split at hc
            ·exact (d3 β hβ).2.2.2 i hc
            ·simp [GB.blk] at hc⟩⟩⟩
         refine ⟨a2,g2,w3,.of_steps (hst.trans p1) t1,t2,u2.trans t3,?_,t5⟩
         have u3:Unborn st.H g g1:=fun i hi hn=>p4 i (by rw [F4]; exact hi) hn
         exact (Unborn.cut u3).trans t4 (by simp; have:=hE3.len; omega)
        ·cases h
       ·next e1' st1 hne' h1 =>
        obtain ⟨a1,g1,w2,p1,p2,p3,p4,p5⟩:=hC _ _ _ _ _ _ hc h1 b _ (.inLoop (.seq (.region id ops false) c) :: k) cs g _ lo _ (.inl rfl) hb1 hI0
        have hen:e1' ≠ .normal:= by rintro rfl; first | exact hne' rfl | exact hne' _ rfl
        have hsc1:ScOk ⟨st.H.length,st.c.cur :: st.c.outer⟩ st1.H:= by
          have p5':st1.c = ⟨st.H.length,st.c.cur :: st.c.outer⟩:=p5
          exact p5' ▸ p2.sc
        obtain ⟨rfl,c1,c2,c3⟩:=B1q (st:={ st1 with c:=st.c }) h ⟨p2.rel,p2.slots,p2.size,hsc1.leave hI.sc.out,p2.dl⟩ rfl
        exact ⟨a1,g1,w2,.of_steps hst (.pass hen (fun _ _=>rfl) p1),c1,(hE.trans p3).trans c2,fun i hi hn=>p4 i (by rw [F4]; exact hi) hn,c3⟩
       ·cases h
    ·cases h
   ·cases h
  ·cases h
 ·cases h
theorem C8q (hmix:P.follows .mixedOrders = true) {M:Mach} (hC:B0q (MCof P) P B0 M) (hM:B0p (MCof P) P B0 M) (hN:NoS M):B0q (MCof P) P B0 ⟨M.call,fun ac st=>D5 M st ac⟩:= by
 intro nt code ac st e st' hm h b a k cs g w lo i hi hb hI
 simp only at h
 cases code with
 | skip =>
  obtain rfl:=hi.code (by simp)
  cases ac <;> simp only [F9,Bool.false_eq_true] at hm
  simp only [D5,Option.some.injEq,Prod.mk.injEq] at h
  obtain ⟨rfl,rfl⟩:=h
  exact ⟨a,g,w,.one stepR_skip,hI,Ext.refl _ _ _,Unborn.refl _ _,rfl⟩
 | label l =>
  obtain rfl:=hi.code (by simp)
  cases ac <;> simp only [F9,Bool.false_eq_true] at hm
  simp only [D5,Option.some.injEq,Prod.mk.injEq] at h
  obtain ⟨rfl,rfl⟩:=h
  exact ⟨a,g,w,.one stepR_label,hI,Ext.refl _ _ _,Unborn.refl _ _,rfl⟩
 | region id ops d =>
  obtain rfl:=hi.code (by simp)
  cases ac <;> simp only [F9,Bool.false_eq_true] at hm
  exact C2i hmix hM hN hm h hI
 | seq x y =>
  obtain rfl:=hi.code (by simp)
  cases ac <;> simp only [F9,Bool.false_eq_true,Bool.and_eq_true] at hm
  rename_i ax ay
  have hb1:b.roundOf = none∨A36 ax = true:=hb.imp id (fun h=>by simp only [A36,Bool.and_eq_true] at h; exact h.1)
  have hb2:b.roundOf = none∨A36 ay = true:=hb.imp id (fun h=>by simp only [A36,Bool.and_eq_true] at h; exact h.2)
  simp only [D5] at h
  have s0:step P (lone (b.atR a (.code (.seq x y) :: k)) cs w) = _:=stepR_seq
  split at h
  ·next st1 h1 =>
   obtain ⟨a1,g1,w1,q1,q2,q3,q4,q5⟩:=hC _ _ _ _ _ _ hm.1 h1 b a (.code y :: k) cs g w lo _ (.inl rfl) hb1 hI
   obtain ⟨a2,g2,w2,p1,p2,p3,p4,p5⟩:=hC _ _ _ _ _ _ hm.2 h b a1 k cs g1 w1 lo _ (.inl rfl) hb2 q2
   exact ⟨a2,g2,w2,.of_steps (.head s0 q1) p1,p2,q3.trans p3,q4.trans p4 q3.len,p5.trans q5⟩
  ·next hne =>
   obtain ⟨a1,g1,w1,q1,q2,q3,q4,q5⟩:=hC _ _ _ _ _ _ hm.1 h b a (.code y :: k) cs g w lo _ (.inl rfl) hb1 hI
   have hen:e ≠ .normal:= by rintro rfl; exact hne _ h
   exact ⟨a1,g1,w1,.of_steps (.one s0) (.pass hen (fun _ _=>rfl) q1),q2,q3,q4,q5⟩
 | cond cnd x y =>
  obtain rfl:=hi.code (by simp)
  cases ac <;> simp only [F9,Bool.false_eq_true,Bool.and_eq_true] at hm
  rename_i ac ax ay
  have hb1:b.roundOf = none∨A36 ax = true:=hb.imp id (fun h=>by simp only [A36,Bool.and_eq_true] at h; exact h.1)
  have hb2:b.roundOf = none∨A36 ay = true:=hb.imp id (fun h=>by simp only [A36,Bool.and_eq_true] at h; exact h.2)
  simp only [D5] at h
  split at h
  ·next hv =>
   have:=P2 (J2 hI.slots hm.1.1 hv)
   obtain ⟨a1,g1,w1,q1,q2,q3,q4,q5⟩:=hC _ _ _ _ _ _ hm.1.2 h b a k cs g w lo _ (.inl rfl) hb1 hI
   exact ⟨a1,g1,w1,.of_steps (.one (by have:=stepR_cond (P:=P) (b:=b) (k:=k) (cs:=cs) (w:=w) (x:=x) (y:=y) this; simpa using this)) q1,q2,q3,q4,q5⟩
  ·next hv =>
   have:=P2 (J2 hI.slots hm.1.1 hv)
   obtain ⟨a1,g1,w1,q1,q2,q3,q4,q5⟩:=hC _ _ _ _ _ _ hm.2 h b a k cs g w lo _ (.inl rfl) hb2 hI
   exact ⟨a1,g1,w1,.of_steps (.one (by have:=stepR_cond (P:=P) (b:=b) (k:=k) (cs:=cs) (w:=w) (x:=x) (y:=y) this; simpa using this)) q1,q2,q3,q4,q5⟩
  ·cases h
 | block id x =>
  obtain rfl:=hi.code (by simp)
  cases ac <;> simp only [F9,Bool.false_eq_true,Bool.and_eq_true] at hm
  rename_i id' ax
  have hid:id = id':= by simpa using hm.1
  subst hid
  have hb1:b.roundOf = none∨A36 ax = true:=hb.imp (fun h=>h) (fun h=>by simpa only [A36] using h)
  simp only [D5] at h
  have s0:step P (lone (b.atR a (.code (.block id x) :: k)) cs w) = _:=stepR_block
  split at h
  ·next j st1 h1 =>
   obtain ⟨a1,g1,w1,q1,q2,q3,q4,q5⟩:=hC _ _ _ _ _ _ hm.2 h1 b a (.inBlock id :: k) cs g w lo _ (.inl rfl) hb1 hI
   obtain ⟨k',r1,r2⟩:=q1
   split at h
   ·next hj =>
    simp only [Option.some.injEq,Prod.mk.injEq] at h
    obtain ⟨rfl,rfl⟩:=h
    have hj':=Nat.eq_of_beq_eq_true hj
    subst hj'
    have:exitTo j k' = some k:= by rw [r1]; simp [exitTo]
    exact ⟨a1,g1,w1,.head s0 (r2.trans (.one (stepR_exit this))),q2,q3,q4,q5⟩
   ·next hj =>
    simp only [Option.some.injEq,Prod.mk.injEq] at h
    obtain ⟨rfl,rfl⟩:=h
    have hj':¬ id = j:=fun e=>hj (by simp [e])
    refine ⟨a1,g1,w1,⟨k',?_,.head s0 r2⟩,q2,q3,q4,q5⟩
    rw [r1]
    have hb':(id == j) = false:= by simpa using hj'
    simp [exitTo,hb']
  ·next hne =>
   obtain ⟨a1,g1,w1,q1,q2,q3,q4,q5⟩:=hC _ _ _ _ _ _ hm.2 h b a (.inBlock id :: k) cs g w lo _ (.inl rfl) hb1 hI
   cases e with
   | normal=>exact ⟨a1,g1,w1,.head s0 (Steps.trans q1 (.one stepR_inBlock)),q2,q3,q4,q5⟩
   | exit j=>exact absurd h (hne _ _)
   | ret=>exact ⟨a1,g1,w1,.of_steps (.one s0) q1,q2,q3,q4,q5⟩
 | loop x =>
  cases ac with
  | loopM y nx ok l0 l1 l2 ax=>exact C3w hC hm h hi hb hI
  | loop tr live ax =>
   have hm':F9 P nt (.loop x) (.loop tr live ax) = true:=hm
   simp only [F9] at hm
   have hb1:b.roundOf = none∨A36 ax = true:=hb.imp id (fun h=>by simpa only [A36] using h)
   have s0:step P (lone (b.atR a (i :: k)) cs w) = .next (lone (b.atR a (.code x :: .inLoop x :: k)) cs w):= by
    rcases hi with rfl | ⟨c,hc,rfl⟩
    ·exact stepR_loop
    ·cases hc; exact stepR_inLoop
   simp only [D5] at h
   have hI0:CInv (MCof P) P B0 nt lo b.roundOf.isNone (if tr then { s:=restrict st.s live,H:=st.H,c:=⟨st.H.length,st.c.cur :: st.c.outer⟩ } else { st with s:=restrict st.s live }) g a w:= by
    cases tr with
    | true=>exact ⟨hI.rel,hI.slots.restrict live,hI.size,hI.sc.enter hI.rel,hI.dl⟩
    | false=>exact ⟨hI.rel,hI.slots.restrict live,hI.size,hI.sc,hI.dl⟩
   have hH0:(if tr then ({ s:=restrict st.s live,H:=st.H,c:=⟨st.H.length,st.c.cur :: st.c.outer⟩ }:St) else { st with s:=restrict st.s live }).H = st.H:= by cases tr <;> rfl
   split at h
   ·next st1 h1 =>
    obtain ⟨a1,g1,w1,q1,q2,q3,q4,q5⟩:=hC _ _ _ _ _ _ hm h1 b a (.inLoop x :: k) cs g w lo _ (.inl rfl) hb1 hI0
    rw [hH0] at q3 q4
    cases tr with
    | true =>
     simp only [if_true] at h q5
     split at h
     ·next hbd =>
      have hsc:ScOk ⟨st.H.length,st.c.cur :: st.c.outer⟩ st1.H:=q5 ▸ q2.sc
      obtain ⟨t1,t2⟩:=Rel.take hI.rel q3 q2.rel (fun i hi o ho=>hsc.bd _ (by simp) i hi o ho)
      obtain ⟨a2,g2,w2,p1,p2,p3,p4,p5⟩:=hC _ _ _ _ _ _ hm' h b a1 k cs (Z4 st.H.length g1) w1 lo (.inLoop x) (.inr ⟨x,rfl,rfl⟩) hb
       ⟨t1,(q2.slots.restrict live).cut (B29 hbd),q2.size,(hsc.leave hI.sc.out).take hI.sc.cur,fun hfn=>(hI.dl hfn |>.ext t2 |> fun _=>by
        have:=q2.dl hfn
        obtain ⟨d0,βs,d1,d2,d3⟩:=this
        exact ⟨d0,βs,d1,d2,fun β hβ=>⟨(d3 β hβ).1,(d3 β hβ).2.1,(d3 β hβ).2.2.1,fun i hc=>by
         simp only [Z4] at hc
         split at hc
         ·exact (d3 β hβ).2.2.2 i hc
         ·simp [GB.blk] at hc⟩⟩)⟩
      refine ⟨a2,g2,w2,.of_steps (.head s0 q1) p1,p2,t2.trans p3,?_,p5⟩
      exact (Unborn.cut q4).trans p4 (by have:=q3.len; simp; omega)
     ·cases h
    | false =>
     simp only [Bool.false_eq_true,if_false] at h q5
     obtain ⟨a2,g2,w2,p1,p2,p3,p4,p5⟩:=hC _ _ _ _ _ _ hm' h b a1 k cs g1 w1 lo (.inLoop x) (.inr ⟨x,rfl,rfl⟩) hb ⟨q2.rel,q2.slots.restrict live,q2.size,by simpa [q5] using q2.sc,q2.dl⟩
     exact ⟨a2,g2,w2,.of_steps (.head s0 q1) p1,p2,q3.trans p3,q4.trans p4 q3.len,p5⟩
   ·next e1 st1 hne h1 =>
    simp only [Option.some.injEq,Prod.mk.injEq] at h
    obtain ⟨rfl,rfl⟩:=h
    obtain ⟨a1,g1,w1,q1,q2,q3,q4,q5⟩:=hC _ _ _ _ _ _ hm h1 b a (.inLoop x :: k) cs g w lo _ (.inl rfl) hb1 hI0
    rw [hH0] at q3 q4
    have hen:e1 ≠ .normal:= by rintro rfl; first | exact hne rfl | exact hne _ rfl
    refine ⟨a1,g1,w1,.of_steps (.one s0) (.pass hen (fun _ _=>rfl) q1),⟨q2.rel,q2.slots,q2.size,?_,q2.dl⟩,q3,q4,rfl⟩
    cases tr with
    | true =>
     have hsc:ScOk ⟨st.H.length,st.c.cur :: st.c.outer⟩ st1.H:= by simp only [if_true] at q5; exact q5 ▸ q2.sc
     exact hsc.leave hI.sc.out
    | false=>simp only [Bool.false_eq_true,if_false] at q5; exact q5 ▸ q2.sc
   ·cases h
  | _=>exact absurd hm (by cases x <;> simp [F9])
 | rangeFunc f ps aq bd =>
  obtain rfl:=hi.code (by simp)
  cases ac <;> simp only [F9,Bool.false_eq_true,Bool.and_eq_true] at hm
  rename_i f' ps' live' as' bd'
  obtain ⟨⟨⟨⟨⟨⟨m1,m2⟩,m3⟩,m4⟩,m5⟩,m6⟩,m7⟩:=hm
  have hro:b.roundOf = none:=hb.resolve_right (by simp [A36])
  have hfn:b.roundOf.isNone = true:= by simp [hro]
  simp only [D5] at h
  split at h
  ·next i0 fa fc hv =>
   split at h
   ·next rs H' hcall =>
    have hVf:=J2 hI.slots m1 hv
    have henter:=run_enterLoop_outer (P:=P) (w:=w) b.fn a.tmps ps aq bd
    obtain ⟨r1,x1⟩:=hI.rel.spare (.deferred (some []))
    obtain ⟨r2,x2⟩:=r1.reserve 1
    have hl:st.H.length < (st.H++List.replicate 1 AO.dead).length:= by simp
    have hsetE:(st.H++List.replicate 1 AO.dead).set st.H.length (.loop 0 (Am.restrict st.s live') ps' as' bd' false none) = st.H++[.loop 0 (Am.restrict st.s live') ps' as' bd' false none]:= by simp
    have hps:ps = ps'.toArray:= by
     have:ps.toList = ps':= by simpa using m2
     subst this; simp
    let rec0:Loop:={ state:=.ready,pending:=none,fn:=b.fn,tmps:=a.tmps,params:=ps,assign:=aq,body:=bd,defers:=w.heap.size }
    have hsz1:(w.alloc (.deferred (some []))).heap.size = w.heap.size + 1:= by simp
    have hle1:g.le ⟨G3 g.L st.H.length (.loop (w.heap.size + 1)),g.Φ,g.gl⟩:=⟨fun j=>by
     by_cases e:j = st.H.length
     ·subst e; rw [hI.rel.nolive _ (Nat.le_refl _)]; trivial
     ·simp only [G3,if_neg e]; exact GB.le_refl _,fun _ _ _ h=>h⟩
    obtain ⟨r3,x3⟩:=r2.alloc (i:=st.H.length) hl (r1.nolive _ (Nat.le_refl _)) (.loop rec0) (o':=.loop 0 (Am.restrict st.s live') ps' as' bd' false none) (gb':=.loop (w.heap.size + 1)) (by rw [hsz1]; rfl)
     ⟨rec0,by rw [← hsz1]; exact World.alloc_heap_new _ _,rfl,rfl,hps,(hI.slots.restrict live').mono hle1,⟨by rw [show rec0.tmps.size = nt from hI.size]; exact m6,m4⟩,⟨by rw [show rec0.tmps.size = nt from hI.size]; exact m7,m5⟩,
      fun t ht=>by rw [show rec0.tmps.size = nt from hI.size]; simpa using List.all_eq_true.1 m3 t ht⟩
    rw [hsetE] at r3 x3
    have hE1:=(x1.trans x2).trans x3
    obtain ⟨fr0,c1,c2⟩:=hM _ _ _ _ _ _ hcall ⟨G3 g.L st.H.length (.loop (w.heap.size + 1)),g.Φ,g.gl⟩ _ (a.eval f) #[.func (.yield (w.heap.size + 1)) #[] #[]] r3 (hI.sc.app _) (hVf.mono hle1) rfl
     (fun j y hj=>by
      rcases j with _ | j <;> simp at hj
      subst hj
      exact .fn _ _ _ _ _ _ ⟨w.heap.size + 1,by simp [G3],rfl⟩ rfl rfl (by simp) (by simp))
    have hst:=B4f (P:=P) (b:=b) (a:=a) (k:=k) (cs:=cs) (w:=w) (f:=f) (l:=w.heap.size + 1) (mark:=[{ target:=.collected w.heap.size,args:=#[] }]) (by rw [hro]; exact henter) c1
    obtain ⟨us,w2,g2,fs,d1,d2,d3,d4,d5,d6,d7⟩:=c2 (b.atR { a with defers:=[{ target:=.collected w.heap.size,args:=#[] }]++a.defers } (.inRangeFunc (w.heap.size + 1) :: k)) cs
    rw [B0v] at d1
    have hL2:g2.L st.H.length = .loop (w.heap.size + 1):=B57 d5.le (by simp [G3])
    have hE2:=hE1.trans d5
    have fin:∀(s2:B4) (f2:Nat) ps2 as2 bd2 (pend:Option Ex),H'[st.H.length]? = some (.loop f2 s2 ps2 as2 bd2 false pend) →
      ∃ jump w3,jump = pend.bind B18∧step P (lone (b.atR { a with defers:=[{ target:=.collected w.heap.size,args:=#[] }]++a.defers } (.endRangeFunc (w.heap.size + 1) :: k)) cs w2) = .next (lone (b.atR { a with defers:=[{ target:=.collected w.heap.size,args:=#[] }]++a.defers } ((jump.map Item.code).toList++k)) cs w3) ∧
       CInv (MCof P) P B0 nt lo b.roundOf.isNone { st with H:=hset H' st.H.length .dead } g2 { a with defers:=[{ target:=.collected w.heap.size,args:=#[] }]++a.defers } w3∧Ext st.H g w (hset H' st.H.length .dead) g2 w3∧Unborn st.H g g2:= by
     intro s2 f2 ps2 as2 bd2 pend hH
     have hbox:=d4.box _ _ hH
     simp only [AO.rd] at hbox
     rw [hL2] at hbox
     obtain ⟨r,b1,b2,b3,_⟩:=hbox
     have hbusy:r.state ≠ .busy:= by rw [b2]; cases pend <;> simp
     obtain ⟨r4,x4⟩:=d4.put hH rfl (β:=w.heap.size + 1) (by rw [hL2]; rfl) (B3u b1) (.loop { r with state:=.exhausted }) (o':=.dead) trivial
     have hE3:=hE2.trans x4
     refine ⟨r.pending,_,b3,B22 (run_endLoop b1 hbusy),⟨r4,hI.slots.mono hE3.le,hI.size,d6.setTriv _ .dead (fun _=>trivial),fun _=>?_⟩,hE3,?_⟩
     ·obtain ⟨e0,βs,e1,e2,e3⟩:=hI.dl hfn
      have hdef:B9o lo (A58 w.heap.size :: a.defers) ⟨G3 g.L st.H.length (.loop (w.heap.size + 1)),g.Φ,g.gl⟩ ((w.alloc (.deferred (some []))).alloc (.loop rec0)):= by
       have hold:=(hI.dl hfn).ext hE1
       obtain ⟨f0,βs',f1,f2,f3⟩:=hold
       refine ⟨f0,w.heap.size :: βs',by rw [List.map_cons,f1],?_,?_⟩
       ·refine List.nodup_cons.2 ⟨fun hmem=>?_,f2⟩
        have hb':βs' = βs:=B7g (by rw [← f1,← e1])
        subst hb'
        have:=(e3 _ hmem).2.1
        omega
       ·intro β hβ
        rcases List.mem_cons.1 hβ with rfl | hβ
        ·refine ⟨?_,by simp; omega,?_,?_⟩
         ·exact e0
         ·rw [hao _ _ _ (by simp)]; exact World.alloc_heap_new _ _
         ·intro i hc
          simp only [G3] at hc
          split at hc
          ·simp [GB.blk] at hc
          ·have:=(hI.rel.base i _ hc).2; omega
        ·exact f3 β hβ
      exact (hdef.ext d5).ext x4
     ·intro i hi hn
      refine d7 i (by simp; omega) ?_
      have:i ≠ st.H.length:= by omega
      simpa [G3,this] using hn
    split at h
    ·next f2 s2 ps2 as2 bd2 hH =>
     simp only [Option.some.injEq,Prod.mk.injEq] at h
     obtain ⟨rfl,rfl⟩:=h
     obtain ⟨jump,w3,j1,j2,j3,j4,j5⟩:=fin _ _ _ _ _ _ hH
     simp only [Option.bind_none] at j1
     subst j1
     exact ⟨_,g2,w3,.head hst (d1.trans (.one j2)),j3,j4,j5,rfl⟩
    ·next f2 s2 ps2 as2 bd2 e2 hH =>
     simp only [Option.some.injEq,Prod.mk.injEq] at h
     obtain ⟨rfl,rfl⟩:=h
     obtain ⟨jump,w3,j1,j2,j3,j4,j5⟩:=fin _ _ _ _ _ _ hH
     have hs:Steps P (lone (b.atR a (.code (.rangeFunc f ps aq bd) :: k)) cs w) _:=.head hst (d1.trans (.one j2))
     refine ⟨_,g2,w3,?_,j3,j4,j5,rfl⟩
     cases e2 with
     | normal=>subst j1; exact hs
     | exit id=>subst j1; exact ⟨k,rfl,hs⟩
     | ret=>subst j1; exact ⟨k,hs⟩
    ·cases h
   ·cases h
  ·cases h
 | exit id =>
  obtain rfl:=hi.code (by simp)
  cases ac <;> simp only [F9,Bool.false_eq_true] at hm
  simp only [D5,Option.some.injEq,Prod.mk.injEq] at h
  obtain ⟨rfl,rfl⟩:=h
  rename_i id'
  have:id = id':= by simpa using hm
  subst this
  exact ⟨a,g,w,⟨k,rfl,.refl _ _⟩,hI,Ext.refl _ _ _,Unborn.refl _ _,rfl⟩
 | ret =>
  obtain rfl:=hi.code (by simp)
  cases ac <;> simp only [F9,Bool.false_eq_true] at hm
  simp only [D5,Option.some.injEq,Prod.mk.injEq] at h
  obtain ⟨rfl,rfl⟩:=h
  exact ⟨a,g,w,⟨k,.refl _ _⟩,hI,Ext.refl _ _ _,Unborn.refl _ _,rfl⟩
 | scope x =>
  obtain rfl:=hi.code (by simp)
  cases ac <;> simp only [F9,Bool.false_eq_true] at hm
  rename_i ax
  have hb1:b.roundOf = none∨A36 ax = true:=hb.imp (fun h=>h) (fun h=>by simpa only [A36] using h)
  simp only [D5] at h
  have s0:step P (lone (b.atR a (.code (.scope x) :: k)) cs w) = .next (lone (b.atR a (.code x :: .inScope x :: k)) cs w):=step_lone_go (by simp [stepG,stepG.exec,Frame.atR])
  obtain ⟨a1,g1,w1,q1,q2,q3,q4,q5⟩:=hC _ _ _ _ _ _ hm h b a (.inScope x :: k) cs g w lo _ (.inl rfl) hb1 hI
  cases e with
  | normal =>
   have s1:step P (lone (b.atR a1 (.inScope x :: k)) cs w1) = .next (lone (b.atR a1 k) cs w1):=step_lone_go (by simp [stepG,stepG.exec,Frame.atR])
   exact ⟨a1,g1,w1,.head s0 (Steps.trans q1 (.one s1)),q2,q3,q4,q5⟩
  | exit j=>exact ⟨a1,g1,w1,.of_steps (.one s0) (.pass (by simp) (fun _ _=>rfl) q1),q2,q3,q4,q5⟩
  | ret=>exact ⟨a1,g1,w1,.of_steps (.one s0) q1,q2,q3,q4,q5⟩
 | goto l=>cases ac <;> simp [F9] at hm
 | refuse s=>cases ac <;> simp [F9] at hm
end
theorem B1o:∀(l:List AV) (i t:Nat) (v:AV),sget (J7 i l) t = some v→i≤t∧l[t - i]? = some v
 | [],i,t,v,h=>by simp [J7,M1,I7] at h
 | x :: l,i,t,v,h=>by
  simp only [J7,M1,I7] at h
  cases hb:Nat.beq i t with
  | true =>
   have:=Nat.eq_of_beq_eq_true hb
   subst this
   simp [hb] at h; subst h
   simp
  | false =>
   simp only [hb,cond_false] at h
   obtain ⟨h1,h2⟩:=B1o l (i + 1) t v h
   refine ⟨by omega,?_⟩
   have e:t - i = (t - (i + 1)) + 1:= by omega
   rw [e]; simpa using h2
theorem C1a {g:Ghost}:∀(ps:List Nat) (args:List AV) (vs:List Value) (s:B4) (tmps:Array Value),ps.length = args.length→vs.length = args.length→(∀ t ∈ ps,t < tmps.size)→(∀ (j:Nat) x,args[j]? = some x→V g x (vs[j]?.getD undef))→D4 g s tmps →
  D4 g ((ps.zip args).foldl (fun s x=>sput s (some x.1) x.2) s) ((ps.zip vs).foldl (fun tmps x=>tmps.setIfInBounds x.1 x.2) tmps)∧((ps.zip vs).foldl (fun tmps x=>tmps.setIfInBounds x.1 x.2) tmps).size = tmps.size
 | [],args,vs,s,tmps,_,_,_,_,h=>by simpa using h
 | p :: ps,[],vs,s,tmps,hl,_,_,_,h=>by simp at hl
 | p :: ps,x :: args,[],s,tmps,_,hl,_,_,h=>by simp at hl
 | p :: ps,x :: args,v :: vs,s,tmps,hl,hl2,hp,hV,h=>by
  simp only [List.zip_cons_cons,List.foldl_cons]
  have h0:=D4.put (a:={ tmps,defers:=[] }) (dst:=some p) (v:=x) (x:=v) h (hV 0 x rfl) (fun d hd=>by cases hd; exact hp p (by simp))
  have:=C1a ps args vs (sput s (some p) x) (tmps.setIfInBounds p v) (by simpa using hl) (by simpa using hl2) (fun t ht=>by simpa using hp t (by simp [ht])) (fun j y hj=>hV (j + 1) y hj) h0
  exact ⟨this.1,by rw [this.2]; simp⟩
section
variable {MC:Nat→Code→ACode→Prop} {P:Program} {B0:Nat}
theorem Rel.marks {H0 H:A1} {g0 g:Ghost} {w0 w w':World} (hE:Ext H0 g0 w0 H g w) (hR:Rel MC P B0 H g w) {βs:List Nat} (hown:∀β ∈ βs,w0.heap.size≤β∧w.heap[β]? = some (.deferred (some []))∧∀ i,(g.L i).blk ≠ some β)
  (h1:w'.os = w.os) (h2:w'.tape = w.tape) (h3:w'.output = w.output) (h4:w'.heap.size = w.heap.size) (h5:∀β,β ∉ βs→w'.heap[β]? = w.heap[β]?):Rel MC P B0 H g w'∧Ext H0 g0 w0 H g w':= by
 refine ⟨⟨?_,?_,hR.inj,?_,hR.nolive,by rw [h4]; exact hR.b0⟩,⟨hE.len,h1.trans hE.os,h2.trans hE.tape,h3.trans hE.output,by rw [h4]; exact hE.size,hE.le,hE.blk,hE.keep,hE.wit,?_⟩⟩
 ·intro β o v h
  have hc:=hR.phi β o v h
  by_cases hb:β ∈ βs
  ·have:=(hown β hb).2.1
   simp [World.cell?,this] at hc
  ·rw [World.cell?_of_block (h5 β hb)]; exact hc
 ·intro i β h; rw [h4]; exact hR.base i β h
 ·intro i o ho
  exact (hR.box i o ho).mono (Ghost.le_refl g) (fun β hb=>⟨h5 β (fun hm=>(hown β hm).2.2 i hb),fun _=>rfl⟩)
 ·intro β hβ hn
  obtain ⟨e1,e2⟩:=hE.frame β hβ hn
  exact ⟨(h5 β (fun hm=>by have:=(hown β hm).1; omega)).trans e1,e2⟩
theorem D1i {c:Sc} {n0:Nat} {H H':A1} {g:Ghost} {w:World} {s:B4} {tmps:Array Value} {t:TypeId} {t':Nat} {k:Option Nat} {v:AV} (hR:Rel MC P B0 H g w) (hS:D4 g s tmps) (ht:A3h P t k = true) (hk:k ≠ some 0)
  (h:prim c n0 s H (.load k (.t t')) = some (v,H')):∃x,(do loadVar t (← asAddr (tmps.getD t' undef)):Sem Value).run P w = .ok x w∧V g v x:= by
 have fin:∀p cs,sget s t' = some p→F0 H p = some cs→k.getD 1≤cs.length→v = A32 k cs→∃ x,(do loadVar t (← asAddr (tmps.getD t' undef)):Sem Value).run P w = .ok x w∧V g v x:= by
  intro p cs he hp hl hv
  have hne:cs ≠ []:= by
   intro e; subst e
   cases k with
   | none=>simp at hl
   | some k=>simp at hl; subst hl; exact hk rfl
  obtain ⟨x,hx,hV⟩:=hS t' p he
  obtain ⟨ad,e1,e2⟩:=A85 hR hp hV hne
  obtain ⟨u,hu,hV⟩:=A52 ht e2 hl
  refine ⟨u,?_,by rw [hv]; exact hV⟩
  have e3:tmps.getD t' undef = .pointer (some ad):= by rw [← e1,Array.getD_eq_getD_getElem?,hx]; rfl
  simp [e3,asAddr,hu]
 cases k with
 | none =>
  simp only [prim,ev] at h
  split at h
  ·next p he =>
   split at h
   ·next u l hp=>simp at h; exact fin p _ he hp (by simp) (by simp [A32,h.1])
   ·cases h
  ·cases h
 | some k =>
  simp only [prim,ev] at h
  split at h
  ·next p he =>
   split at h
   ·next cs hp =>
    split at h
    ·next hle=>simp at h; exact fin p _ he hp (by simpa using hle) (by simp [A32,h.1])
    ·cases h
   ·cases h
  ·cases h
def A63 (tmps:Array Value):ResultVar→Sem Value
 | .tmp t=>pure (tmps.getD t undef)
 | .cell a t=>do loadVar t (← asAddr (tmps.getD a undef))
theorem B2y {H:A1} {g:Ghost} {w:World} {s:B4} {tmps:Array Value} (hR:Rel MC P B0 H g w) (hS:D4 g s tmps):∀{l:List ResultVar} {m:List ARes} {rs:List AV},W5 P l m = true→Am.results s H m = some rs →
  ∃ us:List Value,(l.mapM (A63 tmps)).run P w = .ok us w∧us.length = rs.length∧∀ (j:Nat) x,rs[j]? = some x→V g x (us[j]?.getD undef)
 | [],[],rs,_,h=>by
  simp only [Am.results,Option.some.injEq] at h
  subst h
  exact ⟨[],rfl,rfl,by simp⟩
 | [],_ :: _,rs,hm,h=>by simp [W5] at hm
 | _ :: _,[],rs,hm,h=>by simp [W5] at hm
 | x :: l,y :: m,rs,hm,h=>by
  simp only [W5,Bool.and_eq_true] at hm
  have step:∀(v:AV) (rs':List AV) (u:Value),(A63 tmps x).run P w = .ok u w→V g v u→Am.results s H m = some rs'→rs = v :: rs' →
    ∃ us:List Value,((x :: l).mapM (A63 tmps)).run P w = .ok us w∧us.length = rs.length∧∀ (j:Nat) x,rs[j]? = some x→V g x (us[j]?.getD undef):= by
   rintro v rs' u hu hV hr rfl
   obtain ⟨us,q1,q2,q3⟩:=B2y hR hS hm.2 hr
   refine ⟨u :: us,?_,by simp [q2],fun j z hj=>?_⟩
   ·rw [List.mapM_cons]
    simp [Sem.run_bind,hu,q1]
   ·rcases j with _ | j
    ·simp at hj; subst hj; exact hV
    ·exact q3 j z (by simpa using hj)
  cases x with
  | tmp t =>
   cases y with
   | tmp t' =>
    have e:t = t':= by simpa [A3v] using hm.1
    subst e
    simp only [Am.results,Option.bind_eq_some_iff,Option.map_eq_some_iff] at h
    obtain ⟨v,hv,rs',hr,rfl⟩:=h
    obtain ⟨u,hu,hV⟩:=hS t v hv
    exact step v rs' u (by simp [A63,Array.getD_eq_getD_getElem?,hu]) hV hr rfl
   | cell _ _=>simp [A3v] at hm
  | cell a t =>
   cases y with
   | tmp _=>simp [A3v] at hm
   | cell a' k =>
    have hm1:=hm.1
    simp only [A3v,Bool.and_eq_true] at hm1
    obtain ⟨⟨e,h2⟩,h3⟩:=hm1
    have e:a = a':= by simpa using e
    subst e
    simp only [Am.results,Option.bind_eq_some_iff,Option.map_eq_some_iff] at h
    obtain ⟨v,hv,rs',hr,rfl⟩:=h
    obtain ⟨u,hu,hV⟩:=D1i hR hS h2 (by rintro rfl; simp at h3) (v:=v.1) (H':=v.2) hv
    exact step v.1 rs' u hu hV hr rfl
theorem B9k {H:A1} {g:Ghost} {w:World} {s:B4} {tmps:Array Value} {fn:Func} {m:List ARes} {rs:List AV} (hR:Rel MC P B0 H g w) (hS:D4 g s tmps) (hm:W5 P fn.results.toList m = true) (h:Am.results s H m = some rs) :
  ∃ us:List Value,(Go.results fn tmps).run P w = .ok (A6z us) w∧us.length = rs.length∧∀ (j:Nat) x,rs[j]? = some x→V g x (us[j]?.getD undef):= by
 obtain ⟨us,q1,q2,q3⟩:=B2y hR hS hm h
 refine ⟨us,?_,q2,q3⟩
 have e:Go.results fn tmps = (do let vs ← fn.results.mapM (A63 tmps); pure (if h:vs.size = 1 then vs[0] else .tuple vs)):= by
  unfold Go.results
  congr 1
 rw [e,Array.mapM_eq_mapM_toList]
 have hmap:(Functor.map (fun l:List Value=>l.toArray) (fn.results.toList.mapM (A63 tmps))).run P w = .ok us.toArray w:= by
  simp only [Sem.run_map,q1,Result.andThen_ok]
 simp only [Sem.run_bind]
 first
 | rw [hmap]
 | (have:=hmap; simp only [Functor.map] at this ⊢; rw [this])
 simp only [Result.andThen,Sem.run_pure]
 rcases us with _ | ⟨u,_ | ⟨v,us⟩⟩
 ·rfl
 ·rfl
 ·simp [A6z]
theorem D0b {g:Ghost} {f:Fn} {fa fc:List AV} {u:Value} (h:V g (.fn f fa fc) u):∃f' a' c',u = .func f' a' c'∧B4n g f f'∧a'.size = fa.length∧c'.size = fc.length∧(∀ (j:Nat) x,fa[j]? = some x→V g x (a'[j]?.getD undef))∧∀ (j:Nat) x,fc[j]? = some x→V g x (c'[j]?.getD undef):= by
 cases h with
 | den _ _ hd=>cases hd
 | fn _ f' _ _ a' c' hf l1 l2 h1 h2=>exact ⟨f',a',c',rfl,hf,l1,l2,h1,h2⟩
theorem C2r {g:Ghost}:∀{l:List AV} {us:List Value},us.length = l.length→(∀ (j:Nat) x,l[j]? = some x→V g x (us[j]?.getD undef))→RCs g l us []
 | [],us,hl,_=>by
  have:us = []:=List.length_eq_zero_iff.1 (by simpa using hl)
  subst this; exact .nil
 | v :: l,us,hl,hV=>by
  obtain ⟨u,us,rfl⟩:∃u us',us = u :: us':= by cases us with | nil=>simp at hl | cons u us=>exact ⟨u,us,rfl⟩
  exact .cons v u [] l us [] (.val v u (by simpa using hV 0 v rfl)) (C2r (by simpa using hl) (fun j x hj=>by simpa using hV (j + 1) x (by simpa using hj)))
theorem D5l {g:Ghost} {v:AV} {u:Value} (h:V g v u):RV g v u []:= by
 by_cases c:∃cs,v = .agg cs
 ·obtain ⟨cs,rfl⟩:=c
  cases h with
  | den _ _ hd=>cases hd
  | agg _ vs hl h h1 =>
   refine .agg cs vs [] (C2r (by simpa using hl) (fun j x hj=>by simpa using h j x hj)) (fun x hx=>?_)
   obtain ⟨j,hj,rfl⟩:=List.mem_iff_getElem.1 hx
   have hjc:j < cs.length:= by simp at hj; omega
   have:=h1 j _ (List.getElem?_eq_getElem hjc)
   have hj':j < vs.size:= by simpa using hj
   simpa [hj'] using this
 ·exact .one v u [] (fun cs e=>c ⟨cs,e⟩) (.val v u h)
theorem C2s {g:Ghost}:∀{l:List AV} {us:List Value},us.length = l.length→(∀ (j:Nat) x,l[j]? = some x→V g x (us[j]?.getD undef))→RVs g l us []
 | [],us,hl,_=>by
  have:us = []:=List.length_eq_zero_iff.1 (by simpa using hl)
  subst this; exact .nil
 | v :: l,us,hl,hV=>by
  obtain ⟨u,us,rfl⟩:∃u us',us = u :: us':= by cases us with | nil=>simp at hl | cons u us=>exact ⟨u,us,rfl⟩
  exact .cons v u [] l us [] (D5l (by simpa using hV 0 v rfl)) (C2s (by simpa using hl) (fun j x hj=>by simpa using hV (j + 1) x (by simpa using hj)))
theorem B3k {M:Mach} {T:Tab} (hT:B9p P T) (hC:B0q (MCof P) P B0 M) {c:Sc} {H H':A1} {i:Nat} {fa args fc rs:List AV} (h:K9 T M c H (.fn (.func i) fa fc) args = some (rs,H')) {g:Ghost} {w:World} {aq:Array Value}
  (hR:Rel (MCof P) P B0 H g w) (hS:ScOk c H) (hl:aq.size = (fa++args++fc).length) (hV:∀(j:Nat) x,(fa++args++fc)[j]? = some x→V g x (aq[j]?.getD undef)) :
  (∃ fn,P.funcs[i]? = some fn∧fn.body.isSome = true∧(fn.name != "runtime.NumGoroutine") = true) ∧
  ∀ cs,∃ us w' g' fs fr,Steps P (lone (Frame.enter P i aq .normal) cs w) (lone fr cs w')∧fr.fn = i∧fr.leaving P w' (.returned (A6z us))∧RVs g' rs us fs∧FsOk (MCof P) P g' w' (OkB B0 H g w) fs∧Rel (MCof P) P B0 H' g' w'∧Ext H g w H' g' w'∧ScOk c H'∧Unborn H g g':= by
 simp only [K9] at h
 split at h
 ·cases h
 ·next af haf =>
  obtain ⟨fn,hfn,hm⟩:=hT i af haf
  simp only [C0,Bool.and_eq_true] at hm
  obtain ⟨⟨⟨m1,m2⟩,m3⟩,m4⟩:=hm
  split at m2
  ·next code hbody =>
   refine ⟨⟨fn,hfn,by simp [hbody],m1⟩,fun cs=>?_⟩
   have goal:aq.size≤fn.ntmps→∀ (keep:Bool),(match M.code af.body { s:=J7 0 (fa++args++fc),H,c:=⟨H.length,c.cur :: c.outer⟩ } with
     | some (.normal,st) | some (.ret,st)=>(match Am.results st.s st.H af.results with | none=>none | some rs=>match (if keep then some (rs,st.H) else P4 H.length st.H rs) with | none=>none | some (rs,H')=>some (rs,trunc H.length rs H'))
     | _=>none) = some (rs,H') →
     ∃ us w' g' fs fr,Steps P (lone (Frame.enter P i aq .normal) cs w) (lone fr cs w')∧fr.fn = i∧fr.leaving P w' (.returned (A6z us))∧RVs g' rs us fs∧FsOk (MCof P) P g' w' (OkB B0 H g w) fs∧Rel (MCof P) P B0 H' g' w'∧Ext H g w H' g' w'∧ScOk c H'∧Unborn H g g':= by
    intro hsz keep h
    let b:Frame:={ (default:Frame) with fn:=i,kind:=.normal,roundOf:=none }
    let a:Act:={ tmps:=aq++Array.replicate (fn.ntmps - aq.size) undef,defers:=[] }
    have henter:Frame.enter P i aq .normal = b.atR a [.code code]:= by
     simp [Frame.enter,Frame.atR,hfn,hbody,b,a]
    have hI:CInv (MCof P) P B0 fn.ntmps w.heap.size b.roundOf.isNone { s:=J7 0 (fa++args++fc),H,c:=⟨H.length,c.cur :: c.outer⟩ } g a w:= by
     refine ⟨hR,fun t v hv=>?_,by simp [a]; omega,hS.enter hR,fun _=>⟨Nat.le_refl _,[],rfl,.nil,by simp⟩⟩
     obtain ⟨_,h2⟩:=B1o _ _ _ _ hv
     simp only [Nat.sub_zero] at h2
     have hlt:t < aq.size:= by rw [hl]; exact (List.getElem?_eq_some_iff.1 h2).1
     refine ⟨aq[t],by show (aq++_)[t]? = some aq[t]; rw [Array.getElem?_append_left hlt]; simp [hlt],?_⟩
     have:=hV t v h2
     simpa [hlt] using this
    have go:∀(e:Ex) (st:St),M.code af.body { s:=J7 0 (fa++args++fc),H,c:=⟨H.length,c.cur :: c.outer⟩ } = some (e,st)→(e = .normal∨e = .ret) →
      (match Am.results st.s st.H af.results with | none=>none | some rs=>match (if keep then some (rs,st.H) else P4 H.length st.H rs) with | none=>none | some (rs,H')=>some (rs,trunc H.length rs H')) = some (rs,H') →
      ∃ us w' g' fs fr,Steps P (lone (Frame.enter P i aq .normal) cs w) (lone fr cs w')∧fr.fn = i∧fr.leaving P w' (.returned (A6z us))∧RVs g' rs us fs∧FsOk (MCof P) P g' w' (OkB B0 H g w) fs∧Rel (MCof P) P B0 H' g' w'∧Ext H g w H' g' w'∧ScOk c H'∧Unborn H g g':= by
     intro e st hcode he hres
     obtain ⟨a1,g1,w1,q1,q2,q3,q4,q5⟩:=hC _ _ _ _ _ _ m2 hcode b a [] cs g w w.heap.size _ (.inl rfl) (.inl rfl) hI
     have hout:∃todo,Steps P (lone (Frame.enter P i aq .normal) cs w) (lone { b.atR a1 todo with mode:=.returning } cs w1):= by
      rw [henter]
      rcases he with rfl | rfl
      ·exact ⟨[],Steps.trans q1 (.one (stepR_end rfl))⟩
      ·obtain ⟨k',hk⟩:=q1
       exact ⟨_,Steps.trans hk (.one (stepR_ret rfl))⟩
     obtain ⟨todo,hout⟩:=hout
     obtain ⟨_,βs,d1,d2,d3⟩:=q2.dl rfl
     obtain ⟨w2,t1,t2,t3,t4,t5,t6,t7⟩:=B5e (P:=P) (cs:=cs) βs { b.atR a1 todo with mode:=.returning } w1 rfl d1 d2 (fun β hβ=>(d3 β hβ).2.2.1)
     obtain ⟨r2,x2⟩:=Rel.marks q3 q2.rel (βs:=βs) (fun β hβ=>⟨(d3 β hβ).1,(d3 β hβ).2.2.1,(d3 β hβ).2.2.2⟩) t2 t3 t4 t5 t6
     split at hres
     ·cases hres
     ·next rs0 hrs =>
      obtain ⟨us,u1,u2,u3⟩:=B9k (fn:=fn) r2 q2.slots m4 hrs
      split at hres
      ·cases hres
      ·next rs1 H1 ho =>
       simp only [Option.some.injEq,Prod.mk.injEq] at hres
       obtain ⟨rfl,rfl⟩:=hres
       have hq:=q2.sc
       rw [q5] at hq
       obtain ⟨g2,fs,v1,v2,v3,hsc1⟩:∃g' fs,Going (MCof P) P B0 st.H g1 w2 H1 g'∧RVs g' rs1 us fs∧FsOk (MCof P) P g' w2 (OkB B0 H g w) fs∧ScOk ⟨H.length,c.cur :: c.outer⟩ H1:= by
        cases keep with
        | true =>
         simp only [if_true,Option.some.injEq,Prod.mk.injEq] at ho
         obtain ⟨rfl,rfl⟩:=ho
         exact ⟨g1,[],.refl r2,C2s u2 u3,.nil,hq⟩
        | false =>
         simp only [Bool.false_eq_true,if_false] at ho
         obtain ⟨g2,fs,v1,v2,v3,v4⟩:=B42 (lo:=OkB B0 H g w) r2 (fun j hj β hb=>by
          refine ⟨(r2.base j β hb).1,?_⟩
          rcases x2.blk j β hb with h | h
          ·rw [hR.nolive j hj] at h; simp [GB.blk] at h
          ·exact h) u2 u3 ho
         exact ⟨g2,fs,v1,v2,v3,C4g hq ho⟩
       have hun:Unborn H g g2:=fun j hj hn=>v1.unb j (q4 j hj hn)
       have hleave:({ b.atR a1 todo with mode:=.returning,defers:=[] }:Frame).leaving P w2 (.returned (A6z us)):=⟨rfl,rfl,rfl,fn,hfn,u1⟩
       by_cases hbd:bdL H.length rs1 = true
       ·have htr:trunc H.length rs1 H1 = H1.take H.length:= by simp [trunc,hbd]
        rw [htr]
        obtain ⟨y1,y2⟩:=Rel.take hR (x2.trans v1.ext) v1.rel (fun j hj o ho=>hsc1.bd _ (by simp) j hj o ho)
        exact ⟨us,w2,_,fs,_,hout.trans t1,rfl,hleave,v2.cut hbd,v3.cut,y1,y2,(hsc1.leave hS.out).take hS.cur,hun.cut⟩
       ·have htr:trunc H.length rs1 H1 = H1:= by simp [trunc,hbd]
        rw [htr]
        exact ⟨us,w2,g2,fs,_,hout.trans t1,rfl,hleave,v2,v3,v1.rel,x2.trans v1.ext,hsc1.leave hS.out,hun⟩
    split at h
    ·next st hc=>exact go _ _ hc (.inl rfl) h
    ·next st hc=>exact go _ _ hc (.inr rfl) h
    ·cases h
   split at h
   ·next hna =>
    rw [Bool.and_eq_true] at hna
    have hna':aq.size = af.nargs:= by rw [hl]; exact Nat.eq_of_beq_eq_true hna.1
    have hlt:af.nargs < 1000:=Nat.le_of_ble_eq_true hna.2
    refine goal ?_ false h
    simp only [decide_eq_true_eq] at m3
    rw [if_neg (by rw [Nat.ble_eq]; omega)] at m3
    omega
   ·split at h
    ·next hna =>
     have hna':aq.size + 1000 = af.nargs:= by rw [hl]; exact Nat.eq_of_beq_eq_true hna
     refine goal ?_ true h
     simp only [decide_eq_true_eq] at m3
     rw [if_pos (by rw [Nat.ble_eq]; omega)] at m3
     omega
    ·cases h
  ·cases m2
theorem B7c {H:A1} {g:Ghost} {w:World} {l β:Nat} {f:Nat} {s:B4} {ps:List Nat} {aq bd:ACode} {busy:Bool} {pend:Option Ex} (hR:Rel (MCof P) P B0 H g w) (hL:g.L l = .loop β) (h:H[l]? = some (.loop f s ps aq bd busy pend)) :
  ∃ r:Loop,w.heap[β]? = some (.loop r)∧r.state = (if busy then .busy else if pend.isNone then .ready else .done)∧r.pending = pend.bind B18∧r.params = ps.toArray∧D4 g s r.tmps∧MCof P r.tmps.size r.assign aq∧MCof P r.tmps.size r.body bd∧∀ t ∈ ps,t < r.tmps.size:= by
 have:=hR.box _ _ h
 simp only [AO.rd,hL] at this
 exact this
theorem C5c {M:Mach} {T:Tab} (hC:B0q (MCof P) P B0 M) {c:Sc} {H H':A1} {l:Nat} {args rs:List AV} (h:K9 T M c H (.fn (.yield l) [] []) args = some (rs,H')) {g:Ghost} {w:World} {β:Nat} {vs:Array Value}
  (hR:Rel (MCof P) P B0 H g w) (hS:ScOk c H) (hL:g.L l = .loop β) (hl:vs.size = args.length) (hV:∀(j:Nat) x,args[j]? = some x→V g x (vs[j]?.getD undef)) :
  ∃ r:Loop,w.heap[β]? = some (.loop r)∧vs.size = r.params.size ∧
  ∀ fr cs,∃ us w' g' fs,Steps P (lone (Frame.round β r.fn ((r.params.zip vs).foldl (fun tmps (t,a)=>tmps.setIfInBounds t a) r.tmps) r.assign r.body .normal) (fr :: cs) w) (lone (fr.finish (A6z us)) cs w')∧RVs g' rs us fs∧FsOk (MCof P) P g' w' (OkB B0 H g w) fs∧Rel (MCof P) P B0 H' g' w'∧Ext H g w H' g' w'∧ScOk c H'∧Unborn H g g':= by
 simp only [K9] at h
 split at h
 ·next f0 s0 ps aq bd hH =>
  have hH':H[l]? = some (.loop f0 s0 ps aq bd false none):=hH
  obtain ⟨r,b1,b2,b3,b4,b5,b6,b7,b8⟩:=B7c hR hL hH'
  have hll:l < H.length:=(List.getElem?_eq_some_iff.1 hH').1
  split at h
  ·next hpl =>
   have hpl':=Nat.eq_of_beq_eq_true hpl
   have hsz:vs.size = r.params.size:= by rw [b4,hl,← hpl']; simp
   refine ⟨r,b1,hsz,fun fr cs=>?_⟩
   obtain ⟨z1,z2⟩:=C1a ps args vs.toList s0 r.tmps hpl' (by simpa using hl) b8 (fun j x hj=>by simpa using hV j x hj) b5
   have hfold:(r.params.zip vs).foldl (fun tmps (t,a)=>tmps.setIfInBounds t a) r.tmps = (ps.zip vs.toList).foldl (fun tmps x=>tmps.setIfInBounds x.1 x.2) r.tmps:= by
    rw [← Array.foldl_toList]
    simp [b4,Array.toList_zip]
   let b:Frame:={ (default:Frame) with fn:=r.fn,kind:=.normal,roundOf:=some β }
   let a:Act:={ tmps:=(ps.zip vs.toList).foldl (fun tmps x=>tmps.setIfInBounds x.1 x.2) r.tmps,defers:=[] }
   have henter:Frame.round β r.fn ((r.params.zip vs).foldl (fun tmps (t,a)=>tmps.setIfInBounds t a) r.tmps) r.assign r.body .normal = b.atR a [.code r.assign,.beginRound,.code r.body]:= by
    simp only [hfold]; rfl
   have hbn:b.roundOf.isNone = false:=rfl
   split at h
   ·next st1 h1 =>
    obtain ⟨a1,g1,w1,q1,q2,q3,q4,q5⟩:=hC _ _ _ _ _ _ b6.1 h1 b a [.beginRound,.code r.body] (fr :: cs) g w 0 _ (.inl rfl) (.inr b6.2) ⟨hR,z1,z2,hS.enter hR,fun hf=>by simp [hbn] at hf⟩
    have hL1:=B57 q3.le hL
    split at h
    ·next f1 s1 ps1 as1 bd1 hH1 =>
     have hH1':st1.H[l]? = some (.loop f1 s1 ps1 as1 bd1 false none):=hH1
     obtain ⟨r1,c1,c2,c3,c4,c5,c6,c7,c8⟩:=B7c q2.rel hL1 hH1'
     have hready:r1.state = .ready:= by rw [c2]; rfl
     have hle1:H.length≤st1.H.length:=q3.len
     obtain ⟨p1,p2⟩:=q2.rel.put hH1' rfl (β:=β) (by rw [hL1]; rfl) (B3u c1) (.loop { r1 with state:=.busy }) (o':=.loop f1 s1 ps1 as1 bd1 true none) (by
      rw [hL1]
      exact ⟨{ r1 with state:=.busy },A3w _ _ (q2.rel.base l β (by rw [hL1]; rfl)).2,rfl,c3,c4,c5,c6,c7,c8⟩)
     have hbd1:∀B ∈ st1.c.cur :: st1.c.outer,l < B→(AO.loop f1 s1 ps1 as1 bd1 true none).bdP B:=fun B hB hlt=>(by have:=q2.sc.bd B hB l hlt _ hH1'; exact this)
     have hst1:step P (lone (b.atR a1 [.beginRound,.code r.body]) (fr :: cs) w1) = .next (lone (b.atR a1 [.code r.body]) (fr :: cs) (w1.putObj β (.loop { r1 with state:=.busy }))):=stepR_beginRound rfl (run_beginRound c1 hready)
     have hsz1:a1.tmps.size = r.tmps.size:=q2.size
     split at h
     ·next e st2 h2 =>
      obtain ⟨a2,g2,w2,t1,t2,t3,t4,t5⟩:=hC _ _ _ _ _ _ b7.1 h2 b a1 [] (fr :: cs) g1 _ 0 _ (.inl rfl) (.inr b7.2) ⟨p1,q2.slots,hsz1,q2.sc.set l _ hbd1,fun hf=>by simp [hbn] at hf⟩
      have hL2:=B57 t3.le hL1
      split at h
      ·next f2 s2 ps2 as2 bd2 hH2 =>
       have hH2':st2.H[l]? = some (.loop f2 s2 ps2 as2 bd2 true none):=hH2
       obtain ⟨r2,e1,e2,e3,e4,e5,e6,e7,e8⟩:=B7c t2.rel hL2 hH2'
       simp only [Option.some.injEq,Prod.mk.injEq] at h
       obtain ⟨rfl,rfl⟩:=h
       have fin:∀(jump:Option Code) (pend:Option Ex),jump = pend.bind B18→(jump.isNone = pend.isNone)→Steps P (lone (b.atR a1 [.code r.body]) (fr :: cs) (w1.putObj β (.loop { r1 with state:=.busy }))) (lone (fr.finish (.bool jump.isNone)) cs (w2.putObj β (.loop { r2 with state:=if jump.isNone then .ready else .done,pending:=jump }))) →
         ∃ us w' g' fs,Steps P (lone (b.atR a [.code r.assign,.beginRound,.code r.body]) (fr :: cs) w) (lone (fr.finish (A6z us)) cs w')∧RVs g' [.b pend.isNone] us fs∧FsOk (MCof P) P g' w' (OkB B0 H g w) fs∧Rel (MCof P) P B0 (trunc H.length [] (hset st2.H l (.loop f2 s2 ps2 as2 bd2 false pend))) g' w'∧Ext H g w (trunc H.length [] (hset st2.H l (.loop f2 s2 ps2 as2 bd2 false pend))) g' w'∧ScOk c (trunc H.length [] (hset st2.H l (.loop f2 s2 ps2 as2 bd2 false pend)))∧Unborn H g g':= by
        intro jump pend hj hjn hs
        obtain ⟨y1,y2⟩:=t2.rel.put hH2' rfl (β:=β) (by rw [hL2]; rfl) (B3u e1) (.loop { r2 with state:=if jump.isNone then .ready else .done,pending:=jump }) (o':=.loop f2 s2 ps2 as2 bd2 false pend) (by
         rw [hL2]
         refine ⟨{ r2 with state:=if jump.isNone then .ready else .done,pending:=jump },A3w _ _ (t2.rel.base l β (by rw [hL2]; rfl)).2,?_,hj,e4,e5,e6,e7,e8⟩
         simp [hjn])
        have hc2:st2.c = ⟨H.length,c.cur :: c.outer⟩:=t5.trans q5
        have hsc2:ScOk ⟨H.length,c.cur :: c.outer⟩ (hset st2.H l (.loop f2 s2 ps2 as2 bd2 false pend)):=hc2 ▸ t2.sc.set l _ (fun B hB hlt=>(by have:=t2.sc.bd B hB l hlt _ hH2'; exact this))
        have hE:=((q3.trans p2).trans t3).trans y2
        obtain ⟨x1,x2⟩:=Rel.take hR hE y1 (fun j hj o ho=>hsc2.bd _ (by simp) j hj o ho)
        have htr:trunc H.length [] (hset st2.H l (.loop f2 s2 ps2 as2 bd2 false pend)) = (hset st2.H l (.loop f2 s2 ps2 as2 bd2 false pend)).take H.length:= by simp [trunc,bdL]
        rw [htr]
        have hun:Unborn H g g2:= by
         refine q4.trans (Unborn.trans (H1:=hset st1.H l (.loop f1 s1 ps1 as1 bd1 true none)) (Unborn.refl _ _) t4 (by simp [hset])) hle1
        refine ⟨[.bool jump.isNone],_,_,[],(Steps.trans q1 (.head hst1 hs)),?_,.nil,x1,x2,(hsc2.leave hS.out).take hS.cur,hun.cut⟩
        exact .cons _ _ [] _ _ [] (.one _ _ _ (by simp) (.val _ _ (by rw [hjn]; exact J8 rfl))) .nil
       rw [henter]
       have hw2:∀jump,(Instr.endRound β jump).run P w2 = .ok (.bool jump.isNone) (w2.putObj β (.loop { r2 with state:=if jump.isNone then .ready else .done,pending:=jump })):=fun jump=>run_endRound jump e1
       cases e with
       | normal=>exact fin none none rfl rfl (Steps.trans t1 (.one (stepR_round_end rfl rfl (hw2 none))))
       | exit id =>
        obtain ⟨k',hk1,hk2⟩:=t1
        exact fin (some (.exit id)) (some (.exit id)) rfl rfl (Steps.trans hk2 (.one (stepR_round_exit rfl rfl (by rw [hk1]; rfl) (hw2 (some (.exit id))))))
       | ret =>
        obtain ⟨k',hk2⟩:=t1
        exact fin (some .ret) (some .ret) rfl rfl (Steps.trans hk2 (.one (stepR_round_ret rfl rfl (hw2 (some .ret)))))
      ·cases h
     ·cases h
    ·cases h
   ·cases h
  ·cases h
 ·cases h
theorem C8o {M:Mach} {T:Tab} (hT:B9p P T) (hC:B0q (MCof P) P B0 M):B0p (MCof P) P B0 ⟨fun c H f args=>K9 T M c H f args,M.code⟩:= by
 intro c H f args rs H' h g w fv vs hR hS hf hl hV
 simp only at h
 cases f with
 | fn f fa fc =>
  obtain ⟨f',a',c',rfl,hfr,l1,l2,h1,h2⟩:=D0b hf
  cases f with
  | func i =>
   have:f' = .func i:=hfr
   subst this
   have hl3:(a'++vs++c').size = (fa++args++fc).length:= by simp [l1,l2,hl]
   have hV3:∀(j:Nat) x,(fa++args++fc)[j]? = some x→V g x ((a'++vs++c')[j]?.getD undef):= by
    intro j x hj
    rw [List.append_assoc] at hj
    rw [Array.append_assoc]
    by_cases hj1:j < fa.length
    ·rw [List.getElem?_append_left hj1] at hj
     rw [Array.getElem?_append_left (by omega)]
     exact h1 j x hj
    ·rw [List.getElem?_append_right (by omega)] at hj
     rw [Array.getElem?_append_right (by omega),l1]
     by_cases hj2:j - fa.length < args.length
     ·rw [List.getElem?_append_left hj2] at hj
      rw [Array.getElem?_append_left (by omega)]
      exact hV _ x hj
     ·rw [List.getElem?_append_right (by omega)] at hj
      rw [Array.getElem?_append_right (by omega),hl]
      exact h2 _ x hj
   obtain ⟨⟨fn,q1,q2,q3⟩,q4⟩:=B3k hT hC h hR hS hl3 hV3
   refine ⟨_,C5i q1 q2 q3 a' c' vs,fun fr cs=>?_⟩
   obtain ⟨us,w',g',fs,fr',p1,p2,p3,p4,p5,p6,p7,p8,p9⟩:=q4 (fr :: cs)
   exact ⟨us,w',g',fs,p1.trans (.one (step_leave_returned p3)),p4,p5,p6,p7,p8,p9⟩
  | yield l =>
   obtain ⟨β,hL,rfl⟩:=hfr
   have hnil:fa = []∧fc = []:= by
    unfold K9 at h
    split at h
    ·next heq=>cases heq
    ·next heq=>cases heq; exact ⟨rfl,rfl⟩
    ·cases h
   obtain ⟨rfl,rfl⟩:=hnil
   have ea:a' = #[]:= by simpa using l1
   have ec:c' = #[]:= by simpa using l2
   subst ea; subst ec
   obtain ⟨r,q1,q2,q3⟩:=C5c hC h hR hS hL hl hV
   exact ⟨_,C1e q1 q2,fun fr cs=>q3 fr cs⟩
  | _=>exact hfr.elim
 | _=>simp [K9] at h
theorem B01 (hmix:P.follows .mixedOrders = true) {T:Tab} (hT:B9p P T):∀n,B0q (MCof P) P B0 (mach T n)∧B0p (MCof P) P B0 (mach T n)
 | 0=>⟨fun nt code ac st e st' _ h=>(by simp [mach] at h),fun c H f args rs H' h=>(by simp [mach] at h)⟩
 | n + 1=>by
  obtain ⟨hC,hM⟩:=B01 hmix hT n
  have h1:=C8q hmix hC hM (C1y n)
  have h2:=C8o hT hC
  exact ⟨h1,h2⟩
end
structure Mach.le (M M':Mach):Prop where
 call:∀c H f args r,M.call c H f args = some r→M'.call c H f args = some r
 code:∀ac st r,M.code ac st = some r→M'.code ac st = some r
section
variable {M M':Mach}
theorem C27 (h:M.le M') {c:Sc} {n0:Nat} {s:B4} {H:A1} {f:Opd} {args:List Opd} {own:List (List (Nat × Nat))} {pure:Bool} {r:AV × A1} (hr:S0 M c n0 s H f args own pure = some r):S0 M' c n0 s H f args own pure = some r:= by
 unfold S0 at hr ⊢
 split at hr
 ·next fv aq e1 e2 =>
  simp only [e1,e2]
  split at hr
  ·next hp =>
   simp only [hp,if_true]
   split at hr
   ·next hpub =>
    simp only [hpub,if_true]
    split at hr
    ·cases hr
    ·next as' H1 e3 =>
     try simp only [e3]
     split at hr
     ·cases hr
     ·next rs H2 e4=>simp only [h.call _ _ _ _ _ e4]; exact hr
   ·cases hr
  ·next hp =>
   simp only [hp]
   split at hr
   ·cases hr
   ·next as' H1 e3 =>
    try simp only [e3]
    split at hr
    ·cases hr
    ·next rs H2 e4=>simp only [h.call _ _ _ _ _ e4]; exact hr
 ·cases hr
theorem B9t (h:M.le M') {c:Sc} {n0:Nat} {s:B4} {H:A1} {op:AOp} {r:AV × A1} (hr:core M c n0 s H op = some r):core M' c n0 s H op = some r:= by
 cases op with
 | call=>exact C27 h hr
 | _=>exact hr
theorem C0p (h:M.le M') {c:Sc} {n0:Nat} {s:B4} {H:A1} {hc:List (Option (List Nat))} {o:AOper} {r:B4 × A1 × List (Option (List Nat))} (hr:oper M c n0 s H hc o = some r):oper M' c n0 s H hc o = some r:= by
 unfold oper at hr ⊢
 split at hr
 ·cases hr
 ·next hw=>(try simp only [hw]); exact hr
 ·next hw =>
  try simp only [hw]
  split at hr
  ·next hs e1 e2 =>
   try simp only [e1,e2]
   split at hr
   ·next q e3=>simp only [B9t h e3]; exact hr
   ·cases hr
  ·cases hr
theorem W7 (h:M.le M') {c:Sc} {n0:Nat}:∀{l:List AOper} {s:B4} {H:A1} {hc:List (Option (List Nat))} {r:B4 × A1},opers M c n0 l s H hc = some r→opers M' c n0 l s H hc = some r
 | [],s,H,hc,r,hr=>hr
 | o :: l,s,H,hc,r,hr=>by
  simp only [opers] at hr ⊢
  split at hr
  ·cases hr
  ·next s1 H1 hc1 e1=>simp only [C0p h e1]; exact W7 h hr
theorem C2z {α:Type} {l:List Nat} {f f':Nat→Option α} {r:α} (h:B0r l f = some r) (hl:l ≠ []) (k:∀i r,f i = some r→f' i = some r):B0r l f' = some r :=
 B27 (fun i hi=>k i r (A68 h hi)) hl
theorem B80 (h:M.le M') {ac:ACode} {st:St} {r:Ex × St} (hr:D5 M st ac = some r):D5 M' st ac = some r:= by
 cases ac with
 | region d nres pre ops live =>
  simp only [D5] at hr ⊢
  split at hr
  ·next H e1 =>
   split at hr
   ·next q e2=>simp only [W7 h e2]; exact hr
   ·cases hr
  ·cases hr
 | seq a b =>
  simp only [D5] at hr ⊢
  cases ha:M.code a st with
  | none=>simp [ha] at hr
  | some p =>
   obtain ⟨e,st1⟩:=p
   rw [h.code _ _ _ ha]
   rw [ha] at hr
   cases e with
   | normal=>exact h.code _ _ _ hr
   | _=>exact hr
 | cond c a b =>
  simp only [D5] at hr ⊢
  split at hr
  ·exact h.code _ _ _ hr
  ·exact h.code _ _ _ hr
  ·cases hr
 | block id a =>
  simp only [D5] at hr ⊢
  cases ha:M.code a st with
  | none=>simp [ha] at hr
  | some p=>rw [h.code _ _ _ ha]; rw [ha] at hr; exact hr
 | loop tr live a =>
  simp only [D5] at hr ⊢
  cases ha:M.code a (if tr then { s:=restrict st.s live,H:=st.H,c:=⟨st.H.length,st.c.cur :: st.c.outer⟩ } else { st with s:=restrict st.s live }) with
  | none=>simp [ha] at hr
  | some p =>
   obtain ⟨e,st1⟩:=p
   rw [h.code _ _ _ ha]
   rw [ha] at hr
   cases e with
   | normal =>
    cases tr with
    | true =>
     simp only [if_true] at hr ⊢
     split at hr
     ·next hb=>simp only [hb,if_true]; exact h.code _ _ _ hr
     ·cases hr
    | false=>exact h.code _ _ _ hr
   | _=>exact hr
 | rangeFunc f ps live a b =>
  simp only [D5] at hr ⊢
  split at hr
  ·next i fa fc e1 =>
   split at hr
   ·next rs H' e2=>simp only [h.call _ _ _ _ _ e2]; exact hr
   ·cases hr
  ·cases hr
 | loopM x nx ok live0 live liveX rest =>
  simp only [D5] at hr ⊢
  split at hr
  ·next l hl =>
   split at hr
   ·next m n seen hg =>
    split at hr
    ·next es hes =>
     split at hr
     ·next hif =>
      rw [if_pos hif]
      split at hr
      ·next he =>
       rw [if_pos he]
       cases h1:M.code rest { st with s:=(ok,.b false) :: restrict st.s live0 } with
       | none=>simp [h1] at hr
       | some p=>rw [h.code _ _ _ h1]; rw [h1] at hr; exact hr
      ·next he =>
       rw [if_neg he]
       refine C2z hr (fun e=>he (by rw [e]; rfl)) (fun i r q=>?_)
       cases h1:M.code rest { s:=(ok,.b true) :: restrict st.s live0,H:=hset st.H l (.mit m n (seen++[i])),c:=⟨st.H.length,st.c.cur :: st.c.outer⟩ } with
       | none=>simp [h1] at q
       | some p =>
        rw [h.code _ _ _ h1]
        rw [h1] at q
        obtain ⟨e,st1⟩:=p
        cases e with
        | normal =>
         simp only at q ⊢
         split at q
         ·next hb=>rw [if_pos hb]; exact h.code _ _ _ q
         ·cases q
        | _=>exact q
     ·cases hr
    ·cases hr
   ·cases hr
  ·cases hr
 | scope a=>exact h.code _ _ _ hr
 | skip=>exact hr
 | exit id=>exact hr
 | ret=>exact hr
theorem B8y {T:Tab} (h:M.le M') {c:Sc} {H:A1} {f:AV} {args:List AV} {r:List AV × A1} (hr:K9 T M c H f args = some r):K9 T M' c H f args = some r:= by
 unfold K9 at hr ⊢
 split at hr
 ·split at hr
  ·cases hr
  ·next af e1 =>
   simp only at hr ⊢
   split at hr
   ·next hl =>
    simp only [hl,if_true]
    split at hr
    ·next st e2=>simp only [h.code _ _ _ e2]; exact hr
    ·next st e2=>simp only [h.code _ _ _ e2]; exact hr
    ·cases hr
   ·next hl =>
    simp only [hl]
    split at hr
    ·next hl2 =>
     simp only [hl2,if_true]
     split at hr
     ·next st e2=>simp only [h.code _ _ _ e2]; exact hr
     ·next st e2=>simp only [h.code _ _ _ e2]; exact hr
     ·cases hr
    ·cases hr
 ·split at hr
  ·next e1 =>
   split at hr
   ·next hl =>
    simp only [hl,if_true]
    split at hr
    ·next st e2 =>
     simp only [h.code _ _ _ e2]
     split at hr
     ·next e3 =>
      split at hr
      ·next e st' e4=>simp only [h.code _ _ _ e4]; exact hr
      ·cases hr
     ·cases hr
    ·cases hr
   ·cases hr
  ·cases hr
 ·cases hr
end
theorem B58 (T:Tab):∀n,(mach T n).le (mach T (n + 1))
 | 0=>⟨fun _ _ _ _ _ h=>by simp [mach] at h,fun _ _ _ h=>by simp [mach] at h⟩
 | n + 1=>⟨fun _ _ _ _ _ h=>B8y (B58 T n) h,fun _ _ _ h=>B80 (B58 T n) h⟩
theorem A8s (T:Tab) (n:Nat):∀k,(mach T n).le (mach T (n + k))
 | 0=>⟨fun _ _ _ _ _ h=>h,fun _ _ _ h=>h⟩
 | k + 1=>⟨fun c H f a r h=>(B58 T (n + k)).call _ _ _ _ _ ((A8s T n k).call _ _ _ _ _ h),fun ac st r h=>(B58 T (n + k)).code _ _ _ ((A8s T n k).code _ _ _ h)⟩
theorem I6 (T:Tab) {n m:Nat} (h:n≤m):(mach T n).le (mach T m):= by
 obtain ⟨k,rfl⟩:=Nat.exists_eq_add_of_le h
 exact A8s T n k
theorem Q3 (T:Tab) (n:Nat) (ac:ACode) (st:St):(mach T (n + 1)).code ac st = D5 (mach T n) st ac:=rfl
theorem R8 (T:Tab) (n:Nat) (c:Sc) (H:A1) (f:AV) (args:List AV):(mach T (n + 1)).call c H f args = K9 T (mach T n) c H f args:=rfl
def G7 (T:Tab) (ac:ACode) (st:St) (e:Ex) (st':St):Prop:=∃ n,(mach T n).code ac st = some (e,st')
def J1 (T:Tab) (c:Sc) (H:A1) (f:AV) (args:List AV) (rs:List AV) (H':A1):Prop:=∃ n,(mach T n).call c H f args = some (rs,H')
def opers3 (M:Mach) (c:Sc) (n0:Nat):List AOper→B4 × A1 × List (Option (List Nat))→Option (B4 × A1 × List (Option (List Nat)))
 | [],x=>some x
 | o :: l,x=>match oper M c n0 x.1 x.2.1 x.2.2 o with
  | none=>none
  | some y=>opers3 M c n0 l y
abbrev OS:=B4 × A1 × List (Option (List Nat))
def C5e (T:Tab) (c:Sc) (n0:Nat) (l:List AOper) (x y:OS):Prop:=∃ n,opers3 (mach T n) c n0 l x = some y
theorem A8z {M M':Mach} (h:M.le M') {c:Sc} {n0:Nat}:∀{l:List AOper} {x y:OS},opers3 M c n0 l x = some y→opers3 M' c n0 l x = some y
 | [],x,y,hr=>hr
 | o :: l,x,y,hr=>by
  simp only [opers3] at hr ⊢
  split at hr
  ·cases hr
  ·next z e1=>simp only [C0p h e1]; exact A8z h hr
theorem B30 (M:Mach) (c:Sc) (n0:Nat):∀(l:List AOper) (x:OS),opers M c n0 l x.1 x.2.1 x.2.2 = (opers3 M c n0 l x).map fun y=>(y.1,y.2.1)
 | [],x=>rfl
 | o :: l,x=>by
  simp only [opers,opers3]
  cases oper M c n0 x.1 x.2.1 x.2.2 o with
  | none=>rfl
  | some y=>exact B30 M c n0 l y
theorem B7w (M:Mach) (c:Sc) (n0:Nat):∀(l m:List AOper) (x:OS),opers3 M c n0 (l++m) x = (opers3 M c n0 l x).bind (opers3 M c n0 m)
 | [],m,x=>rfl
 | o :: l,m,x=>by
  simp only [List.cons_append,opers3]
  cases oper M c n0 x.1 x.2.1 x.2.2 o with
  | none=>rfl
  | some y=>exact B7w M c n0 l m y
variable {T:Tab}
theorem C5e.app {c:Sc} {n0:Nat} {l l1 l2:List AOper} {x y z:OS} (hl:l = l1++l2) (h1:C5e T c n0 l1 x y) (h2:C5e T c n0 l2 y z):C5e T c n0 l x z:= by
 obtain ⟨n1,e1⟩:=h1
 obtain ⟨n2,e2⟩:=h2
 refine ⟨max n1 n2,?_⟩
 rw [hl,B7w,A8z (I6 T (Nat.le_max_left n1 n2)) e1]
 exact A8z (I6 T (Nat.le_max_right n1 n2)) e2
theorem G7.region {ac:ACode} {d:Bool} {nres:Nat} {pre live:List Nat} {ops:List AOper} {st st':St} {H:A1} {n0:Nat} {x y:OS} (hac:ac = .region d nres pre ops live) (h1:publish st.s st.H pre = some H) (hn:n0 = H.length)
  (hx:x = (st.s,H++List.replicate nres .dead,[])) (hr:C5e T st.c n0 ops x y) (hst:st' = ⟨restrict y.1 live,y.2.1,st.c⟩):G7 T ac st .normal st':= by
 obtain ⟨n,e⟩:=hr
 refine ⟨n + 1,?_⟩
 subst hac; subst hn; subst hx; subst hst
 have:=B30 (mach T n) st.c H.length ops (st.s,H++List.replicate nres .dead,[])
 rw [e] at this
 rw [Q3]
 simp only [D5,h1]
 simp only at this
 rw [this]; rfl
theorem G7.seq {ac a b:ACode} {st st1 st':St} {e:Ex} (hac:ac = .seq a b) (h1:G7 T a st .normal st1) (h2:G7 T b st1 e st'):G7 T ac st e st':= by
 obtain ⟨n1,e1⟩:=h1
 obtain ⟨n2,e2⟩:=h2
 refine ⟨max n1 n2 + 1,?_⟩
 subst hac
 rw [Q3]
 simp only [D5,(I6 T (Nat.le_max_left n1 n2)).code _ _ _ e1]
 exact (I6 T (Nat.le_max_right n1 n2)).code _ _ _ e2
def Ex.out:Ex→Bool
 | .normal=>false
 | _=>true
theorem G7.seqOut {ac a b:ACode} {st st':St} {e:Ex} (hac:ac = .seq a b) (he:e.out = true) (h1:G7 T a st e st'):G7 T ac st e st':= by
 obtain ⟨n1,e1⟩:=h1
 refine ⟨n1 + 1,?_⟩
 subst hac
 rw [Q3]
 simp only [D5,e1]
 cases e <;> first | rfl | cases he
theorem G7.cond {ac a b:ACode} {c:Opd} {t:Bool} {st st':St} {e:Ex} (hac:ac = .cond c a b) (hc:ev st.s c = some (.lit (.bool t))) (h1:G7 T (if t then a else b) st e st'):G7 T ac st e st':= by
 obtain ⟨n1,e1⟩:=h1
 refine ⟨n1 + 1,?_⟩
 subst hac
 rw [Q3]
 simp only [D5,hc]
 cases t <;> exact e1
theorem G7.condT {ac a b:ACode} {c:Opd} {st st':St} {e:Ex} (hac:ac = .cond c a b) (hc:ev st.s c = some (.lit (.bool true))) (h1:G7 T a st e st'):G7 T ac st e st':=G7.cond hac hc h1
theorem G7.condF {ac a b:ACode} {c:Opd} {st st':St} {e:Ex} (hac:ac = .cond c a b) (hc:ev st.s c = some (.lit (.bool false))) (h1:G7 T b st e st'):G7 T ac st e st':=G7.cond hac hc h1
theorem C5e.nil {c:Sc} {n0:Nat} {l:List AOper} {x:OS} (hl:l = []):C5e T c n0 l x x:=⟨0,by rw [hl]; rfl⟩
theorem G7.blockExit {ac a:ACode} {id:Nat} {st st':St} (hac:ac = .block id a) (h1:G7 T a st (.exit id) st'):G7 T ac st .normal st':= by
 obtain ⟨n1,e1⟩:=h1
 refine ⟨n1 + 1,?_⟩
 subst hac
 rw [Q3]
 simp [D5,e1]
def Ex.not (id:Nat):Ex→Bool
 | .exit j=>!Nat.beq j id
 | _=>true
theorem G7.block {ac a:ACode} {id:Nat} {st st':St} {e:Ex} (hac:ac = .block id a) (he:e.not id = true) (h1:G7 T a st e st'):G7 T ac st e st':= by
 obtain ⟨n1,e1⟩:=h1
 refine ⟨n1 + 1,?_⟩
 subst hac
 rw [Q3]
 simp only [D5,e1]
 cases e with
 | exit j=>simp only [Ex.not,Bool.not_eq_true'] at he; simp only [he,Bool.false_eq_true,if_false]
 | _=>rfl
theorem G7.scope {ac a:ACode} {st st':St} {e:Ex} (hac:ac = .scope a) (h1:G7 T a st e st'):G7 T ac st e st':= by
 obtain ⟨n1,e1⟩:=h1
 refine ⟨n1 + 1,?_⟩
 subst hac
 exact e1
def A8r (tr:Bool) (live:List Nat) (st:St):St:=if tr then { s:=restrict st.s live,H:=st.H,c:=⟨st.H.length,st.c.cur :: st.c.outer⟩ } else { st with s:=restrict st.s live }
def B2a (tr:Bool) (live:List Nat) (st st1:St):Option St :=
 if tr then (if Y9 st.H.length (restrict st1.s live) then some { s:=restrict st1.s live,H:=st1.H.take st.H.length,c:=st.c } else none)
 else some { s:=restrict st1.s live,H:=st1.H,c:=st.c }
theorem G7.loop {ac body:ACode} {tr:Bool} {live:List Nat} {st st0 st1 st2 st':St} {e:Ex} (hac:ac = .loop tr live body) (h0:st0 = A8r tr live st) (h1:G7 T body st0 .normal st1) (h2:B2a tr live st st1 = some st2)
  (h3:G7 T ac st2 e st'):G7 T ac st e st':= by
 obtain ⟨n1,e1⟩:=h1
 obtain ⟨n2,e2⟩:=h3
 refine ⟨max n1 n2 + 1,?_⟩
 subst hac; subst h0
 have e1':=(I6 T (Nat.le_max_left n1 n2)).code _ _ _ e1
 have e2':=(I6 T (Nat.le_max_right n1 n2)).code _ _ _ e2
 rw [Q3]
 unfold A8r at e1'
 unfold B2a at h2
 simp only [D5,e1']
 cases tr with
 | true =>
  simp only [if_true] at h2 ⊢
  split at h2
  ·next hb=>simp only [Option.some.injEq] at h2; subst h2; simp only [hb,if_true]; exact e2'
  ·cases h2
 | false =>
  simp only [Bool.false_eq_true,if_false,Option.some.injEq] at h2 ⊢
  subst h2; exact e2'
theorem G7.loopOut {ac body:ACode} {tr:Bool} {live:List Nat} {st st0 st1 st':St} {e:Ex} (hac:ac = .loop tr live body) (h0:st0 = A8r tr live st) (he:e.out = true) (h1:G7 T body st0 e st1) (hst:st' = { st1 with c:=st.c }):G7 T ac st e st':= by
 obtain ⟨n1,e1⟩:=h1
 refine ⟨n1 + 1,?_⟩
 subst hac; subst h0; subst hst
 rw [Q3]
 unfold A8r at e1
 simp only [D5,e1]
 cases e <;> first | rfl | cases he
theorem J1.fn {c:Sc} {H H1 H':A1} {f:AV} {i:Nat} {fa fc args aq rs0 rs1 rs:List AV} {af:AFunc} {bd:ACode} {st st':St} {e:Ex} (hf:f = .fn (.func i) fa fc) (haf:T i = some af) (hb:af.body = bd) (has:aq = fa++args++fc) (hn:(Nat.beq aq.length af.nargs && Nat.blt af.nargs 1000) = true)
  (hst:st = { s:=J7 0 aq,H,c:=⟨H.length,c.cur :: c.outer⟩ }) (h1:G7 T bd st e st') (he:(match e with | .exit _=>false | _=>true) = true) (h2:results st'.s st'.H af.results = some rs0) (h3:P4 H.length st'.H rs0 = some (rs1,H1))
  (hr:rs = rs1) (hH:H' = trunc H.length rs1 H1):J1 T c H f args rs H':= by
 obtain ⟨n1,e1⟩:=h1
 refine ⟨n1 + 1,?_⟩
 subst hf; subst has; subst hst; subst hr; subst hH
 rw [R8]
 subst hb
 simp only [K9,haf,hn,if_true]
 simp only [e1]
 cases e with
 | exit id=>cases he
 | _=>simp only [h2,h3]
theorem J1.yield {c:Sc} {H H':A1} {f:AV} {l:Nat} {args rs:List AV} {f0 f1 f2:Nat} {s0 s1 s2:B4} {ps ps1 ps2:List Nat} {aq as1 as2 bd bd1 bd2:ACode} {st0 st1 st1' st2:St} {e:Ex} (hf:f = .fn (.yield l) [] []) (h0:hget H l = some (.loop f0 s0 ps aq bd false none))
  (hn:Nat.beq ps.length args.length = true) (hst:st0 = { s:=(ps.zip args).foldl (fun s x=>sput s (some x.1) x.2) s0,H,c:=⟨H.length,c.cur :: c.outer⟩ }) (h1:G7 T aq st0 .normal st1) (h2:hget st1.H l = some (.loop f1 s1 ps1 as1 bd1 false none))
  (hst1:st1' = { st1 with H:=hset st1.H l (.loop f1 s1 ps1 as1 bd1 true none) }) (h3:G7 T bd st1' e st2) (h4:hget st2.H l = some (.loop f2 s2 ps2 as2 bd2 true none))
  (hr:rs = [.b (!e.out)]) (hH:H' = trunc H.length [] (hset st2.H l (.loop f2 s2 ps2 as2 bd2 false (match e with | .normal=>none | e=>some e)))):J1 T c H f args rs H':= by
 obtain ⟨n1,e1⟩:=h1
 obtain ⟨n2,e2⟩:=h3
 refine ⟨max n1 n2 + 1,?_⟩
 subst hf; subst hst; subst hst1; subst hr; subst hH
 have e1':=(I6 T (Nat.le_max_left n1 n2)).code _ _ _ e1
 have e2':=(I6 T (Nat.le_max_right n1 n2)).code _ _ _ e2
 rw [R8]
 simp only [K9,h0,hn,if_true,e1',h2,e2',h4]
 cases e <;> rfl
theorem G7.rangeFunc {ac aq bd:ACode} {f:Opd} {ps live:List Nat} {i l:Nat} {fa fc rs:List AV} {st st':St} {H0 H':A1} {f1:Nat} {s1:B4} {ps1:List Nat} {as1 bd1:ACode} {pend:Option Ex} {e:Ex} (hac:ac = .rangeFunc f ps live aq bd) (hf:ev st.s f = some (.fn (.func i) fa fc)) (hl:l = st.H.length)
  (hH0:H0 = st.H++[.loop 0 (restrict st.s live) ps aq bd false none]) (h1:J1 T st.c H0 (.fn (.func i) fa fc) [.fn (.yield l) [] []] rs H') (h2:hget H' l = some (.loop f1 s1 ps1 as1 bd1 false pend)) (he:e = pend.getD .normal)
  (hst:st' = { st with H:=hset H' l .dead }):G7 T ac st e st':= by
 obtain ⟨n1,e1⟩:=h1
 refine ⟨n1 + 1,?_⟩
 subst hac; subst hl; subst hH0; subst he; subst hst
 rw [Q3]
 simp only [D5,hf,e1,h2]
 cases pend <;> rfl
theorem G7.loopM_end {ac:ACode} {x:Opd} {nx ok l m n:Nat} {live0 live liveX seen:List Nat} {rest:ACode} {st st1 st':St} {es:List (AV × AV)} {e:Ex} (hac:ac = .loopM x nx ok live0 live liveX rest) (hx:ev st.s x = some (.itr l))
  (hl:hget st.H l = some (.mit m n seen)) (hm:hmap st.H m = some es) (hif:(decide (es.length = n) && !live0.contains nx && !live0.contains ok && !Nat.beq nx ok) = true) (h0:K7 n seen = [])
  (h1:G7 T rest { st with s:=(ok,.b false) :: restrict st.s live0 } e st1) (he:e.out = true) (hc:A2g liveX l st.c e st1 = some (e,st')):G7 T ac st e st':= by
 obtain ⟨n1,e1⟩:=h1
 refine ⟨n1 + 1,?_⟩
 subst hac
 rw [Q3]
 simp only [D5,hx,hl,hm]
 rw [if_pos (by simpa using hif),if_pos (by rw [h0]; rfl),e1]
 cases e with
 | normal=>cases he
 | _=>exact hc
theorem G7.loopM_step {ac:ACode} {x:Opd} {nx ok l m n:Nat} {live0 live liveX seen:List Nat} {rest:ACode} {st st':St} {es:List (AV × AV)} {e:Ex} (hac:ac = .loopM x nx ok live0 live liveX rest) (hx:ev st.s x = some (.itr l))
  (hl:hget st.H l = some (.mit m n seen)) (hm:hmap st.H m = some es) (hif:(decide (es.length = n) && !live0.contains nx && !live0.contains ok && !Nat.beq nx ok) = true) (h0:K7 n seen ≠ [])
  (h1:∀i ∈ K7 n seen,(∃ st1,G7 T rest { s:=(ok,.b true) :: restrict st.s live0,H:=hset st.H l (.mit m n (seen++[i])),c:=⟨st.H.length,st.c.cur :: st.c.outer⟩ } .normal st1∧Y9 st.H.length (restrict st1.s live) = true∧G7 T ac { s:=restrict st1.s live,H:=st1.H.take st.H.length,c:=st.c } e st') ∨
   (∃ st1,G7 T rest { s:=(ok,.b true) :: restrict st.s live0,H:=hset st.H l (.mit m n (seen++[i])),c:=⟨st.H.length,st.c.cur :: st.c.outer⟩ } e st1∧e.out = true∧A2g liveX l st.c e st1 = some (e,st'))):G7 T ac st e st':= by
 subst hac
 let f:Nat→Nat→Option (Ex × St):=fun k i=>match (mach T k).code rest { s:=(ok,.b true) :: restrict st.s live0,H:=hset st.H l (.mit m n (seen++[i])),c:=⟨st.H.length,st.c.cur :: st.c.outer⟩ } with
  | some (.normal,st')=>if Y9 st.H.length (restrict st'.s live) then (mach T k).code (.loopM x nx ok live0 live liveX rest) { s:=restrict st'.s live,H:=st'.H.take st.H.length,c:=st.c } else none
  | some (e,st')=>A2g liveX l st.c e st'
  | none=>none
 have fle:∀{k k':Nat},k≤k'→∀ {i:Nat} {r:Ex × St},f k i = some r→f k' i = some r:= by
  intro k k' hk i r q
  have hle:=I6 T hk
  simp only [f] at q ⊢
  cases h2:(mach T k).code rest { s:=(ok,.b true) :: restrict st.s live0,H:=hset st.H l (.mit m n (seen++[i])),c:=⟨st.H.length,st.c.cur :: st.c.outer⟩ } with
  | none=>rw [h2] at q; cases q
  | some p =>
   rw [hle.code _ _ _ h2]
   rw [h2] at q
   obtain ⟨e2,st2⟩:=p
   cases e2 with
   | normal =>
    simp only at q ⊢
    split at q
    ·next hb=>rw [if_pos hb]; exact hle.code _ _ _ q
    ·cases q
   | _=>exact q
 have each:∀i ∈ K7 n seen,∃ k,f k i = some (e,st'):= by
  intro i hi
  rcases h1 i hi with ⟨st1,⟨k1,q1⟩,hbd,⟨k2,q2⟩⟩ | ⟨st1,⟨k1,q1⟩,ho,hcl⟩
  ·refine ⟨max k1 k2,?_⟩
   simp only [f]
   rw [(I6 T (Nat.le_max_left k1 k2)).code _ _ _ q1]
   simp only
   rw [if_pos hbd]
   exact (I6 T (Nat.le_max_right k1 k2)).code _ _ _ q2
  ·refine ⟨k1,?_⟩
   simp only [f]
   rw [q1]
   cases e with
   | normal=>cases ho
   | _=>exact hcl
 have all:∀L:List Nat,(∀ i ∈ L,∃ k,f k i = some (e,st'))→∃ k,∀ i ∈ L,f k i = some (e,st'):= by
  intro L
  induction L with
  | nil=>intro _; exact ⟨0,fun i hi=>by cases hi⟩
  | cons j L ih =>
   intro hL
   obtain ⟨k1,q1⟩:=hL j (List.mem_cons_self ..)
   obtain ⟨k2,q2⟩:=ih fun i hi=>hL i (List.mem_cons_of_mem _ hi)
   refine ⟨max k1 k2,fun i hi=>?_⟩
   rcases List.mem_cons.1 hi with rfl | hi
   ·exact fle (Nat.le_max_left k1 k2) q1
   ·exact fle (Nat.le_max_right k1 k2) (q2 i hi)
 obtain ⟨k,hk⟩:=all _ each
 refine ⟨k + 1,?_⟩
 rw [Q3]
 simp only [D5,hx,hl,hm]
 rw [if_pos (by simpa using hif),if_neg (by
  intro he
  cases hq:K7 n seen with
  | nil=>exact h0 hq
  | cons a l=>rw [hq] at he; cases he)]
 exact B27 hk h0
def Sub (s S:B4):Prop:=∀ t v,sget s t = some v→sget S t = some v
theorem Sub.refl (s:B4):Sub s s:=fun _ _ h=>h
theorem Sub.trans {a b c:B4} (h:Sub a b) (k:Sub b c):Sub a c:=fun t v e=>k t v (h t v e)
theorem Sub.nil (S:B4):Sub [] S:=fun _ _ h=>by simp [M1,I7] at h
theorem Sub.cons {s S:B4} {t:Nat} {v:AV} (h:sget S t = some v) (k:Sub s S):Sub ((t,v) :: s) S:= by
 intro i w e
 simp only [M1,I7] at e
 cases hb:Nat.beq t i with
 | true=>rw [hb] at e; simp only [cond_true,Option.some.injEq] at e; subst e; rw [← Nat.eq_of_beq_eq_true hb]; exact h
 | false=>rw [hb] at e; exact k i w e
theorem Sub.put {s S:B4} (h:Sub s S) (d:Option Nat) (v:AV):Sub (sput s d v) (sput S d v):= by
 cases d with
 | none=>exact h
 | some d =>
  intro i w e
  simp only [sput,M1,I7] at e ⊢
  cases hb:Nat.beq d i with
  | true=>rw [hb] at e; exact e
  | false=>rw [hb] at e; exact h i w e
theorem Sub.restrict {s S:B4} (h:Sub s S) (l:List Nat):Sub (restrict s l) (restrict S l):= by
 intro t v e
 rw [A1n] at e ⊢
 exact ⟨e.1,h t v e.2⟩
section
variable {s S:B4} (h:Sub s S)
include h
theorem A1p {x:Opd} {v:AV} (e:ev s x = some v):ev S x = some v:= by
 cases x with
 | t i=>exact h _ _ e
 | c v=>exact e
 | f i=>exact e
theorem A8g:∀{l:List Opd} {vs:List AV},evs s l = some vs→evs S l = some vs
 | [],_,e=>e
 | x :: l,vs,e=>by
  simp only [evs,Option.bind_eq_some_iff,Option.map_eq_some_iff] at e ⊢
  obtain ⟨v,e1,w,e2,e3⟩:=e
  exact ⟨v,A1p h e1,w,A8g e2,e3⟩
theorem B1u:∀{l:List (Nat × Nat × Opd)} {vs:List (Nat × Nat × AV)},R2 s l = some vs→R2 S l = some vs
 | [],_,e=>e
 | (a,b,x) :: l,vs,e=>by
  simp only [R2,Option.bind_eq_some_iff,Option.map_eq_some_iff] at e ⊢
  obtain ⟨v,e1,w,e2,e3⟩:=e
  exact ⟨v,A1p h e1,w,B1u e2,e3⟩
theorem A56:∀{l:List (Nat × Opd)} {vs:List (Nat × AV)},K5 s l = some vs→K5 S l = some vs
 | [],_,e=>e
 | (a,x) :: l,vs,e=>by
  simp only [K5,Option.bind_eq_some_iff,Option.map_eq_some_iff] at e ⊢
  obtain ⟨v,e1,w,e2,e3⟩:=e
  exact ⟨v,A1p h e1,w,A56 e2,e3⟩
theorem C5u {x:Opd} {n:Int} (e:A8f s x = some n):A8f S x = some n:= by
 unfold A8f at e ⊢
 cases hx:ev s x with
 | none=>simp [hx] at e
 | some v=>rw [A1p h hx]; rw [hx] at e; exact e
theorem X8 {d:Int} {x:Option Opd} {n:Int} (e:bnd s d x = some n):bnd S d x = some n:= by
 cases x with
 | none=>exact e
 | some x=>exact C5u h e
theorem C0z {c:Sc} {n0:Nat} {H:A1} {op:AOp} {r:AV × A1} (e:prim c n0 s H op = some r):prim c n0 S H op = some r:= by
 have E:∀x v,ev s x = some v→ev S x = some v:=fun x v=>A1p h
 cases op with
 | nil=>exact e
 | alloc=>exact e
 | mkmap=>exact e
 | call=>exact e
 | build z parts =>
  simp only [prim,Option.bind_eq_some_iff] at e ⊢
  obtain ⟨ps,e1,e2⟩:=e
  exact ⟨ps,B1u h e1,e2⟩
 | lits k z n parts own =>
  simp only [prim,Option.bind_eq_some_iff] at e ⊢
  obtain ⟨ps,e1,e2⟩:=e
  exact ⟨ps,A56 h e1,e2⟩
 | xlits k z n parts =>
  simp only [prim,Option.bind_eq_some_iff] at e ⊢
  obtain ⟨ps,e1,e2⟩:=e
  exact ⟨ps,A56 h e1,e2⟩
 | mkfn f a b =>
  simp only [prim] at e ⊢
  cases h1:evs s a with
  | none=>simp [h1] at e
  | some u =>
   cases h2:evs s b with
   | none=>simp [h1,h2] at e
   | some w=>rw [A8g h h1,A8g h h2]; rw [h1,h2] at e; exact e
 | mm mx xs =>
  simp only [prim] at e ⊢
  cases h1:evs s xs with
  | none=>simp [h1] at e
  | some u=>rw [A8g h h1]; rw [h1] at e; exact e
 | mv x | box n x r | nilck x | un op x | conv k x | idc x | nilq q x | fieldAddr o x | field k o x | range x r | rangeM x r | next x | entry x | extract x i | lenS x | lenM x | lenL x | clear k z x =>
  simp only [prim] at e ⊢
  cases h1:ev s x with
  | none=>simp [h1] at e
  | some u=>rw [E _ _ h1]; rw [h1] at e; exact e
 | load k x =>
  cases k <;>
  ·simp only [prim] at e ⊢
   cases h1:ev s x with
   | none=>simp [h1] at e
   | some u=>rw [E _ _ h1]; rw [h1] at e; exact e
 | pick c a b =>
  simp only [prim] at e ⊢
  cases h1:ev s c with
  | none=>simp [h1] at e
  | some u =>
   rw [E _ _ h1]; rw [h1] at e
   split at e
   ·next hu =>
    cases h2:ev s a with
    | none=>simp [h2] at e
    | some w=>simp only [Option.some.injEq] at hu; subst hu; (try simp only); rw [E _ _ h2]; rw [h2] at e; exact e
   ·next hu =>
    cases h2:ev s b with
    | none=>simp [h2] at e
    | some w=>simp only [Option.some.injEq] at hu; subst hu; (try simp only); rw [E _ _ h2]; rw [h2] at e; exact e
   ·cases e
 | store k x y | bin op x y | beq ng x y | cmp ng ks x y | idxS k x y | idxA k n x y | idxStr x y | idxAgg k sz n x y | lookup z ag ks x y ok | append k b x y r fz | copy k x y | mkslice k b z x y r =>
  simp only [prim] at e ⊢
  cases h1:ev s x with
  | none=>simp [h1] at e
  | some u =>
   cases h2:ev s y with
   | none=>simp [h1,h2] at e
   | some w=>rw [E _ _ h1,E _ _ h2]; rw [h1,h2] at e; exact e
 | mupd ag ks x y z =>
  simp only [prim] at e ⊢
  cases h1:ev s x with
  | none=>simp [h1] at e
  | some u =>
   cases h2:ev s y with
   | none=>simp [h1,h2] at e
   | some w =>
    cases h3:ev s z with
    | none=>simp [h1,h2,h3] at e
    | some w'=>rw [E _ _ h1,E _ _ h2,E _ _ h3]; rw [h1,h2,h3] at e; exact e
 | sliceS x lo hi =>
  simp only [prim] at e ⊢
  cases h1:ev s x with
  | none=>simp [h1] at e
  | some u =>
   rw [E _ _ h1]; rw [h1] at e
   split at e
   ·next b hu =>
    simp only [Option.some.injEq] at hu; subst hu
    try simp only
    cases h2:bnd s 0 lo with
    | none=>simp [h2] at e
    | some w =>
     cases h3:bnd s b.size hi with
     | none=>simp [h2,h3] at e
     | some w'=>rw [X8 h h2,X8 h h3]; rw [h2,h3] at e; exact e
   ·cases e
 | storeN x k r =>
  simp only [prim] at e ⊢
  cases h1:ev s x with
  | none=>simp [h1] at e
  | some u=>rw [E _ _ h1]; rw [h1] at e; exact e
 | mvz x =>
  simp only [prim] at e ⊢
  cases h1:ev s x with
  | none=>simp [h1] at e
  | some u=>rw [E _ _ h1]; rw [h1] at e; exact e
 | sliceL k x lo hi =>
  simp only [prim] at e ⊢
  cases h1:ev s x with
  | none=>simp [h1] at e
  | some u =>
   rw [E _ _ h1]; rw [h1] at e
   simp only at e ⊢
   split at e
   ·next k' rows H' hu =>
    try simp only [hu]
    cases h2:bnd s 0 lo with
    | none=>simp [h2] at e
    | some w =>
     cases h3:bnd s rows.length hi with
     | none=>simp [h2,h3] at e
     | some w'=>rw [X8 h h2,X8 h h3]; rw [h2,h3] at e; exact e
   ·cases e
 | sliceQ k x lo hi =>
  simp only [prim] at e ⊢
  cases h1:ev s x with
  | none=>simp [h1] at e
  | some u =>
   rw [E _ _ h1]; rw [h1] at e
   simp only [Option.bind_some] at e ⊢
   split at e
   ·next k' rows hu =>
    try simp only [hu]
    cases h2:bnd s 0 lo with
    | none=>simp [h2] at e
    | some w =>
     cases h3:bnd s rows.length hi with
     | none=>simp [h2,h3] at e
     | some w'=>rw [X8 h h2,X8 h h3]; rw [h2,h3] at e; exact e
   ·cases e
 | sub k x lo hi =>
  simp only [prim] at e ⊢
  cases h1:ev s x with
  | none=>simp [h1] at e
  | some u =>
   rw [E _ _ h1]; rw [h1] at e
   split at e
   ·next k' rows hu =>
    simp only [Option.some.injEq] at hu; subst hu
    try simp only
    cases h2:bnd s 0 lo with
    | none=>simp [h2] at e
    | some w =>
     cases h3:bnd s rows.length hi with
     | none=>simp [h2,h3] at e
     | some w'=>rw [X8 h h2,X8 h h3]; rw [h2,h3] at e; exact e
   ·next b n hu =>
    simp only [Option.some.injEq] at hu; subst hu
    try simp only
    split at e
    ·next k' q rows hr =>
     try simp only [hr]
     cases h2:bnd s 0 lo with
     | none=>simp [h2] at e
     | some w =>
      cases h3:bnd s n hi with
      | none=>simp [h2,h3] at e
      | some w'=>rw [X8 h h2,X8 h h3]; rw [h2,h3] at e; exact e
    ·cases e
   ·cases e
 | sliceA k n x hi =>
  simp only [prim] at e ⊢
  cases h1:ev s x with
  | none=>simp [h1] at e
  | some u =>
   rw [E _ _ h1]; rw [h1] at e
   split at e
   ·next b o hu =>
    simp only [Option.some.injEq] at hu; subst hu
    try simp only
    cases h2:hcells H b with
    | none=>simp [h2] at e
    | some w =>
     cases h3:bnd s n hi with
     | none=>rw [h2,h3] at e; simp at e
     | some w'=>rw [X8 h h3]; rw [h2,h3] at e; exact e
   ·cases e
 | cut k x hi r =>
  simp only [prim] at e ⊢
  cases h1:ev s x with
  | none=>simp [h1] at e
  | some u =>
   rw [E _ _ h1]; rw [h1] at e
   split at e
   ·next b n hu =>
    simp only [Option.some.injEq] at hu; subst hu
    try simp only
    cases h2:X9 H b with
    | none=>simp [h2] at e
    | some w =>
     cases h3:bnd s n hi with
     | none=>rw [h2,h3] at e; split at e <;> simp_all
     | some w'=>rw [X8 h h3]; rw [h2,h3] at e; exact e
   ·cases e
theorem B5i {g:Option (Nat × Bool)} {b:Bool} (e:wanted s g = some b):wanted S g = some b:= by
 cases g with
 | none=>exact e
 | some g =>
  simp only [wanted] at e ⊢
  cases h1:sget s g.1 with
  | none=>simp [h1] at e
  | some u=>rw [h _ _ h1]; rw [h1] at e; exact e
theorem C08 {H:A1}:∀{l:List (Nat × List Nat)} {bs:List Nat},ways s H l = some bs→ways S H l = some bs
 | [],_,e=>e
 | x :: l,bs,e=>by
  simp only [ways] at e ⊢
  cases h1:sget s x.1 with
  | none=>simp [h1] at e
  | some u =>
   rw [h _ _ h1]; rw [h1] at e
   simp only [Option.bind_some] at e ⊢
   split at e
   ·next b hb =>
    cases h2:follow H b x.2 with
    | none=>simp [h2] at e
    | some b' =>
     cases h3:ways s H l with
     | none=>simp [h2,h3] at e
     | some r=>rw [C08 h3]; rw [h2,h3] at e; exact e
   ·cases e
theorem C82 {n0:Nat} {H:A1} {o:AOper} {hs:List Nat} (e:A2j n0 s H o = some hs):A2j n0 S H o = some hs:= by
 unfold A2j at e ⊢
 split at e
 ·next bs hb=>rw [C08 h hb]; exact e
 ·cases e
theorem C9p {M:Mach} {c:Sc} {n0:Nat} {H:A1} {op:AOp} {r:AV × A1} (e:core M c n0 s H op = some r):rbox S op = rbox s op:= by
 have key:∀a,(∃ v,ev s a = some v)→(ev S a).bind AV.box? = (ev s a).bind AV.box?:= by
  rintro a ⟨v,hv⟩; rw [A1p h hv,hv]
 have nn:∀a,((ev s a = none)→False)→∃ v,ev s a = some v:= by
  intro a ha
  cases hh:ev s a with
  | none=>exact (ha hh).elim
  | some v=>exact ⟨v,rfl⟩
 cases op <;> simp only [rbox,L7,Option.bind_none,Option.bind_some]
 case load k a=>exact key a (nn a fun hh=>by cases k <;> simp [core,prim,hh] at e)
 case lookup z ag ks x i ok=>exact key x (nn x fun hh=>by simp [core,prim,hh] at e)
 case lenL x=>exact key x (nn x fun hh=>by simp [core,prim,hh] at e)
 case lenM x=>exact key x (nn x fun hh=>by simp [core,prim,hh] at e)
 case idxS k x i=>exact key x (nn x fun hh=>by simp [core,prim,hh] at e)
 case sub k x lo hi=>exact key x (nn x fun hh=>by simp [core,prim,hh] at e)
 case sliceA k n x hi=>exact key x (nn x fun hh=>by simp [core,prim,hh] at e)
 case sliceQ k x lo hi=>exact key x (nn x fun hh=>by simp [core,prim,hh] at e)
theorem C5n {M:Mach} {c:Sc} {n0:Nat} {H:A1} {op:AOp} {r:AV × A1} (e:core M c n0 s H op = some r):core M c n0 S H op = some r:= by
 cases op with
 | call f args own pure =>
  simp only [core,S0] at e ⊢
  cases h1:ev s f with
  | none=>simp [h1] at e
  | some u =>
   cases h2:evs s args with
   | none=>simp [h1,h2] at e
   | some w=>rw [A1p h h1,A8g h h2]; rw [h1,h2] at e; exact e
 | _=>simp only [core] at e ⊢; exact C0z h e
theorem C9i {M:Mach} {c:Sc} {n0:Nat} {H:A1} {hc:List (Option (List Nat))} {o:AOper} {s':B4} {H':A1} {hc':List (Option (List Nat))} (e:oper M c n0 s H hc o = some (s',H',hc')) :
  ∃ S',oper M c n0 S H hc o = some (S',H',hc')∧Sub s' S':= by
 unfold oper at e ⊢
 split at e
 ·cases e
 ·next hw =>
  rw [B5i h hw]
  simp only [Option.some.injEq,Prod.mk.injEq] at e
  obtain ⟨rfl,rfl,rfl⟩:=e
  exact ⟨_,rfl,h.put _ _⟩
 ·next hw =>
  rw [B5i h hw]
  simp only
  split at e
  ·next hs e1 e2 =>
   rw [C82 h e1]
   split at e
   ·next q e3 =>
    have e4:N1 S o hc = true:= by
     rw [← e2]; unfold N1; rw [C9p h e3]
    rw [e4]
    simp only [C5n h e3]
    split at e
    ·next e5 =>
     simp only [e5,if_true]
     simp only [Option.some.injEq,Prod.mk.injEq] at e
     obtain ⟨rfl,rfl,rfl⟩:=e
     exact ⟨_,rfl,h.put _ _⟩
    ·cases e
   ·cases e
  ·cases e
end
theorem B09 {M:Mach} {c:Sc} {n0:Nat}:∀{l:List AOper} {s S:B4} (_:Sub s S) {H:A1} {hc:List (Option (List Nat))} {s':B4} {H':A1},opers M c n0 l s H hc = some (s',H') →
  ∃ S',opers M c n0 l S H hc = some (S',H')∧Sub s' S'
 | [],s,S,h,H,hc,s',H',e=>by
  simp only [opers,Option.some.injEq,Prod.mk.injEq] at e
  obtain ⟨rfl,rfl⟩:=e
  exact ⟨S,rfl,h⟩
 | o :: l,s,S,h,H,hc,s',H',e=>by
  simp only [opers] at e ⊢
  split at e
  ·cases e
  ·next s1 H1 hc1 e1 =>
   obtain ⟨S1,e2,h1⟩:=C9i h e1
   simp only [e2]
   exact B09 h1 e
theorem R3 {s S:B4} (h:Sub s S) {H:A1}:∀{l:List ARes} {rs:List AV},results s H l = some rs→results S H l = some rs
 | [],_,e=>e
 | .tmp t :: l,rs,e=>by
  simp only [results,Option.bind_eq_some_iff,Option.map_eq_some_iff] at e ⊢
  obtain ⟨v,e1,w,e2,e3⟩:=e
  exact ⟨v,h _ _ e1,w,R3 h e2,e3⟩
 | .cell t k :: l,rs,e=>by
  simp only [results,Option.bind_eq_some_iff,Option.map_eq_some_iff] at e ⊢
  obtain ⟨v,e1,w,e2,e3⟩:=e
  exact ⟨v,C0z h e1,w,R3 h e2,e3⟩
section
variable (p g:Nat)
def rb (b:Nat):Nat:=bif Nat.blt b p then b else b + g
def B2w:Fn→Fn
 | .yield l=>.yield (rb p g l)
 | f=>f
mutual
def ren:AV→AV
 | .xseq k rows=>.xseq k (renR rows)
 | .ptr b o=>.ptr (rb p g b) o
 | .itr b=>.itr (rb p g b)
 | .eptr b n i o=>.eptr (rb p g b) n i o
 | .cptr cs=>.cptr (renL cs)
 | .asl b n=>.asl (rb p g b) n
 | .csl b o k n=>.csl (rb p g b) o k n
 | .mp b=>.mp (rb p g b)
 | .fn f a c=>.fn (B2w p g f) (renL a) (renL c)
 | .agg cs=>.agg (renL cs)
 | .tup cs=>.tup (renL cs)
 | .lit v=>.lit v
 | .nils k=>.nils k
 | .seq k rows=>.seq k (renR rows)
 | .fresh k rows=>.fresh k (renR rows)
 | .undef=>.undef
def renL:List AV→List AV
 | []=>[]
 | v :: l=>ren v :: renL l
def renR:List (List AV)→List (List AV)
 | []=>[]
 | r :: l=>renL r :: renR l
end
theorem M7:∀l:List AV,renL p g l = l.map (ren p g)
 | []=>by simp only [renL,List.map_nil]
 | v :: l=>by simp only [renL,List.map_cons,M7 l]
theorem A01:∀l:List (List AV),renR p g l = l.map (fun r=>r.map (ren p g))
 | []=>by simp only [renR,List.map_nil]
 | v :: l=>by simp only [renR,List.map_cons,A01 l,M7]
def N0 (s:B4):B4:=s.map fun x=>(x.1,ren p g x.2)
def D9:Opd→Opd
 | .c v=>.c (ren p g v)
 | x=>x
def A00:Option Opd→Option Opd
 | some x=>some (D9 p g x)
 | none=>none
def I4:AOp→AOp
 | .mv x=>.mv (D9 p g x)
 | .mvz x=>.mvz (D9 p g x)
 | .storeN x k r=>.storeN (D9 p g x) k r
 | .pick c a b=>.pick (D9 p g c) (D9 p g a) (D9 p g b)
 | .nil k r=>.nil k r
 | .alloc zs owns r=>.alloc (renL p g zs) owns r
 | .box n x r=>.box n (D9 p g x) r
 | .build z parts=>.build (renL p g z) (parts.map fun q=>(q.1,q.2.1,D9 p g q.2.2))
 | .lits k z n parts own=>.lits k (renL p g z) n (parts.map fun q=>(q.1,D9 p g q.2)) own
 | .xlits k z n parts=>.xlits k (renL p g z) n (parts.map fun q=>(q.1,D9 p g q.2))
 | .load k a=>.load k (D9 p g a)
 | .store k a v=>.store k (D9 p g a) (D9 p g v)
 | .nilck x=>.nilck (D9 p g x)
 | .bin op x y=>.bin op (D9 p g x) (D9 p g y)
 | .beq n x y=>.beq n (D9 p g x) (D9 p g y)
 | .cmp n ks x y=>.cmp n ks (D9 p g x) (D9 p g y)
 | .un op x=>.un op (D9 p g x)
 | .conv k x=>.conv k (D9 p g x)
 | .idc x=>.idc (D9 p g x)
 | .mkfn f a c=>.mkfn (B2w p g f) (a.map (D9 p g)) (c.map (D9 p g))
 | .mkmap r=>.mkmap r
 | .mkslice k b z l c r=>.mkslice k b (renL p g z) (D9 p g l) (D9 p g c) r
 | .sliceS x lo hi=>.sliceS (D9 p g x) (A00 p g lo) (A00 p g hi)
 | .sliceL k x lo hi=>.sliceL k (D9 p g x) (A00 p g lo) (A00 p g hi)
 | .sliceQ k x lo hi=>.sliceQ k (D9 p g x) (A00 p g lo) (A00 p g hi)
 | .sliceA k n x h=>.sliceA k n (D9 p g x) (A00 p g h)
 | .nilq q x=>.nilq q (D9 p g x)
 | .fieldAddr o x=>.fieldAddr o (D9 p g x)
 | .field k o x=>.field k o (D9 p g x)
 | .idxS k x i=>.idxS k (D9 p g x) (D9 p g i)
 | .idxA k n x i=>.idxA k n (D9 p g x) (D9 p g i)
 | .idxStr x i=>.idxStr (D9 p g x) (D9 p g i)
 | .idxAgg k sz n x i=>.idxAgg k sz n (D9 p g x) (D9 p g i)
 | .lookup z ag ks x i ok=>.lookup (ren p g z) ag ks (D9 p g x) (D9 p g i) ok
 | .mupd ag ks m k v=>.mupd ag ks (D9 p g m) (D9 p g k) (D9 p g v)
 | .range x r=>.range (D9 p g x) r
 | .rangeM x r=>.rangeM (D9 p g x) r
 | .next x=>.next (D9 p g x)
 | .entry x=>.entry (D9 p g x)
 | .extract x i=>.extract (D9 p g x) i
 | .lenS x=>.lenS (D9 p g x)
 | .lenL x=>.lenL (D9 p g x)
 | .lenM x=>.lenM (D9 p g x)
 | .mm mx xs=>.mm mx (xs.map (D9 p g))
 | .append k b s x r fz=>.append k b (D9 p g s) (D9 p g x) r fz
 | .copy k d s=>.copy k (D9 p g d) (D9 p g s)
 | .cut k x hi r=>.cut k (D9 p g x) (A00 p g hi) r
 | .sub k x lo hi=>.sub k (D9 p g x) (A00 p g lo) (A00 p g hi)
 | .clear k z x=>.clear k (renL p g z) (D9 p g x)
 | .call f args own pure=>.call (D9 p g f) (args.map (D9 p g)) own pure
def X5 (o:AOper):AOper:={ o with op:=I4 p g o.op }
def I1:ACode→ACode
 | .region d n pre ops live=>.region d n pre (ops.map (X5 p g)) live
 | .seq a b=>.seq (I1 a) (I1 b)
 | .cond c a b=>.cond (D9 p g c) (I1 a) (I1 b)
 | .block id a=>.block id (I1 a)
 | .loop tr l a=>.loop tr l (I1 a)
 | .loopM x nx ok l0 l1 l2 a=>.loopM (D9 p g x) nx ok l0 l1 l2 (I1 a)
 | .rangeFunc f ps live a b=>.rangeFunc (D9 p g f) ps live (I1 a) (I1 b)
 | .scope a=>.scope (I1 a)
 | .skip=>.skip
 | .exit id=>.exit id
 | .ret=>.ret
def J0:AO→AO
 | .cells cs=>.cells (renL p g cs)
 | .arr k q rows=>.arr k q (renR p g rows)
 | .map es=>.map (es.map fun e=>(ren p g e.1,ren p g e.2))
 | .loop f s ps a b busy pend=>.loop f (N0 p g s) ps (I1 p g a) (I1 p g b) busy pend
 | .stk k rows anc=>.stk k (renR p g rows) (anc.map (rb p g))
 | .ro o=>.ro (J0 o)
 | .dead=>.dead
 | .iter s q=>.iter s q
 | .mit m n seen=>.mit (rb p g m) n seen
def E6 (G H:A1):A1:=(H.take p).map (J0 p g)++(G++(H.drop p).map (J0 p g))
end
section
variable {p g:Nat} {G:A1} (hG:G.length = g)
theorem A4d {b:Nat} (h:b < p):rb p g b = b:= by
 unfold rb; rw [show Nat.blt b p = true from Nat.ble_eq_true_of_le h]; rfl
theorem A2x {b:Nat} (h:p≤b):rb p g b = b + g:= by
 unfold rb
 cases hb:Nat.blt b p with
 | false=>rfl
 | true=>have:b < p:=Nat.le_of_ble_eq_true hb; omega
theorem D60 {a b:Nat} (h:rb p g a = rb p g b):a = b:= by
 by_cases ha:a < p <;> by_cases hb:b < p
 ·rwa [A4d ha,A4d hb] at h
 ·rw [A4d ha,A2x (by omega)] at h; omega
 ·rw [A2x (by omega),A4d hb] at h; omega
 ·rw [A2x (by omega),A2x (by omega)] at h; omega
theorem D6z (a b:Nat):(rb p g a == rb p g b) = (a == b):= by
 by_cases h:a = b
 ·subst h; simp only [BEq.rfl]
 ·have:rb p g a ≠ rb p g b:=fun e=>h (D60 e)
  rw [beq_eq_false_iff_ne.2 h,beq_eq_false_iff_ne.2 this]
include hG
theorem A1q {H:A1} (hp:p≤H.length):(E6 p g G H).length = H.length + g:= by
 simp [E6,hG]; omega
theorem P8 {H:A1} (hp:p≤H.length) (b:Nat):hget (E6 p g G H) (rb p g b) = (hget H b).map (J0 p g):= by
 unfold hget E6
 have hl:((H.take p).map (J0 p g)).length = p:= by simp; omega
 by_cases h:b < p
 ·rw [A4d h,List.getElem?_append_left (by rw [hl]; exact h),List.getElem?_map,List.getElem?_take_of_lt h]
 ·rw [A2x (by omega),List.getElem?_append_right (by rw [hl]; omega),hl,List.getElem?_append_right (by omega),List.getElem?_map,List.getElem?_drop]
  congr 2; omega
theorem L8 {H:A1} (hp:p≤H.length) (b:Nat) (o:AO):hset (E6 p g G H) (rb p g b) (J0 p g o) = E6 p g G (hset H b o):= by
 unfold hset E6
 have hl:((H.take p).map (J0 p g)).length = p:= by simp; omega
 by_cases h:b < p
 ·rw [A4d h,List.set_append_left _ _ (by rw [hl]; exact h),← List.map_set,← List.take_set,List.drop_set_of_lt h]
 ·rw [A2x (by omega),List.set_append_right _ _ (by rw [hl]; omega),hl,List.set_append_right _ _ (by omega),← List.map_set,List.take_set_of_le (by omega),List.drop_set]
  rw [if_neg (by omega)]
  congr 4; omega
omit hG
theorem A65 (s:B4) (t:Nat):sget (N0 p g s) t = (sget s t).map (ren p g):= by
 induction s with
 | nil=>rfl
 | cons x s ih =>
  simp only [N0,List.map_cons,M1,I7]
  cases Nat.beq x.1 t with
  | true=>rfl
  | false=>exact ih
theorem G8 (s:B4) (x:Opd):ev (N0 p g s) (D9 p g x) = (ev s x).map (ren p g):= by
 cases x with
 | t i=>exact A65 s i
 | c v=>rfl
 | f i=>simp [ev,D9,ren,B2w,renL]
theorem B5z (s:B4):∀l:List Opd,evs (N0 p g s) (l.map (D9 p g)) = (evs s l).map (renL p g)
 | []=>by simp [evs,renL]
 | x :: l=>by
  simp only [List.map_cons,evs,G8,B5z s l]
  cases ev s x with
  | none=>rfl
  | some v=>cases evs s l with
   | none=>rfl
   | some vs=>simp [renL]
theorem B4o (s:B4):∀l:List (Nat × Nat × Opd),R2 (N0 p g s) (l.map fun q=>(q.1,q.2.1,D9 p g q.2.2)) = (R2 s l).map fun ps=>ps.map fun q=>(q.1,q.2.1,ren p g q.2.2)
 | []=>rfl
 | (a,b,x) :: l=>by
  simp only [List.map_cons,R2,G8,B4o s l]
  cases ev s x with
  | none=>rfl
  | some v=>cases R2 s l with
   | none=>rfl
   | some vs=>rfl
theorem A7g (s:B4):∀l:List (Nat × Opd),K5 (N0 p g s) (l.map fun q=>(q.1,D9 p g q.2)) = (K5 s l).map fun ps=>ps.map fun q=>(q.1,ren p g q.2)
 | []=>rfl
 | (a,x) :: l=>by
  simp only [List.map_cons,K5,G8,A7g s l]
  cases ev s x with
  | none=>rfl
  | some v=>cases K5 s l with
   | none=>rfl
   | some vs=>rfl
theorem C8w (s:B4) (x:Opd):A8f (N0 p g s) (D9 p g x) = A8f s x:= by
 unfold A8f; rw [G8]
 cases ev s x with
 | none=>rfl
 | some v=>cases v <;> simp [ren]
theorem A9k (s:B4) (d:Int) (x:Option Opd):bnd (N0 p g s) d (A00 p g x) = bnd s d x:= by
 cases x with
 | none=>rfl
 | some x=>exact C8w s x
theorem U3 (l:List AV):(renL p g l).length = l.length:= by rw [M7,List.length_map]
theorem J9 (l:List (List AV)):(renR p g l).length = l.length:= by rw [A01,List.length_map]
theorem A14 (v:AV):(ren p g v).cellsOf = renL p g v.cellsOf:= by
 cases v <;> simp [ren,AV.cellsOf,renL]
theorem D3n (v:AV):(ren p g v).frz = v.frz:= by cases v <;> simp [ren,AV.frz]
theorem C9m (v:AV):(ren p g v).plain = v.plain:= by cases v <;> simp [ren,AV.plain]
theorem A8b (l:List AV):(renL p g l).all AV.frz = l.all AV.frz:= by
 rw [M7,List.all_map]; congr 1; funext v; exact D3n v
theorem B11 (l:List (List AV)):B10 (renR p g l) = B10 l:= by
 unfold B10; rw [A01,List.all_map]; congr 1; funext r
 simp only [Function.comp_def]; rw [← M7]; exact A8b r
theorem A3i (cs new:List AV) (o:Nat):splice (renL p g cs) o (renL p g new) = renL p g (splice cs o new):= by
 simp only [splice,M7,List.map_append,List.map_take,List.map_drop,List.length_map]
include hG
theorem A7m {H:A1} (hp:p≤H.length) (b:Nat):hcells (E6 p g G H) (rb p g b) = (hcells H b).map (renL p g):= by
 unfold hcells; rw [P8 hG hp]
 cases hget H b with
 | none=>rfl
 | some o=>cases o with
  | ro o=>cases o <;> simp [J0]
  | _=>simp [J0]
theorem A3t {H:A1} (hp:p≤H.length) (b:Nat):S9 (E6 p g G H) (rb p g b) = (S9 H b).map (renL p g):= by
 unfold S9; rw [P8 hG hp]
 cases hget H b with
 | none=>rfl
 | some o=>cases o <;> simp [J0]
theorem A07 {H:A1} (hp:p≤H.length) (b:Nat):harr (E6 p g G H) (rb p g b) = (harr H b).map fun x=>(x.1,x.2.1,renR p g x.2.2):= by
 unfold harr; rw [P8 hG hp]
 cases hget H b with
 | none=>rfl
 | some o=>cases o with
  | ro o=>cases o <;> simp [J0]
  | _=>simp [J0]
theorem A22 {H:A1} (hp:p≤H.length) (b:Nat):X9 (E6 p g G H) (rb p g b) = (X9 H b).map fun x=>(x.1,x.2.1,renR p g x.2.2):= by
 unfold X9; rw [P8 hG hp]
 cases hget H b with
 | none=>rfl
 | some o=>cases o <;> simp [J0]
theorem B16 {H:A1} (hp:p≤H.length) (b:Nat):hstk (E6 p g G H) (rb p g b) = (hstk H b).map fun x=>(x.1,renR p g x.2.1,x.2.2.map (rb p g)):= by
 unfold hstk; rw [P8 hG hp]
 cases hget H b with
 | none=>rfl
 | some o=>cases o with
  | ro o=>cases o <;> simp [J0]
  | _=>simp [J0]
theorem C84 {H:A1} (hp:p≤H.length) (b:Nat):B15 (E6 p g G H) (rb p g b) = (B15 H b).map fun x=>(x.1,renR p g x.2.1,x.2.2.map (rb p g)):= by
 unfold B15; rw [P8 hG hp]
 cases hget H b with
 | none=>rfl
 | some o=>cases o <;> simp [J0]
omit hG
theorem A7f (l:List Nat) (b:Nat):(l.map (rb p g)).contains (rb p g b) = l.contains b:= by
 induction l with
 | nil=>rfl
 | cons a l ih=>simp only [List.map_cons,List.contains_cons,ih,D6z]
theorem D04 (o:AO) (b:Nat):(J0 p g o).grew (rb p g b) = o.grew b:= by
 cases o with
 | stk k rows anc=>simp only [J0,AO.grew,A7f]
 | ro o=>cases o <;> simp only [J0,AO.grew,A7f]
 | _=>simp only [J0,AO.grew]
def GrO (p:Nat) (G:A1):Prop:=∀ o ∈ G,∀ b,b < p→o.grew b = false
include hG
theorem D03 (hS:GrO p G) {H:A1} (hp:p≤H.length) (b:Nat):(((E6 p g G H).drop (rb p g b + 1)).all fun o=>!o.grew (rb p g b)) = (H.drop (b + 1)).all fun o=>!o.grew b:= by
 have hm:∀l:A1,((l.map (J0 p g)).all fun o=>!o.grew (rb p g b)) = l.all fun o=>!o.grew b:=fun l=>by
  rw [List.all_map]; simp only [Function.comp_def,D04]
 have hl:((H.take p).map (J0 p g)).length = p:= by simp; omega
 unfold E6
 by_cases h:b < p
 ·have hg:(G.all fun o=>!o.grew (rb p g b)) = true:=List.all_eq_true.2 fun o ho=>by rw [A4d h,hS o ho b h]; rfl
  have e:H.drop (b + 1) = (H.take p).drop (b + 1)++H.drop p:= by
   rw [List.drop_take]
   have:H.drop p = (H.drop (b + 1)).drop (p - (b + 1)):= by rw [List.drop_drop]; congr 1; omega
   rw [this,List.take_append_drop]
  rw [e,List.all_append,← hm,← hm,A4d h,List.drop_append_of_le_length (by rw [hl]; exact h),List.all_append,List.all_append,← List.map_drop]
  rw [A4d h] at hg
  rw [hg,Bool.true_and]
 ·have hb:p≤b:=Nat.le_of_not_lt h
  rw [← hm,A2x hb]
  have e:((H.take p).map (J0 p g)++(G++(H.drop p).map (J0 p g))).drop (b + g + 1) = (H.drop (b + 1)).map (J0 p g):= by
   rw [← List.append_assoc,List.drop_append,List.drop_of_length_le (by rw [List.length_append,hl,hG]; omega),List.nil_append,List.length_append,hl,hG,← List.map_drop,List.drop_drop]
   congr 2; omega
  rw [e]
omit hG
include hG
theorem A8n {H:A1} (hp:p≤H.length) (b:Nat):hmap (E6 p g G H) (rb p g b) = (hmap H b).map fun es=>es.map fun e=>(ren p g e.1,ren p g e.2):= by
 unfold hmap; rw [P8 hG hp]
 cases hget H b with
 | none=>rfl
 | some o=>cases o with
  | ro o=>cases o <;> simp [J0]
  | _=>simp [J0]
theorem C9b {H:A1} (hp:p≤H.length) (b:Nat):A74 (E6 p g G H) (rb p g b) = (A74 H b).map fun e=>(ren p g e.1,ren p g e.2):= by
 unfold A74; rw [P8 hG hp]
 cases hget H b with
 | none=>rfl
 | some o=>cases o with
  | mit m n seen =>
   simp only [Option.map_some,J0,A8n hG hp]
   cases hmap H m with
   | none=>rfl
   | some es =>
    simp only [Option.map_some,List.length_map]
    split
    ·cases seen.getLast? with
     | none=>rfl
     | some i=>simp only [Option.bind_some,List.getElem?_map]
    ·rfl
  | _=>rfl
theorem C8z {H:A1} (hp:p≤H.length) (b:Nat):A8m (E6 p g G H) (rb p g b) = (A8m H b).map fun es=>es.map fun e=>(ren p g e.1,ren p g e.2):= by
 unfold A8m; rw [P8 hG hp]
 cases hget H b with
 | none=>rfl
 | some o=>cases o <;> simp [J0]
omit hG
abbrev ren2 (p g:Nat) (G:A1) (r:AV × A1):AV × A1:=(ren p g r.1,E6 p g G r.2)
include hG
theorem C1p {H:A1} (hp:p≤H.length) (v:AV):frv (E6 p g G H) (ren p g v) = (frv H v).map (ren2 p g G):= by
 cases v with
 | asl b n =>
  simp only [ren,frv,A07 hG hp,A22 hG hp]
  cases harr H b with
  | none=>rfl
  | some x =>
   obtain ⟨k,q,rows⟩:=x
   cases q with
   | true =>
    simp only [Option.map_some,J9]
    split <;> first | rfl | simp [ren2,ren]
   | false =>
    simp only [Option.map_some,J9]
    cases X9 H b with
    | none=>rfl
    | some y =>
     simp only [Option.map_some]
     split
     ·simp only [Option.map_some,ren2,ren,← L8 hG hp,J0]
     ·rfl
 | _=>simp [ren,frv,ren2]
theorem C9v {H:A1} (hp:p≤H.length) (v:AV):A5h (E6 p g G H) (ren p g v) = (A5h H v).map fun r=>(r.1,renR p g r.2):= by
 cases v with
 | asl b n =>
  simp only [ren,A5h,A07 hG hp]
  cases harr H b with
  | none=>rfl
  | some x =>
   obtain ⟨k,q,rows⟩:=x
   cases q with
   | true =>
    simp only [Option.map_some,J9]
    split <;> rfl
   | false=>rfl
 | _=>simp [ren,A5h]
theorem B1y:∀(l:List AV) {H:A1} (hp:p≤H.length),U6 (E6 p g G H) (renL p g l) = (U6 H l).map fun r=>(renL p g r.1,E6 p g G r.2)
 | [],H,hp=>by simp [U6,renL]
 | v :: l,H,hp=>by
  simp only [renL,U6,C1p hG hp]
  cases e:frv H v with
  | none=>rfl
  | some r =>
   simp only [Option.map_some,ren2]
   have hp':p≤r.2.length:= by rw [B1z e]; exact hp
   rw [B1y l hp']
   cases U6 r.2 l with
   | none=>rfl
   | some q=>simp [renL]
theorem B1x {H:A1} (hp:p≤H.length) (v:AV):Q9 (E6 p g G H) (ren p g v) = (Q9 H v).map (ren2 p g G):= by
 cases v with
 | agg cs =>
  simp only [ren,Q9,B1y hG cs hp]
  cases U6 H cs <;> simp [ren2,ren]
 | nils k=>simp [ren,Q9,ren2,renR]
 | asl b n=>have:=C1p hG hp (.asl b n); simpa [ren,Q9] using this
 | _=>simp [ren,Q9,frv,ren2]
theorem B99:∀(l:List AV) {H:A1} (hp:p≤H.length),P3 (E6 p g G H) (renL p g l) = (P3 H l).map fun r=>(renL p g r.1,E6 p g G r.2)
 | [],H,hp=>by simp [P3,renL]
 | v :: l,H,hp=>by
  simp only [renL,P3,B1x hG hp]
  cases e:Q9 H v with
  | none=>rfl
  | some r =>
   simp only [Option.map_some,ren2]
   have hp':p≤r.2.length:= by rw [A8j e]; exact hp
   rw [B99 l hp']
   cases P3 r.2 l with
   | none=>rfl
   | some q=>simp [renL]
omit hG
theorem D0m (op:BinOp) (a b:AV):A54 op (ren p g a) (ren p g b) = (A54 op a b).map (ren p g):= by
 have key:∀u w,(A54 op (.lit u) (.lit w)).map (ren p g) = A54 op (.lit u) (.lit w):= by
  intro u w
  have:∀v,A54 op (.lit u) (.lit w) = some v→∃ x,v = .lit x:= by
   intro v h
   unfold A54 at h
   split at h
   ·split at h
    ·split at h <;> simp at h; exact ⟨_,h.symm⟩
    ·split at h <;> simp at h; exact ⟨_,h.symm⟩
    ·split at h
     ·simp only [Option.map_eq_some_iff] at h; obtain ⟨y,_,rfl⟩:=h; exact ⟨y,rfl⟩
     ·cases h
   ·simp only [Option.map_eq_some_iff] at h; obtain ⟨y,_,rfl⟩:=h; exact ⟨y,rfl⟩
   ·cases h
  cases e:A54 op (.lit u) (.lit w) with
  | none=>rfl
  | some v=>obtain ⟨x,rfl⟩:=this v e; simp [ren]
 cases a with
 | lit u=>cases b with
  | lit w=>simp only [ren]; exact (key u w).symm
  | _=>cases u <;> simp [ren,A54]
 | _=>simp [ren,A54]
theorem D45 (op:UnOp) (a:AV):unV op (ren p g a) = (unV op a).map (ren p g):= by
 cases a with
 | lit u=>cases op <;> cases u <;> simp [ren,unV]
 | _=>cases op <;> simp [ren,unV]
theorem C8v (a b:AV):A2i (ren p g a) (ren p g b) = A2i a b:= by
 cases a with
 | lit u=>cases b with
  | lit w=>simp only [ren]
  | _=>cases u <;> simp [ren,A2i]
 | _=>simp [ren,A2i]
theorem B0u:∀(a b:List AV),F3 (renL p g a) (renL p g b) = F3 a b
 | [],[]=>rfl
 | [],_ :: _=>by simp [renL,F3]
 | _ :: _,[]=>by simp [renL,F3]
 | x :: a,y :: b=>by simp only [renL,F3,C8v,B0u a b]
theorem A4p:∀(ks:List Nat) (a:List AV),kinds ks (renL p g a) = kinds ks a
 | [],[]=>rfl
 | [],x :: a=>by simp [renL,kinds]
 | k :: ks,[]=>by simp [renL,kinds]
 | k :: ks,x :: a=>by
  have ih:=A4p ks a
  cases x with
  | lit u =>
   simp only [renL,ren]
   cases u <;> (match k with
    | 0 | 1 | 2 | (n + 3)=>simp only [kinds,ih])
  | _=>simp [renL,ren,kinds]
theorem W4 (ag:Bool) (v:AV):G9 ag (ren p g v) = (G9 ag v).map (renL p g):= by
 cases ag <;> cases v <;> simp [ren,G9,renL]
theorem A8i (ag:Bool) (ks:List Nat) (k:List AV):∀(es:List (AV × AV)) (i:Nat),findKey ag ks (renL p g k) (es.map fun e=>(ren p g e.1,ren p g e.2)) i = (findKey ag ks k es i).map (Option.map fun x=>(x.1,ren p g x.2))
 | [],i=>rfl
 | e :: es,i=>by
  simp only [List.map_cons,findKey,W4]
  cases G9 ag e.1 with
  | none=>rfl
  | some l =>
   simp only [Option.map_some,A4p,B0u,A8i ag ks k es (i + 1)]
   split
   ·cases F3 k l with
    | none=>rfl
    | some t=>cases t <;> rfl
   ·rfl
theorem B9z:∀(ps:List (Nat × Nat × AV)) (cs:List AV),A72 (renL p g cs) (ps.map fun q=>(q.1,q.2.1,ren p g q.2.2)) = (A72 cs ps).map (renL p g)
 | [],cs=>rfl
 | (o,n,v) :: ps,cs=>by
  simp only [List.map_cons,A72,A14,U3]
  split
  ·rw [A3i]; exact B9z ps _
  ·rfl
theorem C4t (l:List (List AV)) (i:Nat) (r:List AV):renR p g (l.set i r) = (renR p g l).set i (renL p g r):= by
 simp only [A01,M7,List.map_set]
theorem B3g (k:Nat):∀(ps:List (Nat × AV)) (rows:List (List AV)),A2w k (renR p g rows) (ps.map fun q=>(q.1,ren p g q.2)) = (A2w k rows ps).map (renR p g)
 | [],rows=>rfl
 | (i,v) :: ps,rows=>by
  simp only [List.map_cons,A2w,A14,U3,J9]
  split
  ·rw [← C4t]; exact B3g k ps _
  ·rfl
theorem C7z (mx:Bool):∀(l:List AV) (a:AV),mmV mx (ren p g a) (renL p g l) = (mmV mx a l).map (ren p g)
 | [],a=>by simp [renL,mmV]
 | y :: l,a=>by
  cases a with
  | lit u =>
   cases u with
   | int k x =>
    cases y with
    | lit w =>
     cases w with
     | int k' z =>
      simp only [renL,ren,mmV]
      split
      ·have:=C7z mx l (.lit (.int k (if mx = true then if z > x then z else x else if z < x then z else x)))
       simpa only [ren] using this
      ·rfl
     | _=>simp [renL,ren,mmV]
    | _=>simp [renL,ren,mmV]
   | _=>simp [renL,ren,mmV]
  | _=>simp [renL,ren,mmV]
include hG
theorem B1f {H:A1} (hp:p≤H.length) (v:AV):V8 (E6 p g G H) (ren p g v) = (V8 H v).map (renR p g):= by
 cases v with
 | asl b n =>
  simp only [ren,V8,A07 hG hp]
  cases harr H b with
  | none =>
   simp only [Option.map_none,B16 hG hp]
   cases hstk H b with
   | none=>rfl
   | some x=>simp only [Option.map_some,J9]; split <;> rfl
  | some x=>simp only [Option.map_some,J9]; split <;> rfl
 | csl b o k n =>
  simp only [ren,V8,A7m hG hp]
  cases hcells H b with
  | none=>rfl
  | some cs =>
   simp only [Option.map_some,U3]
   split
   ·simp only [Option.map_some,A01,M7,List.map_map,Function.comp_def,List.map_take,List.map_drop]
   ·rfl
 | _=>simp [ren,V8,renR]
theorem C1w {H:A1} (hp:p≤H.length) (v:AV):kOf (E6 p g G H) (ren p g v) = kOf H v:= by
 cases v with
 | asl b n =>
  simp only [ren,kOf,A07 hG hp]
  cases harr H b with
  | none=>simp only [Option.map_none,B16 hG hp]; cases hstk H b <;> rfl
  | some x=>rfl
 | _=>simp [ren,kOf]
theorem B2o {H:A1} (hp:p≤H.length) (v:AV):F0 (E6 p g G H) (ren p g v) = (F0 H v).map (renL p g):= by
 cases v with
 | ptr b o =>
  simp only [ren,F0,A7m hG hp]
  cases hcells H b with
  | none=>rfl
  | some cs=>simp only [Option.map_some,M7,List.map_drop]
 | eptr b n i o =>
  simp only [ren,F0,A07 hG hp]
  cases harr H b with
  | none=>rfl
  | some x =>
   simp only [Option.map_some,J9]
   split
   ·simp only [A01,List.getElem?_map]
    cases x.2.2[i]? with
    | none=>rfl
    | some r=>simp only [Option.map_some,M7,List.map_drop]
   ·rfl
 | _=>simp [ren,F0]
end
def ScB (p g B B':Nat):Prop:=(B≤p∧B' = B)∨(p≤B∧B' = B + g)∨(B = p∧p≤B'∧B'≤p + g)
inductive ScBs (p g:Nat):List Nat→List Nat→Prop
 | nil:ScBs p g [] []
 | cons {B B':Nat} {l l':List Nat} (h:ScB p g B B') (k:ScBs p g l l'):ScBs p g (B :: l) (B' :: l')
 | extra {B':Nat} {l l':List Nat} (h:∀b,B'≤rb p g b) (k:ScBs p g l l'):ScBs p g l (B' :: l')
 | drop {l l':List Nat} (k:ScBs p g l l'):ScBs p g (0 :: l) l'
structure ScR (p g:Nat) (c c':Sc):Prop where
 cur:ScB p g c.cur c'.cur
 outer:ScBs p g c.outer c'.outer
section
variable {p g:Nat} {G:A1} (hG:G.length = g)
theorem ScB.lt {B B':Nat} (h:ScB p g B B') (b:Nat):Nat.blt (rb p g b) B' = Nat.blt b B:= by
 have:rb p g b < B'↔b < B:= by
  rcases h with ⟨h1,rfl⟩ | ⟨h1,rfl⟩ | ⟨rfl,h1,h2⟩
  ·by_cases hb:b < p
   ·rw [A4d hb]
   ·rw [A2x (by omega)]; omega
  ·by_cases hb:b < p
   ·rw [A4d hb]; omega
   ·rw [A2x (by omega)]; omega
  ·by_cases hb:b < B
   ·rw [A4d hb]; omega
   ·rw [A2x (by omega)]; omega
 cases h1:Nat.blt (rb p g b) B' <;> cases h2:Nat.blt b B <;> first | rfl | skip
 ·have:=this.2 (Nat.le_of_ble_eq_true h2)
  have:=Nat.ble_eq_true_of_le this
  unfold Nat.blt at h1; rw [h1] at this; cases this
 ·have:=this.1 (Nat.le_of_ble_eq_true h1)
  have:=Nat.ble_eq_true_of_le this
  unfold Nat.blt at h2; rw [h2] at this; cases this
theorem ScB.le {B B':Nat} (h:ScB p g B B') (b:Nat):Nat.ble B' (rb p g b) = Nat.ble B b:= by
 have:B'≤rb p g b↔B≤b:= by
  rcases h with ⟨h1,rfl⟩ | ⟨h1,rfl⟩ | ⟨rfl,h1,h2⟩
  ·by_cases hb:b < p
   ·rw [A4d hb]
   ·rw [A2x (by omega)]; omega
  ·by_cases hb:b < p
   ·rw [A4d hb]; omega
   ·rw [A2x (by omega)]; omega
  ·by_cases hb:b < B
   ·rw [A4d hb]; omega
   ·rw [A2x (by omega)]; omega
 cases h1:Nat.ble B' (rb p g b) <;> cases h2:Nat.ble B b <;> first | rfl | skip
 ·have:=Nat.ble_eq_true_of_le (this.2 (Nat.le_of_ble_eq_true h2)); rw [h1] at this; cases this
 ·have:=Nat.ble_eq_true_of_le (this.1 (Nat.le_of_ble_eq_true h1)); rw [h2] at this; cases this
mutual
theorem bd_ren {B B':Nat} (h:ScB p g B B'):(v:AV)→(ren p g v).bd B' = v.bd B
 | .lit _ | .nils _ | .seq _ _ | .fresh _ _ | .undef=>by simp only [ren,AV.bd]
 | .xseq _ rows=>by simp only [ren,AV.bd]; exact bdR_ren h rows
 | .ptr b _ | .itr b | .eptr b _ _ _ | .asl b _ | .csl b _ _ _ | .mp b=>by simp only [ren,AV.bd]; exact h.lt b
 | .cptr cs | .agg cs | .tup cs=>by simp only [ren,AV.bd]; exact bdL_ren h cs
 | .fn f a c=>by
  simp only [ren]
  cases f <;> simp only [B2w,AV.bd,bdL_ren h a,bdL_ren h c,h.lt]
theorem bdL_ren {B B':Nat} (h:ScB p g B B'):(l:List AV)→bdL B' (renL p g l) = bdL B l
 | []=>by simp only [renL,bdL]
 | v :: l=>by simp only [renL,bdL,bd_ren h v,bdL_ren h l]
theorem bdR_ren {B B':Nat} (h:ScB p g B B'):(l:List (List AV))→bdR B' (renR p g l) = bdR B l
 | []=>by simp only [renR,bdR]
 | v :: l=>by simp only [renR,bdR,bdL_ren h v,bdR_ren h l]
end
theorem D6l {c c':Sc} (h:ScR p g c c') (b:Nat) (v:AV):c'.ok (rb p g b) (ren p g v) = c.ok b v:= by
 have:(c'.outer.all fun B=>Nat.ble B (rb p g b) || (ren p g v).bd B) = c.outer.all fun B=>Nat.ble B b || v.bd B:= by
  have h1:=h.outer
  generalize c.outer = l at h1
  generalize c'.outer = l' at h1
  induction h1 with
  | nil=>rfl
  | cons h1 _ ih=>simp only [List.all_cons,h1.le,bd_ren h1,ih]
  | extra h1 _ ih=>rw [List.all_cons,Nat.ble_eq_true_of_le (h1 b),ih]; rfl
  | drop _ ih=>rw [List.all_cons,Nat.ble_eq_true_of_le (Nat.zero_le b),ih]; rfl
 simp only [Sc.ok,C9m,h.cur.le,bd_ren h.cur,this]
theorem C14 {c c':Sc} (h:ScR p g c c') (b:Nat):∀l:List AV,c'.okL (rb p g b) (renL p g l) = c.okL b l
 | []=>by simp only [renL,Sc.okL]
 | v :: l=>by simp only [renL,Sc.okL,D6l h,C14 h b l]
theorem rbn {n0:Nat} (hn:p≤n0) (r:Nat):rb p g (n0 + r) = n0 + g + r:= by rw [A2x (by omega)]; omega
include hG
theorem S5 {H:A1} (hp:p≤H.length) {n0:Nat} (hn:p≤n0) (r:Nat) (o:AO):hset (E6 p g G H) (n0 + g + r) (J0 p g o) = E6 p g G (hset H (n0 + r) o):= by
 rw [← rbn hn]; exact L8 hG hp _ _
theorem B5b {n0:Nat} (hn:p≤n0):∀(owns:List (Nat × Nat × Nat)) (zs:List AV) {H:A1} (hp:p≤H.length),M8 (n0 + g) owns (renL p g zs) (E6 p g G H) = (renL p g (M8 n0 owns zs H).1,E6 p g G (M8 n0 owns zs H).2)
 | [],zs,H,hp=>rfl
 | (j,r,k) :: l,zs,H,hp=>by
  simp only [M8]
  have h1:(renL p g zs).set j (.asl (n0 + g + r) 0) = renL p g (zs.set j (.asl (n0 + r) 0)):= by
   rw [M7,M7,List.map_set]; simp only [ren,rbn hn]
  have h2:hset (E6 p g G H) (n0 + g + r) (.arr k false []) = E6 p g G (hset H (n0 + r) (.arr k false [])):= by
   rw [← S5 hG hp hn]; simp only [J0,renR]
  rw [h1,h2]
  exact B5b hn l _ (by rw [F4]; exact hp)
omit hG
theorem A3g (l:List (List AV)) (n:Nat):renR p g (l.take n) = (renR p g l).take n:= by simp only [A01,List.map_take]
theorem A62 (l:List (List AV)) (n:Nat):renR p g (l.drop n) = (renR p g l).drop n:= by simp only [A01,List.map_drop]
theorem B8c (n:Nat) (z:List AV):renR p g (List.replicate n z) = List.replicate n (renL p g z):= by simp only [A01,M7,List.map_replicate]
theorem A9a (l m:List (List AV)):renR p g (l++m) = renR p g l++renR p g m:= by simp only [A01,List.map_append]
theorem B4b (l:List AV) (n:Nat):renL p g (l.take n) = (renL p g l).take n:= by simp only [M7,List.map_take]
theorem A92 (l:List AV) (n:Nat):renL p g (l.drop n) = (renL p g l).drop n:= by simp only [M7,List.map_drop]
theorem B2x (l:List AV) (n:Nat):(renL p g l)[n]? = (l[n]?).map (ren p g):= by simp only [M7,List.getElem?_map]
theorem B8a (l:List (List AV)) (n:Nat):(renR p g l)[n]? = (l[n]?).map (renL p g):= by
 simp only [A01,List.getElem?_map]
 congr 1; funext r; rw [M7]
theorem B6i (l:List (List AV)) (k:Nat):((renR p g l).all fun x=>Nat.beq x.length k) = l.all fun x=>Nat.beq x.length k:= by
 rw [A01,List.all_map]; congr 1; funext x; simp only [Function.comp_def,List.length_map]
theorem C00:∀l:List (List AV),renL p g l.flatten = (renR p g l).flatten
 | []=>by simp [renL,renR]
 | r :: l=>by rw [List.flatten_cons,renR,List.flatten_cons,← C00 l,M7,M7,M7,List.map_append]
theorem B8b (z:List AV) (n:Nat):renR p g (List.replicate n z) = List.replicate n (renL p g z):= by simp only [A01,List.map_replicate,M7]
include hG
theorem C4k (hS:GrO p G) {c c':Sc} (hc:ScR p g c c') {n0:Nat} (hn:p≤n0) {H:A1} (hp:p≤H.length) (s:B4) (op:AOp):prim c' (n0 + g) (N0 p g s) (E6 p g G H) (I4 p g op) = (prim c n0 s H op).map (ren2 p g G):= by
 cases op with
 | call=>rfl
 | mv x=>simp only [I4,prim,G8]; cases ev s x <;> rfl
 | pick x a b =>
  simp only [I4,prim,G8]
  cases ev s x with
  | none=>rfl
  | some v =>
   cases v with
   | lit u=>cases u with
    | bool t=>cases t <;> simp only [Option.map_some,ren] <;> first | (cases ev s a <;> rfl) | (cases ev s b <;> rfl)
    | _=>rfl
   | _=>rfl
 | nil k r=>simp only [I4,prim,Option.map_some,ren2,ren,rbn hn,← S5 hG hp hn,J0,renR]
 | alloc zs owns r =>
  simp only [I4,prim,B5b hG hn owns zs hp,Option.map_some,ren2,ren,rbn hn]
  rw [← S5 hG (by rw [A9d]; exact hp) hn]; simp only [J0]
 | box n x r =>
  simp only [I4,prim,G8]
  cases ev s x with
  | none=>rfl
  | some v =>
   simp only [Option.map_some,A14,U3]
   split
   ·simp only [Option.map_some,ren2,ren,rbn hn,← S5 hG hp hn,J0]
   ·rfl
 | build z parts =>
  simp only [I4,prim,B4o]
  cases R2 s parts with
  | none=>rfl
  | some ps =>
   simp only [Option.map_some,Option.bind_some,B9z]
   cases A72 z ps with
   | none=>rfl
   | some cs=>simp only [Option.map_some,ren2,ren]
 | lits k z n parts own =>
  simp only [I4,prim,A7g]
  cases K5 s parts with
  | none=>rfl
  | some ps =>
   simp only [Option.map_some,Option.bind_some,← B8b,B3g]
   cases A2w k (List.replicate n z) ps with
   | none=>rfl
   | some rows =>
    simp only [Option.map_some,Option.bind_some,B11]
    split
    ·cases own with
     | none=>simp only [Option.map_some,ren2,ren]
     | some r=>simp only [Option.map_some,ren2,ren,rbn hn,← S5 hG hp hn,J0]
    ·rfl
 | xlits k z n parts =>
  simp only [I4,prim,A7g]
  cases K5 s parts with
  | none=>rfl
  | some ps =>
   simp only [Option.map_some,Option.bind_some,← B8b,B3g]
   cases A2w k (List.replicate n z) ps with
   | none=>rfl
   | some rows=>simp only [Option.map_some,ren2,ren]
 | load k a =>
  cases k with
  | none =>
   simp only [I4,prim,G8]
   cases ev s a with
   | none=>rfl
   | some v =>
    simp only [Option.map_some,B2o hG hp]
    cases F0 H v with
    | none=>rfl
    | some l=>cases l <;> simp only [Option.map_some,renL] <;> rfl
  | some k =>
   simp only [I4,prim,G8]
   cases ev s a with
   | none=>rfl
   | some v =>
    simp only [Option.map_some,B2o hG hp]
    cases F0 H v with
    | none=>rfl
    | some l =>
     simp only [Option.map_some,U3]
     split
     ·simp only [Option.map_some,ren2,ren,B4b]
     ·rfl
 | storeN a k r =>
  simp only [I4,prim,G8]
  cases ev s a with
  | none=>rfl
  | some u =>
   cases u with
   | ptr b o =>
    have hp1:p≤(hset H (n0 + r) (.arr k false [])).length:= by simp only [hset,List.length_set]; exact hp
    have e:hset (E6 p g G H) (n0 + g + r) (.arr k false []) = E6 p g G (hset H (n0 + r) (.arr k false [])):=S5 hG hp hn r (.arr k false [])
    have e3:([.asl (n0 + g + r) 0]:List AV) = renL p g [.asl (n0 + r) 0]:= by simp only [renL,ren,rbn hn]
    simp only [Option.map_some,ren]
    rw [e,A3t hG hp1]
    cases S9 (hset H (n0 + r) (.arr k false [])) b with
    | none=>rfl
    | some cs =>
     rw [e3]
     simp only [Option.map_some,U3,C14 hc,A3i]
     split
     ·simp only [Option.map_some,ren2,ren,← L8 hG hp1,J0,A3i]
      try rfl
     ·rfl
   | _=>rfl
 | store k a x =>
  simp only [I4,prim,G8]
  cases ev s a with
  | none=>rfl
  | some u =>
   cases ev s x with
   | none=>cases u <;> rfl
   | some v =>
    cases u with
    | ptr b o =>
     simp only [Option.map_some,ren,A3t hG hp]
     cases S9 H b with
     | none=>rfl
     | some cs =>
      simp only [Option.map_some,A14,U3,C14 hc,A3i]
      split
      ·simp only [Option.map_some,ren2,ren,renL,← L8 hG hp,J0]
      ·rfl
    | eptr b n i o =>
     simp only [Option.map_some,ren,A14,B1y hG v.cellsOf hp]
     cases e:U6 H v.cellsOf with
     | none=>rfl
     | some r =>
      have hp':p≤r.2.length:= by rw [A6p e]; exact hp
      simp only [Option.map_some,A22 hG hp']
      cases X9 r.2 b with
      | none=>rfl
      | some y =>
       obtain ⟨kk,q,rows⟩:=y
       cases q with
       | true=>rfl
       | false =>
        simp only [Option.map_some,B8a]
        cases rows[i]? with
        | none=>rfl
        | some rr =>
         simp only [Option.map_some,J9,U3,A8b]
         split
         ·simp only [Option.map_some,ren2,ren,renL,← L8 hG hp',J0,C4t,A3i]
         ·rfl
    | _=>rfl
 | nilck x =>
  simp only [I4,prim,G8]
  cases ev s x with
  | none=>rfl
  | some v=>cases v with
   | fn f a b=>cases f <;> simp only [Option.map_some,ren,B2w] <;> first | rfl | simp only [Option.map_some,ren2,ren,B2w]
   | _=>simp only [Option.map_some,ren] <;> first | rfl | simp only [Option.map_some,ren2,ren]
 | bin op x y =>
  simp only [I4,prim,G8]
  cases ev s x with
  | none=>rfl
  | some u =>
   cases ev s y with
   | none=>rfl
   | some v=>simp only [Option.map_some,D0m]; cases A54 op u v <;> rfl
 | beq n x y =>
  simp only [I4,prim,G8]
  cases ev s x with
  | none=>rfl
  | some u =>
   cases ev s y with
   | none=>cases u with
    | lit u=>cases u <;> rfl
    | _=>rfl
   | some v=>cases u with
    | lit u=>cases u with
     | bool a=>cases v with
      | lit v=>cases v <;> simp only [Option.map_some,ren] <;> first | rfl | simp only [Option.map_some,ren2,ren]
      | _=>rfl
     | _=>rfl
    | _=>rfl
 | cmp n ks x y =>
  simp only [I4,prim,G8]
  cases ev s x with
  | none=>rfl
  | some u =>
   cases ev s y with
   | none=>cases u <;> rfl
   | some v=>cases u with
    | agg a=>cases v with
     | agg b =>
      simp only [Option.map_some,ren,A4p,B0u]
      split
      ·cases F3 a b with
       | none=>rfl
       | some t=>simp only [Option.map_some,ren2,ren]
      ·rfl
     | _=>rfl
    | _=>rfl
 | un op x =>
  simp only [I4,prim,G8]
  cases ev s x with
  | none=>rfl
  | some u=>simp only [Option.map_some,D45]; cases unV op u <;> rfl
 | conv k x =>
  simp only [I4,prim,G8]
  cases ev s x with
  | none=>rfl
  | some u=>cases u with
   | lit u=>cases u <;> simp only [Option.map_some,ren] <;> first | rfl | simp only [Option.map_some,ren2,ren]
   | _=>rfl
 | idc x =>
  simp only [I4,prim,G8]
  cases ev s x with
  | none=>rfl
  | some u=>cases u with
   | lit u=>cases u <;> simp only [Option.map_some,ren] <;> first | rfl | simp only [Option.map_some,ren2,ren]
   | _=>rfl
 | mkfn f a b =>
  simp only [I4,prim,B5z]
  cases evs s a with
  | none=>rfl
  | some u=>cases evs s b with
   | none=>rfl
   | some v=>simp only [Option.map_some,ren2,ren]
 | mkmap r=>simp only [I4,prim,Option.map_some,ren2,ren,rbn hn,← S5 hG hp hn,J0,List.map_nil]
 | mkslice k bytes z x y r =>
  simp only [I4,prim,G8]
  cases ev s x with
  | none=>rfl
  | some u =>
   cases ev s y with
   | none=>cases u with
    | lit u=>cases u with
     | int k1 a=>cases k1 <;> rfl
     | _=>rfl
    | _=>rfl
   | some v=>cases u with
    | lit u=>cases u with
     | int k1 a=>cases v with
      | lit v=>cases v with
       | int k2 b =>
        cases k1 <;> cases k2 <;> simp only [Option.map_some,ren] <;> first | rfl | skip
        split
        ·simp only [Option.map_some,ren2,ren,rbn hn,← S5 hG hp hn,J0,B8b]
        ·rfl
       | _=>cases k1 <;> rfl
      | _=>cases k1 <;> rfl
     | _=>rfl
    | _=>rfl
 | sliceS x lo hi =>
  simp only [I4,prim,G8,A9k]
  cases ev s x with
  | none=>rfl
  | some u=>cases u with
   | lit u=>cases u with
    | string b =>
     simp only [Option.map_some,ren]
     cases bnd s 0 lo with
     | none=>rfl
     | some l=>cases bnd s b.size hi with
      | none=>rfl
      | some h=>simp only; split <;> first | rfl | simp only [Option.map_some,ren2,ren]
    | _=>rfl
   | _=>rfl
 | mvz x =>
  simp only [I4,prim,G8]
  cases ev s x with
  | none=>rfl
  | some u=>simp only [Option.map_some,B1x hG hp]
 | sliceL kk x lo hi =>
  simp only [I4,prim,G8,A9k]
  cases ev s x with
  | none=>rfl
  | some u =>
   simp only [Option.map_some,B1x hG hp]
   cases Q9 H u with
   | none=>rfl
   | some r =>
    obtain ⟨w,H1⟩:=r
    cases w with
    | seq k rows =>
     simp only [Option.map_some,ren2,ren,J9]
     cases bnd s 0 lo with
     | none=>rfl
     | some l=>cases bnd s rows.length hi with
      | none=>rfl
      | some h=>simp only; split <;> first | rfl | simp only [Option.map_some,ren2,ren,A3g,A62]
    | _=>simp only [Option.map_some,ren2,ren] <;> rfl
 | sliceQ kk x lo hi =>
  simp only [I4,prim,G8,A9k]
  cases ev s x with
  | none=>rfl
  | some u =>
   simp only [Option.map_some,Option.bind_some,C9v hG hp]
   cases A5h H u with
   | none=>rfl
   | some r =>
    obtain ⟨k,rows⟩:=r
    simp only [Option.map_some,J9]
    cases bnd s 0 lo with
    | none=>rfl
    | some l=>cases bnd s rows.length hi with
     | none=>rfl
     | some h=>simp only; split <;> first | rfl | simp only [Option.map_some,ren2,ren,A3g,A62]
 | nilq q x =>
  simp only [I4,prim,G8]
  cases ev s x with
  | none=>rfl
  | some u=>cases u with
   | seq k rows=>cases rows <;> simp [ren,ren2,renR]
   | _=>simp [ren,ren2]
 | sliceA k n x hi =>
  simp only [I4,prim,G8]
  cases ev s x with
  | none=>rfl
  | some u=>cases u with
   | ptr b o =>
    simp only [Option.map_some,ren,A7m hG hp,A9k]
    cases hcells H b with
    | none=>rfl
    | some cs=>cases bnd s n hi with
     | none=>rfl
     | some h=>simp only [Option.map_some,U3]; split <;> first | rfl | simp only [Option.map_some,ren2,ren]
   | _=>rfl
 | fieldAddr off x =>
  simp only [I4,prim,G8]
  cases ev s x with
  | none=>rfl
  | some u=>cases u <;> simp only [Option.map_some,ren] <;> first | rfl | simp only [Option.map_some,ren2,ren,A92]
 | field k off x =>
  simp only [I4,prim,G8]
  cases ev s x with
  | none=>rfl
  | some u=>cases u with
   | agg cs=>cases k with
    | none=>simp only [Option.map_some,ren,B2x]; cases cs[off]? <;> rfl
    | some k=>simp only [Option.map_some,ren,U3]; split <;> first | rfl | simp only [Option.map_some,ren2,ren,A92,B4b]
   | _=>rfl
 | idxS k x i =>
  simp only [I4,prim,G8]
  cases ev s x with
  | none=>rfl
  | some u =>
   cases ev s i with
   | none=>cases u <;> rfl
   | some v=>cases v with
    | lit v=>cases v with
     | int k1 n=>cases u with
      | seq k' rows =>
       simp only [Option.map_some,ren,B8a]
       split
       ·cases rows[n.toNat]? with
        | none=>rfl
        | some r=>simp only [Option.map_some,ren2,ren]
       ·rfl
      | xseq k' rows =>
       simp only [Option.map_some,ren,B8a]
       split
       ·cases rows[n.toNat]? with
        | none=>rfl
        | some r=>simp only [Option.map_some,ren2,ren]
       ·rfl
      | asl b m =>
       simp only [Option.map_some,ren,A07 hG hp]
       cases harr H b with
       | none=>rfl
       | some y =>
        simp only [Option.map_some,J9]
        split
        ·simp only [Option.map_some,ren2,ren]
        ·rfl
      | csl b o m q =>
       simp only [Option.map_some,ren,A07 hG hp]
       cases harr H b with
       | none=>rfl
       | some y =>
        simp only [Option.map_some,J9]
        split
        ·simp only [Option.map_some,ren2,ren]
        ·rfl
      | _=>rfl
     | _=>cases u <;> rfl
    | _=>cases u <;> rfl
 | idxA k n x i =>
  simp only [I4,prim,G8]
  cases ev s x with
  | none=>rfl
  | some u =>
   cases ev s i with
   | none=>cases u <;> rfl
   | some v=>cases v with
    | lit v=>cases v with
     | int k1 m=>cases u <;> simp only [Option.map_some,ren] <;> first | rfl | (split <;> first | rfl | simp only [Option.map_some,ren2,ren,A92])
     | _=>cases u <;> rfl
    | _=>cases u <;> rfl
 | idxStr x i =>
  simp only [I4,prim,G8]
  cases ev s x with
  | none=>rfl
  | some u =>
   cases ev s i with
   | none=>cases u with
    | lit u=>cases u <;> rfl
    | _=>rfl
   | some v=>cases u with
    | lit u=>cases u with
     | string b=>cases v with
      | lit v=>cases v with
       | int k1 m =>
        simp only [Option.map_some,ren]
        split
        ·cases b[m.toNat]? <;> simp [ren2,ren]
        ·rfl
       | _=>rfl
      | _=>rfl
     | _=>rfl
    | _=>rfl
 | idxAgg k sz n x i =>
  simp only [I4,prim,G8]
  cases ev s x with
  | none=>rfl
  | some u =>
   cases ev s i with
   | none=>cases u <;> rfl
   | some v=>cases v with
    | lit v=>cases v with
     | int k1 m=>cases u with
      | agg cs =>
       simp only [Option.map_some,ren]
       split
       ·cases k with
        | none=>simp only [B2x]; cases cs[m.toNat * sz]? <;> rfl
        | some k=>simp only [U3]; split <;> first | rfl | simp only [Option.map_some,ren2,ren,A92,B4b]
       ·rfl
      | _=>rfl
     | _=>cases u <;> rfl
    | _=>cases u <;> rfl
 | lookup z ag ks x i ok =>
  simp only [I4,prim,G8]
  cases ev s x with
  | none=>rfl
  | some u =>
   cases ev s i with
   | none=>rfl
   | some key =>
    cases u with
    | mp b =>
     simp only [Option.map_some,ren,A8n hG hp,W4]
     cases hmap H b with
     | none=>cases G9 ag key <;> rfl
     | some es =>
      cases G9 ag key with
      | none=>rfl
      | some cs =>
       simp only [Option.map_some,A4p,A8i]
       split
       ·cases findKey ag ks cs es 0 with
        | none=>rfl
        | some q=>cases q with
         | none=>cases ok <;> simp [ren2,ren,renL]
         | some q=>cases ok <;> simp [ren2,ren,renL]
       ·rfl
    | lit u=>cases u with
     | map m=>cases m with
      | none =>
       simp only [Option.map_some,ren,W4]
       cases G9 ag key with
       | none=>rfl
       | some cs =>
        simp only [Option.map_some,A4p]
        split
        ·cases ok <;> simp [findKey,ren2,ren,renL]
        ·rfl
      | some m=>simp only [Option.map_some,ren,W4]; cases G9 ag key <;> rfl
     | _=>simp only [Option.map_some,ren,W4]; cases G9 ag key <;> rfl
    | _=>simp only [Option.map_some,ren,W4]; cases G9 ag key <;> rfl
 | mupd ag ks m x v =>
  simp only [I4,prim,G8]
  cases ev s m with
  | none=>rfl
  | some u =>
   cases ev s x with
   | none=>cases u <;> rfl
   | some key =>
    cases ev s v with
    | none=>cases u <;> rfl
    | some w=>cases u with
     | mp b =>
      simp only [Option.map_some,ren,C8z hG hp,W4]
      cases A8m H b with
      | none=>rfl
      | some es=>cases G9 ag key with
       | none=>rfl
       | some cs =>
        have he:(renL p g w.cellsOf).isEmpty = w.cellsOf.isEmpty:= by rw [M7]; cases w.cellsOf <;> rfl
        simp only [Option.map_some,A4p,A14,A8b,he,A8i]
        split
        ·cases findKey ag ks cs es 0 with
         | none=>rfl
         | some q=>cases q with
          | none=>simp only [Option.map_some,Option.map_none,ren2,ren,renL,← L8 hG hp,J0,List.map_append,List.map_cons,List.map_nil]
          | some q=>simp only [Option.map_some,ren2,ren,renL,← L8 hG hp,J0,List.map_set]
        ·rfl
     | _=>rfl
 | range x r =>
  simp only [I4,prim,G8]
  cases ev s x with
  | none=>rfl
  | some u=>cases u with
   | lit u=>cases u <;> simp only [Option.map_some,ren] <;> first | rfl | simp only [Option.map_some,ren2,ren,rbn hn,← S5 hG hp hn,J0]
   | _=>rfl
 | rangeM x r =>
  simp only [I4,prim,G8]
  cases ev s x with
  | none=>rfl
  | some u=>cases u with
   | mp b =>
    simp only [Option.map_some,ren,A8n hG hp]
    cases hmap H b with
    | none=>rfl
    | some es=>simp only [Option.map_some,ren2,ren,rbn hn,← S5 hG hp hn,J0,List.length_map]
   | _=>rfl
 | entry x =>
  simp only [I4,prim,G8]
  cases ev s x with
  | none=>rfl
  | some u=>cases u with
   | itr b =>
    simp only [Option.map_some,ren,C9b hG hp]
    cases A74 H b with
    | none=>rfl
    | some e=>rfl
   | _=>rfl
 | next x =>
  simp only [I4,prim,G8]
  cases ev s x with
  | none=>rfl
  | some u=>cases u with
   | itr b =>
    simp only [Option.map_some,ren,P8 hG hp]
    cases hget H b with
    | none=>rfl
    | some o=>cases o with
     | iter t q =>
      simp only [Option.map_some,J0]
      split
      ·simp only [Option.map_some,ren2,ren,renL,← L8 hG hp,J0]
      ·simp only [Option.map_some,ren2,ren,renL]
     | _=>rfl
   | _=>rfl
 | extract x i =>
  simp only [I4,prim,G8]
  cases ev s x with
  | none=>rfl
  | some u=>cases u with
   | tup cs=>simp only [Option.map_some,ren,B2x]; cases cs[i]? <;> rfl
   | _=>rfl
 | lenS x =>
  simp only [I4,prim,G8]
  cases ev s x with
  | none=>rfl
  | some u=>cases u with
   | lit u=>cases u <;> simp only [Option.map_some,ren] <;> first | rfl | simp only [Option.map_some,ren2,ren]
   | _=>rfl
 | lenM x =>
  simp only [I4,prim,G8]
  cases ev s x with
  | none=>rfl
  | some u=>cases u with
   | mp b =>
    simp only [Option.map_some,ren,A8n hG hp]
    cases hmap H b <;> simp [ren2,ren]
   | lit u=>cases u with
    | map m=>cases m <;> simp [ren,ren2]
    | _=>rfl
   | _=>rfl
 | lenL x =>
  simp only [I4,prim,G8]
  cases ev s x with
  | none=>rfl
  | some u=>cases u with
   | asl b n =>
    simp only [Option.map_some,ren,A07 hG hp]
    cases harr H b with
    | none =>
     simp only [Option.map_none,B16 hG hp]
     cases hstk H b with
     | none=>rfl
     | some y=>simp only [Option.map_some,J9]; split <;> simp [ren2,ren]
    | some y=>simp only [Option.map_some,J9]; split <;> simp [ren2,ren]
   | _=>simp [ren,ren2,J9]
 | mm mx xs =>
  simp only [I4,prim,B5z]
  cases evs s xs with
  | none=>rfl
  | some l=>cases l with
   | nil=>simp [renL]
   | cons x l=>simp only [Option.map_some,renL,C7z]; cases mmV mx x l <;> rfl
 | append k bytes d x r fz =>
  simp only [I4,prim,G8]
  cases ev s d with
  | none=>rfl
  | some u =>
   cases ev s x with
   | none=>rfl
   | some v =>
    simp only [Option.map_some,B1f hG hp,C1w hG hp]
    cases V8 H v with
    | none=>rfl
    | some new=>cases kOf H v with
     | none=>rfl
     | some k' =>
      simp only [Option.map_some,B11]
      split
      ·cases u with
       | nils kk =>
        simp only [ren,J9]
        split
        ·cases fz with
         | true=>cases r with
          | none=>simp only [Option.map_some,ren2,ren]
          | some r =>
           simp only [B6i]
           split
           ·simp only [Option.map_some,ren2,ren,rbn hn,← S5 hG hp hn,J0,List.map_nil]
           ·rfl
         | false=>cases r with
          | none=>rfl
          | some r=>simp only [Option.map_some,ren2,ren,rbn hn,← S5 hG hp hn,J0]
        ·rfl
       | asl b n =>
        simp only [ren,A22 hG hp]
        cases X9 H b with
        | none =>
         simp only [Option.map_none]
         cases fz with
         | false=>rfl
         | true=>cases r with
          | none=>rfl
          | some r =>
           simp only [C84 hG hp]
           cases B15 H b with
           | none=>rfl
           | some y =>
            have e1:Nat.blt (rb p g b) (n0 + g + r) = Nat.blt b (n0 + r):=ScB.lt (.inr (.inl ⟨by omega,by omega⟩)) b
            simp only [Option.map_some,J9,B6i,e1,D03 hG hS hp]
            split
            ·simp only [Option.map_some,ren2,ren,rbn hn,← S5 hG hp hn,J0,A9a,List.map_cons]
            ·rfl
        | some y =>
         simp only [Option.map_some,J9]
         split
         ·cases fz with
          | true=>cases r with
           | none=>simp only [Option.map_some,ren2,ren,A9a,← L8 hG hp,J0]
           | some r=>rfl
          | false=>cases r <;> simp only [Option.map_some,ren2,ren,A9a,← L8 hG hp,J0]
         ·rfl
       | _=>rfl
      ·rfl
 | copy k d x =>
  simp only [I4,prim,G8]
  cases ev s d with
  | none=>rfl
  | some u =>
   cases ev s x with
   | none=>cases u <;> rfl
   | some v=>cases u with
    | asl b n =>
     simp only [Option.map_some,ren,A22 hG hp,B1f hG hp,C1w hG hp]
     cases X9 H b with
     | none=>rfl
     | some y =>
      obtain ⟨kk,q,rows⟩:=y
      cases q with
      | true=>cases V8 H v <;> cases kOf H v <;> rfl
      | false=>cases V8 H v with
       | none=>cases kOf H v <;> rfl
       | some src=>cases kOf H v with
        | none=>rfl
        | some k' =>
         simp only [Option.map_some,J9,B11]
         split
         ·simp only [Option.map_some,ren2,ren,← L8 hG hp,J0,A9a,A3g,A62]
         ·rfl
    | csl b o kk n =>
     simp only [Option.map_some,ren,A3t hG hp,B1f hG hp,C1w hG hp]
     cases S9 H b with
     | none=>rfl
     | some cs =>
      cases V8 H v with
      | none=>cases kOf H v <;> rfl
      | some src=>cases kOf H v with
       | none=>rfl
       | some k' =>
        simp only [Option.map_some,J9,U3,B11]
        split
        ·simp only [Option.map_some,ren2,ren,← L8 hG hp,J0,← A3i,C00,A3g]
        ·rfl
    | _=>rfl
 | sub kk x lo hi =>
  simp only [I4,prim,G8,A9k]
  cases ev s x with
  | none=>rfl
  | some u=>cases u with
   | seq k rows =>
    simp only [Option.map_some,ren,J9]
    cases bnd s 0 lo with
    | none=>rfl
    | some l=>cases bnd s rows.length hi with
     | none=>rfl
     | some h=>simp only; split <;> first | rfl | simp only [Option.map_some,ren2,ren,A3g,A62]
   | asl b n =>
    simp only [Option.map_some,ren,A07 hG hp]
    cases harr H b with
    | none=>rfl
    | some y =>
     obtain ⟨k,q,rows⟩:=y
     simp only [Option.map_some,J9]
     cases bnd s 0 lo with
     | none=>rfl
     | some l=>cases bnd s n hi with
      | none=>rfl
      | some h =>
       simp only
       split
       ·simp only [Option.map_some,ren2]
        split <;> simp only [ren,renR]
       ·rfl
   | _=>rfl
 | clear k z x =>
  simp only [I4,prim,G8]
  cases ev s x with
  | none=>rfl
  | some u=>cases u with
   | csl b o m n =>
    simp only [Option.map_some,ren,A22 hG hp]
    cases X9 H b with
    | none=>rfl
    | some y =>
     obtain ⟨kk,q,rows⟩:=y
     cases q with
     | true=>rfl
     | false =>
      simp only [Option.map_some,J9]
      split
      ·simp only [Option.map_some,ren2,ren,renL,← L8 hG hp,J0,A9a,A3g,A62,B8c]
      ·rfl
   | _=>rfl
 | cut k x hi r =>
  simp only [I4,prim,G8]
  cases ev s x with
  | none=>rfl
  | some u=>cases u with
   | asl b n =>
    simp only [Option.map_some,ren,A22 hG hp,A9k]
    cases X9 H b with
    | none=>rfl
    | some y =>
     obtain ⟨kk,q,rows⟩:=y
     cases q with
     | true=>rfl
     | false=>cases bnd s n hi with
      | none=>rfl
      | some h =>
       simp only [Option.map_some,J9]
       split
       ·have e1:hset (E6 p g G H) (rb p g b) .dead = E6 p g G (hset H b .dead):= by rw [← L8 hG hp]; simp only [J0]
        simp only [Option.map_some,ren2,ren,rbn hn,e1]
        rw [← S5 hG (by rw [F4]; exact hp) hn]; simp only [J0,A3g]
       ·rfl
   | _=>rfl
end
section
variable {p g:Nat} {G:A1} (hG:G.length = g)
include hG
theorem R1 {B B':Nat} (hB:ScB p g B B') {H:A1} (hp:p≤H.length) (v:AV):Z6 B' (E6 p g G H) (ren p g v) = (Z6 B H v).map (ren2 p g G):= by
 cases v with
 | asl b n =>
  have hf:=C1p hG hp (.asl b n)
  simp only [ren] at hf
  simp only [ren,Z6,A22 hG hp,hB.le]
  cases X9 H b with
  | none=>exact hf
  | some y =>
   obtain ⟨k,q,rows⟩:=y
   cases q with
   | true=>exact hf
   | false =>
    simp only [Option.map_some,J9]
    split
    ·split
     ·simp only [Option.map_some,ren2,ren,← L8 hG hp,J0]
     ·rfl
    ·exact hf
 | nils k=>simp [ren,Z6,ren2,renR]
 | _=>simp [ren,Z6,ren2]
omit hG
include hG
theorem C0u {B B':Nat} (hB:ScB p g B B'):∀(l:List AV) {H:A1} (hp:p≤H.length),S7 B' (E6 p g G H) (renL p g l) = (S7 B H l).map fun r=>(renL p g r.1,E6 p g G r.2)
 | [],H,hp=>by simp [S7,renL]
 | v :: l,H,hp=>by
  simp only [renL,S7,R1 hG hB hp]
  cases e:Z6 B H v with
  | none=>rfl
  | some r =>
   simp only [Option.map_some,ren2]
   rw [C0u hB l (by rw [B7y e]; exact hp)]
   cases S7 B r.2 l with
   | none=>rfl
   | some q=>simp [renL]
theorem D2c {B B':Nat} (hB:ScB p g B B') {H:A1} (hp:p≤H.length) (v:AV):T3 B' (E6 p g G H) (ren p g v) = (T3 B H v).map (ren2 p g G):= by
 cases v with
 | agg cs =>
  simp only [ren,T3,C0u hG hB cs hp]
  cases S7 B H cs <;> simp [ren2,ren]
 | nils k=>have:=R1 hG hB hp (.nils k); simpa [ren,T3] using this
 | lit u=>have:=R1 hG hB hp (.lit u); simpa [ren,T3] using this
 | seq k rows=>have:=R1 hG hB hp (.seq k rows); simpa [ren,T3] using this
 | xseq k rows=>have:=R1 hG hB hp (.xseq k rows); simpa [ren,T3] using this
 | ptr b o=>have:=R1 hG hB hp (.ptr b o); simpa [ren,T3] using this
 | itr b=>have:=R1 hG hB hp (.itr b); simpa [ren,T3] using this
 | eptr b n i o=>have:=R1 hG hB hp (.eptr b n i o); simpa [ren,T3] using this
 | cptr cs=>have:=R1 hG hB hp (.cptr cs); simpa [ren,T3] using this
 | asl b n=>have:=R1 hG hB hp (.asl b n); simpa [ren,T3] using this
 | csl b o k n=>have:=R1 hG hB hp (.csl b o k n); simpa [ren,T3] using this
 | mp b=>have:=R1 hG hB hp (.mp b); simpa [ren,T3] using this
 | fn f a c=>have:=R1 hG hB hp (.fn f a c); simpa [ren,T3] using this
 | tup cs=>have:=R1 hG hB hp (.tup cs); simpa [ren,T3] using this
 | fresh k rows=>have:=R1 hG hB hp (.fresh k rows); simpa [ren,T3] using this
 | undef=>have:=R1 hG hB hp .undef; simpa [ren,T3] using this
theorem C0v {B B':Nat} (hB:ScB p g B B'):∀(l:List AV) {H:A1} (hp:p≤H.length),P4 B' (E6 p g G H) (renL p g l) = (P4 B H l).map fun r=>(renL p g r.1,E6 p g G r.2)
 | [],H,hp=>by simp [P4,renL]
 | v :: l,H,hp=>by
  simp only [renL,P4,D2c hG hB hp]
  cases e:T3 B H v with
  | none=>rfl
  | some r =>
   simp only [Option.map_some,ren2]
   rw [C0v hB l (by rw [C4e e]; exact hp)]
   cases P4 B r.2 l with
   | none=>rfl
   | some q=>simp [renL]
theorem C7m {n0:Nat} (hn:p≤n0) {H:A1} (hp:p≤H.length) (own:List (Nat × Nat)) (j:Nat) (v:AV):inC (n0 + g) (E6 p g G H) own j (ren p g v) = ren2 p g G (inC n0 H own j v):= by
 cases v with
 | fresh k rows =>
  simp only [ren,inC]
  cases V7 j own with
  | none=>simp only [ren2,ren]
  | some r=>simp only [ren2,ren,rbn hn,J9,← S5 hG hp hn,J0]
 | _=>simp [ren,inC,ren2]
omit hG
include hG
theorem C3t {n0:Nat} (hn:p≤n0) (own:List (Nat × Nat)):∀(l:List AV) (j:Nat) {H:A1} (hp:p≤H.length),A2k (n0 + g) (E6 p g G H) own j (renL p g l) = (renL p g (A2k n0 H own j l).1,E6 p g G (A2k n0 H own j l).2)
 | [],j,H,hp=>by simp [A2k,renL]
 | v :: l,j,H,hp=>by
  simp only [renL,A2k,C7m hG hn hp,ren2]
  rw [C3t hn own l (j + 1) (by rw [C1r]; exact hp)]
theorem D3u {n0:Nat} (hn:p≤n0) {H:A1} (hp:p≤H.length) (own:List (Nat × Nat)) (v:AV):inV (n0 + g) (E6 p g G H) own (ren p g v) = ren2 p g G (inV n0 H own v):= by
 cases v with
 | agg cs=>simp only [ren,inV,C3t hG hn own cs 0 hp,ren2]
 | fresh k rows=>have:=C7m hG hn hp own 0 (.fresh k rows); simpa [ren,inV] using this
 | _=>simp [ren,inV,inC,ren2]
theorem B68 {n0:Nat} (hn:p≤n0):∀(l:List AV) (own:List (List (Nat × Nat))) {H:A1} (hp:p≤H.length),U7 (n0 + g) (E6 p g G H) (renL p g l) own = (renL p g (U7 n0 H l own).1,E6 p g G (U7 n0 H l own).2)
 | [],own,H,hp=>by simp [U7,renL]
 | v :: l,own,H,hp=>by
  simp only [renL,U7,D3u hG hn hp,ren2]
  rw [B68 hn l own.tail (by rw [C7q]; exact hp)]
omit hG
theorem B70 (l:List AV):packed (renL p g l) = ren p g (packed l):= by
 cases l with
 | nil=>simp [renL,packed,ren]
 | cons v l=>cases l <;> simp [renL,packed,ren]
theorem B7a {H:A1} (hp:p≤H.length) {B:Nat} (hB:p≤B) (hG:G.length = g):(E6 p g G H).take (B + g) = E6 p g G (H.take B):= by
 unfold E6
 have hl:((H.take p).map (J0 p g)).length = p:= by simp; omega
 rw [List.take_append,hl,List.take_of_length_le (by rw [hl]; omega),List.take_append,hG,List.take_of_length_le (l:=G) (by omega),List.take_take,Nat.min_eq_left hB]
 congr 2
 rw [← List.map_take,List.drop_take]
 congr 2; omega
theorem B4i {B B':Nat} (hB:p≤B) (hB':B' = B + g) {H:A1} (hp:p≤H.length) (hG:G.length = g) (rs:List AV):trunc B' (renL p g rs) (E6 p g G H) = E6 p g G (trunc B rs H):= by
 subst hB'
 unfold trunc
 rw [bdL_ren (.inr (.inl ⟨hB,rfl⟩))]
 split
 ·exact B7a hp hB hG
 ·rfl
theorem B4h {B:Nat} (hB:p≤B) {H:A1} (hp:p≤H.length) (rs:List AV):p≤(trunc B rs H).length:= by
 unfold trunc; split
 ·rw [List.length_take]; omega
 ·exact hp
include hG
theorem B64 {H:A1} (hp:p≤H.length):∀l:List Nat,hide (E6 p g G H) (l.map (rb p g)) = E6 p g G (hide H l)∧(hide H l).length = H.length
 | []=>⟨rfl,rfl⟩
 | b :: l=>by
  obtain ⟨h1,h2⟩:=B64 hp l
  constructor
  ·simp only [List.map_cons,hide,h1]
   rw [← L8 hG (by rw [h2]; exact hp)]; simp only [J0]
  ·simp only [hide,F4,h2]
theorem B8r {H0 H:A1} (hp0:p≤H0.length) (hp:p≤H.length):∀l:List Nat,unhide (E6 p g G H0) (E6 p g G H) (l.map (rb p g)) = E6 p g G (unhide H0 H l)∧(unhide H0 H l).length = H.length
 | []=>⟨rfl,rfl⟩
 | b :: l=>by
  obtain ⟨h1,h2⟩:=B8r hp0 hp l
  simp only [List.map_cons,unhide,P8 hG hp0,h1]
  cases hget H0 b with
  | none=>exact ⟨rfl,h2⟩
  | some o =>
   simp only [Option.map_some]
   exact ⟨L8 hG (by rw [h2]; exact hp) b o,by rw [F4,h2]⟩
omit hG
theorem C1g (v:AV):(ren p g v).box? = v.box?.map (rb p g):= by cases v <;> simp [ren,AV.box?]
include hG
theorem B60 {H:A1} (hp:p≤H.length):∀(l:List Nat) (b:Nat),follow (E6 p g G H) (rb p g b) l = (follow H b l).map (rb p g)
 | [],b=>rfl
 | o :: l,b=>by
  simp only [follow,A7m hG hp]
  cases hcells H b with
  | none=>rfl
  | some cs =>
   simp only [Option.map_some,B2x]
   cases h:cs[o]? with
   | none=>rfl
   | some v =>
    simp only [Option.map_some,Option.bind_some,C1g]
    cases v.box? with
    | none=>rfl
    | some b'=>exact B60 hp l b'
theorem C48 (s:B4) {H:A1} (hp:p≤H.length):∀l:List (Nat × List Nat),ways (N0 p g s) (E6 p g G H) l = (ways s H l).map (List.map (rb p g))
 | []=>rfl
 | x :: l=>by
  simp only [ways,A65]
  cases sget s x.1 with
  | none=>rfl
  | some v =>
   simp only [Option.map_some,Option.bind_some,C1g]
   cases v.box? with
   | none=>rfl
   | some b =>
    simp only [Option.map_some,B60 hG hp,C48 s hp l]
    cases follow H b x.2 with
    | none=>rfl
    | some b'=>cases ways s H l <;> rfl
omit hG
theorem B8w (op:AOp):writes (I4 p g op) = writes op:= by cases op <;> rfl
theorem D36 {n0:Nat} (hn:p≤n0) (l:List Nat):l.map (n0 + g + ·) = (l.map (n0 + ·)).map (rb p g):= by
 rw [List.map_map]; congr 1; funext r; simp only [Function.comp_def]; exact (rbn hn r).symm
theorem C20 {B B':Nat} (h:ScB p g B B') (l:List Nat):((l.map (rb p g)).all fun b=>Nat.blt b B') = l.all fun b=>Nat.blt b B:= by
 rw [List.all_map]; congr 1; funext b; exact h.lt b
include hG
theorem D06 {n0:Nat} (hn:p≤n0) (s:B4) {H:A1} (hp:p≤H.length) (o:AOper):A2j (n0 + g) (N0 p g s) (E6 p g G H) (X5 p g o) = (A2j n0 s H o).map (List.map (rb p g)):= by
 unfold A2j
 simp only [X5,D36 hn]
 obtain ⟨h1,h2⟩:=B64 hG hp (o.hid.map (n0 + ·))
 rw [h1,C48 hG s (by rw [h2]; exact hp)]
 cases ways s (hide H (o.hid.map (n0 + ·))) o.hida with
 | none=>rfl
 | some bs =>
  have e2:((bs.map (rb p g)).all fun b=>(hstk (E6 p g G (hide H (o.hid.map (n0 + ·)))) b).isNone) = bs.all fun b=>(hstk (hide H (o.hid.map (n0 + ·))) b).isNone:= by
   rw [List.all_map]; congr 1; funext b
   simp only [Function.comp_def,B16 hG (show p≤(hide H (o.hid.map (n0 + ·))).length by rw [h2]; exact hp)]
   cases hstk (hide H (o.hid.map (n0 + ·))) b <;> rfl
  simp only [Option.map_some,B8w,← List.map_append,e2]
  rw [C20 (.inr (.inl ⟨hp,A1q hG hp⟩))]
  split <;> rfl
omit hG
theorem C5h (op:AOp):L7 (I4 p g op) = (L7 op).map (D9 p g):= by cases op <;> rfl
theorem D2q (s:B4) (op:AOp):rbox (N0 p g s) (I4 p g op) = (rbox s op).map (rb p g):= by
 unfold rbox; rw [C5h]
 cases L7 op with
 | none=>rfl
 | some x =>
  simp only [Option.map_some,Option.bind_some,G8]
  cases ev s x with
  | none=>rfl
  | some v=>exact C1g v
abbrev hcR (p g:Nat) (hc:List (Option (List Nat))):List (Option (List Nat)):=hc.map (Option.map (List.map (rb p g)))
theorem C6o (s:B4) (o:AOper) (hc:List (Option (List Nat))):N1 (N0 p g s) (X5 p g o) (hcR p g hc) = N1 s o hc:= by
 unfold N1
 simp only [X5,D2q]
 cases rbox s o.op with
 | none=>rfl
 | some b =>
  simp only [Option.map_some,hcR,← List.map_take,List.all_map]
  congr 1; funext e
  cases e with
  | none=>rfl
  | some hs=>simp only [Function.comp_def,Option.map_some,A7f]
theorem C6v (s:B4) (x:Option (Nat × Bool)):wanted (N0 p g s) x = wanted s x:= by
 cases x with
 | none=>rfl
 | some x =>
  simp only [wanted,A65]
  cases sget s x.1 with
  | none=>rfl
  | some v=>cases v with
   | lit u=>cases u <;> simp [ren]
   | tup cs=>cases cs <;> simp [ren,renL]
   | _=>simp [ren]
theorem B8l (s:B4) (d:Option Nat) (v:AV):sput (N0 p g s) d (ren p g v) = N0 p g (sput s d v):= by cases d <;> rfl
include hG
theorem C3i {H:A1} (hp:p≤H.length) (v:AV):T7 (E6 p g G H) (ren p g v) = (T7 H v).map (E6 p g G):= by
 have other:(Q9 (E6 p g G H) (ren p g v)).map (·.2) = ((Q9 H v).map (·.2)).map (E6 p g G):= by
  rw [B1x hG hp]
  cases Q9 H v <;> rfl
 cases v with
 | ptr b off =>
  simp only [ren,T7,A3t hG hp]
  cases S9 H b with
  | none=>rfl
  | some cs =>
   simp only [Option.map_some,B1y hG cs hp]
   cases e:U6 H cs with
   | none=>rfl
   | some r =>
    have hp':p≤r.2.length:= by rw [A6p e]; exact hp
    simp only [Option.map_some,A3t hG hp']
    cases S9 r.2 b with
    | none=>rfl
    | some cs1=>simp only [Option.map_some,← L8 hG hp',J0]
 | _=>first | exact other | (simp only [ren] at other; simp only [ren,T7]; exact other)
theorem B48 (s:B4):∀(l:List Nat) {H:A1} (hp:p≤H.length),publish (N0 p g s) (E6 p g G H) l = (publish s H l).map (E6 p g G)∧∀ H',publish s H l = some H'→H'.length = H.length
 | [],H,hp=>⟨rfl,fun H' h=>by simp only [publish,Option.some.injEq] at h; subst h; rfl⟩
 | t :: l,H,hp=>by
  simp only [publish,A65]
  cases sget s t with
  | none=>exact ⟨rfl,fun H' h=>by cases h⟩
  | some v =>
   simp only [Option.map_some,C3i hG hp]
   cases e:T7 H v with
   | none=>exact ⟨rfl,fun H' h=>by cases h⟩
   | some r =>
    have hl:=B4s e
    obtain ⟨h1,h2⟩:=B48 s l (H:=r) (by rw [hl]; exact hp)
    exact ⟨h1,fun H' h=>by rw [h2 H' h,hl]⟩
theorem B73 {H:A1} (hp:p≤H.length) (v:AV):pubbed (E6 p g G H) (ren p g v) = pubbed H v:= by
 cases v with
 | asl b n=>simp only [ren,pubbed,A07 hG hp]; cases harr H b <;> rfl
 | _=>simp [ren,pubbed]
theorem C4l {H:A1} (hp:p≤H.length) (v:AV):O5 (E6 p g G H) (ren p g v) = O5 H v:= by
 cases v with
 | agg cs =>
  simp only [ren,O5,M7,List.all_map]
  congr 1; funext x; exact B73 hG hp x
 | asl b n=>have:=B73 hG hp (.asl b n); simpa [ren,O5] using this
 | _=>simp [ren,O5,pubbed]
omit hG
theorem C46 (o:AO):(J0 p g o).toRo = J0 p g o.toRo:= by
 cases o <;> simp [J0,AO.toRo]
theorem D56 (H:A1):(E6 p g G H).map AO.toRo = E6 p g (G.map AO.toRo) (H.map AO.toRo):= by
 unfold E6
 simp only [List.map_append,List.map_map,List.map_take,List.map_drop]
 congr 2
 ·congr 1; funext o; exact C46 o
 ·congr 2; funext o; exact C46 o
theorem D50 (hS:GrO p G):GrO p (G.map AO.toRo):= by
 intro o ho b hb
 obtain ⟨x,hx,rfl⟩:=List.mem_map.1 ho
 have:=hS x hx b hb
 cases x with
 | ro o=>cases o <;> exact this
 | _=>first | rfl | exact this
theorem B96 (hG:G.length = g) {H:A1} (hp:p≤H.length) (own:List (List (Nat × Nat))) (l:List AV):Z0 own (E6 p g G H) (renL p g l) = (Z0 own H l).map fun r=>(renL p g r.1,E6 p g G r.2):= by
 unfold Z0
 split
 ·rfl
 ·exact B99 hG l hp
theorem A51 (hG:G.length = g) (hS:GrO p G) (s:B4) {H:A1} (hp:p≤H.length):∀l:List ARes,results (N0 p g s) (E6 p g G H) l = (results s H l).map (renL p g)
 | []=>by simp [results,renL]
 | .tmp t :: l=>by
  simp only [results,A65,A51 hG hS s hp l]
  cases sget s t with
  | none=>rfl
  | some v=>cases results s H l <;> simp [renL]
 | .cell t k :: l=>by
  simp only [results,A51 hG hS s hp l]
  have h1:prim ⟨0,[]⟩ 0 (N0 p g s) (E6 p g G H) (.load k (.t t)) = prim ⟨0,[]⟩ (p + g) (N0 p g s) (E6 p g G H) (.load k (.t t)):= by cases k <;> rfl
  have h2:prim ⟨0,[]⟩ 0 s H (.load k (.t t)) = prim ⟨0,[]⟩ p s H (.load k (.t t)):= by cases k <;> rfl
  rw [h1,h2]
  have:=C4k hG hS (c:=⟨0,[]⟩) (c':=⟨0,[]⟩) ⟨.inl ⟨Nat.zero_le _,rfl⟩,.nil⟩ (Nat.le_refl p) hp s (.load k (.t t))
  simp only [I4,D9] at this
  rw [this]
  cases prim ⟨0,[]⟩ p s H (.load k (.t t)) with
  | none=>rfl
  | some r=>cases results s H l <;> simp [renL,ren2]
theorem A69:∀(l:List AV) (i:Nat),J7 i (renL p g l) = N0 p g (J7 i l)
 | [],i=>by simp [renL,J7,N0]
 | v :: l,i=>by simp only [renL,J7,A69 l,N0,List.map_cons]
theorem U4 (s:B4):∀l:List Nat,restrict (N0 p g s) l = N0 p g (restrict s l)
 | []=>rfl
 | t :: l=>by
  simp only [restrict,A65,U4 s l]
  cases sget s t <;> rfl
theorem B3a {B B':Nat} (h:ScB p g B B'):∀s:B4,Y9 B' (N0 p g s) = Y9 B s
 | []=>rfl
 | x :: s=>by simp only [N0,List.map_cons,Y9,bd_ren h]; rw [← N0,B3a h s]
theorem C7s {H:A1} (hp:p≤H.length) (l:List AO):E6 p g G (H++l) = E6 p g G H++l.map (J0 p g):= by
 unfold E6
 rw [List.take_append_of_le_length hp,List.drop_append_of_le_length hp]
 simp only [List.map_append,List.append_assoc]
theorem C4s (a b:List AV):renL p g (a++b) = renL p g a++renL p g b:= by simp only [M7,List.map_append]
structure RenM (p g:Nat) (M:Mach):Prop where
 call:∀{G:A1},G.length = g→GrO p G→∀ {c c':Sc} {H:A1} {f:AV} {aq rs:List AV} {H':A1},ScR p g c c'→p≤H.length→M.call c H f aq = some (rs,H')→M.call c' (E6 p g G H) (ren p g f) (renL p g aq) = some (renL p g rs,E6 p g G H')∧p≤H'.length
 code:∀{G:A1},G.length = g→GrO p G→∀ {ac:ACode} {st:St} {e:Ex} {st':St} {c':Sc},ScR p g st.c c'→p≤st.H.length→M.code ac st = some (e,st') →
  M.code (I1 p g ac) ⟨N0 p g st.s,E6 p g G st.H,c'⟩ = some (e,⟨N0 p g st'.s,E6 p g G st'.H,c'⟩)∧p≤st'.H.length∧st'.c = st.c
theorem C5j {M:Mach} (hM:RenM p g M) (hG:G.length = g) (hS:GrO p G) {c c':Sc} (hc:ScR p g c c') {n0:Nat} (hn:p≤n0) {s:B4} {H:A1} (hp:p≤H.length) {f:Opd} {args:List Opd} {own:List (List (Nat × Nat))} {pure:Bool} {r:AV × A1} (h:S0 M c n0 s H f args own pure = some r) :
  S0 M c' (n0 + g) (N0 p g s) (E6 p g G H) (D9 p g f) (args.map (D9 p g)) own pure = some (ren2 p g G r)∧p≤r.2.length:= by
 unfold S0 at h ⊢
 rw [G8,B5z]
 split at h
 ·next fv aq e1 e2 =>
  simp only [e1,e2,Option.map_some]
  cases pure with
  | true =>
   simp only [if_true] at h ⊢
   have e0:(lend own || (renL p g aq).all (O5 (E6 p g G H))) = (lend own || aq.all (O5 H)):= by
    congr 1
    rw [M7,List.all_map]; congr 1; funext v; exact C4l hG hp v
   rw [e0]
   split at h
   ·next h0 =>
    simp only [h0,if_true]
    rw [B96 hG hp own aq]
    split at h
    ·cases h
    ·next as' H1 e3 =>
     simp only [e3,Option.map_some]
     split at h
     ·cases h
     ·next rs H2 e4 =>
      have:=hM.call (G:=G.map AO.toRo) (by simpa using hG) (D50 hS) hc (by simpa using hp) e4
      rw [D56,this.1]
      simp only
      rw [A1q hG hp,bdL_ren (.inr (.inl ⟨hp,rfl⟩))]
      split at h
      ·next h5 =>
       simp only [h5,if_true]
       simp only [Option.some.injEq] at h; subst h
       rw [B68 hG hn rs own hp]
       exact ⟨by simp only [B70],by rw [A8q]; exact hp⟩
      ·cases h
   ·cases h
  | false =>
   simp only [Bool.false_eq_true,if_false] at h ⊢
   rw [B96 hG hp own aq]
   split at h
   ·cases h
   ·next as' H1 e3 =>
    have hl:=B95 e3
    simp only [e3,Option.map_some]
    split at h
    ·cases h
    ·next rs H2 e4 =>
     have:=hM.call hG hS hc (by rw [hl]; exact hp) e4
     rw [this.1]
     simp only [Option.some.injEq] at h; subst h
     simp only
     rw [B68 hG hn rs own this.2]
     exact ⟨by simp only [B70],by rw [A8q]; exact this.2⟩
 ·cases h
theorem D0t {M:Mach} (hM:RenM p g M) (hG:G.length = g) (hS:GrO p G) {c c':Sc} (hc:ScR p g c c') {n0:Nat} (hn:p≤n0) {s:B4} {H:A1} (hp:p≤H.length) {op:AOp} {r:AV × A1} (h:core M c n0 s H op = some r) :
  core M c' (n0 + g) (N0 p g s) (E6 p g G H) (I4 p g op) = some (ren2 p g G r)∧p≤r.2.length:= by
 have hk:(∃ f args own pure,op = .call f args own pure)∨((∀ (M:Mach) (c:Sc) (n0:Nat) (s:B4) (H:A1),core M c n0 s H op = prim c n0 s H op)∧∀ (M:Mach) (c:Sc) (n0:Nat) (s:B4) (H:A1),core M c n0 s H (I4 p g op) = prim c n0 s H (I4 p g op)):= by
  cases op <;> first
   | exact .inl ⟨_,_,_,_,rfl⟩
   | exact .inr ⟨fun _ _ _ _ _=>rfl,fun _ _ _ _ _=>rfl⟩
 rcases hk with ⟨f,args,own,pure,rfl⟩ | ⟨h1,h2⟩
 ·exact C5j hM hG hS hc hn hp h
 ·rw [h1] at h
  rw [h2,C4k hG hS hc hn hp s op,h]
  exact ⟨rfl,by rw [C4j h]; exact hp⟩
theorem D2b {M:Mach} (hM:RenM p g M) (hG:G.length = g) (hS:GrO p G) {c c':Sc} (hc:ScR p g c c') {n0:Nat} (hn:p≤n0) {s:B4} {H:A1} (hp:p≤H.length) {hc0:List (Option (List Nat))} {o:AOper} {s1:B4} {H1:A1} {hc1:List (Option (List Nat))} (h:oper M c n0 s H hc0 o = some (s1,H1,hc1)) :
  oper M c' (n0 + g) (N0 p g s) (E6 p g G H) (hcR p g hc0) (X5 p g o) = some (N0 p g s1,E6 p g G H1,hcR p g hc1)∧p≤H1.length:= by
 unfold oper at h ⊢
 have hw:wanted (N0 p g s) (X5 p g o).guard = wanted s o.guard:=C6v s o.guard
 have hwr:writes (X5 p g o).op = writes o.op:=B8w o.op
 rw [hw,D06 hG hn s hp o,C6o,hwr]
 split at h
 ·cases h
 ·next e0 =>
  simp only [Option.some.injEq,Prod.mk.injEq] at h
  obtain ⟨rfl,rfl,rfl⟩:=h
  try simp only [e0]
  refine ⟨?_,hp⟩
  have:sput (N0 p g s) (X5 p g o).dst (.tup []) = N0 p g (sput s o.dst (.tup [])):= by
   have:=B8l (p:=p) (g:=g) s o.dst (.tup []); simpa [ren,renL,X5] using this
  rw [this]
  cases writes o.op <;> rfl
 ·next e0 =>
  try simp only [e0]
  split at h
  ·next hs e1 e2 =>
   simp only [e1,e2,Option.map_some]
   obtain ⟨k1,k2⟩:=B64 hG hp hs
   rw [k1]
   split at h
   ·next r e3 =>
    obtain ⟨k3,k4⟩:=D0t hM hG hS hc hn (by rw [k2]; exact hp) e3
    have e4:(X5 p g o).op = I4 p g o.op:=rfl
    rw [e4,k3]
    simp only
    have hE:(hs.map (rb p g)).isEmpty = hs.isEmpty:= by cases hs <;> rfl
    have hL:Nat.ble (E6 p g G H).length (E6 p g G r.2).length = Nat.ble H.length r.2.length:= by
     rw [A1q hG hp,A1q hG k4]
     cases h1:Nat.ble H.length r.2.length with
     | true=>exact Nat.ble_eq_true_of_le (by have:=Nat.le_of_ble_eq_true h1; omega)
     | false =>
      cases h2:Nat.ble (H.length + g) (r.2.length + g) with
      | false=>rfl
      | true =>
       have:=Nat.le_of_ble_eq_true h2
       have:=Nat.ble_eq_true_of_le (show H.length≤r.2.length by omega)
       rw [h1] at this; cases this
    rw [hE,hL]
    split at h
    ·next h5 =>
     simp only [h5,if_true]
     simp only [Option.some.injEq,Prod.mk.injEq] at h
     obtain ⟨rfl,rfl,rfl⟩:=h
     obtain ⟨k5,k6⟩:=B8r hG hp k4 hs
     refine ⟨?_,by rw [k6]; exact k4⟩
     rw [k5]
     have:sput (N0 p g s) (X5 p g o).dst (ren2 p g G r).1 = N0 p g (sput s o.dst r.1):=B8l s o.dst r.1
     rw [this]
     cases writes o.op <;> rfl
    ·cases h
   ·cases h
  ·cases h
theorem C0s {M:Mach} (hM:RenM p g M) (hG:G.length = g) (hS:GrO p G) {c c':Sc} (hc:ScR p g c c') {n0:Nat} (hn:p≤n0):∀{l:List AOper} {s:B4} {H:A1} (hp:p≤H.length) {hc0:List (Option (List Nat))} {s1:B4} {H1:A1},opers M c n0 l s H hc0 = some (s1,H1) →
  opers M c' (n0 + g) (l.map (X5 p g)) (N0 p g s) (E6 p g G H) (hcR p g hc0) = some (N0 p g s1,E6 p g G H1)∧p≤H1.length
 | [],s,H,hp,hc0,s1,H1,h=>by
  simp only [opers,Option.some.injEq,Prod.mk.injEq] at h
  obtain ⟨rfl,rfl⟩:=h
  exact ⟨rfl,hp⟩
 | o :: l,s,H,hp,hc0,s1,H1,h=>by
  simp only [opers,List.map_cons] at h ⊢
  split at h
  ·cases h
  ·next s2 H2 hc2 e1 =>
   obtain ⟨k1,k2⟩:=D2b hM hG hS hc hn hp e1
   simp only [k1]
   exact C0s hM hG hS hc hn k2 h
theorem B6k (hG:G.length = g) {liveX:List Nat} {l:Nat} {c c':Sc} {e e':Ex} {st st':St} {c2:Sc} (hp:p≤st.H.length) (h:A2g liveX l c e st = some (e',st')) :
  A2g liveX (rb p g l) c' e ⟨N0 p g st.s,E6 p g G st.H,c2⟩ = some (e',⟨N0 p g st'.s,E6 p g G st'.H,c'⟩)∧p≤st'.H.length∧st'.c = c:= by
 unfold A2g at h ⊢
 simp only [P8 hG hp]
 split at h
 ·next m n seen hg =>
  rw [hg]
  simp only [Option.some.injEq,Prod.mk.injEq] at h
  obtain ⟨rfl,rfl⟩:=h
  simp only [Option.map_some,J0]
  refine ⟨?_,by rw [F4]; exact hp,trivial⟩
  rw [← L8 hG hp,U4]; rfl
 ·cases h
theorem C1h {M:Mach} (hM:RenM p g M) (hG:G.length = g) (hS:GrO p G) {ac:ACode} {st:St} {e:Ex} {st':St} {c':Sc} (hc:ScR p g st.c c') (hp:p≤st.H.length) (h:D5 M st ac = some (e,st')) :
  D5 M ⟨N0 p g st.s,E6 p g G st.H,c'⟩ (I1 p g ac) = some (e,⟨N0 p g st'.s,E6 p g G st'.H,c'⟩)∧p≤st'.H.length∧st'.c = st.c:= by
 cases ac with
 | skip=>simp only [D5,Option.some.injEq,Prod.mk.injEq] at h; obtain ⟨rfl,rfl⟩:=h; exact ⟨rfl,hp,rfl⟩
 | exit id=>simp only [D5,Option.some.injEq,Prod.mk.injEq] at h; obtain ⟨rfl,rfl⟩:=h; exact ⟨rfl,hp,rfl⟩
 | ret=>simp only [D5,Option.some.injEq,Prod.mk.injEq] at h; obtain ⟨rfl,rfl⟩:=h; exact ⟨rfl,hp,rfl⟩
 | scope a=>exact hM.code hG hS hc hp h
 | region d nres pre ops live =>
  simp only [D5,I1] at h ⊢
  obtain ⟨k1,k2⟩:=B48 hG st.s pre hp
  rw [k1]
  split at h
  ·next H e1 =>
   have hl:=k2 H e1
   simp only [e1,Option.map_some]
   split at h
   ·next r e2 =>
    simp only [Option.some.injEq,Prod.mk.injEq] at h
    obtain ⟨rfl,rfl⟩:=h
    have hp':p≤H.length:= by rw [hl]; exact hp
    have:=C0s hM hG hS hc (n0:=H.length) hp' (by simp; omega) e2
    rw [C7s hp',List.map_replicate] at this
    rw [A1q hG hp']
    simp only [J0,hcR,List.map_nil] at this
    rw [this.1]
    exact ⟨by simp only [U4],this.2,rfl⟩
   ·cases h
  ·cases h
 | seq a b =>
  simp only [D5,I1] at h ⊢
  cases h1:M.code a st with
  | none=>simp [h1] at h
  | some q =>
   obtain ⟨e1,st1⟩:=q
   obtain ⟨k1,k2,k3⟩:=hM.code hG hS hc hp h1
   rw [h1] at h
   rw [k1]
   cases e1 with
   | normal =>
    simp only at h ⊢
    obtain ⟨k4,k5,k6⟩:=hM.code hG hS (c':=c') (by rw [k3]; exact hc) k2 h
    exact ⟨k4,k5,k6.trans k3⟩
   | exit id=>simp only [Option.some.injEq,Prod.mk.injEq] at h; obtain ⟨rfl,rfl⟩:=h; exact ⟨rfl,k2,k3⟩
   | ret=>simp only [Option.some.injEq,Prod.mk.injEq] at h; obtain ⟨rfl,rfl⟩:=h; exact ⟨rfl,k2,k3⟩
 | cond x a b =>
  simp only [D5,I1,G8] at h ⊢
  split at h
  ·next e1=>simp only [e1,Option.map_some,ren]; exact hM.code hG hS hc hp h
  ·next e1=>simp only [e1,Option.map_some,ren]; exact hM.code hG hS hc hp h
  ·cases h
 | block id a =>
  simp only [D5,I1] at h ⊢
  cases h1:M.code a st with
  | none=>simp [h1] at h
  | some q =>
   obtain ⟨e1,st1⟩:=q
   obtain ⟨k1,k2,k3⟩:=hM.code hG hS hc hp h1
   rw [h1] at h
   rw [k1]
   cases e1 with
   | exit j =>
    simp only at h ⊢
    split at h
    ·next hj=>simp only [hj,if_true]; simp only [Option.some.injEq,Prod.mk.injEq] at h; obtain ⟨rfl,rfl⟩:=h; exact ⟨rfl,k2,k3⟩
    ·next hj=>simp only [hj]; simp only [Option.some.injEq,Prod.mk.injEq] at h; obtain ⟨rfl,rfl⟩:=h; exact ⟨rfl,k2,k3⟩
   | normal=>simp only [Option.some.injEq,Prod.mk.injEq] at h; obtain ⟨rfl,rfl⟩:=h; exact ⟨rfl,k2,k3⟩
   | ret=>simp only [Option.some.injEq,Prod.mk.injEq] at h; obtain ⟨rfl,rfl⟩:=h; exact ⟨rfl,k2,k3⟩
 | loop tr live body =>
  simp only [D5,I1] at h ⊢
  rw [A1q hG hp,U4]
  have hcb:ScR p g (if tr then { s:=restrict st.s live,H:=st.H,c:=⟨st.H.length,st.c.cur :: st.c.outer⟩ } else { st with s:=restrict st.s live }:St).c (if tr then ⟨st.H.length + g,c'.cur :: c'.outer⟩ else c'):= by
   cases tr with
   | true=>exact ⟨.inr (.inl ⟨hp,rfl⟩),.cons hc.cur hc.outer⟩
   | false=>exact hc
  cases h1:M.code body (if tr then { s:=restrict st.s live,H:=st.H,c:=⟨st.H.length,st.c.cur :: st.c.outer⟩ } else { st with s:=restrict st.s live }) with
  | none=>simp [h1] at h
  | some q =>
   obtain ⟨e1,st1⟩:=q
   obtain ⟨k1,k2,k3⟩:=hM.code hG hS hcb (by cases tr <;> exact hp) h1
   rw [h1] at h
   have k1':M.code (I1 p g body) (if tr then { s:=N0 p g (restrict st.s live),H:=E6 p g G st.H,c:=⟨st.H.length + g,c'.cur :: c'.outer⟩ } else { s:=N0 p g (restrict st.s live),H:=E6 p g G st.H,c:=c' }) = some (e1,⟨N0 p g st1.s,E6 p g G st1.H,if tr then ⟨st.H.length + g,c'.cur :: c'.outer⟩ else c'⟩):= by
    cases tr with
    | true=>simpa using k1
    | false=>simpa using k1
   rw [k1']
   cases e1 with
   | normal =>
    simp only [U4] at h ⊢
    cases tr with
    | true =>
     simp only [if_true] at h ⊢
     rw [B3a (.inr (.inl ⟨hp,rfl⟩))]
     split at h
     ·next h5 =>
      simp only [h5,if_true]
      rw [B7a k2 hp hG]
      have:=hM.code hG hS (ac:=.loop true live body) (st:={ s:=restrict st1.s live,H:=st1.H.take st.H.length,c:=st.c }) (c':=c') hc (by rw [List.length_take]; omega) h
      exact this
     ·cases h
    | false =>
     simp only [Bool.false_eq_true,if_false] at h ⊢
     exact hM.code hG hS (ac:=.loop false live body) (st:={ s:=restrict st1.s live,H:=st1.H,c:=st.c }) (c':=c') hc k2 h
   | exit id=>simp only [Option.some.injEq,Prod.mk.injEq] at h; obtain ⟨rfl,rfl⟩:=h; exact ⟨rfl,k2,rfl⟩
   | ret=>simp only [Option.some.injEq,Prod.mk.injEq] at h; obtain ⟨rfl,rfl⟩:=h; exact ⟨rfl,k2,rfl⟩
 | loopM x nx ok live0 live liveX rest =>
  simp only [D5,I1,G8] at h ⊢
  split at h
  ·next l hl =>
   simp only [hl,Option.map_some,ren,P8 hG hp]
   split at h
   ·next m n seen hg =>
    simp only [hg,Option.map_some,J0,A8n hG hp]
    split at h
    ·next es hes =>
     simp only [hes,Option.map_some,List.length_map]
     split at h
     ·next hif =>
      rw [if_pos hif]
      have hs0:∀t:Bool,(ok,AV.b t) :: restrict (N0 p g st.s) live0 = N0 p g ((ok,.b t) :: restrict st.s live0):=fun t=>by rw [U4]; rfl
      split at h
      ·next he =>
       rw [if_pos he,hs0]
       split at h
       ·cases h
       ·next e1 st1 hne h1 =>
        obtain ⟨k1,k2,k3⟩:=hM.code hG hS (st:={ st with s:=(ok,.b false) :: restrict st.s live0 }) (c':=c') hc hp h1
        have k4:=B6k (c':=c') (c2:=c') hG k2 h
        simp only at k1
        rw [k1]
        have hen:e1 ≠ .normal:= by rintro rfl; first | exact hne rfl | exact hne _ rfl
        cases e1 with
        | normal=>exact absurd rfl hen
        | _=>exact k4
       ·cases h
      ·next he =>
       rw [if_neg he]
       have hn0:K7 n seen ≠ []:=fun e=>he (by rw [e]; rfl)
       have key:∀i ∈ K7 n seen,(match M.code (I1 p g rest) { s:=(ok,AV.b true) :: restrict (N0 p g st.s) live0,H:=hset (E6 p g G st.H) (rb p g l) (.mit (rb p g m) n (seen++[i])),c:=⟨(E6 p g G st.H).length,c'.cur :: c'.outer⟩ } with
         | some (.normal,st')=>if Y9 (E6 p g G st.H).length (restrict st'.s live) then M.code (.loopM (D9 p g x) nx ok live0 live liveX (I1 p g rest)) { s:=restrict st'.s live,H:=st'.H.take (E6 p g G st.H).length,c:=c' } else none
         | some (e,st')=>A2g liveX (rb p g l) c' e st'
         | none=>none) = some (e,⟨N0 p g st'.s,E6 p g G st'.H,c'⟩)∧p≤st'.H.length∧st'.c = st.c:= by
        intro i hi
        have h:=A68 h hi
        have hs1:hset (E6 p g G st.H) (rb p g l) (.mit (rb p g m) n (seen++[i])) = E6 p g G (hset st.H l (.mit m n (seen++[i]))):= by rw [← L8 hG hp]; rfl
        rw [hs0,hs1,A1q hG hp]
        have hcb:ScR p g ⟨st.H.length,st.c.cur :: st.c.outer⟩ ⟨st.H.length + g,c'.cur :: c'.outer⟩:=⟨.inr (.inl ⟨hp,rfl⟩),.cons hc.cur hc.outer⟩
        split at h
        ·next st1 h1 =>
         obtain ⟨k1,k2,k3⟩:=hM.code hG hS (st:={ s:=(ok,.b true) :: restrict st.s live0,H:=hset st.H l (.mit m n (seen++[i])),c:=⟨st.H.length,st.c.cur :: st.c.outer⟩ }) (c':=⟨st.H.length + g,c'.cur :: c'.outer⟩) hcb (by show p≤(hset st.H l _).length; rw [F4]; exact hp) h1
         simp only at k1
         rw [k1]
         simp only [U4]
         split at h
         ·next hbd =>
          rw [B3a (.inr (.inl ⟨hp,rfl⟩)),if_pos hbd,B7a k2 hp hG]
          exact hM.code hG hS (ac:=.loopM x nx ok live0 live liveX rest) (st:={ s:=restrict st1.s live,H:=st1.H.take st.H.length,c:=st.c }) (c':=c') hc (by rw [List.length_take]; omega) h
         ·cases h
        ·next e1 st1 hne h1 =>
         obtain ⟨k1,k2,k3⟩:=hM.code hG hS (st:={ s:=(ok,.b true) :: restrict st.s live0,H:=hset st.H l (.mit m n (seen++[i])),c:=⟨st.H.length,st.c.cur :: st.c.outer⟩ }) (c':=⟨st.H.length + g,c'.cur :: c'.outer⟩) hcb (by show p≤(hset st.H l _).length; rw [F4]; exact hp) h1
         have k4:=B6k (c':=c') (c2:=⟨st.H.length + g,c'.cur :: c'.outer⟩) hG k2 h
         simp only at k1
         rw [k1]
         have hen:e1 ≠ .normal:= by rintro rfl; first | exact hne rfl | exact hne _ rfl
         cases e1 with
         | normal=>exact absurd rfl hen
         | _=>exact k4
        ·cases h
       obtain ⟨i,hi⟩:∃i,i ∈ K7 n seen:= by
        cases hq:K7 n seen with
        | nil=>exact absurd hq hn0
        | cons i l=>exact ⟨i,List.mem_cons_self ..⟩
       exact ⟨B27 (fun i hi=>(key i hi).1) hn0,(key i hi).2⟩
     ·cases h
    ·cases h
   ·cases h
  ·cases h
 | rangeFunc f ps live assign body =>
  simp only [D5,I1,G8,U4] at h ⊢
  split at h
  ·next i fa fc e1 =>
   simp only [e1,Option.map_some,ren,B2w]
   split at h
   ·next rs H' e2 =>
    have:=hM.call hG hS hc (by simp; omega) e2
    rw [C7s hp] at this
    simp only [List.map_cons,List.map_nil,J0,ren,B2w,renL] at this
    rw [A2x hp] at this
    rw [A1q hG hp,this.1]
    simp only
    have hg:hget (E6 p g G H') (st.H.length + g) = (hget H' st.H.length).map (J0 p g):= by rw [← A2x (g:=g) hp]; exact P8 hG this.2 _
    have hs:hset (E6 p g G H') (st.H.length + g) .dead = E6 p g G (hset H' st.H.length .dead):= by rw [← A2x (g:=g) hp,← L8 hG this.2]; simp only [J0]
    rw [hg,hs]
    split at h
    ·next e3 =>
     simp only [e3,Option.map_some,J0]
     simp only [Option.some.injEq,Prod.mk.injEq] at h; obtain ⟨rfl,rfl⟩:=h
     exact ⟨rfl,by rw [F4]; exact this.2,rfl⟩
    ·next e3 =>
     simp only [e3,Option.map_some,J0]
     simp only [Option.some.injEq,Prod.mk.injEq] at h; obtain ⟨rfl,rfl⟩:=h
     exact ⟨rfl,by rw [F4]; exact this.2,rfl⟩
    ·cases h
   ·cases h
  ·cases h
theorem B76:∀(l:List (Nat × AV)) (s:B4),(l.map fun x=>(x.1,ren p g x.2)).foldl (fun s x=>sput s (some x.1) x.2) (N0 p g s) = N0 p g (l.foldl (fun s x=>sput s (some x.1) x.2) s)
 | [],s=>rfl
 | x :: l,s=>by
  simp only [List.map_cons,List.foldl_cons,B8l]
  exact B76 l _
theorem A7c {T:Tab} (hT:∀i af,T i = some af→I1 p g af.body = af.body) {M:Mach} (hM:RenM p g M) (hG:G.length = g) (hS:GrO p G) {c c':Sc} {H:A1} {f:AV} {aq rs:List AV} {H':A1} (hc:ScBs p g (c.cur :: c.outer) (c'.cur :: c'.outer)) (hp:p≤H.length) (h:K9 T M c H f aq = some (rs,H')) :
  K9 T M c' (E6 p g G H) (ren p g f) (renL p g aq) = some (renL p g rs,E6 p g G H')∧p≤H'.length:= by
 have hcb:ScR p g ⟨H.length,c.cur :: c.outer⟩ ⟨(E6 p g G H).length,c'.cur :: c'.outer⟩:=⟨.inr (.inl ⟨hp,A1q hG hp⟩),hc⟩
 unfold K9 at h
 split at h
 ·next i first cap =>
  simp only [ren,B2w]
  unfold K9
  simp only
  split at h
  ·cases h
  ·next af e1 =>
   try simp only [e1]
   try simp only at h
   have e2:renL p g first++renL p g aq++renL p g cap = renL p g (first++aq++cap):= by rw [C4s,C4s]
   rw [e2,U3]
   split at h
   ·next h5 =>
    simp only [h5,if_true]
    have fin:∀e1 st,(e1 = Ex.normal∨e1 = Ex.ret)→M.code af.body { s:=J7 0 (first++aq++cap),H,c:=⟨H.length,c.cur :: c.outer⟩ } = some (e1,st)→(match results st.s st.H af.results with
      | none=>none
      | some rs=>match P4 H.length st.H rs with
       | none=>none
       | some (rs,H')=>some (rs,trunc H.length rs H')) = some (rs,H') →
      M.code af.body { s:=J7 0 (renL p g (first++aq++cap)),H:=E6 p g G H,c:=⟨(E6 p g G H).length,c'.cur :: c'.outer⟩ } = some (e1,⟨N0 p g st.s,E6 p g G st.H,⟨(E6 p g G H).length,c'.cur :: c'.outer⟩⟩)∧(match results (N0 p g st.s) (E6 p g G st.H) af.results with
      | none=>none
      | some rs=>match P4 (E6 p g G H).length (E6 p g G st.H) rs with
       | none=>none
       | some (rs,H')=>some (rs,trunc (E6 p g G H).length rs H')) = some (renL p g rs,E6 p g G H')∧p≤H'.length:= by
     intro e1 st _ h1 h2
     obtain ⟨k1,k2,k3⟩:=hM.code hG hS hcb hp h1
     rw [hT _ _ ‹_›] at k1
     rw [A69]
     refine ⟨k1,?_⟩
     rw [A51 hG hS st.s k2]
     split at h2
     ·cases h2
     ·next rs0 e3 =>
      simp only [e3,Option.map_some]
      rw [C0v hG hcb.cur rs0 k2]
      split at h2
      ·cases h2
      ·next rs1 H1 e4 =>
       have hl:=B31 e4
       simp only [e4,Option.map_some]
       simp only [Option.some.injEq,Prod.mk.injEq] at h2
       obtain ⟨rfl,rfl⟩:=h2
       simp only at hl
       exact ⟨by rw [B4i hp (A1q hG hp) (by rw [hl]; exact k2) hG],B4h hp (by rw [hl]; exact k2) _⟩
    split at h
    ·next st e3=>obtain ⟨a,b,d⟩:=fin _ _ (.inl rfl) e3 h; rw [a]; exact ⟨b,d⟩
    ·next st e3=>obtain ⟨a,b,d⟩:=fin _ _ (.inr rfl) e3 h; rw [a]; exact ⟨b,d⟩
    ·cases h
   ·next h5 =>
    have h5f:=Bool.eq_false_iff.2 h5
    simp only [h5f,Bool.false_eq_true,if_false]
    split at h
    ·next h6 =>
     simp only [h6,if_true]
     have fin:∀e1 st,M.code af.body { s:=J7 0 (first++aq++cap),H,c:=⟨H.length,c.cur :: c.outer⟩ } = some (e1,st)→(match results st.s st.H af.results with
       | none=>none
       | some rs=>some (rs,trunc H.length rs st.H)) = some (rs,H') →
       M.code af.body { s:=J7 0 (renL p g (first++aq++cap)),H:=E6 p g G H,c:=⟨(E6 p g G H).length,c'.cur :: c'.outer⟩ } = some (e1,⟨N0 p g st.s,E6 p g G st.H,⟨(E6 p g G H).length,c'.cur :: c'.outer⟩⟩)∧(match results (N0 p g st.s) (E6 p g G st.H) af.results with
       | none=>none
       | some rs=>some (rs,trunc (E6 p g G H).length rs (E6 p g G st.H))) = some (renL p g rs,E6 p g G H')∧p≤H'.length:= by
      intro e1 st h1 h2
      obtain ⟨k1,k2,k3⟩:=hM.code hG hS hcb hp h1
      rw [hT _ _ ‹_›] at k1
      rw [A69]
      refine ⟨k1,?_⟩
      rw [A51 hG hS st.s k2]
      split at h2
      ·cases h2
      ·next rs0 e3 =>
       simp only [e3,Option.map_some]
       simp only [Option.some.injEq,Prod.mk.injEq] at h2
       obtain ⟨rfl,rfl⟩:=h2
       exact ⟨by rw [B4i hp (A1q hG hp) k2 hG],B4h hp k2 _⟩
     split at h
     ·next st e3=>obtain ⟨a,b,d⟩:=fin _ _ e3 h; rw [a]; exact ⟨b,d⟩
     ·next st e3=>obtain ⟨a,b,d⟩:=fin _ _ e3 h; rw [a]; exact ⟨b,d⟩
     ·cases h
    ·cases h
 ·next l =>
  simp only [ren,B2w,renL]
  unfold K9
  simp only
  rw [P8 hG hp]
  split at h
  ·next f0 s ps assign body e1 =>
   simp only [e1,Option.map_some,J0,U3]
   split at h
   ·next h5 =>
    simp only [h5,if_true]
    have ez:ps.zip (renL p g aq) = (ps.zip aq).map fun x=>(x.1,ren p g x.2):= by
     rw [M7,List.zip_map_right]; rfl
    rw [ez,B76]
    split at h
    ·next st e2 =>
     obtain ⟨k1,k2,k3⟩:=hM.code hG hS hcb hp e2
     simp only at k1
     rw [k1]
     simp only
     rw [P8 hG k2]
     split at h
     ·next f1 s1 ps1 a1 b1 e3 =>
      simp only [e3,Option.map_some,J0]
      split at h
      ·next e st2 e4 =>
       have hs:hset (E6 p g G st.H) (rb p g l) (.loop f1 (N0 p g s1) ps1 (I1 p g a1) (I1 p g b1) true none) = E6 p g G (hset st.H l (.loop f1 s1 ps1 a1 b1 true none)):= by
        rw [← L8 hG k2]; simp only [J0]
       obtain ⟨k4,k5,k6⟩:=hM.code hG hS (st:={ st with H:=hset st.H l (.loop f1 s1 ps1 a1 b1 true none) }) (by rw [show ({ st with H:=hset st.H l (.loop f1 s1 ps1 a1 b1 true none) }:St).c = st.c from rfl,k3]; exact hcb) (by rw [F4]; exact k2) e4
       simp only at k4
       rw [hs,k4]
       simp only
       rw [P8 hG k5]
       split at h
       ·next f2 s2 ps2 a2 b2 e5 =>
        simp only [e5,Option.map_some,J0]
        simp only [Option.some.injEq,Prod.mk.injEq] at h
        obtain ⟨rfl,rfl⟩:=h
        have hs2:∀pend,hset (E6 p g G st2.H) (rb p g l) (.loop f2 (N0 p g s2) ps2 (I1 p g a2) (I1 p g b2) false pend) = E6 p g G (hset st2.H l (.loop f2 s2 ps2 a2 b2 false pend)):= by
         intro pend; rw [← L8 hG k5]; simp only [J0]
        rw [hs2]
        refine ⟨?_,B4h hp (by rw [F4]; exact k5) _⟩
        have ht:∀pend,trunc (E6 p g G H).length [] (E6 p g G (hset st2.H l (.loop f2 s2 ps2 a2 b2 false pend))) = E6 p g G (trunc H.length [] (hset st2.H l (.loop f2 s2 ps2 a2 b2 false pend))):= by
         intro pend
         have:=B4i (p:=p) (g:=g) hp (A1q hG hp) (H:=hset st2.H l (.loop f2 s2 ps2 a2 b2 false pend)) (by rw [F4]; exact k5) hG []
         simp only [renL] at this
         exact this
        rw [ht]
        cases e <;> simp [renL,ren]
       ·cases h
      ·cases h
     ·cases h
    ·cases h
   ·cases h
  ·cases h
 ·cases h
theorem B7f {T:Tab} (hT:∀i af,T i = some af→I1 p g af.body = af.body):∀n,RenM p g (mach T n)
 | 0=>by
  constructor
  ·intros; rename_i h; simp [mach] at h
  ·intros; rename_i h; simp [mach] at h
 | n + 1=>by
  have ih:=B7f hT n
  constructor
  ·intro G hG hS c c' H f aq rs H' hc hp h
   rw [R8] at h ⊢
   exact A7c hT ih hG hS (.cons hc.cur hc.outer) hp h
  ·intro G hG hS ac st e st' c' hc hp h
   rw [Q3] at h ⊢
   exact C1h ih hG hS hc hp h
end
mutual
def AV.free:AV→Bool
 | .lit _ | .nils _ | .undef=>true
 | .seq _ rows | .fresh _ rows | .xseq _ rows=>freeR rows
 | .agg cs | .tup cs | .cptr cs=>freeL cs
 | _=>false
def freeL:List AV→Bool
 | []=>true
 | v :: l=>v.free && freeL l
def freeR:List (List AV)→Bool
 | []=>true
 | r :: l=>freeL r && freeR l
end
mutual
theorem ren_free {p g:Nat}:(v:AV)→v.free = true→ren p g v = v
 | .lit _,_ | .nils _,_ | .undef,_=>by simp only [ren]
 | .seq _ rows,h | .fresh _ rows,h | .xseq _ rows,h=>by simp only [AV.free] at h; simp only [ren,renR_free rows h]
 | .agg cs,h | .tup cs,h | .cptr cs,h=>by simp only [AV.free] at h; simp only [ren,renL_free cs h]
 | .ptr _ _,h | .itr _,h | .eptr _ _ _ _,h | .asl _ _,h | .csl _ _ _ _,h | .mp _,h | .fn _ _ _,h=>by simp [AV.free] at h
theorem renL_free {p g:Nat}:(l:List AV)→freeL l = true→renL p g l = l
 | [],_=>by simp only [renL]
 | v :: l,h=>by
  simp only [freeL,Bool.and_eq_true] at h
  simp only [renL,ren_free v h.1,renL_free l h.2]
theorem renR_free {p g:Nat}:(l:List (List AV))→freeR l = true→renR p g l = l
 | [],_=>by simp only [renR]
 | v :: l,h=>by
  simp only [freeR,Bool.and_eq_true] at h
  simp only [renR,renL_free v h.1,renR_free l h.2]
end
def Opd.free:Opd→Bool
 | .c v=>v.free
 | _=>true
def C7c:Option Opd→Bool
 | some x=>x.free
 | none=>true
theorem G2 {p g:Nat} {x:Opd} (h:x.free = true):D9 p g x = x:= by
 cases x with
 | c v=>simp only [D9]; rw [ren_free v h]
 | _=>rfl
theorem P5 {p g:Nat} {x:Option Opd} (h:C7c x = true):A00 p g x = x:= by
 cases x with
 | none=>rfl
 | some x=>simp only [A00]; rw [G2 h]
theorem B2b {p g:Nat} {l:List Opd} (h:l.all Opd.free = true):l.map (D9 p g) = l:= by
 induction l with
 | nil=>rfl
 | cons x l ih =>
  simp only [List.all_cons,Bool.and_eq_true] at h
  rw [List.map_cons,G2 h.1,ih h.2]
theorem C6f {p g:Nat} {l:List (Nat × Nat × Opd)} (h:(l.all fun q=>q.2.2.free) = true):l.map (fun q=>(q.1,q.2.1,D9 p g q.2.2)) = l:= by
 induction l with
 | nil=>rfl
 | cons x l ih =>
  simp only [List.all_cons,Bool.and_eq_true] at h
  rw [List.map_cons,G2 h.1,ih h.2]
theorem B45 {p g:Nat} {l:List (Nat × Opd)} (h:(l.all fun q=>q.2.free) = true):l.map (fun q=>(q.1,D9 p g q.2)) = l:= by
 induction l with
 | nil=>rfl
 | cons x l ih =>
  simp only [List.all_cons,Bool.and_eq_true] at h
  rw [List.map_cons,G2 h.1,ih h.2]
def D5e:Fn→Bool
 | .func _=>true
 | _=>false
def AOp.free:AOp→Bool
 | .mv x | .mvz x | .storeN x _ _ | .box _ x _ | .load _ x | .nilck x | .un _ x | .conv _ x | .idc x | .nilq _ x | .fieldAddr _ x | .field _ _ x | .range x _ | .rangeM x _ | .next x | .entry x | .extract x _ | .lenS x | .lenL x | .lenM x=>x.free
 | .nil _ _ | .mkmap _=>true
 | .pick c a b=>c.free && a.free && b.free
 | .alloc zs _ _=>freeL zs
 | .build z parts=>freeL z && parts.all fun q=>q.2.2.free
 | .lits _ z _ parts _ | .xlits _ z _ parts=>freeL z && parts.all fun q=>q.2.free
 | .store _ a v | .bin _ a v | .beq _ a v | .cmp _ _ a v | .idxS _ a v | .idxA _ _ a v | .idxStr a v | .idxAgg _ _ _ a v | .append _ _ a v _ _ | .copy _ a v=>a.free && v.free
 | .clear _ z x=>freeL z && x.free
 | .mkfn f a c=>D5e f && a.all Opd.free && c.all Opd.free
 | .mkslice _ _ z l c _=>freeL z && l.free && c.free
 | .sliceS x lo hi | .sliceL _ x lo hi | .sliceQ _ x lo hi | .sub _ x lo hi=>x.free && C7c lo && C7c hi
 | .lookup z _ _ x i _=>z.free && x.free && i.free
 | .mupd _ _ m k v=>m.free && k.free && v.free
 | .mm _ xs=>xs.all Opd.free
 | .cut _ x hi _ | .sliceA _ _ x hi=>x.free && C7c hi
 | .call f args _ _=>f.free && args.all Opd.free
theorem C9s {p g:Nat} {f:Fn} (h:D5e f = true):B2w p g f = f:= by cases f <;> first | rfl | cases h
theorem C6l {p g:Nat} {op:AOp} (h:op.free = true):I4 p g op = op:= by
 cases op <;> simp only [AOp.free,Bool.and_eq_true] at h <;> simp only [I4]
 case mkfn=>rw [C9s h.1.1,B2b h.1.2,B2b h.2]
 case alloc=>rw [renL_free _ h]
 case build=>rw [renL_free _ h.1,C6f h.2]
 case lits=>rw [renL_free _ h.1,B45 h.2]
 case xlits=>rw [renL_free _ h.1,B45 h.2]
 case mkslice=>rw [renL_free _ h.1.1,G2 h.1.2,G2 h.2]
 case lookup=>rw [ren_free _ h.1.1,G2 h.1.2,G2 h.2]
 case sliceS=>rw [G2 h.1.1,P5 h.1.2,P5 h.2]
 case sliceL=>rw [G2 h.1.1,P5 h.1.2,P5 h.2]
 case sliceQ=>rw [G2 h.1.1,P5 h.1.2,P5 h.2]
 case sub=>rw [G2 h.1.1,P5 h.1.2,P5 h.2]
 case cut=>rw [G2 h.1,P5 h.2]
 case clear=>rw [renL_free _ h.1,G2 h.2]
 case sliceA=>rw [G2 h.1,P5 h.2]
 case call=>rw [G2 h.1,B2b h.2]
 case mm=>rw [B2b h]
 all_goals first
  | rw [G2 h]
  | rw [G2 h.1,G2 h.2]
  | rw [G2 h.1.1,G2 h.1.2,G2 h.2]
def ACode.free:ACode→Bool
 | .region _ _ _ ops _=>ops.all fun o=>o.op.free
 | .seq a b=>a.free && b.free
 | .cond c a b=>c.free && (a.free && b.free)
 | .block _ a | .loop _ _ a | .scope a=>a.free
 | .loopM x _ _ _ _ _ a=>x.free && a.free
 | .rangeFunc f _ _ a b=>f.free && (a.free && b.free)
 | _=>true
theorem C9j {p g:Nat} {l:List AOper} (h:(l.all fun o=>o.op.free) = true):l.map (X5 p g) = l:= by
 induction l with
 | nil=>rfl
 | cons x l ih =>
  simp only [List.all_cons,Bool.and_eq_true] at h
  rw [List.map_cons,ih h.2]
  unfold X5; rw [C6l h.1]
theorem L4 {p g:Nat}:(ac:ACode)→ac.free = true→I1 p g ac = ac
 | .region _ _ _ ops _,h=>by simp only [ACode.free] at h; simp only [I1]; rw [C9j h]
 | .seq a b,h=>by simp only [ACode.free,Bool.and_eq_true] at h; simp only [I1,L4 a h.1,L4 b h.2]
 | .cond c a b,h=>by simp only [ACode.free,Bool.and_eq_true] at h; simp only [I1,G2 h.1,L4 a h.2.1,L4 b h.2.2]
 | .block _ a,h | .loop _ _ a,h | .scope a,h=>by simp only [ACode.free] at h; simp only [I1,L4 a h]
 | .loopM x _ _ _ _ _ a,h=>by simp only [ACode.free,Bool.and_eq_true] at h; simp only [I1,G2 h.1,L4 a h.2]
 | .rangeFunc f _ _ a b,h=>by simp only [ACode.free,Bool.and_eq_true] at h; simp only [I1,G2 h.1,L4 a h.2.1,L4 b h.2.2]
 | .skip,_ | .exit _,_ | .ret,_=>by simp only [I1]
def A9i (T:Tab):Prop:=∀ i af,T i = some af→af.body.free = true
def R4 (c:Sc) (H:A1):Bool:=(c.cur :: c.outer).all fun B=>Nat.ble B H.length
theorem C8b {g:Nat}:∀{l:List Nat},(l.all fun B=>Nat.ble B g) = true→ScBs 0 g [] l
 | [],_=>.nil
 | B :: l,h=>by
  simp only [List.all_cons,Bool.and_eq_true] at h
  exact .extra (fun b=>by rw [A2x (Nat.zero_le b)]; have:=Nat.le_of_ble_eq_true h.1; omega) (C8b h.2)
theorem D3v (G:A1) (g:Nat):E6 0 g G [] = G:= by simp [E6]
theorem J1.shift {T:Tab} (hT:A9i T) {i:Nat} {aq rs:List AV} (h:J1 T ⟨0,[]⟩ [] (.fn (.func i) [] []) aq rs []) (ha:freeL aq = true) (hr:freeL rs = true) {c:Sc} {H:A1} (hc:R4 c H = true):J1 T c H (.fn (.func i) [] []) aq rs H:= by
 obtain ⟨n,e⟩:=h
 cases n with
 | zero=>simp [mach] at e
 | succ n =>
  rw [R8] at e
  have:=(A7c (p:=0) (g:=H.length) (G:=H) (c:=⟨0,[]⟩) (c':=c) (fun i af h=>L4 _ (hT i af h)) (B7f (fun i af h=>L4 _ (hT i af h)) n) rfl (fun _ _ _ h=>absurd h (Nat.not_lt_zero _)) (.drop (C8b hc)) (Nat.zero_le _) e).1
  rw [D3v,renL_free _ ha,renL_free _ hr,ren] at this
  simp only [B2w,renL] at this
  exact ⟨n + 1,by rw [R8]; exact this⟩
end Am
end
section
namespace Am
open Go Go.RowKit
theorem C54 {P:Program} (hmix:P.follows .mixedOrders = true) {T:Tab} (hT:B9p P T) {i:Nat} {args:List AV} {H':A1} (h:J1 T ⟨0,[]⟩ [] (.fn (.func i) [] []) args [.b true] H') (W:World) (hG:C2p fun β o=>W.cell? ⟨β,o,none⟩) {vs:Array Value} (hl:vs.size = args.length)
  (hV:∀(j:Nat) x,args[j]? = some x→V ⟨fun _=>.none,fun β o=>W.cell? ⟨β,o,none⟩,hG⟩ x (vs[j]?.getD undef)):Calls P i vs W fun e W'=>e = .returned (.bool true)∧Below W.heap.size W W':= by
 obtain ⟨n,h⟩:=h
 cases n with
 | zero=>simp [mach] at h
 | succ m =>
  rw [R8] at h
  let g0:Ghost:=⟨fun _=>.none,fun β o=>W.cell? ⟨β,o,none⟩,hG⟩
  have hR:Rel (MCof P) P W.heap.size [] g0 W:=⟨fun _ _ _ h=>h,fun i β h=>by simp [g0,GB.blk] at h,fun i j β h=>by simp [g0,GB.blk] at h,fun i o h=>by simp at h,fun _ _=>rfl,Nat.le_refl _⟩
  have hS:ScOk ⟨0,[]⟩ ([]:A1):=⟨by simp,by simp,fun B _ i _ o h=>by simp at h⟩
  obtain ⟨_,hgo⟩:=B3k hT (B01 hmix hT m).1 h hR hS (by simpa using hl) (fun j x hj=>hV j x (by simpa using hj))
  intro cs
  obtain ⟨us,w',g',fs,fr,h1,h2,h3,h4,h5,h6,h7,h8,h9⟩:=hgo cs
  have hus:us = [.bool true]:= by
   cases h4 with
   | cons _ u f _ us fs h k =>
    cases k
    cases h with
    | one _ _ _ _ h =>
     cases h with
     | val _ _ h=>have:=P2 h; subst this; rfl
  subst hus
  refine ⟨.returned (.bool true),w',fr,⟨rfl,?_⟩,h1,h2,h3⟩
  exact ⟨h7.os,h7.tape,h7.output,h7.size,fun k hk=>(h7.frame k hk (fun i o hi=>by simp at hi)).1⟩
end Am
end
section
namespace Am
open Go
def WP (T:Tab) (ac:ACode) (s:B4) (H:A1) (c:Sc) (Q:Ex→B4→A1→Prop):Prop :=
 ∀ S,Sub s S→∃ e S' s' H',G7 T ac ⟨S,H,c⟩ e ⟨S',H',c⟩∧Sub s' S'∧Q e s' H'
section
variable {T:Tab} {s:B4} {H:A1} {c:Sc} {Q Q':Ex→B4→A1→Prop}
def C5g (T:Tab) (b:ACode) (c:Sc) (Q:Ex→B4→A1→Prop):Ex→B4→A1→Prop
 | .normal,s,H=>WP T b s H c Q
 | e,s,H=>Q e s H
def B6e (id:Nat) (Q:Ex→B4→A1→Prop):Ex→B4→A1→Prop
 | .exit j,s,H=>bif Nat.beq j id then Q .normal s H else Q (.exit j) s H
 | e,s,H=>Q e s H
theorem A03 {ac:ACode} (h:WP T ac s H c Q) (k:∀e s' H',Q e s' H'→Q' e s' H'):WP T ac s H c Q':= by
 intro S hS
 obtain ⟨e,S',s',H',h1,h2,h3⟩:=h S hS
 exact ⟨e,S',s',H',h1,h2,k _ _ _ h3⟩
theorem D47 {ac:ACode} {Q1:Ex→B4→A1→Prop} (h:WP T ac s H c (fun e s' H'=>∃ s0,Sub s0 s'∧Q1 e s0 H')) (k:∀e s' H',Q1 e s' H'→Q e s' H'):WP T ac s H c Q:= by
 intro S hS
 obtain ⟨e,S',s',H',h1,h2,s0,h3,h4⟩:=h S hS
 exact ⟨e,S',s0,H',h1,h3.trans h2,k _ _ _ h4⟩
theorem C96 {ac:ACode} {s0:B4} (hs:Sub s0 s) (h:WP T ac s0 H c Q):WP T ac s H c Q:=fun S hS=>h S (hs.trans hS)
theorem D48 (h:Q .normal s H):WP T .skip s H c Q:=fun S hS=>⟨.normal,S,s,H,⟨1,rfl⟩,hS,h⟩
theorem D46 {id:Nat} (h:Q (.exit id) s H):WP T (.exit id) s H c Q:=fun S hS=>⟨.exit id,S,s,H,⟨1,rfl⟩,hS,h⟩
theorem D66 (h:Q .ret s H):WP T .ret s H c Q:=fun S hS=>⟨.ret,S,s,H,⟨1,rfl⟩,hS,h⟩
theorem C6x {a b:ACode} (h:WP T a s H c (C5g T b c Q)):WP T (.seq a b) s H c Q:= by
 intro S hS
 obtain ⟨e,S1,s1,H1,h1,h2,h3⟩:=h S hS
 cases e with
 | normal =>
  obtain ⟨e2,S2,s2,H2,h4,h5,h6⟩:=h3 S1 h2
  exact ⟨e2,S2,s2,H2,G7.seq rfl h1 h4,h5,h6⟩
 | exit id=>exact ⟨_,S1,s1,H1,G7.seqOut rfl rfl h1,h2,h3⟩
 | ret=>exact ⟨_,S1,s1,H1,G7.seqOut rfl rfl h1,h2,h3⟩
theorem C5a {x:Opd} {t:Bool} {a b:ACode} (h:ev s x = some (.lit (.bool t))) (ht:t = true) (k:WP T a s H c Q):WP T (.cond x a b) s H c Q:= by
 subst ht
 intro S hS
 obtain ⟨e,S1,s1,H1,h1,h2,h3⟩:=k S hS
 exact ⟨e,S1,s1,H1,G7.condT rfl (A1p hS h) h1,h2,h3⟩
theorem C49 {x:Opd} {t:Bool} {a b:ACode} (h:ev s x = some (.lit (.bool t))) (ht:t = false) (k:WP T b s H c Q):WP T (.cond x a b) s H c Q:= by
 subst ht
 intro S hS
 obtain ⟨e,S1,s1,H1,h1,h2,h3⟩:=k S hS
 exact ⟨e,S1,s1,H1,G7.condF rfl (A1p hS h) h1,h2,h3⟩
theorem D28 {id:Nat} {a:ACode} (h:WP T a s H c (B6e id Q)):WP T (.block id a) s H c Q:= by
 intro S hS
 obtain ⟨e,S1,s1,H1,h1,h2,h3⟩:=h S hS
 cases e with
 | normal=>exact ⟨_,S1,s1,H1,G7.block rfl rfl h1,h2,h3⟩
 | ret=>exact ⟨_,S1,s1,H1,G7.block rfl rfl h1,h2,h3⟩
 | exit j =>
  cases hb:Nat.beq j id with
  | true =>
   have:=Nat.eq_of_beq_eq_true hb
   subst this
   simp only [B6e,hb,cond_true] at h3
   exact ⟨.normal,S1,s1,H1,G7.blockExit rfl h1,h2,h3⟩
  | false =>
   simp only [B6e,hb,cond_false] at h3
   exact ⟨.exit j,S1,s1,H1,G7.block rfl (by simp only [Ex.not,hb,Bool.not_false]) h1,h2,h3⟩
theorem D29 {a:ACode} (h:WP T a s H c Q):WP T (.scope a) s H c Q:= by
 intro S hS
 obtain ⟨e,S1,s1,H1,h1,h2,h3⟩:=h S hS
 exact ⟨e,S1,s1,H1,G7.scope rfl h1,h2,h3⟩
def A6t {σ ρ:Type} (b:σ→Option (σ ⊕ ρ)) (n:Nat):σ→Option ρ :=
 Nat.rec (fun _=>none) (fun _ ih s=>match b s with
  | some (.inl s')=>ih s'
  | some (.inr r)=>some r
  | none=>none) n
def loop {σ ρ:Type} (b:σ→Option (σ ⊕ ρ)) (s:σ):Option ρ:=A6t b 9223372036854775808 s
theorem L9 {σ ρ:Type} (b:σ→Option (σ ⊕ ρ)) (n:Nat) (s:σ):A6t b (n + 1) s = match b s with
  | some (.inl s')=>A6t b n s'
  | some (.inr r)=>some r
  | none=>none:=rfl
theorem O1:∀{s:B4} {live:List Nat} (_:s.map (·.1) = live) (_:live.Nodup) {S:B4} (_:Sub s S),restrict S live = s
 | [],_,h,_,S,_=>by subst h; rfl
 | (t,v) :: s,_,h,hn,S,hS=>by
  subst h
  simp only [List.map_cons,List.nodup_cons] at hn ⊢
  have h1:sget S t = some v:=hS t v (by simp [M1,I7])
  have h2:Sub s S:= by
   intro u w hu
   refine hS u w ?_
   simp only [M1,I7]
   cases hb:Nat.beq t u with
   | false=>exact hu
   | true =>
    have:=Nat.eq_of_beq_eq_true hb
    subst this
    exfalso
    apply hn.1
    have:∀{s:B4} {u:Nat} {w:AV},sget s u = some w→u ∈ s.map (·.1):= by
     intro s
     induction s with
     | nil=>intro u w h; simp [M1,I7] at h
     | cons x s ih =>
      intro u w h
      simp only [M1,I7] at h
      cases hb:Nat.beq x.1 u with
      | true=>simp [(Nat.eq_of_beq_eq_true hb).symm]
      | false=>rw [hb] at h; simp only [List.map_cons,List.mem_cons]; exact .inr (ih h)
    exact this hu
  simp only [restrict,h1]
  rw [O1 rfl hn.2 h2]
def C6z {γ σ ρ:Type} (tr:Bool) (st:σ→B4) (hp:γ→σ→A1) (N:Nat) (P:ρ→Ex→B4→A1→Prop):σ ⊕ ρ→Ex→B4→A1→Prop
 | .inl x,e,s',H'=>e = .normal∧Sub (st x) s'∧∃ g',(bif tr then H'.take N else H') = hp g' x
 | .inr r,e,s',H'=>e.out = true∧∃ s0,Sub s0 s'∧P r e s0 H'
theorem C5b {γ σ ρ:Type} {tr:Bool} {live:List Nat} {bd:ACode} {body:σ→Option (σ ⊕ ρ)} (st:σ→B4) (hp:γ→σ→A1) (N:Nat) (P:ρ→Ex→B4→A1→Prop)
  (hN:∀g x,(hp g x).length = N) (hlive:∀x,(st x).map (·.1) = live) (hnd:live.Nodup) (hbd:∀x,tr = true→Y9 N (st x) = true)
  (hstep:∀g x x',body x = some (.inl x')→WP T bd (st x) (hp g x) (bif tr then ⟨N,c.cur :: c.outer⟩ else c) (fun e s' H'=>e = .normal∧Sub (st x') s'∧∃ g',(bif tr then H'.take N else H') = hp g' x'))
  (hexit:∀g x r,body x = some (.inr r)→WP T bd (st x) (hp g x) (bif tr then ⟨N,c.cur :: c.outer⟩ else c) (fun e s' H'=>e.out = true∧∃ s0,Sub s0 s'∧P r e s0 H'))
  {x0:σ} {r:ρ} (h:loop body x0 = some r) (g0:γ):WP T (.loop tr live bd) (st x0) (hp g0 x0) c (fun e s' H'=>e.out = true∧P r e s' H'):= by
 have key:∀n g0 x0,A6t body n x0 = some r→WP T (.loop tr live bd) (st x0) (hp g0 x0) c (fun e s' H'=>e.out = true∧P r e s' H'):= by
  intro n
  induction n with
  | zero=>intro g0 x0 h; cases h
  | succ n ih =>
   intro g0 x0 h S hS
   rw [L9] at h
   have hr:restrict S live = st x0:=O1 (hlive x0) hnd hS
   have hin:A8r tr live ⟨S,hp g0 x0,c⟩ = ⟨st x0,hp g0 x0,bif tr then ⟨N,c.cur :: c.outer⟩ else c⟩:= by
    unfold A8r; cases tr <;> simp [hr,hN]
   split at h
   ·next x' hb =>
    obtain ⟨e,S1,s1,H1,h1,h2,rfl,h4,g',h5⟩:=hstep g0 x0 x' hb _ (Sub.refl _)
    have hr1:restrict S1 live = st x':=O1 (hlive x') hnd (h4.trans h2)
    obtain ⟨e2,S2,s2,H2,g1,g2,g3⟩:=ih g' x' h _ (Sub.refl _)
    refine ⟨e2,S2,s2,H2,G7.loop (st1:=⟨S1,H1,bif tr then ⟨N,c.cur :: c.outer⟩ else c⟩) rfl hin.symm h1 ?_ g1,g2,g3⟩
    unfold B2a
    cases tr with
    | true =>
     have hb1:=hbd x' rfl
     simp only [hr1,if_true,hN,hb1]
     simp only [cond_true] at h5
     rw [h5]
    | false =>
     simp only [cond_false] at h5
     simp only [Bool.false_eq_true,if_false,hr1,h5]
   ·next r' hb =>
    simp only [Option.some.injEq] at h
    subst h
    obtain ⟨e,S1,s1,H1,h1,h2,h3,s2,h4,h5⟩:=hexit g0 x0 _ hb _ (Sub.refl _)
    exact ⟨e,S1,s2,H1,G7.loopOut (st1:=⟨S1,H1,bif tr then ⟨N,c.cur :: c.outer⟩ else c⟩) rfl hin.symm h3 h1 rfl,h4.trans h2,h3,h5⟩
   ·cases h
 exact key _ _ _ h
theorem B8u {γ σ ρ:Type} {tr:Bool} {live:List Nat} {bd:ACode} {body:σ→Option (σ ⊕ ρ)} (st:σ→B4) (hp:γ→σ→A1) (N:Nat) (P:ρ→Ex→B4→A1→Prop)
  (hN:∀g x,(hp g x).length = N) (hlive:∀x,(st x).map (·.1) = live) (hnd:live.Nodup) (hbd:∀x,tr = true→Y9 N (st x) = true)
  (hbody:∀g x o,body x = some o→WP T bd (st x) (hp g x) (bif tr then ⟨N,c.cur :: c.outer⟩ else c) (C6z tr st hp N P o))
  {x0:σ} {r:ρ} (h:loop body x0 = some r) (g0:γ):WP T (.loop tr live bd) (st x0) (hp g0 x0) c (fun e s' H'=>e.out = true∧P r e s' H') :=
 C5b st hp N P hN hlive hnd hbd (fun g x _ h=>hbody g x _ h) (fun g x _ h=>hbody g x _ h) h g0
inductive UnQ (T:Tab) (tr:Bool) (live:List Nat) (bd:ACode) (c:Sc) (N:Nat) (Q:Ex→B4→A1→Prop):Ex→B4→A1→Prop
 | next {s1:B4} {H1:A1} (sN:B4) (HN:A1) (hs:Sub sN s1) (hl:sN.map (·.1) = live) (nd:live.Nodup) (hH:(bif tr then H1.take N else H1) = HN) (hb:tr = true→Y9 N sN = true) (h:WP T (.loop tr live bd) sN HN c Q):UnQ T tr live bd c N Q .normal s1 H1
 | out {e:Ex} {s1:B4} {H1:A1} (he:e.out = true) (h:Q e s1 H1):UnQ T tr live bd c N Q e s1 H1
theorem C95 {H0:A1} {l:List AO} {tr:Bool} {live:List Nat} {bd:ACode} (k:Nat) (hk:l.length = k) (s':B4) (hr:∀S,Sub s S→restrict S live = s') (h:WP T bd s' (H0++l) (bif tr then ⟨H0.length + k,c.cur :: c.outer⟩ else c) (UnQ T tr live bd c (H0.length + k) Q)):WP T (.loop tr live bd) s (H0++l) c Q:= by
 intro S hS
 have hr':=hr S hS
 have hN:(H0++l).length = H0.length + k:= by rw [List.length_append,hk]
 have hin:A8r tr live ⟨S,H0++l,c⟩ = ⟨s',H0++l,bif tr then ⟨H0.length + k,c.cur :: c.outer⟩ else c⟩:= by
  unfold A8r; cases tr <;> simp only [hr',hN,if_true,Bool.false_eq_true,if_false,cond_true,cond_false]
 obtain ⟨e,S1,s1,H1,h1,h2,h3⟩:=h s' (Sub.refl _)
 cases h3 with
 | next sN HN hs hl nd hH hb hw =>
  have hr1:restrict S1 live = sN:=O1 hl nd (hs.trans h2)
  obtain ⟨e2,S2,s2,H2,g1,g2,g3⟩:=hw sN (Sub.refl _)
  refine ⟨e2,S2,s2,H2,G7.loop (st1:=⟨S1,H1,bif tr then ⟨H0.length + k,c.cur :: c.outer⟩ else c⟩) rfl hin.symm h1 ?_ g1,g2,g3⟩
  unfold B2a
  cases tr with
  | true =>
   have hb1:=hb rfl
   simp only [hr1,if_true,hN,hb1]
   simp only [cond_true] at hH
   rw [hH]
  | false =>
   simp only [cond_false] at hH
   simp only [Bool.false_eq_true,if_false,hr1,hH]
 | out he hq=>exact ⟨e,S1,s1,H1,G7.loopOut (st1:=⟨S1,H1,bif tr then ⟨H0.length + k,c.cur :: c.outer⟩ else c⟩) rfl hin.symm he h1 rfl,h2,hq⟩
def L5 (T:Tab) (c:Sc) (n0:Nat) (ops:List AOper) (s:B4) (H:A1) (hc:List (Option (List Nat))) (R:B4→A1→Prop):Prop :=
 ∃ n s1 H1,opers (mach T n) c n0 ops s H hc = some (s1,H1)∧R s1 H1
abbrev C2q (T:Tab) (c:Sc) (n0:Nat) (ops:List AOper) (s:B4) (H:A1) (hc:List (Option (List Nat))) (s':B4) (H':A1):Prop :=
 L5 T c n0 ops s H hc fun s1 H1=>H1 = H'∧Sub s' s1
end
section
variable {T:Tab} {s s':B4} {H0 H H':A1} {l l':List AO} {c:Sc} {n0 k0:Nat} {hc:List (Option (List Nat))} {ops:List AOper} {R:B4→A1→Prop}
theorem C09 {d:Bool} {nres:Nat} {live:List Nat} {Q:Ex→B4→A1→Prop} (k0:Nat) (s':B4) (H':A1) (hk:l.length = k0) (hl:(s'.all fun x=>live.contains x.1) = true)
  (h:C2q T c (H0.length + k0) ops s (H0++(l++List.replicate nres .dead)) [] s' H') (hQ:Q .normal s' H'):WP T (.region d nres [] ops live) s (H0++l) c Q:= by
 intro S hS
 obtain ⟨n,s1,H1,h1,rfl,h2⟩:=h
 obtain ⟨S1,h3,h4⟩:=B09 hS h1
 refine ⟨.normal,restrict S1 live,s',H1,⟨n + 1,?_⟩,?_,hQ⟩
 ·rw [Q3]
  simp only [D5,publish,List.length_append,hk,← List.append_assoc] at h3 ⊢
  rw [h3]
 ·intro t v e
  rw [A1n]
  refine ⟨?_,h4 _ _ (h2 _ _ e)⟩
  rw [List.all_eq_true] at hl
  have:∀{s:B4},sget s t = some v→∃ x ∈ s,x.1 = t:= by
   intro s
   induction s with
   | nil=>intro h; simp [M1,I7] at h
   | cons x s ih =>
    intro h
    simp only [M1,I7] at h
    cases hb:Nat.beq x.1 t with
    | true=>exact ⟨x,by simp,Nat.eq_of_beq_eq_true hb⟩
    | false=>rw [hb] at h; obtain ⟨y,h1,h2⟩:=ih h; exact ⟨y,by simp [h1],h2⟩
  obtain ⟨x,hx,rfl⟩:=this e
  simpa using hl x hx
def One (T:Tab) (c:Sc) (n0:Nat) (s:B4) (H:A1) (op:AOp) (v:AV) (H':A1):Prop:=∃ n,core (mach T n) c n0 s H op = some (v,H')
theorem C1k {M M':Mach} (h:M.le M') {op:AOp} {r:AV × A1} (e:core M c n0 s H op = some r):core M' c n0 s H op = some r:=B9t h e
theorem B7v {M:Mach} {op:AOp} {d:Option Nat} {src:Nat} {v:AV} {H':A1} (e:core M c n0 s H op = some (v,H')) :
  oper M c n0 s H hc ⟨d,op,none,[],[],0,src⟩ = some (sput s d v,H',if writes op then some [] :: hc else hc):= by
 have h1:A2j n0 s H ⟨d,op,none,[],[],0,src⟩ = some []:= by simp [A2j,ways]
 have h2:N1 s ⟨d,op,none,[],[],0,src⟩ hc = true:= by unfold N1; split <;> simp
 unfold oper
 simp only [wanted,h1,h2,hide,e,List.isEmpty_nil,Bool.true_or,if_true,unhide]
theorem A9z {op:AOp} {d:Option Nat} {src:Nat} {v:AV} {H1:A1} {hc':List (Option (List Nat))} (h:One T c n0 s H op v H1) (hhc:(if writes op then some [] :: hc else hc) = hc') (k:L5 T c n0 ops (sput s d v) H1 hc' R) :
  L5 T c n0 (⟨d,op,none,[],[],0,src⟩ :: ops) s H hc R:= by
 obtain ⟨n1,e1⟩:=h
 obtain ⟨n2,s1,Hf,e2,h2⟩:=k
 refine ⟨max n1 n2,s1,Hf,?_,h2⟩
 simp only [opers]
 rw [B7v (C1k (I6 T (Nat.le_max_left n1 n2)) e1)]
 simp only [hhc]
 exact W7 (I6 T (Nat.le_max_right n1 n2)) e2
theorem A0 {op:AOp} {d src:Nat} {v:AV} {H1:A1} (h:One T c n0 s H op v H1) (hw:writes op = false) (k:L5 T c n0 ops ((d,v) :: s) H1 hc R):L5 T c n0 (⟨some d,op,none,[],[],0,src⟩ :: ops) s H hc R :=
 A9z h (by simp [hw]) k
theorem O4 {op:AOp} {d src:Nat} {v:AV} {H1:A1} (h:One T c n0 s H op v H1) (hw:writes op = true) (k:L5 T c n0 ops ((d,v) :: s) H1 (some [] :: hc) R):L5 T c n0 (⟨some d,op,none,[],[],0,src⟩ :: ops) s H hc R :=
 A9z h (by simp [hw]) k
theorem N9 {op:AOp} {src:Nat} {v:AV} {H1:A1} (h:One T c n0 s H op v H1) (hw:writes op = true) (k:L5 T c n0 ops s H1 (some [] :: hc) R):L5 T c n0 (⟨none,op,none,[],[],0,src⟩ :: ops) s H hc R :=
 A9z (d:=none) h (by simp [hw]) k
theorem D5k {d:Option Nat} {op:AOp} {t:Nat} {w g:Bool} {hid:List Nat} {hida:List (Nat × List Nat)} {inc src:Nat} (hg:sget s t = some (.lit (.bool g))) (hw:(g == w) = true) (k:L5 T c n0 (⟨d,op,none,hid,hida,inc,src⟩ :: ops) s H hc R) :
  L5 T c n0 (⟨d,op,some (t,w),hid,hida,inc,src⟩ :: ops) s H hc R:= by
 obtain ⟨n,s1,Hf,e,h⟩:=k
 refine ⟨n,s1,Hf,?_,h⟩
 simp only [opers] at e ⊢
 have:oper (mach T n) c n0 s H hc ⟨d,op,some (t,w),hid,hida,inc,src⟩ = oper (mach T n) c n0 s H hc ⟨d,op,none,hid,hida,inc,src⟩:= by
  unfold oper
  simp only [wanted,hg,hw]
  rfl
 rw [this]; exact e
theorem D2f {d:Nat} {op:AOp} {t:Nat} {w:Bool} {hid:List Nat} {hida:List (Nat × List Nat)} {inc src:Nat} (hw:wanted s (some (t,w)) = some false) (hwr:writes op = false) (k:L5 T c n0 ops ((d,.tup []) :: s) H hc R) :
  L5 T c n0 (⟨some d,op,some (t,w),hid,hida,inc,src⟩ :: ops) s H hc R:= by
 obtain ⟨n,s1,Hf,e,h⟩:=k
 refine ⟨n,s1,Hf,?_,h⟩
 simp only [opers,oper,hw,hwr,Bool.false_eq_true,if_false,sput]
 exact e
theorem H6 {d:Nat} {op:AOp} {t:Nat} {w:Bool} {hid:List Nat} {hida:List (Nat × List Nat)} {inc src:Nat} (hw:wanted s (some (t,w)) = some false) (hwr:writes op = true) (k:L5 T c n0 ops ((d,.tup []) :: s) H (none :: hc) R) :
  L5 T c n0 (⟨some d,op,some (t,w),hid,hida,inc,src⟩ :: ops) s H hc R:= by
 obtain ⟨n,s1,Hf,e,h⟩:=k
 refine ⟨n,s1,Hf,?_,h⟩
 simp only [opers,oper,hw,hwr,if_true,sput]
 exact e
theorem gT {d:Option Nat} {op:AOp} {t:Nat} {g:Bool} {hid:List Nat} {hida:List (Nat × List Nat)} {inc src:Nat} (hg:sget s t = some (.lit (.bool g))) (hw:g = true) (k:L5 T c n0 (⟨d,op,none,hid,hida,inc,src⟩ :: ops) s H hc R) :
  L5 T c n0 (⟨d,op,some (t,true),hid,hida,inc,src⟩ :: ops) s H hc R:=D5k hg (by rw [hw]; rfl) k
theorem gF {d:Option Nat} {op:AOp} {t:Nat} {g:Bool} {hid:List Nat} {hida:List (Nat × List Nat)} {inc src:Nat} (hg:sget s t = some (.lit (.bool g))) (hw:g = false) (k:L5 T c n0 (⟨d,op,none,hid,hida,inc,src⟩ :: ops) s H hc R) :
  L5 T c n0 (⟨d,op,some (t,false),hid,hida,inc,src⟩ :: ops) s H hc R:=D5k hg (by rw [hw]; rfl) k
theorem nT {d:Nat} {op:AOp} {t:Nat} {g:Bool} {hid:List Nat} {hida:List (Nat × List Nat)} {inc src:Nat} (hg:sget s t = some (.lit (.bool g))) (hw:g = false) (hwr:writes op = false) (k:L5 T c n0 ops ((d,.tup []) :: s) H hc R) :
  L5 T c n0 (⟨some d,op,some (t,true),hid,hida,inc,src⟩ :: ops) s H hc R:=D2f (by simp only [wanted,hg,hw]; rfl) hwr k
theorem nF {d:Nat} {op:AOp} {t:Nat} {g:Bool} {hid:List Nat} {hida:List (Nat × List Nat)} {inc src:Nat} (hg:sget s t = some (.lit (.bool g))) (hw:g = true) (hwr:writes op = false) (k:L5 T c n0 ops ((d,.tup []) :: s) H hc R) :
  L5 T c n0 (⟨some d,op,some (t,false),hid,hida,inc,src⟩ :: ops) s H hc R:=D2f (by simp only [wanted,hg,hw]; rfl) hwr k
theorem nX {d:Nat} {op:AOp} {t:Nat} {w:Bool} {hid:List Nat} {hida:List (Nat × List Nat)} {inc src:Nat} (hg:sget s t = some (.tup [])) (hwr:writes op = false) (k:L5 T c n0 ops ((d,.tup []) :: s) H hc R) :
  L5 T c n0 (⟨some d,op,some (t,w),hid,hida,inc,src⟩ :: ops) s H hc R:=D2f (by simp only [wanted,hg]) hwr k
theorem E0 {t:Nat} {w g:Bool} (hg:sget s t = some (.lit (.bool g))) (hw:(g == w) = false):wanted s (some (t,w)) = some false:= by
 simp only [wanted,hg,hw]
theorem B8s {t:Nat} {w:Bool} (hg:sget s t = some (.tup [])):wanted s (some (t,w)) = some false:= by
 simp only [wanted,hg]
def V3 (l:List AO):List Nat→List AO
 | []=>l
 | j :: js=>(V3 l js).set j .dead
def R6 (l m:List AO):List Nat→List AO
 | []=>m
 | j :: js=>match l[j]? with
  | some o=>(R6 l m js).set j o
  | none=>R6 l m js
theorem B14 (H0:A1) (l:List AO):∀js:List Nat,hide (H0++l) (js.map (H0.length + ·)) = H0++V3 l js
 | []=>rfl
 | j :: js=>by
  simp only [List.map_cons,hide,B14 H0 l js,V3,hset]
  rw [List.set_append_right _ _ (Nat.le_add_right _ _)]; congr 2; omega
theorem B8q (H0:A1) (l m:List AO):∀js:List Nat,unhide (H0++l) (H0++m) (js.map (H0.length + ·)) = H0++R6 l m js
 | []=>rfl
 | j :: js=>by
  have h1:hget (H0++l) (H0.length + j) = l[j]?:= by
   unfold hget; rw [List.getElem?_append_right (Nat.le_add_right _ _)]; congr 1; omega
  simp only [List.map_cons,unhide,R6,h1,B8q H0 l m js]
  cases l[j]? with
  | none=>rfl
  | some o=>simp only [hset]; rw [List.set_append_right _ _ (Nat.le_add_right _ _)]; congr 2; omega
theorem D2d {op:AOp} {d:Option Nat} {hid:List Nat} {hida:List (Nat × List Nat)} {inc src:Nat} {v:AV} {l1:List AO} (js:List Nat) (hhs:A2j n0 s (H0++l) ⟨d,op,none,hid,hida,inc,src⟩ = some (js.map (H0.length + ·))) (hseen:N1 s ⟨d,op,none,hid,hida,inc,src⟩ hc = true)
  (h:One T c n0 s (H0++V3 l js) op v (H0++l1)) (hle:Nat.ble l.length l1.length = true) (k:L5 T c n0 ops (sput s d v) (H0++R6 l l1 js) (bif writes op then some (js.map (H0.length + ·)) :: hc else hc) R) :
  L5 T c n0 (⟨d,op,none,hid,hida,inc,src⟩ :: ops) s (H0++l) hc R:= by
 obtain ⟨n1,e1⟩:=h
 obtain ⟨n2,s1,Hf,e2,h2⟩:=k
 refine ⟨max n1 n2,s1,Hf,?_,h2⟩
 have e1':=C1k (I6 T (Nat.le_max_left n1 n2)) e1
 have hle':Nat.ble (H0++l).length (H0++l1).length = true:=Nat.ble_eq_true_of_le (by have:=Nat.le_of_ble_eq_true hle; simp; omega)
 simp only [opers,oper,wanted,hhs,hseen,B14,e1',hle',Bool.or_true,if_true,B8q]
 cases hw:writes op with
 | true=>simp only [hw,cond_true] at e2; simp only [if_true]; exact W7 (I6 T (Nat.le_max_right n1 n2)) e2
 | false=>simp only [hw,cond_false] at e2; simp only [Bool.false_eq_true,if_false]; exact W7 (I6 T (Nat.le_max_right n1 n2)) e2
theorem A7n (l:List AO):∀js:List Nat,(V3 l js).length = l.length
 | []=>rfl
 | j :: js=>by simp only [V3,List.length_set,A7n l js]
theorem A5k (l m:List AO) (h:m.length = l.length):∀js:List Nat,(R6 l m js).length = l.length
 | []=>h
 | j :: js=>by
  simp only [R6]
  cases l[j]? with
  | none=>exact A5k l m h js
  | some o=>simp only [List.length_set]; exact A5k l m h js
theorem C0c (l:List AO):∀(js:List Nat) (i:Nat),i ∉ js→(V3 l js)[i]? = l[i]?
 | [],_,_=>rfl
 | j :: js,i,h=>by
  simp only [List.mem_cons,not_or] at h
  simp only [V3]
  rw [List.getElem?_set_ne (fun e=>h.1 e.symm)]
  exact C0c l js i h.2
theorem B5g (l m:List AO) (hm:m.length = l.length):∀(js:List Nat) (i:Nat),(i ∈ js→(R6 l m js)[i]? = l[i]?)∧(i ∉ js→(R6 l m js)[i]? = m[i]?)
 | [],_=>⟨fun h=>by simp at h,fun _=>rfl⟩
 | j :: js,i=>by
  have ih:=B5g l m hm js i
  have hlen:=A5k l m hm js
  simp only [R6]
  by_cases hij:j = i
  ·subst hij
   constructor
   ·intro _
    cases hl:l[j]? with
    | none =>
     simp only
     rw [List.getElem?_eq_none]
     rw [hlen]; exact List.getElem?_eq_none_iff.1 hl
    | some o =>
     simp only
     have:=(List.getElem?_eq_some_iff.1 hl).1
     rw [List.getElem?_set_self (by rw [hlen]; exact this)]
   ·intro h; simp at h
  ·have e:∀o,((R6 l m js).set j o)[i]? = (R6 l m js)[i]?:=fun o=>List.getElem?_set_ne hij
   cases l[j]? with
   | none=>simp only [List.mem_cons]; exact ⟨fun h=>ih.1 (h.resolve_left fun e=>hij e.symm),fun h=>ih.2 fun k=>h (.inr k)⟩
   | some o=>simp only [List.mem_cons,e]; exact ⟨fun h=>ih.1 (h.resolve_left fun e=>hij e.symm),fun h=>ih.2 fun k=>h (.inr k)⟩
theorem C47 (l:List AO) (js:List Nat):R6 l (V3 l js) js = l:= by
 apply List.ext_getElem?
 intro i
 have h:=B5g l (V3 l js) (A7n l js) js i
 by_cases hi:i ∈ js
 ·exact h.1 hi
 ·rw [h.2 hi,C0c l js i hi]
theorem I9 {op:AOp} {d:Nat} {hid:List Nat} {hida:List (Nat × List Nat)} {inc src:Nat} {v:AV} (js:List Nat) (hhs:A2j n0 s (H0++l) ⟨some d,op,none,hid,hida,inc,src⟩ = some (js.map (H0.length + ·))) (hseen:N1 s ⟨some d,op,none,hid,hida,inc,src⟩ hc = true)
  (h:One T c n0 s (H0++V3 l js) op v (H0++V3 l js)) (hw:writes op = false) (k:L5 T c n0 ops ((d,v) :: s) (H0++l) hc R) :
  L5 T c n0 (⟨some d,op,none,hid,hida,inc,src⟩ :: ops) s (H0++l) hc R :=
 D2d js hhs hseen h (by rw [A7n]; exact Nat.ble_eq_true_of_le (Nat.le_refl _)) (by rw [C47,hw]; exact k)
theorem C2a {op:AOp} {d:Option Nat} {hid:List Nat} {hida:List (Nat × List Nat)} {inc src:Nat} {v:AV} {l1:List AO} (js:List Nat) (l2:List AO) (hhs:A2j n0 s (H0++l) ⟨d,op,none,hid,hida,inc,src⟩ = some (js.map (H0.length + ·))) (hseen:N1 s ⟨d,op,none,hid,hida,inc,src⟩ hc = true)
  (h:One T c n0 s (H0++V3 l js) op v (H0++l1)) (hle:Nat.ble l.length l1.length = true) (hw:writes op = true) (e:R6 l l1 js = l2) (k:L5 T c n0 ops (sput s d v) (H0++l2) (some (js.map (H0.length + ·)) :: hc) R) :
  L5 T c n0 (⟨d,op,none,hid,hida,inc,src⟩ :: ops) s (H0++l) hc R :=
 D2d js hhs hseen h hle (by rw [e,hw]; exact k)
theorem G4 {s:B4} {H:A1}:ways s H [] = some []:=rfl
theorem B4m {s:B4} {H:A1} {t b b':Nat} {p:List Nat} {l:List (Nat × List Nat)} {bs:List Nat} (h:(sget s t).bind AV.box? = some b) (hf:follow H b p = some b') (k:ways s H l = some bs):ways s H ((t,p) :: l) = some (b' :: bs):= by
 simp only [ways,h,hf,k]
theorem B0w {H:A1} {b:Nat}:follow H b [] = some b:=rfl
theorem C61 (H0:A1) (l:List AO) {js:List Nat} (h:(js.all fun j=>Nat.blt j l.length) = true):((js.map (H0.length + ·)).all fun b=>Nat.blt b (H0++l).length) = true:= by
 rw [List.all_eq_true] at h ⊢
 intro b hb
 simp only [List.mem_map] at hb
 obtain ⟨j,hj,rfl⟩:=hb
 have:=Nat.le_of_ble_eq_true (h j hj)
 exact Nat.ble_eq_true_of_le (by simp; omega)
def C1b (l:List AO) (j:Nat):Bool:=match l[j]? with
 | some (.stk _ _ _) | some (.ro (.stk _ _ _))=>false
 | _=>true
theorem B28 (H0:A1) {l:List AO} {j:Nat} (h:C1b l j = true):∀{jh:List Nat},hstk (H0++V3 l jh) (H0.length + j) = none
 | []=>by
  unfold C1b at h
  unfold hstk hget
  rw [List.getElem?_append_right (Nat.le_add_right _ _),Nat.add_sub_cancel_left]
  simp only [V3]
  split at h
  ·cases h
  ·cases h
  ·next h1 h2 =>
   split
   ·next hq=>exact absurd hq (h1 _ _ _)
   ·next hq=>exact absurd hq (h2 _ _ _)
   ·rfl
 | i :: jh=>by
  have e:H0++V3 l (i :: jh) = hset (H0++V3 l jh) (H0.length + i) .dead:= by
   simp only [V3,hset]
   rw [List.set_append_right _ _ (Nat.le_add_right _ _)]; congr 2; omega
  rw [e]
  exact S6 rfl (B28 H0 h)
theorem O6 {op:AOp} {d:Option Nat} {g:Option (Nat × Bool)} {hid:List Nat} {hida:List (Nat × List Nat)} {inc src:Nat} {bs js:List Nat} {k0:Nat} (jh:List Nat) (ejh:hid.map (H0.length + k0 + ·) = jh.map (H0.length + ·)) (hw:ways s (H0++V3 l jh) hida = some bs) (e:jh.map (H0.length + ·)++bs = js.map (H0.length + ·)) (hall:(js.all fun j=>Nat.blt j l.length && C1b l j) = true) :
  A2j (H0.length + k0) s (H0++l) ⟨d,op,g,hid,hida,inc,src⟩ = some (js.map (H0.length + ·)):= by
 have h1:(js.all fun j=>Nat.blt j l.length) = true:= by
  rw [List.all_eq_true] at hall ⊢
  intro j hj
  have:=hall j hj
  rw [Bool.and_eq_true] at this
  exact this.1
 have h2:(bs.all fun b=>(hstk (H0++V3 l jh) b).isNone) = true:= by
  rw [List.all_eq_true] at hall ⊢
  intro b hb
  have hm:b ∈ js.map (H0.length + ·):= by rw [← e]; exact List.mem_append_right _ hb
  obtain ⟨j,hj,rfl⟩:=List.mem_map.1 hm
  have:=hall j hj
  rw [Bool.and_eq_true] at this
  rw [B28 H0 this.2]; rfl
 unfold A2j
 simp only [ejh,B14,hw,e,C61 H0 l h1,h2,Bool.or_true,Bool.and_self,if_true]
theorem seen0 {o:AOper} (h:o.inc = 0):N1 s o hc = true:= by
 unfold N1; split
 ·rfl
 ·simp [h]
theorem C2k {o:AOper} {b:Nat} (hb:rbox s o.op = some b) (h:((hc.take o.inc).all fun e=>match e with | none=>true | some hs=>hs.contains b) = true):N1 s o hc = true:= by
 unfold N1; rw [hb]; exact h
theorem A7e (N:Nat) {js:List Nat} {j:Nat} (h:js.contains j = true):(js.map (N + ·)).contains (N + j) = true:= by
 simp only [List.contains_iff_mem,List.mem_map] at h ⊢
 exact ⟨j,h,rfl⟩
theorem D4j {α β:Type} {o:Option α} {f:α→Option β} {r:β} (h:o.bind f = some r):∃x,o = some x∧f x = some r:= by
 cases o with
 | none=>cases h
 | some x=>exact ⟨x,rfl,h⟩
def calm:List AOper→Bool
 | []=>true
 | o :: l=>Nat.beq o.inc 0 && calm l
theorem C9h {M:Mach} {o:AOper} (ho:Nat.beq o.inc 0 = true) (hc hc':List (Option (List Nat))) {x:B4 × A1 × List (Option (List Nat))} (e:oper M c n0 s H hc o = some x):∃hc1,oper M c n0 s H hc' o = some (x.1,x.2.1,hc1):= by
 have hz:o.inc = 0:=Nat.eq_of_beq_eq_true ho
 have h2:∀hc,N1 s o hc = true:= by intro hc; unfold N1; split <;> simp [hz]
 unfold oper at e ⊢
 split at e
 ·cases e
 ·simp only [Option.some.injEq] at e; subst e; exact ⟨_,rfl⟩
 ·rw [h2] at e ⊢
  split at e
  ·next hs _ e1 _ =>
   try simp only [e1]
   split at e
   ·next r e3 =>
    try simp only [e3]
    split at e
    ·next e4=>simp only [Option.some.injEq] at e; subst e; simp only [e4,if_true]; exact ⟨_,rfl⟩
    ·cases e
   ·cases e
  ·cases e
theorem B7x {M:Mach}:∀{l:List AOper} (_:calm l = true) {s:B4} {H:A1} (hc hc':List (Option (List Nat))) {r:B4 × A1},opers M c n0 l s H hc = some r→opers M c n0 l s H hc' = some r
 | [],_,_,_,_,_,_,e=>e
 | o :: l,h,s,H,hc,hc',r,e=>by
  simp only [calm,Bool.and_eq_true] at h
  simp only [opers] at e ⊢
  split at e
  ·cases e
  ·next s1 H1 hc1 e1 =>
   obtain ⟨hc2,e2⟩:=C9h h.1 hc hc' e1
   simp only [e2]
   exact B7x h.2 _ _ e
theorem C0q (M:Mach):∀(l m:List AOper) (s:B4) (H:A1) (hc:List (Option (List Nat))),opers M c n0 (l++m) s H hc = (opers3 M c n0 l (s,H,hc)).bind fun x=>opers M c n0 m x.1 x.2.1 x.2.2
 | [],m,s,H,hc=>rfl
 | o :: l,m,s,H,hc=>by
  simp only [List.cons_append,opers,opers3]
  cases oper M c n0 s H hc o with
  | none=>rfl
  | some y=>exact C0q M l m y.1 y.2.1 y.2.2
theorem B33 (n:Nat) (s1:B4) (H1:A1) (hq:calm (ops.drop n) = true) (h1:C2q T c n0 (ops.take n) s H hc s1 H1) (hR:∀a b H,Sub a b→R a H→R b H) (h2:L5 T c n0 (ops.drop n) s1 H1 [] R):L5 T c n0 ops s H hc R:= by
 obtain ⟨n1,t1,_,e1,rfl,r1⟩:=h1
 obtain ⟨n2,t2,H',e2,r2⟩:=h2
 have e1':=W7 (I6 T (Nat.le_max_left n1 n2)) e1
 have e2':=W7 (I6 T (Nat.le_max_right n1 n2)) e2
 obtain ⟨S2,e3,r3⟩:=B09 r1 e2'
 refine ⟨max n1 n2,S2,H',?_,hR _ _ _ r3 r2⟩
 have h3:=B30 (mach T (max n1 n2)) c n0 (ops.take n) (s,H,hc)
 simp only at h3
 rw [e1'] at h3
 cases h4:opers3 (mach T (max n1 n2)) c n0 (ops.take n) (s,H,hc) with
 | none=>rw [h4] at h3; cases h3
 | some y =>
  rw [h4] at h3
  simp only [Option.map_some,Option.some.injEq,Prod.mk.injEq] at h3
  have h5:opers (mach T (max n1 n2)) c n0 (ops.take n++ops.drop n) s H hc = some (S2,H'):= by
   rw [C0q,h4]
   simp only [Option.bind_some,← h3.1,← h3.2]
   exact B7x hq _ _ e3
  rw [List.take_append_drop] at h5
  exact h5
def RG (live:List Nat) (Q:Ex→B4→A1→Prop) (s:B4) (H:A1):Prop:=∃ s',Sub s' s∧(s'.all fun x=>live.contains x.1) = true∧Q .normal s' H
theorem B8v {d:Bool} {nres:Nat} {live:List Nat} {Q:Ex→B4→A1→Prop} (k0:Nat) (hk:l.length = k0)
  (h:L5 T c (H0.length + k0) ops s (H0++(l++List.replicate nres .dead)) [] (RG live Q)):WP T (.region d nres [] ops live) s (H0++l) c Q:= by
 obtain ⟨n,s1,H1,h1,s',h2,h3,h4⟩:=h
 exact C09 k0 s' H1 hk h3 ⟨n,s1,H1,h1,rfl,h2⟩ h4
structure InlQ (T:Tab) (c:Sc) (n0 N:Nat) (rv:List ARes) (own:List (List (Nat × Nat))) (d:Nat) (ops:List AOper) (s:B4) (hc:List (Option (List Nat))) (R:B4→A1→Prop) (e:Ex) (s1:B4) (H2:A1):Prop where
 he:(match e with | .exit _=>False | _=>True)
 hr:∃rs0 rs H3 vs H4,results s1 H2 rv = some rs0∧P4 N H2 rs0 = some (rs,H3)∧U7 n0 (trunc N rs H3) rs own = (vs,H4)∧L5 T c n0 ops ((d,packed vs) :: s) H4 (some [] :: hc) R
theorem B61 {own:List (List (Nat × Nat))} {H:A1} {aq:List AV} {r:List AV × A1} (hl:lend own = false) (hz:P3 H aq = some r):Z0 own H aq = some r:= by
 unfold Z0; rw [hl]; exact hz
theorem A4r {f:Opd} {args:List Opd} {own:List (List (Nat × Nat))} {d src i N:Nat} {first cap aq as' as2:List AV} {af:AFunc} {H1:A1} (hf:ev s f = some (.fn (.func i) first cap)) (ha:evs s args = some aq) (hz0:P3 H aq = some (as',H1)) (haf:T i = some af) (has:first++as'++cap = as2) (hn:(Nat.beq as2.length af.nargs && Nat.blt af.nargs 1000) = true) (hN:H1.length = N)
  (h:WP T af.body (J7 0 as2) H1 ⟨N,c.cur :: c.outer⟩ (InlQ T c n0 N af.results own d ops s hc R)) (hl0:lend own = false:= by rfl):L5 T c n0 (⟨some d,.call f args own false,none,[],[],0,src⟩ :: ops) s H hc R:= by
 have hz:=B61 hl0 hz0
 obtain ⟨e,S',s',H',h1,h2,h3,rs0,rs,H3,vs,H4,h4,h5,h6,n2,s2,H5,h7,h8⟩:=h _ (Sub.refl _)
 subst hN
 have hcall:=J1.fn (c:=c) (H:=H1) (f:=.fn (.func i) first cap) (args:=as') (rs:=rs) (rs1:=rs) (rs0:=rs0) rfl haf rfl has.symm hn rfl h1 (by cases e <;> first | rfl | exact h3.elim) (R3 h2 h4) h5 rfl rfl
 obtain ⟨n1,e1⟩:=hcall
 refine ⟨max n1 n2,s2,H5,?_,h8⟩
 have e1':=(I6 T (Nat.le_max_left n1 n2)).call _ _ _ _ _ e1
 have e2':=W7 (I6 T (Nat.le_max_right n1 n2)) h7
 simp only [opers]
 rw [B7v (v:=packed vs) (H':=H4) (by simp only [core,S0,hf,ha,Bool.false_eq_true,if_false,hz,e1',h6])]
 simp only [writes,Bool.not_false,if_true,sput]
 exact e2'
structure InlH (T:Tab) (c:Sc) (n0 N:Nat) (rv:List ARes) (own:List (List (Nat × Nat))) (d:Nat) (ops:List AOper) (s:B4) (hc:List (Option (List Nat))) (R:B4→A1→Prop) (js:List Nat) (H0:A1) (l l2:List AO) (e:Ex) (s1:B4) (H2:A1):Prop where
 he:(match e with | .exit _=>False | _=>True)
 hr:∃rs0 rs H3 vs l4,results s1 H2 rv = some rs0∧P4 N H2 rs0 = some (rs,H3)∧U7 n0 (trunc N rs H3) rs own = (vs,H0++l4)∧Nat.ble l.length l4.length = true∧R6 l l4 js = l2∧L5 T c n0 ops ((d,packed vs) :: s) (H0++l2) (some (js.map (H0.length + ·)) :: hc) R
end
end Am
end
