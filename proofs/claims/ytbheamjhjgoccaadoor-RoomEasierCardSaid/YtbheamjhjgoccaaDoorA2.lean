/- Texts that the claim stands on, one behind another. -/
import Derived.Test.YtbheamjhjgoccaaDoorA1
import Derived.AtR
import Derived.RangeFuncRecord
import Derived.Orders
import Derived.Below
set_option linter.unusedVariables false
set_option linter.unusedSimpArgs false
set_option linter.unnecessarySimpa false
section
namespace Am
open Go
theorem C9v {g:Ghost} {N b:Nat} (hN:∀i,N≤i→g.L i = .none) (h:g.L b ≠ .none):b < N:= by
 rcases Nat.lt_or_ge b N with h1 | h1
 ·exact h1
 ·exact absurd (hN b h1) h
theorem V.bd {g:Ghost} {N:Nat} (hN:∀i,N≤i→g.L i = .none) {x:AV} {v:Value} (h:V g x v):x.bd N = true:= by
 have nlt:∀{b:Nat},g.L b ≠ .none→Nat.blt b N = true:=fun {b} hb=>by
  have:=C9v hN hb
  simpa [Nat.blt_eq] using this
 have lst:∀{l:List AV},(∀ (j:Nat) x,l[j]? = some x→x.bd N = true)→bdL N l = true:=fun {l} hl=>by
  rw [A4x]; intro x hx
  obtain ⟨j,hj,rfl⟩:=List.mem_iff_getElem.1 hx
  exact hl j _ (List.getElem?_eq_getElem hj)
 induction h with
 | den x v h=>cases h <;> simp [AV.bd]
 | ptr b o β e h=>simpa only [AV.bd] using nlt (by rw [h]; simp)
 | itr b β h=>simpa only [AV.bd] using nlt (by rw [h]; simp)
 | eptr b n i o k v p h hle hp=>simpa only [AV.bd] using nlt (by rw [h]; simp)
 | cptr cs a vs hs h1 h2 h3 ih=>simpa only [AV.bd] using lst ih
 | asl b n k v0 v h hle h1 hn=>simpa only [AV.bd] using nlt (by rw [h]; simp)
 | csl b o k n β c e h hc=>simpa only [AV.bd] using nlt (by rw [h]; simp)
 | mp b β h=>simpa only [AV.bd] using nlt (by rw [h]; simp)
 | fn f f' a c a' c' hf l1 l2 h1 h2 ih1 ih2 =>
  cases f with
  | yield l =>
   obtain ⟨β,hl,_⟩:=hf
   simp only [AV.bd,Bool.and_eq_true]
   exact ⟨⟨nlt (by rw [hl]; simp),lst ih1⟩,lst ih2⟩
  | _=>simp only [AV.bd,Bool.and_eq_true]; exact ⟨lst ih1,lst ih2⟩
 | xseq k rows a c vs hs hcap hlen h1 h2 h3 ih =>
  simp only [AV.bd,C5m]
  intro r hr x hx
  obtain ⟨i,hi,rfl⟩:=List.mem_iff_getElem.1 hr
  obtain ⟨j,hj,rfl⟩:=List.mem_iff_getElem.1 hx
  exact ih i _ j _ (List.getElem?_eq_getElem hi) (List.getElem?_eq_getElem hj)
 | agg cs vs hl h h1 ih=>simpa only [AV.bd] using lst ih
 | tup cs vs hl h ih=>simpa only [AV.bd] using lst ih
def A4e (N:Nat) (g:Ghost):Ghost:=⟨fun i=>if i < N then g.L i else .none,g.Φ,g.gl⟩
theorem C0k {N:Nat} {g:Ghost} {i:Nat} (h:i < N):(A4e N g).L i = g.L i:= by simp [A4e,h]
theorem C35 {N:Nat} {g:Ghost} {i:Nat} (h:N≤i):(A4e N g).L i = .none:= by simp [A4e]; omega
theorem V.cut {g:Ghost} {N:Nat} {x:AV} {v:Value} (h:V g x v) (hb:x.bd N = true):V (A4e N g) x v:= by
 have cl:∀{b:Nat} {q:GB},Nat.blt b N = true→g.L b = q→(A4e N g).L b = q:=fun {b q} hlt hq=>by
  rw [Nat.blt_eq] at hlt
  rw [C0k hlt,hq]
 have lst:∀{l:List AV},bdL N l = true→∀ (j:Nat) x,l[j]? = some x→x.bd N = true:=fun {l} hl j x hj=>by
  rw [A4x] at hl
  exact hl x (List.mem_of_getElem? hj)
 induction h with
 | den x v h=>exact .den _ _ h
 | ptr b o β e h=>exact .ptr b o β e (cl (by simpa only [AV.bd] using hb) h)
 | itr b β h=>exact .itr b β (cl (by simpa only [AV.bd] using hb) h)
 | eptr b n i o k v p h hle hp=>exact .eptr b n i o k v p (cl (by simpa only [AV.bd] using hb) h) hle hp
 | cptr cs a vs hs h1 h2 h3 ih=>exact .cptr cs a vs hs h1 (fun j x hj=>ih j x hj (lst (by simpa only [AV.bd] using hb) j x hj)) h3
 | asl b n k v0 v h hle h1 hn=>exact .asl b n k v0 v (cl (by simpa only [AV.bd] using hb) h) hle h1 hn
 | csl b o k n β c e h hc=>exact .csl b o k n β c e (cl (by simpa only [AV.bd] using hb) h) hc
 | mp b β h=>exact .mp b β (cl (by simpa only [AV.bd] using hb) h)
 | fn f f' a c a' c' hf l1 l2 h1 h2 ih1 ih2 =>
  have hb':B8j (A4e N g) f f'∧bdL N a = true∧bdL N c = true:= by
   cases f with
   | yield l =>
    obtain ⟨β,hl,hf'⟩:=hf
    simp only [AV.bd,Bool.and_eq_true] at hb
    exact ⟨⟨β,cl hb.1.1 hl,hf'⟩,hb.1.2,hb.2⟩
   | func i=>simp only [AV.bd,Bool.and_eq_true] at hb; exact ⟨hf,hb.1,hb.2⟩
   | _=>exact hf.elim
  exact .fn f f' a c a' c' hb'.1 l1 l2 (fun j x hj=>ih1 j x hj (lst hb'.2.1 j x hj)) (fun j x hj=>ih2 j x hj (lst hb'.2.2 j x hj))
 | xseq k rows a c vs hs hcap hlen h1 h2 h3 ih =>
  simp only [AV.bd,C5m] at hb
  exact .xseq k rows a c vs hs hcap hlen h1 (fun i r j x hi hj=>ih i r j x hi hj (hb r (List.mem_of_getElem? hi) x (List.mem_of_getElem? hj))) h3
 | agg cs vs hl h h1 ih=>exact .agg cs vs hl (fun j x hj=>ih j x hj (lst (by simpa only [AV.bd] using hb) j x hj)) h1
 | tup cs vs hl h ih=>exact .tup cs vs hl (fun j x hj=>ih j x hj (lst (by simpa only [AV.bd] using hb) j x hj))
section
variable {MC:Nat→Code→ACode→Prop} {P:Program} {B0:Nat}
theorem E7.cut {g:Ghost} {N:Nat} {s:C9} {tmps:Array Value} (h:E7 g s tmps) (hb:∀t v,sget s t = some v→v.bd N = true):E7 (A4e N g) s tmps :=
 fun t v hv=>let ⟨x,hx,hV⟩:=h t v hv; ⟨x,hx,hV.cut (hb t v hv)⟩
theorem A27.cut {g:Ghost} {w:World} {N:Nat} {o:AO} {gb:GB} (h:A27 MC P g w o gb) (hb:o.bdP N):A27 MC P (A4e N g) w o gb:= by
 cases o with
 | dead=>exact trivial
 | cells cs =>
  cases gb <;> try exact h.elim
  obtain ⟨c,h1,h2,h3,h4⟩:=h
  simp only [AO.bdP,A4x] at hb
  exact ⟨c,h1,h2,fun j x hj=>let ⟨v,hv,hV,ho⟩:=h3 j x hj; ⟨v,hv,hV.cut (hb x (List.mem_of_getElem? hj)),ho⟩,h4⟩
 | arr k pub rows=>cases gb <;> exact h
 | map es =>
  cases gb <;> try exact h.elim
  obtain ⟨en,clock,h1,h2,h3⟩:=h
  simp only [AO.bdP,B9s] at hb
  exact ⟨en,clock,h1,h2,fun i e hi=>let ⟨m,hm,a,b⟩:=h3 i e hi; ⟨m,hm,a.cut (hb e (List.mem_of_getElem? hi)).1,b.cut (hb e (List.mem_of_getElem? hi)).2⟩⟩
 | iter s pos=>cases gb <;> exact h
 | loop f s ps assign body busy pend =>
  cases gb <;> try exact h.elim
  obtain ⟨r,h1,h2,h3,h4,h5,h6⟩:=h
  exact ⟨r,h1,h2,h3,h4,h5.cut hb,h6⟩
 | ro o=>cases gb <;> exact h.elim
theorem A27.bd {g:Ghost} {w:World} {N:Nat} (hN:∀i,N≤i→g.L i = .none) {o:AO} {gb:GB} (h:A27 MC P g w o gb):o.bdP N:= by
 cases o with
 | dead=>exact trivial
 | cells cs =>
  cases gb <;> try exact h.elim
  obtain ⟨c,h1,h2,h3,h4⟩:=h
  simp only [AO.bdP,A4x]
  intro x hx
  obtain ⟨j,hj,rfl⟩:=List.mem_iff_getElem.1 hx
  obtain ⟨v,_,hV,_⟩:=h3 j _ (List.getElem?_eq_getElem hj)
  exact hV.bd hN
 | arr k pub rows=>exact trivial
 | map es =>
  cases gb <;> try exact h.elim
  obtain ⟨en,clock,h1,h2,h3⟩:=h
  simp only [AO.bdP,B9s]
  intro e he
  obtain ⟨j,hj,rfl⟩:=List.mem_iff_getElem.1 he
  obtain ⟨m,_,h4,h5⟩:=h3 j _ (List.getElem?_eq_getElem hj)
  exact ⟨h4.bd hN,h5.bd hN⟩
 | iter s pos=>exact trivial
 | loop f s ps assign body busy pend =>
  cases gb <;> try exact h.elim
  obtain ⟨r,h1,h2,h3,h4,h5,h6⟩:=h
  intro t v hv
  obtain ⟨x,_,hV⟩:=h5 t v hv
  exact hV.bd hN
 | ro o=>cases gb <;> exact h.elim
theorem D4l {o:AO} {N:Nat} (h:o.rd.bdP N):o.bdP N:= by cases o <;> exact h
theorem D6p {o:AO} {N:Nat} (h:o.bdP N):o.rd.bdP N:= by cases o <;> exact h
theorem Rel.bd {H:A7} {g:Ghost} {w:World} (hR:Rel MC P B0 H g w) {i:Nat} {o:AO} (h:H[i]? = some o):o.bdP H.length :=
 D4l ((hR.box i o h).bd hR.nolive)
theorem ScOk.enter {c:Sc} {H:A7} {g:Ghost} {w:World} (h:ScOk c H) (hR:Rel MC P B0 H g w):ScOk ⟨H.length,c.cur :: c.outer⟩ H where
 cur:=Nat.le_refl _
 out:=fun B hB=>by
  rcases List.mem_cons.1 hB with rfl | hB
  ·exact h.cur
  ·exact Nat.le_trans (h.out B hB) h.cur
 bd:=fun B hB i hi o ho=>by
  rcases List.mem_cons.1 hB with rfl | hB
  ·exact hR.bd ho
  ·exact h.bd B hB i hi o ho
theorem ScOk.leave {c:Sc} {B:Nat} {H:A7} (h:ScOk ⟨B,c.cur :: c.outer⟩ H) (hout:∀D ∈ c.outer,D≤c.cur):ScOk c H where
 cur:=Nat.le_trans (h.out c.cur (by simp)) h.cur
 out:=hout
 bd:=fun D hD=>h.bd D (by simp at hD ⊢; exact .inr hD)
theorem ScOk.take {c:Sc} {H:A7} (h:ScOk c H) {N:Nat} (hN:c.cur≤N):ScOk c (H.take N) where
 cur:= by have:=h.cur; simp; omega
 out:=h.out
 bd:=fun B hB i hi o ho=>h.bd B hB i hi o (by
  rw [List.getElem?_take] at ho
  split at ho
  ·exact ho
  ·cases ho)
theorem ScOk.app {c:Sc} {H:A7} (h:ScOk c H) (K:A7):ScOk c (H++K) where
 cur:= by have:=h.cur; simp; omega
 out:=h.out
 bd:=fun B hB i hi o ho=>by
  have h1:B≤c.cur:= by rcases List.mem_cons.1 hB with rfl | hB; exact Nat.le_refl _; exact h.out B hB
  have h2:=h.cur
  rw [List.getElem?_append_left (by omega)] at ho
  exact h.bd B hB i hi o ho
def Unborn (H:A7) (g g':Ghost):Prop:=∀ i,i < H.length→g.L i = .none→g'.L i = .none
theorem Unborn.refl (H:A7) (g:Ghost):Unborn H g g:=fun _ _ h=>h
theorem Unborn.trans {H H1:A7} {g g1 g2:Ghost} (h:Unborn H g g1) (k:Unborn H1 g1 g2) (hl:H.length≤H1.length):Unborn H g g2 :=
 fun i hi hn=>k i (by omega) (h i hi hn)
theorem Rel.back {H H1 H2 H3:A7} {g g2:Ghost} {w w2:World} (hR:Rel MC P B0 H g w) (hl:H1.length = H.length)
  (h1:∀(i:Nat) (o1:AO),H1[i]? = some o1→H[i]? = some o1∨o1.isW = false)
  (hE:Ext H1 g w H2 g2 w2) (hR2:Rel MC P B0 H2 g2 w2) (hN:H.length≤H3.length) (hN2:H3.length≤H2.length)
  (h3:∀(i:Nat) (o3:AO),H3[i]? = some o3→(H2[i]? = some o3∧o3.bdP H3.length∧(H1[i]? = H[i]?∨H.length≤i))∨(H[i]? = some o3∧∃ o1,H1[i]? = some o1∧o1.isW = false)) :
  Rel MC P B0 H3 (A4e H3.length g2) w2∧Ext H g w H3 (A4e H3.length g2) w2:= by
 have hsame:∀i o,H[i]? = some o→(∃ o1,H1[i]? = some o1∧o1.isW = false)→g.L i = .none∨(g2.L i = g.L i∧∀ β,(g.L i).blk = some β→w2.heap[β]? = w.heap[β]?∧∀ off,g2.Φ β off = g.Φ β off):= by
  intro i o ho ⟨o1,ho1,hw1⟩
  by_cases hn:g.L i = .none
  ·exact .inl hn
  ·refine .inr ⟨hE.keep i o1 ho1 hw1 hn,fun β hb=>?_⟩
   obtain ⟨_,hlt⟩:=hR.base i β hb
   refine hE.frame β hlt (fun j oj hj hw hbj=>?_)
   have:=hR.inj i j β hb hbj
   subst this
   rw [ho1] at hj; cases hj; rw [hw1] at hw; cases hw
 have hle:g.le g2:=hE.le
 refine ⟨⟨hR2.phi,?_,?_,?_,?_,hR2.b0⟩,⟨hN,hE.os,hE.tape,hE.output,hE.size,⟨?_,hE.le.Φ⟩,?_,?_,?_,?_⟩⟩
 ·intro i β hb
  simp only [A4e] at hb
  split at hb
  ·exact hR2.base i β hb
  ·simp [GB.blk] at hb
 ·intro i j β hi hj
  simp only [A4e] at hi hj
  split at hi <;> split at hj
  ·exact hR2.inj i j β hi hj
  all_goals simp [GB.blk] at hi hj
 ·intro i o3 ho
  have hi:=(List.getElem?_eq_some_iff.1 ho).1
  rw [C0k hi]
  rcases h3 i o3 ho with ⟨h4,h5,_⟩ | ⟨h4,h5⟩
  ·exact (hR2.box i o3 h4).cut (D6p h5)
  ·rcases hsame i o3 h4 h5 with h6 | ⟨h6,h7⟩
   ·have hb:=hR.box i o3 h4
    rw [h6] at hb
    generalize hq:o3.rd = q at hb ⊢
    cases q <;> first | exact hb.elim | exact trivial
   ·rw [h6]
    have hb:=(hR.box i o3 h4).mono hle h7
    exact hb.cut (D6p (by
     have:=hR.bd h4
     have hb3:=(hR.box i o3 h4)
     exact D4l (hb3.bd (N:=H3.length) (fun j hj=>hR.nolive j (by omega)))))
 ·intro i hi; exact C35 hi
 ·intro i
  by_cases hi:i < H3.length
  ·rw [C0k hi]; exact hle.L i
  ·rw [C35 (by omega),hR.nolive i (by omega)]; trivial
 ·intro i β hb
  simp only [A4e] at hb
  split at hb
  ·rcases hE.blk i β hb with h4 | h4 | ⟨j,o,hj,hw,hbj⟩
   ·exact .inl h4
   ·exact .inr (.inl h4)
   ·rcases h1 j o hj with h5 | h5
    ·exact .inr (.inr ⟨j,o,h5,hw,hbj⟩)
    ·rw [hw] at h5; cases h5
  ·simp [GB.blk] at hb
 ·intro i o ho hw hn
  have hi:=(List.getElem?_eq_some_iff.1 ho).1
  rw [C0k (by omega)]
  have hi1:i < H1.length:= by omega
  have ho1:=List.getElem?_eq_getElem hi1
  refine hE.keep i _ ho1 ?_ hn
  rcases h1 i _ ho1 with h4 | h4
  ·rw [ho] at h4; cases h4; exact hw
  ·exact h4
 ·intro i o' ho' hw'
  rcases h3 i o' ho' with ⟨h4,h5,h6⟩ | ⟨h4,h5⟩
  ·rcases hE.wit i o' h4 hw' with h7 | ⟨o1,h7,h8⟩
   ·exact .inl h7
   ·rcases h6 with h6 | h6
    ·exact .inr ⟨o1,h6 ▸ h7,h8⟩
    ·have:=(List.getElem?_eq_some_iff.1 h7).1; omega
  ·exact .inr ⟨o',h4,hw'⟩
 ·intro β hβ hn
  refine hE.frame β hβ (fun i o hi hw hb=>?_)
  rcases h1 i o hi with h4 | h4
  ·exact hn i o h4 hw hb
  ·rw [hw] at h4; cases h4
theorem D7h {g:Ghost} {N:Nat} (h:∀i,N≤i→g.L i = .none):A4e N g = g:= by
 cases g with
 | mk L Φ =>
  simp only [A4e,Ghost.mk.injEq,and_true]
  funext i
  split
  ·rfl
  ·exact (h i (by omega)).symm
theorem A50 (H:A7):∀l,(hide H l).length = H.length
 | []=>rfl
 | b :: l=>by simp [hide,hset,A50 H l]
theorem B0i (H:A7) (i:Nat):∀l,(hide H l)[i]? = if i ∈ l then (H[i]?).map (fun _=>AO.dead) else H[i]?
 | []=>by simp [hide]
 | b :: l=>by
  simp only [hide,hset,List.getElem?_set,A50,B0i H i l,List.mem_cons]
  by_cases e:b = i
  ·subst e
   by_cases hb:b < H.length
   ·simp [hb]
   ·simp only [if_true,hb,if_false]
    have:H[b]? = none:= by simp; omega
    simp [this]
  ·have e':¬ i = b:=fun h=>e h.symm
   simp [e,e']
theorem A2u (G H:A7):∀l,(unhide G H l).length = H.length
 | []=>rfl
 | b :: l=>by
  simp only [unhide]
  split
  ·simp [hset,A2u G H l]
  ·exact A2u G H l
theorem B13 (G H:A7) (hl:G.length≤H.length) (i:Nat):∀l,(unhide G H l)[i]? = if i ∈ l∧i < G.length then G[i]? else H[i]?
 | []=>by simp [unhide]
 | b :: l=>by
  simp only [unhide]
  split
  ·next o ho =>
   have hb:=(List.getElem?_eq_some_iff.1 (show G[b]? = some o from ho)).1
   simp only [hset,List.getElem?_set,A2u,B13 G H hl i l,List.mem_cons]
   by_cases e:b = i
   ·subst e
    have:b < H.length:= by omega
    have ho':G[b]? = some o:=ho
    simp only [if_true,this,true_or,hb,and_self,ho']
   ·have e':¬ i = b:=fun h=>e h.symm
    simp [e,e']
  ·next hn =>
   have hb:G.length≤b:= by simpa [hget] using hn
   rw [B13 G H hl i l]
   by_cases e:i = b
   ·subst e
    have:¬ i < G.length:= by omega
    simp [this]
   ·simp [e]
theorem Rel.hide {H:A7} {g:Ghost} {w:World} (hR:Rel MC P B0 H g w) (l:List Nat):Rel MC P B0 (Am.hide H l) g w where
 phi:=hR.phi
 base:=hR.base
 inj:=hR.inj
 box:=fun i o ho=>by
  rw [B0i] at ho
  split at ho
  ·cases hq:H[i]? with
   | none=>simp [hq] at ho
   | some o'=>simp [hq] at ho; subst ho; exact trivial
  ·exact hR.box i o ho
 nolive:=fun i hi=>hR.nolive i (by rwa [A50] at hi)
 b0:=hR.b0
theorem ScOk.hide {c:Sc} {H:A7} (h:ScOk c H) (l:List Nat):ScOk c (Am.hide H l) where
 cur:= by rw [A50]; exact h.cur
 out:=h.out
 bd:=fun B hB i hi o ho=>by
  rw [B0i] at ho
  split at ho
  ·cases hq:H[i]? with
   | none=>simp [hq] at ho
   | some o'=>simp [hq] at ho; subst ho; exact trivial
  ·exact h.bd B hB i hi o ho
theorem ScOk.unhide {c:Sc} {H H2:A7} (h:ScOk c H) (h2:ScOk c H2) (hl:H.length≤H2.length) (l:List Nat):ScOk c (Am.unhide H H2 l) where
 cur:= by rw [A2u]; exact h2.cur
 out:=h.out
 bd:=fun B hB i hi o ho=>by
  rw [B13 _ _ hl] at ho
  split at ho
  ·exact h.bd B hB i hi o ho
  ·exact h2.bd B hB i hi o ho
theorem Rel.unhide {H H2:A7} {g g2:Ghost} {w w2:World} (hR:Rel MC P B0 H g w) (l:List Nat) (hE:Ext (Am.hide H l) g w H2 g2 w2) (hR2:Rel MC P B0 H2 g2 w2) :
  Rel MC P B0 (Am.unhide H H2 l) g2 w2∧Ext H g w (Am.unhide H H2 l) g2 w2:= by
 have hlen:H.length≤H2.length:= by have:=hE.len; rwa [A50] at this
 have e:A4e (Am.unhide H H2 l).length g2 = g2:= by rw [A2u]; exact D7h hR2.nolive
 have:=hR.back (H1:=Am.hide H l) (H3:=Am.unhide H H2 l) (A50 _ _) ?_ hE hR2 (by rw [A2u]; exact hlen) (by rw [A2u]; exact Nat.le_refl _) ?_
 ·rw [e] at this; exact this
 ·intro i o1 h1
  rw [B0i] at h1
  split at h1
  ·cases hq:H[i]? with
   | none=>simp [hq] at h1
   | some o'=>simp [hq] at h1; subst h1; exact .inr rfl
  ·exact .inl h1
 ·intro i o3 h3
  rw [B13 _ _ hlen] at h3
  split at h3
  ·next hi =>
   right
   exact ⟨h3,.dead,by rw [B0i,if_pos hi.1,h3]; rfl,rfl⟩
  ·next hi =>
   left
   refine ⟨h3,?_,?_⟩
   ·rw [A2u]; exact hR2.bd h3
   ·by_cases hlt:i < H.length
    ·left; rw [B0i,if_neg (fun hm=>hi ⟨hm,hlt⟩)]
    ·right; omega
theorem Rel.reserve {H:A7} {g:Ghost} {w:World} (hR:Rel MC P B0 H g w) (n:Nat):Rel MC P B0 (H++List.replicate n .dead) g w∧Ext H g w (H++List.replicate n .dead) g w:= by
 refine ⟨⟨hR.phi,hR.base,hR.inj,?_,?_,hR.b0⟩,⟨by simp,rfl,rfl,rfl,Nat.le_refl _,Ghost.le_refl g,fun _ _ h=>.inl h,fun _ _ _ _ _=>rfl,?_,fun _ _ _=>⟨rfl,fun _=>rfl⟩⟩⟩
 ·intro i o ho
  rcases Nat.lt_or_ge i H.length with hi | hi
  ·rw [List.getElem?_append_left hi] at ho; exact hR.box i o ho
  ·rw [List.getElem?_append_right hi,List.getElem?_replicate] at ho
   split at ho
   ·cases ho; exact trivial
   ·cases ho
 ·intro i hi; exact hR.nolive i (by simp at hi; omega)
 ·intro i o ho hw
  rcases Nat.lt_or_ge i H.length with hi | hi
  ·rw [List.getElem?_append_left hi] at ho; exact .inr ⟨o,ho,hw⟩
  ·exact .inl (hR.nolive i hi)
theorem Rel.take {H H2:A7} {g g2:Ghost} {w w2:World} (hR:Rel MC P B0 H g w) (hE:Ext H g w H2 g2 w2) (hR2:Rel MC P B0 H2 g2 w2)
  (hbd:∀i,i < H.length→∀ o,H2[i]? = some o→o.bdP H.length) :
  Rel MC P B0 (H2.take H.length) (A4e H.length g2) w2∧Ext H g w (H2.take H.length) (A4e H.length g2) w2:= by
 have hlen:(H2.take H.length).length = H.length:= by have:=hE.len; simp; omega
 have:=hR.back (H1:=H) (H3:=H2.take H.length) rfl (fun i o h=>.inl h) hE hR2 (by omega) (by have:=hE.len; omega) ?_
 ·rw [hlen] at this; exact this
 ·intro i o3 h3
  rw [List.getElem?_take] at h3
  split at h3
  ·next hi=>exact .inl ⟨h3,by rw [hlen]; exact hbd i hi o3 h3,.inl rfl⟩
  ·cases h3
theorem D0r (o:AO):o.toRo.isW = false:= by cases o <;> rfl
theorem D8q (o:AO):o.toRo.rd = o.rd:= by cases o <;> rfl
theorem Rel.ro {H:A7} {g:Ghost} {w:World} (hR:Rel MC P B0 H g w):Rel MC P B0 (H.map AO.toRo) g w where
 phi:=hR.phi
 base:=hR.base
 inj:=hR.inj
 box:=fun i o ho=>by
  rw [List.getElem?_map] at ho
  cases hq:H[i]? with
  | none=>simp [hq] at ho
  | some o'=>simp [hq] at ho; subst ho; rw [D8q]; exact hR.box i o' hq
 nolive:=fun i hi=>hR.nolive i (by simpa using hi)
 b0:=hR.b0
theorem ScOk.ro {c:Sc} {H:A7} (h:ScOk c H):ScOk c (H.map AO.toRo) where
 cur:= by simpa using h.cur
 out:=h.out
 bd:=fun B hB i hi o ho=>by
  rw [List.getElem?_map] at ho
  cases hq:H[i]? with
  | none=>simp [hq] at ho
  | some o' =>
   simp [hq] at ho; subst ho
   have:=h.bd B hB i hi o' hq
   cases o' <;> exact this
theorem Rel.backRo {H H2:A7} {g g2:Ghost} {w w2:World} (hR:Rel MC P B0 H g w) (hE:Ext (H.map AO.toRo) g w H2 g2 w2) (hR2:Rel MC P B0 H2 g2 w2) :
  Rel MC P B0 H (A4e H.length g2) w2∧Ext H g w H (A4e H.length g2) w2:= by
 refine hR.back (H1:=H.map AO.toRo) (by simp) ?_ hE hR2 (Nat.le_refl _) (by have:=hE.len; simpa using this) ?_
 ·intro i o1 h1
  rw [List.getElem?_map] at h1
  cases hq:H[i]? with
  | none=>simp [hq] at h1
  | some o'=>simp [hq] at h1; subst h1; exact .inr (D0r o')
 ·intro i o3 h3
  exact .inr ⟨h3,o3.toRo,by rw [List.getElem?_map,h3]; rfl,D0r o3⟩
end
abbrev FE:=Nat × List (List AV) × Value
inductive RC (g:Ghost):AV→Value→List FE→Prop
 | fresh (k:Nat) (rows:List (List AV)) (u:Value) (h:u.oneCell' = true):RC g (.fresh k rows) u [(k,rows,u)]
 | val (v:AV) (u:Value) (h:V g v u):RC g v u []
inductive RCs (g:Ghost):List AV→List Value→List FE→Prop
 | nil:RCs g [] [] []
 | cons (v:AV) (u:Value) (f:List FE) (l:List AV) (us:List Value) (fs:List FE) (h:RC g v u f) (k:RCs g l us fs):RCs g (v :: l) (u :: us) (f++fs)
inductive RV (g:Ghost):AV→Value→List FE→Prop
 | agg (cs:List AV) (vs:Array Value) (fs:List FE) (h:RCs g cs vs.toList fs) (h1:∀x ∈ vs.toList,x.oneCell' = true):RV g (.agg cs) (.agg vs) fs
 | one (v:AV) (u:Value) (fs:List FE) (hv:∀cs,v ≠ .agg cs) (h:RC g v u fs):RV g v u fs
inductive RVs (g:Ghost):List AV→List Value→List FE→Prop
 | nil:RVs g [] [] []
 | cons (v:AV) (u:Value) (f:List FE) (l:List AV) (us:List Value) (fs:List FE) (h:RV g v u f) (k:RVs g l us fs):RVs g (v :: l) (u :: us) (f++fs)
theorem RC.mono {g g':Ghost} (hg:g.le g') {v:AV} {u:Value} {fs:List FE} (h:RC g v u fs):RC g' v u fs:= by
 cases h with
 | fresh k rows _ h=>exact .fresh k rows u h
 | val _ _ h=>exact .val v u (h.mono hg)
theorem RCs.mono {g g':Ghost} (hg:g.le g') {v:List AV} {u:List Value} {fs:List FE} (h:RCs g v u fs):RCs g' v u fs:= by
 induction h with
 | nil=>exact .nil
 | cons v u f l us fs h k ih=>exact .cons v u f l us fs (h.mono hg) ih
theorem RV.mono {g g':Ghost} (hg:g.le g') {v:AV} {u:Value} {fs:List FE} (h:RV g v u fs):RV g' v u fs:= by
 cases h with
 | agg cs vs _ h h1=>exact .agg cs vs fs (h.mono hg) h1
 | one _ _ _ hv h=>exact .one v u fs hv (h.mono hg)
theorem RVs.mono {g g':Ghost} (hg:g.le g') {v:List AV} {u:List Value} {fs:List FE} (h:RVs g v u fs):RVs g' v u fs:= by
 induction h with
 | nil=>exact .nil
 | cons v u f l us fs h k ih=>exact .cons v u f l us fs (h.mono hg) ih
theorem RC.cut {g:Ghost} {N:Nat} {v:AV} {u:Value} {fs:List FE} (h:RC g v u fs) (hb:v.bd N = true):RC (A4e N g) v u fs:= by
 cases h with
 | fresh k rows _ h=>exact .fresh k rows u h
 | val _ _ h=>exact .val v u (h.cut hb)
theorem RCs.cut {g:Ghost} {N:Nat} {v:List AV} {u:List Value} {fs:List FE} (h:RCs g v u fs) (hb:bdL N v = true):RCs (A4e N g) v u fs:= by
 induction h with
 | nil=>exact .nil
 | cons v u f l us fs h k ih=>simp only [bdL,Bool.and_eq_true] at hb; exact .cons v u f l us fs (h.cut hb.1) (ih hb.2)
theorem RV.cut {g:Ghost} {N:Nat} {v:AV} {u:Value} {fs:List FE} (h:RV g v u fs) (hb:v.bd N = true):RV (A4e N g) v u fs:= by
 cases h with
 | agg cs vs _ h h1=>exact .agg cs vs fs (h.cut (by simpa only [AV.bd] using hb)) h1
 | one _ _ _ hv h=>exact .one v u fs hv (h.cut hb)
theorem RVs.cut {g:Ghost} {N:Nat} {v:List AV} {u:List Value} {fs:List FE} (h:RVs g v u fs) (hb:bdL N v = true):RVs (A4e N g) v u fs:= by
 induction h with
 | nil=>exact .nil
 | cons v u f l us fs h k ih=>simp only [bdL,Bool.and_eq_true] at hb; exact .cons v u f l us fs (h.cut hb.1) (ih hb.2)
def FE.blk (e:FE):Option Nat:=(GB.arr e.1 e.2.2).blk
section
variable {MC:Nat→Code→ACode→Prop} {P:Program} {B0:Nat}
def OkB (B0:Nat) (H0:A7) (g0:Ghost) (w0:World) (β:Nat):Prop:=B0≤β∧(w0.heap.size≤β∨Held H0 g0 β)
theorem OkB.back {H H1:A7} {g g1:Ghost} {w w1:World} (hE:Ext H g w H1 g1 w1) {β:Nat} (h:OkB B0 H1 g1 w1 β):OkB B0 H g w β:= by
 refine ⟨h.1,?_⟩
 rcases h.2 with h2 | ⟨j,o,hj,hw,hb⟩
 ·exact .inl (Nat.le_trans hE.size h2)
 ·rcases hE.blk j β hb with h3 | h3 | h3
  ·rcases hE.wit j o hj hw with h4 | ⟨o2,h4,h5⟩
   ·rw [h4] at h3; simp [GB.blk] at h3
   ·exact .inr ⟨j,o2,h4,h5,h3⟩
  ·exact .inl h3
  ·exact .inr h3
theorem OkB.ofRo {H:A7} {g g1:Ghost} {w:World} {β:Nat} (h:OkB B0 (H.map AO.toRo) g1 w β):OkB B0 H g w β:= by
 refine ⟨h.1,?_⟩
 rcases h.2 with h2 | ⟨j,o,hj,hw,hb⟩
 ·exact .inl h2
 ·rw [List.getElem?_map] at hj
  cases hq:H[j]? with
  | none=>simp [hq] at hj
  | some o'=>simp [hq] at hj; subst hj; rw [D0r] at hw; cases hw
structure FOk (MC:Nat→Code→ACode→Prop) (P:Program) (g:Ghost) (w:World) (lo:Nat→Prop) (e:FE):Prop where
 box:A27 MC P g w (.arr e.1 false e.2.1) (.arr e.1 e.2.2)
 own:∀β,e.blk = some β→lo β∧β < w.heap.size∧∀ i,(g.L i).blk ≠ some β
def Apart (e f:FE):Prop:=∀ β,e.blk = some β→f.blk ≠ some β
structure FsOk (MC:Nat→Code→ACode→Prop) (P:Program) (g:Ghost) (w:World) (lo:Nat→Prop) (fs:List FE):Prop where
 ok:∀e ∈ fs,FOk MC P g w lo e
 apart:fs.Pairwise Apart
theorem FsOk.nil {g:Ghost} {w:World} {lo:Nat→Prop}:FsOk MC P g w lo []:=⟨by simp,.nil⟩
theorem FOk.turn {g g':Ghost} {w w':World} {lo:Nat→Prop} {e:FE} (h:FOk MC P g w lo e) (hle:g.le g') (hsize:w.heap.size≤w'.heap.size)
  (hb:∀β,e.blk = some β→w'.heap[β]? = w.heap[β]?∧∀ o,g'.Φ β o = g.Φ β o) (hL:∀i β,e.blk = some β→(g'.L i).blk ≠ some β):FOk MC P g' w' lo e :=
 ⟨h.box.mono hle hb,fun β hβ=>⟨(h.own β hβ).1,Nat.lt_of_lt_of_le (h.own β hβ).2.1 hsize,fun i=>hL i β hβ⟩⟩
theorem FOk.ext {H H':A7} {g g':Ghost} {w w':World} {lo:Nat→Prop} {e:FE} (h:FOk MC P g w lo e) (hE:Ext H g w H' g' w'):FOk MC P g' w' lo e:= by
 refine h.turn hE.le hE.size (fun β hβ=>?_) (fun i β hβ hc=>?_)
 ·obtain ⟨_,h2,h3⟩:=h.own β hβ
  exact hE.frame β h2 (fun i o _ _ hc=>h3 i hc)
 ·obtain ⟨_,h2,h3⟩:=h.own β hβ
  rcases hE.blk i β hc with h4 | h4 | ⟨j,_,_,_,h4⟩
  ·exact h3 i h4
  ·omega
  ·exact h3 j h4
theorem FsOk.ext {H H':A7} {g g':Ghost} {w w':World} {lo:Nat→Prop} {fs:List FE} (h:FsOk MC P g w lo fs) (hE:Ext H g w H' g' w'):FsOk MC P g' w' lo fs :=
 ⟨fun e he=>(h.ok e he).ext hE,h.apart⟩
theorem FOk.cut {g:Ghost} {w:World} {lo:Nat→Prop} {N:Nat} {e:FE} (h:FOk MC P g w lo e):FOk MC P (A4e N g) w lo e :=
 ⟨h.box.cut trivial,fun β hβ=>⟨(h.own β hβ).1,(h.own β hβ).2.1,fun i hc=>by
  simp only [A4e] at hc
  split at hc
  ·exact (h.own β hβ).2.2 i hc
  ·simp [GB.blk] at hc⟩⟩
theorem FsOk.cut {g:Ghost} {w:World} {lo:Nat→Prop} {N:Nat} {fs:List FE} (h:FsOk MC P g w lo fs):FsOk MC P (A4e N g) w lo fs :=
 ⟨fun e he=>(h.ok e he).cut,h.apart⟩
theorem FsOk.weaken {g:Ghost} {w:World} {lo lo':Nat→Prop} {fs:List FE} (h:FsOk MC P g w lo fs) (hl:∀β,lo β→lo' β):FsOk MC P g w lo' fs :=
 ⟨fun e he=>⟨(h.ok e he).box,fun β hβ=>⟨hl β ((h.ok e he).own β hβ).1,((h.ok e he).own β hβ).2⟩⟩,h.apart⟩
structure Going (MC:Nat→Code→ACode→Prop) (P:Program) (B0:Nat) (H:A7) (g:Ghost) (w:World) (H':A7) (g':Ghost):Prop where
 rel:Rel MC P B0 H' g' w
 ext:Ext H g w H' g' w
 len:H'.length = H.length
 unb:∀i,g.L i = .none→g'.L i = .none
 blk:∀i β,(g'.L i).blk = some β→(g.L i).blk = some β
theorem Going.refl {H:A7} {g:Ghost} {w:World} (hR:Rel MC P B0 H g w):Going MC P B0 H g w H g:=⟨hR,Ext.refl _ _ _,rfl,fun _ h=>h,fun _ _ h=>h⟩
theorem Going.trans {H H1 H2:A7} {g g1 g2:Ghost} {w:World} (h:Going MC P B0 H g w H1 g1) (k:Going MC P B0 H1 g1 w H2 g2):Going MC P B0 H g w H2 g2 :=
 ⟨k.rel,h.ext.trans k.ext,k.len.trans h.len,fun i hi=>k.unb i (h.unb i hi),fun i β hb=>h.blk i β (k.blk i β hb)⟩
theorem Froze.going {H H':A7} {g g':Ghost} {w:World} (h:Froze MC P B0 H g w H' g'):Going MC P B0 H g w H' g':=⟨h.rel,h.ext,h.len,fun i hi=>by rw [h.L]; exact hi,fun i β hb=>by rw [← h.L]; exact hb⟩
theorem Going.lo {H H':A7} {g g':Ghost} {w:World} {B:Nat} {lo:Nat→Prop} (h:Going MC P B0 H g w H' g') (hlo:∀i,B≤i→∀ β,(g.L i).blk = some β→lo β):∀i,B≤i→∀ β,(g'.L i).blk = some β→lo β :=
 fun i hi β hb=>hlo i hi β (h.blk i β hb)
theorem Rel.letgo {H:A7} {g:Ghost} {w:World} {b k:Nat} {rows:List (List AV)} {u:Value} (hR:Rel MC P B0 H g w) (hg:H[b]? = some (.arr k false rows)) (hL:g.L b = .arr k u) {lo:Nat→Prop} (hlo:∀β,(g.L b).blk = some β→lo β) :
  ∃ g',Going MC P B0 H g w (hset H b .dead) g'∧FOk MC P g' w lo (k,rows,u)∧(∀ β,(GB.arr k u).blk = some β→(g.L b).blk = some β)∧∀ i,i ≠ b→g'.L i = g.L i:= by
 have hb:=(List.getElem?_eq_some_iff.1 hg).1
 have hbox:A27 MC P g w (.arr k false rows) (.arr k u):= by have:=hR.box b _ hg; rw [hL] at this; exact this
 have hup:=hR.upd hb (.inl ⟨_,hg,rfl⟩) (o':=.dead) (gb':=.arr k (.slice none (slen u + 1) 0)) (Φ':=g.Φ) (w':=w) rfl rfl rfl (Nat.le_refl _) (fun _ _ _=>rfl)
  (by rw [hL]; exact .inr ⟨_,rfl,by simp [slen]⟩) (fun β hβ=>by simp [GB.blk] at hβ) (fun _ _ _ h=>h) (fun _ _ _ _=>rfl) (fun β off x h=>hR.phi β off x h) trivial
 refine ⟨_,⟨hup.1,hup.2,by simp [hset],fun i hi=>?_,fun i β hc=>?_⟩,⟨hbox.mono hup.2.le (fun β hβ=>⟨rfl,fun _=>rfl⟩),fun β hβ=>?_⟩,fun β hβ=>by rw [hL]; exact hβ,fun i hi=>by simp [K1,hi]⟩
 ·have:i ≠ b:= by rintro rfl; rw [hL] at hi; cases hi
  simpa [K1,this] using hi
 ·simp only [K1] at hc
  split at hc
  ·simp [GB.blk] at hc
  ·exact hc
 ·have hβ':(g.L b).blk = some β:= by rw [hL]; exact hβ
  refine ⟨hlo β hβ',(hR.base b β hβ').2,fun i hc=>?_⟩
  simp only [K1] at hc
  split at hc
  ·simp [GB.blk] at hc
  ·next hne=>exact hne (hR.inj i b β hc hβ')
theorem C11 {H H':A7} {g:Ghost} {w:World} {B:Nat} {lo:Nat→Prop} {v v':AV} {u:Value} (hR:Rel MC P B0 H g w) (hlo:∀i,B≤i→∀ β,(g.L i).blk = some β→lo β) (hV:V g v u) (h:A36 B H v = some (v',H')) :
  ∃ g' fs,Going MC P B0 H g w H' g'∧RC g' v' u fs∧FsOk MC P g' w lo fs∧∀ e,FOk MC P g w lo e→∀ f ∈ fs,Apart e f:= by
 have thaw:frv H v = some (v',H')→∃ g' fs,Going MC P B0 H g w H' g'∧RC g' v' u fs∧FsOk MC P g' w lo fs∧∀ e,FOk MC P g w lo e→∀ f ∈ fs,Apart e f:= by
  intro h
  obtain ⟨g',q,hV'⟩:=B7w hR hV h
  exact ⟨g',[],q.going,.val _ _ hV',.nil,by simp⟩
 cases v with
 | asl b n =>
  simp only [A36] at h
  split at h
  ·next k rows hw =>
   split at h
   ·next hB =>
    split at h
    ·next hn =>
     simp only [Option.some.injEq,Prod.mk.injEq] at h
     obtain ⟨rfl,rfl⟩:=h
     obtain ⟨v0,hL,hbox⟩:=hR.arrW hw
     have hg:=A31 hw
     have hb:=(List.getElem?_eq_some_iff.1 hg).1
     have hsl:=A4i hbox
     have e0:=B0d hV hL (by rw [hsl]; exact Nat.eq_of_beq_eq_true hn)
     subst e0
     have hB':B≤b:= by simpa using hB
     obtain ⟨g',q1,q2,q3,_⟩:=hR.letgo hg hL (lo:=lo) (hlo b hB')
     refine ⟨g',[(k,rows,u)],q1,.fresh k rows u ?_,⟨fun e he=>?_,by simp⟩,?_⟩
     ·cases hV with
      | den _ _ hd=>cases hd
      | asl _ _ _ _ _ _ _ h1=>exact h1
     ·simp at he; subst he; exact q2
     ·intro e he f hf β hβ hc
      simp at hf; subst hf
      exact (he.own β hβ).2.2 b (q3 β hc)
    ·cases h
   ·exact thaw h
  ·exact thaw h
 | nils k =>
  simp only [A36,Option.some.injEq,Prod.mk.injEq] at h
  obtain ⟨rfl,rfl⟩:=h
  cases hV with
  | den _ _ hd =>
   cases hd
   exact ⟨g,[],.refl hR,.val _ _ (.den _ _ (.seq0 k none 0)),.nil,by simp⟩
 | _ =>
  simp only [A36,Option.some.injEq,Prod.mk.injEq] at h
  obtain ⟨rfl,rfl⟩:=h
  exact ⟨g,[],.refl hR,.val _ _ hV,.nil,by simp⟩
theorem FsOk.app {g:Ghost} {w:World} {lo:Nat→Prop} {fs fs':List FE} (h:FsOk MC P g w lo fs) (k:FsOk MC P g w lo fs') (ha:∀e ∈ fs,∀ f ∈ fs',Apart e f):FsOk MC P g w lo (fs++fs') :=
 ⟨fun e he=>(List.mem_append.1 he).elim (h.ok e) (k.ok e),List.pairwise_append.2 ⟨h.apart,k.apart,ha⟩⟩
theorem B8r {w:World} {B:Nat} {lo:Nat→Prop}:∀{l l':List AV} {H H':A7} {g:Ghost} {us:List Value},Rel MC P B0 H g w→(∀ i,B≤i→∀ β,(g.L i).blk = some β→lo β)→us.length = l.length →
  (∀ (j:Nat) x,l[j]? = some x→V g x (us[j]?.getD undef))→A1r B H l = some (l',H') →
  ∃ g' fs,Going MC P B0 H g w H' g'∧RCs g' l' us fs∧FsOk MC P g' w lo fs∧∀ e,FOk MC P g w lo e→∀ f ∈ fs,Apart e f
 | [],l',H,H',g,us,hR,hlo,hl,hV,h=>by
  simp only [A1r,Option.some.injEq,Prod.mk.injEq] at h
  obtain ⟨rfl,rfl⟩:=h
  have:us = []:=List.length_eq_zero_iff.1 (by simpa using hl)
  subst this
  exact ⟨g,[],.refl hR,.nil,.nil,by simp⟩
 | v :: l,l',H,H',g,us,hR,hlo,hl,hV,h=>by
  obtain ⟨u,us,rfl⟩:∃u us',us = u :: us':= by cases us with | nil=>simp at hl | cons u us=>exact ⟨u,us,rfl⟩
  simp only [A1r] at h
  split at h
  ·cases h
  ·next v1 H1 e1 =>
   split at h
   ·cases h
   ·next l2 H2 e2 =>
    simp only [Option.some.injEq,Prod.mk.injEq] at h
    obtain ⟨rfl,rfl⟩:=h
    obtain ⟨g1,f1,q1,r1,k1,a1⟩:=C11 hR hlo (hV 0 v rfl) e1
    obtain ⟨g2,f2,q2,r2,k2,a2⟩:=B8r q1.rel (q1.lo hlo) (us:=us) (by simpa using hl) (fun j x hj=>(hV (j + 1) x hj).mono q1.ext.le) e2
    refine ⟨g2,f1++f2,q1.trans q2,.cons _ _ _ _ _ _ ?_ r2,(k1.ext q2.ext).app k2 (fun e he=>a2 e (k1.ok e he)),?_⟩
    ·exact RC.mono q2.ext.le r1
    ·intro e he f hf
     rcases List.mem_append.1 hf with hf | hf
     ·exact a1 e he f hf
     ·exact a2 e (he.ext q1.ext) f hf
theorem D0a {H H':A7} {g:Ghost} {w:World} {B:Nat} {lo:Nat→Prop} {v v':AV} {u:Value} (hR:Rel MC P B0 H g w) (hlo:∀i,B≤i→∀ β,(g.L i).blk = some β→lo β) (hV:V g v u) (h:A1k B H v = some (v',H')) :
  ∃ g' fs,Going MC P B0 H g w H' g'∧RV g' v' u fs∧FsOk MC P g' w lo fs∧∀ e,FOk MC P g w lo e→∀ f ∈ fs,Apart e f:= by
 have one:(∀ cs,v ≠ .agg cs)→A36 B H v = some (v',H')→(∃ g' fs,Going MC P B0 H g w H' g'∧RV g' v' u fs∧FsOk MC P g' w lo fs∧∀ e,FOk MC P g w lo e→∀ f ∈ fs,Apart e f):= by
  intro hv h
  obtain ⟨g',fs,q,r,k,a⟩:=C11 hR hlo hV h
  refine ⟨g',fs,q,.one _ _ _ ?_ r,k,a⟩
  intro cs hc; subst hc
  revert h
  cases v with
  | agg cs=>exact absurd rfl (hv cs)
  | asl b n =>
   simp only [A36,frv]
   intro h
   repeat' split at h
   all_goals simp at h
  | nils k=>simp [A36]
  | _=>simp [A36]
 cases v with
 | agg cs =>
  simp only [A1k] at h
  cases hq:A1r B H cs with
  | none=>simp [hq] at h
  | some r =>
   obtain ⟨cs',H1⟩:=r
   simp only [hq,Option.map_some,Option.some.injEq,Prod.mk.injEq] at h
   obtain ⟨rfl,rfl⟩:=h
   obtain ⟨vs,rfl,hl,hx⟩:=B2g hV
   obtain ⟨g',fs,q,r,k,a⟩:=B8r hR hlo (us:=vs.toList) (by simpa using hl) (fun j x hj=>by simpa using (hx j x hj).2.1) hq
   refine ⟨g',fs,q,.agg _ _ _ r ?_,k,a⟩
   intro x hx'
   obtain ⟨j,hj,rfl⟩:=List.mem_iff_getElem.1 hx'
   have hj':j < cs.length:= by simp at hj; omega
   have:=(hx j _ (List.getElem?_eq_getElem hj')).2.2
   simp at hj
   simpa [hj] using this
 | _=>exact one (by simp) h
theorem B8s {w:World} {B:Nat} {lo:Nat→Prop}:∀{l l':List AV} {H H':A7} {g:Ghost} {us:List Value},Rel MC P B0 H g w→(∀ i,B≤i→∀ β,(g.L i).blk = some β→lo β)→us.length = l.length →
  (∀ (j:Nat) x,l[j]? = some x→V g x (us[j]?.getD undef))→A0n B H l = some (l',H') →
  ∃ g' fs,Going MC P B0 H g w H' g'∧RVs g' l' us fs∧FsOk MC P g' w lo fs∧∀ e,FOk MC P g w lo e→∀ f ∈ fs,Apart e f
 | [],l',H,H',g,us,hR,hlo,hl,hV,h=>by
  simp only [A0n,Option.some.injEq,Prod.mk.injEq] at h
  obtain ⟨rfl,rfl⟩:=h
  have:us = []:=List.length_eq_zero_iff.1 (by simpa using hl)
  subst this
  exact ⟨g,[],.refl hR,.nil,.nil,by simp⟩
 | v :: l,l',H,H',g,us,hR,hlo,hl,hV,h=>by
  obtain ⟨u,us,rfl⟩:∃u us',us = u :: us':= by cases us with | nil=>simp at hl | cons u us=>exact ⟨u,us,rfl⟩
  simp only [A0n] at h
  split at h
  ·cases h
  ·next v1 H1 e1 =>
   split at h
   ·cases h
   ·next l2 H2 e2 =>
    simp only [Option.some.injEq,Prod.mk.injEq] at h
    obtain ⟨rfl,rfl⟩:=h
    obtain ⟨g1,f1,q1,r1,k1,a1⟩:=D0a hR hlo (hV 0 v rfl) e1
    obtain ⟨g2,f2,q2,r2,k2,a2⟩:=B8s q1.rel (q1.lo hlo) (us:=us) (by simpa using hl) (fun j x hj=>(hV (j + 1) x hj).mono q1.ext.le) e2
    refine ⟨g2,f1++f2,q1.trans q2,.cons _ _ _ _ _ _ ?_ r2,(k1.ext q2.ext).app k2 (fun e he=>a2 e (k1.ok e he)),?_⟩
    ·exact RV.mono q2.ext.le r1
    ·intro e he f hf
     rcases List.mem_append.1 hf with hf | hf
     ·exact a1 e he f hf
     ·exact a2 e (he.ext q1.ext) f hf
theorem D11 {c:Sc} {B:Nat} {H H':A7} {v v':AV} (h:ScOk c H) (hf:A36 B H v = some (v',H')):ScOk c H':= by
 unfold A36 at hf
 repeat' split at hf
 all_goals first
  | (cases hf; done)
  | exact C9n h hf
  | (simp only [Option.some.injEq,Prod.mk.injEq] at hf; obtain ⟨_,rfl⟩:=hf; first | exact h | exact h.setTriv _ .dead (fun _=>trivial))
theorem C73 {c:Sc} {B:Nat}:∀{l l':List AV} {H H':A7},ScOk c H→A1r B H l = some (l',H')→ScOk c H'
 | [],l',H,H',h,hf=>by simp only [A1r,Option.some.injEq,Prod.mk.injEq] at hf; exact hf.2 ▸ h
 | v :: l,l',H,H',h,hf=>by
  simp only [A1r] at hf
  split at hf
  ·cases hf
  ·next v1 H1 e1 =>
   split at hf
   ·cases hf
   ·next l2 H2 e2 =>
    simp only [Option.some.injEq,Prod.mk.injEq] at hf
    exact hf.2 ▸ C73 (D11 h e1) e2
theorem D8d {c:Sc} {B:Nat} {H H':A7} {v v':AV} (h:ScOk c H) (hf:A1k B H v = some (v',H')):ScOk c H':= by
 unfold A1k at hf
 split at hf
 ·next cs =>
  cases hl:A1r B H cs with
  | none=>simp [hl] at hf
  | some r=>simp only [hl,Option.map_some,Option.some.injEq,Prod.mk.injEq] at hf; exact hf.2 ▸ C73 h (l':=r.1) (H':=r.2) hl
 ·exact D11 h hf
theorem C75 {c:Sc} {B:Nat}:∀{l l':List AV} {H H':A7},ScOk c H→A0n B H l = some (l',H')→ScOk c H'
 | [],l',H,H',h,hf=>by simp only [A0n,Option.some.injEq,Prod.mk.injEq] at hf; exact hf.2 ▸ h
 | v :: l,l',H,H',h,hf=>by
  simp only [A0n] at hf
  split at hf
  ·cases hf
  ·next v1 H1 e1 =>
   split at hf
   ·cases hf
   ·next l2 H2 e2 =>
    simp only [Option.some.injEq,Prod.mk.injEq] at hf
    exact hf.2 ▸ C75 (D8d h e1) e2
theorem A5b {j r:Nat}:∀{own:List (Nat × Nat)},A1z j own = some r→r ∈ own.map (·.2)
 | [],h=>by cases h
 | x :: l,h=>by
  simp only [A1z] at h
  cases hb:Nat.beq x.1 j with
  | true=>simp [hb] at h; simp [h]
  | false=>simp only [hb,cond_false] at h; exact List.mem_cons_of_mem _ (A5b h)
theorem C19 {j j' r:Nat}:∀{own:List (Nat × Nat)},(own.map (·.2)).Nodup→A1z j own = some r→A1z j' own = some r→j = j'
 | [],_,h,_=>by cases h
 | x :: l,hn,h,h'=>by
  simp only [List.map_cons,List.nodup_cons] at hn
  simp only [A1z] at h h'
  cases hb:Nat.beq x.1 j <;> cases hb':Nat.beq x.1 j' <;> simp only [hb,hb',cond_true,cond_false,Option.some.injEq] at h h'
  ·exact C19 hn.2 h h'
  ·exact absurd (h' ▸ A5b h) hn.1
  ·exact absurd (h ▸ A5b h') hn.1
  ·rw [← Nat.eq_of_beq_eq_true hb,← Nat.eq_of_beq_eq_true hb']
structure Coming (MC:Nat→Code→ACode→Prop) (P:Program) (B0:Nat) (H0:A7) (g0:Ghost) (w0:World) (H:A7) (g:Ghost) (w:World) (H':A7) (g':Ghost) (X:List Nat):Prop where
 rel:Rel MC P B0 H' g' w
 ext:Ext H0 g0 w0 H' g' w
 le:g.le g'
 len:H'.length = H.length
 same:∀i,i ∉ X→g'.L i = g.L i
theorem Rel.take_over {H0 H:A7} {g0 g:Ghost} {w0 w:World} (hE:Ext H0 g0 w0 H g w) (hR:Rel MC P B0 H g w) {i k:Nat} {rows:List (List AV)} {u:Value} (hi:i < H.length) (hn:g.L i = .none)
  (hf:FOk MC P g w (OkB B0 H0 g0 w0) (k,rows,u)):Rel MC P B0 (H.set i (.arr k false rows)) ⟨K1 g.L i (.arr k u),g.Φ,g.gl⟩ w∧Ext H0 g0 w0 (H.set i (.arr k false rows)) ⟨K1 g.L i (.arr k u),g.Φ,g.gl⟩ w:= by
 have hle:g.le ⟨K1 g.L i (.arr k u),g.Φ,g.gl⟩:=⟨fun j=>by
  by_cases e:j = i
  ·subst e; rw [hn]; trivial
  ·simp only [K1,if_neg e]; exact GB.le_refl _,fun _ _ _ h=>h⟩
 have hn0:g0.L i = .none:= by
  have:=hE.le.L i
  cases hg:g0.L i with
  | none=>rfl
  | arr k v =>
   rw [hg,hn] at this
   rcases this with h | ⟨_,h,_⟩ <;> cases h
  | _=>rw [hg,hn] at this; cases this
 refine ⟨⟨hR.phi,?_,?_,?_,?_,hR.b0⟩,⟨by simpa using hE.len,hE.os,hE.tape,hE.output,hE.size,hE.le.trans hle,?_,?_,?_,?_⟩⟩
 ·intro j β hb
  by_cases e:j = i
  ·subst e; simp only [K1,if_true] at hb
   have:=hf.own β hb
   exact ⟨this.1.1,this.2.1⟩
  ·simp only [K1,if_neg e] at hb; exact hR.base j β hb
 ·intro j j' β hj hj'
  simp only [K1] at hj hj'
  split at hj <;> split at hj'
  ·omega
  ·exact absurd hj' ((hf.own β hj).2.2 _)
  ·exact absurd hj ((hf.own β hj').2.2 _)
  ·exact hR.inj j j' β hj hj'
 ·intro j o ho
  rw [List.getElem?_set] at ho
  by_cases e:i = j
  ·subst e
   rw [if_pos rfl,if_pos hi] at ho
   cases ho
   simp only [K1,if_true,AO.rd]
   exact hf.box.mono hle (fun β _=>⟨rfl,fun _=>rfl⟩)
  ·rw [if_neg e] at ho
   have hne:j ≠ i:=fun h=>e h.symm
   simp only [K1,if_neg hne]
   exact (hR.box j o ho).mono hle (fun β _=>⟨rfl,fun _=>rfl⟩)
 ·intro j hj
  have hne:j ≠ i:= by have:H.length≤j:= by simpa using hj
                      omega
  simp only [K1,if_neg hne]
  exact hR.nolive j (by simpa using hj)
 ·intro j β hb
  simp only [K1] at hb
  split at hb
  ·exact .inr (hf.own β hb).1.2
  ·exact hE.blk j β hb
 ·intro j o ho hw hnn
  simp only [K1]
  split
  ·next e=>subst e; exact absurd hn0 hnn
  ·exact hE.keep j o ho hw hnn
 ·intro j o' ho' hw'
  by_cases e:j = i
  ·subst e; exact .inl hn0
  ·rw [List.getElem?_set,if_neg (fun h=>e h.symm)] at ho'
   exact hE.wit j o' ho' hw'
 ·exact hE.frame
theorem B30 {g:Ghost} {β:Nat} (hΦ:∀o,g.Φ β o = none) (cur:Array Value):∀b o v,g.Φ b o = some v→(fun b o=>if b = β then cur[o]? else g.Φ b o) b o = some v:=fun b o v h=>by
  simp only
  split
  ·next e=>subst e; rw [hΦ] at h; cases h
  ·exact h
theorem Rel.freeze {H0 H:A7} {g0 g:Ghost} {w0 w:World} (hE:Ext H0 g0 w0 H g w) (hR:Rel MC P B0 H g w) {β:Nat} (hβ:β < w.heap.size) (hlo:OkB B0 H0 g0 w0 β) (hown:∀i,(g.L i).blk ≠ some β) (hΦ:∀o,g.Φ β o = none)
  {cur:Array Value} {e:TypeId} (hg:w.heap[β]? = some (.cells cur e (0,0))) :
  Rel MC P B0 H ⟨g.L,fun b o=>if b = β then cur[o]? else g.Φ b o,g.gl.mono (B30 hΦ cur)⟩ w∧Ext H0 g0 w0 H ⟨g.L,fun b o=>if b = β then cur[o]? else g.Φ b o,g.gl.mono (B30 hΦ cur)⟩ w:= by
 have hle:g.le ⟨g.L,fun b o=>if b = β then cur[o]? else g.Φ b o,g.gl.mono (B30 hΦ cur)⟩:=⟨fun _=>GB.le_refl _,fun b o v h=>by
  simp only
  split
  ·next e=>subst e; rw [hΦ] at h; cases h
  ·exact h⟩
 refine ⟨⟨?_,hR.base,hR.inj,?_,hR.nolive,hR.b0⟩,⟨hE.len,hE.os,hE.tape,hE.output,hE.size,hE.le.trans hle,hE.blk,hE.keep,hE.wit,?_⟩⟩
 ·intro b o v h
  simp only at h
  split at h
  ·next e=>subst e; simp [World.cell?,hg,h]
  ·exact hR.phi b o v h
 ·intro i o ho
  refine (hR.box i o ho).mono hle (fun b hb=>⟨rfl,fun o=>?_⟩)
  simp only
  rw [if_neg (by rintro rfl; exact hown i hb)]
 ·intro b hb hn
  obtain ⟨h1,h2⟩:=hE.frame b hb hn
  refine ⟨h1,fun o=>?_⟩
  simp only
  rw [if_neg]
  ·exact h2 o
  ·rintro rfl
   rcases hlo.2 with h3 | ⟨j,oj,h3,h4,h5⟩
   ·omega
   ·exact hn j oj h3 h4 h5
theorem C4m {H0 H:A7} {g0 g:Ghost} {w0 w:World} {n0 j:Nat} {own:List (Nat × Nat)} {v:AV} {u:Value} {fs rest:List FE} (hE:Ext H0 g0 w0 H g w) (hR:Rel MC P B0 H g w)
  (hv:RC g v u fs) (hfs:FsOk MC P g w (OkB B0 H0 g0 w0) (fs++rest)) (hr:∀r,A1z j own = some r→n0 + r < H.length∧g.L (n0 + r) = .none) :
  ∃ g',V g' (inC n0 H own j v).1 u∧Coming MC P B0 H0 g0 w0 H g w (inC n0 H own j v).2 g' ((A1z j own).toList.map (n0 + ·))∧FsOk MC P g' w (OkB B0 H0 g0 w0) rest:= by
 cases hv with
 | val _ _ h =>
  have e:inC n0 H own j v = (v,H):= by
   cases v <;> first | rfl | (cases h with | den _ _ hd=>cases hd)
  rw [e]
  exact ⟨g,h,⟨hR,hE,Ghost.le_refl g,rfl,fun _ _=>rfl⟩,by simpa using hfs⟩
 | fresh k rows _ h1 =>
  have hf:=hfs.ok (k,rows,u) (by simp)
  have hap:=hfs.apart
  simp only [List.singleton_append,List.pairwise_cons] at hap
  simp only [inC]
  cases hrk:A1z j own with
  | some r =>
   obtain ⟨hi,hn⟩:=hr r hrk
   obtain ⟨q1,q2⟩:=Rel.take_over hE hR hi hn hf
   have hle:g.le ⟨K1 g.L (n0 + r) (.arr k u),g.Φ,g.gl⟩:=⟨fun i=>by
    by_cases e:i = n0 + r
    ·subst e; rw [hn]; trivial
    ·simp only [K1,if_neg e]; exact GB.le_refl _,fun _ _ _ h=>h⟩
   refine ⟨⟨K1 g.L (n0 + r) (.arr k u),g.Φ,g.gl⟩,?_,⟨q1,q2,hle,by simp [hset],fun i hi=>?_⟩,⟨fun e he=>?_,hap.2⟩⟩
   ·have hsl:=A4i hf.box
    exact .asl _ _ k u _ (by simp [K1]) (by rw [hsl]; exact Nat.le_refl _) h1 (fun _=>rfl)
   ·simp at hi; simp [K1,hi]
   ·refine (hfs.ok e (by simp [he])).turn hle (Nat.le_refl _) (fun _ _=>⟨rfl,fun _=>rfl⟩) (fun i β hβ hc=>?_)
    simp only [K1] at hc
    split at hc
    ·exact hap.1 e he β hc hβ
    ·exact ((hfs.ok e (by simp [he])).own β hβ).2.2 i hc
  | none =>
   obtain ⟨_,hk,hlen,h4⟩:=hf.box
   rcases h4 with ⟨hr0,hu0⟩ | ⟨β,cp,e,cur,hu0,h5,h6,h7,h8,h9,h10,h11⟩
   ·simp only at hr0 hu0
    subst hr0; subst hu0
    exact ⟨g,.den _ _ (.seq0 k none 0),⟨hR,hE,Ghost.le_refl g,rfl,fun _ _=>rfl⟩,⟨fun e he=>hfs.ok e (by simp [he]),hap.2⟩⟩
   ·simp only at hu0 h5 h9 hlen
    subst hu0
    obtain ⟨o1,o2,o3⟩:=hf.own β rfl
    have hΦ:=h10 rfl
    obtain ⟨q1,q2⟩:=Rel.freeze hE hR o2 o1 o3 hΦ h7
    have hle:g.le ⟨g.L,fun b o=>if b = β then cur[o]? else g.Φ b o,g.gl.mono (B30 hΦ cur)⟩:=⟨fun _=>GB.le_refl _,fun b o v h=>by
     simp only
     split
     ·next e=>subst e; rw [hΦ] at h; cases h
     ·exact h⟩
    refine ⟨_,?_,⟨q1,q2,hle,rfl,fun _ _=>rfl⟩,⟨fun e he=>?_,hap.2⟩⟩
    ·refine .den _ _ (.seq k rows ⟨β,0,none⟩ cp (fun i j=>cur[i * k + j]?.getD undef) rfl h5 hlen (fun i r j x hi hj=>?_) (fun i r j x hi hj=>?_))
     ·obtain ⟨x',hx',_⟩:=h9 i r j x hi hj
      simp [hx']
     ·obtain ⟨x',hx',hd⟩:=h9 i r j x hi hj
      simp only [hx',Option.getD_some]
      exact hd.mono hle.Φ
    ·have hfe:=hfs.ok e (by simp [he])
     refine hfe.turn hle (Nat.le_refl _) (fun b hb=>⟨rfl,fun o=>?_⟩) (fun i b hb=>(hfe.own b hb).2.2 i)
     simp only
     rw [if_neg]
     rintro rfl
     exact hap.1 e he b rfl hb
theorem C01 {H0:A7} {g0:Ghost} {w0 w:World} {n0:Nat} {own:List (Nat × Nat)} (hnd:(own.map (·.2)).Nodup):∀{l:List AV} {us:List Value} {fs rest:List FE} {j:Nat} {H:A7} {g:Ghost},Ext H0 g0 w0 H g w→Rel MC P B0 H g w →
  RCs g l us fs→FsOk MC P g w (OkB B0 H0 g0 w0) (fs++rest)→(∀ j' r,j≤j'→A1z j' own = some r→n0 + r < H.length∧g.L (n0 + r) = .none) →
  ∃ g',(∀ (i:Nat) x,(A6o n0 H own j l).1[i]? = some x→V g' x (us[i]?.getD undef))∧(A6o n0 H own j l).1.length = us.length∧Coming MC P B0 H0 g0 w0 H g w (A6o n0 H own j l).2 g' ((own.map (·.2)).map (n0 + ·))∧FsOk MC P g' w (OkB B0 H0 g0 w0) rest
 | [],us,fs,rest,j,H,g,hE,hR,h,hfs,hr=>by
  cases h
  exact ⟨g,by simp [A6o],rfl,⟨hR,hE,Ghost.le_refl g,rfl,fun _ _=>rfl⟩,hfs⟩
 | v :: l,us,fs,rest,j,H,g,hE,hR,h,hfs,hr=>by
  cases h with
  | cons _ u f _ us fs h k =>
  rw [List.append_assoc] at hfs
  obtain ⟨g1,v1,c1,f1⟩:=C4m (own:=own) (j:=j) (n0:=n0) hE hR h hfs (fun r hrk=>hr j r (Nat.le_refl _) hrk)
  obtain ⟨g2,v2,l2,c2,f2⟩:=C01 hnd (l:=l) (j:=j + 1) c1.ext c1.rel (k.mono c1.le) f1 (fun j' r hj hrk=>by
   obtain ⟨q1,q2⟩:=hr j' r (by omega) hrk
   refine ⟨by rw [c1.len]; exact q1,?_⟩
   rw [c1.same _ ?_]; exact q2
   intro hm
   simp only [List.mem_map,Option.mem_toList] at hm
   obtain ⟨r',hr',he⟩:=hm
   have:r' = r:= by omega
   subst this
   have:=C19 hnd hr' hrk
   omega)
  refine ⟨g2,?_,by simp [A6o,l2],⟨c2.rel,c2.ext,c1.le.trans c2.le,c2.len.trans c1.len,fun i hi=>?_⟩,f2⟩
  ·intro i x hx
   simp only [A6o] at hx
   rcases i with _ | i
   ·simp at hx; subst hx; exact v1.mono c2.le
   ·simp at hx; exact v2 i x hx
  ·rw [c2.same i hi,c1.same i ?_]
   intro hm
   simp only [List.mem_map,Option.mem_toList] at hm
   obtain ⟨r',hr',he⟩:=hm
   exact hi (by subst he; exact List.mem_map_of_mem (A5b hr'))
theorem D2y {H0 H:A7} {g0 g:Ghost} {w0 w:World} {n0:Nat} {own:List (Nat × Nat)} (hnd:(own.map (·.2)).Nodup) {v:AV} {u:Value} {fs rest:List FE} (hE:Ext H0 g0 w0 H g w) (hR:Rel MC P B0 H g w)
  (hv:RV g v u fs) (hfs:FsOk MC P g w (OkB B0 H0 g0 w0) (fs++rest)) (hr:∀r ∈ own.map (·.2),n0 + r < H.length∧g.L (n0 + r) = .none) :
  ∃ g',V g' (inV n0 H own v).1 u∧Coming MC P B0 H0 g0 w0 H g w (inV n0 H own v).2 g' ((own.map (·.2)).map (n0 + ·))∧FsOk MC P g' w (OkB B0 H0 g0 w0) rest:= by
 cases hv with
 | agg cs vs _ h h1 =>
  obtain ⟨g',q1,q2,q3,q4⟩:=C01 (n0:=n0) (j:=0) hnd hE hR h hfs (fun j' r _ hrk=>hr r (A5b hrk))
  refine ⟨g',?_,q3,q4⟩
  simp only [inV]
  refine .agg _ vs (by rw [q2]; simp) (fun j x hj=>by simpa using q1 j x hj) (fun j x hj=>?_)
  have hj':j < vs.size:= by have:=(List.getElem?_eq_some_iff.1 hj).1; rw [q2] at this; simpa using this
  simpa [hj'] using h1 vs[j] (by simp)
 | one _ _ _ hv h =>
  have e:inV n0 H own v = inC n0 H own 0 v:= by cases v <;> first | rfl | exact absurd rfl (hv _)
  rw [e]
  obtain ⟨g',q1,q2,q3⟩:=C4m (own:=own) (j:=0) (n0:=n0) hE hR h hfs (fun r hrk=>hr r (A5b hrk))
  refine ⟨g',q1,⟨q2.rel,q2.ext,q2.le,q2.len,fun i hi=>q2.same i (fun hm=>hi ?_)⟩,q3⟩
  simp only [List.mem_map,Option.mem_toList] at hm
  obtain ⟨r',hr',he⟩:=hm
  subst he; exact List.mem_map_of_mem (A5b hr')
theorem B45 {H0:A7} {g0:Ghost} {w0 w:World} {n0:Nat}:∀{l:List AV} {own:List (List (Nat × Nat))} {us:List Value} {fs rest:List FE} {H:A7} {g:Ghost},(own.flatMap fun q=>q.map (·.2)).Nodup→Ext H0 g0 w0 H g w→Rel MC P B0 H g w →
  RVs g l us fs→FsOk MC P g w (OkB B0 H0 g0 w0) (fs++rest)→(∀ r ∈ own.flatMap fun q=>q.map (·.2),n0 + r < H.length∧g.L (n0 + r) = .none) →
  ∃ g',(∀ (i:Nat) x,(A1e n0 H l own).1[i]? = some x→V g' x (us[i]?.getD undef))∧(A1e n0 H l own).1.length = us.length∧Coming MC P B0 H0 g0 w0 H g w (A1e n0 H l own).2 g' ((own.flatMap fun q=>q.map (·.2)).map (n0 + ·))∧FsOk MC P g' w (OkB B0 H0 g0 w0) rest
 | [],own,us,fs,rest,H,g,hnd,hE,hR,h,hfs,hr=>by
  cases h
  exact ⟨g,by simp [A1e],rfl,⟨hR,hE,Ghost.le_refl g,rfl,fun _ _=>rfl⟩,hfs⟩
 | v :: l,own,us,fs,rest,H,g,hnd,hE,hR,h,hfs,hr=>by
  cases h with
  | cons _ u f _ us fs h k =>
  rw [List.append_assoc] at hfs
  have split:(own.flatMap fun q=>q.map (·.2)) = (own.headD []).map (·.2)++own.tail.flatMap fun q=>q.map (·.2):= by cases own <;> simp
  rw [split] at hnd hr ⊢
  obtain ⟨n1,n2,n3⟩:=List.nodup_append.1 hnd
  obtain ⟨g1,v1,c1,f1⟩:=D2y (n0:=n0) (own:=own.headD []) n1 hE hR h hfs (fun r hrk=>hr r (List.mem_append_left _ hrk))
  obtain ⟨g2,v2,l2,c2,f2⟩:=B45 (l:=l) (own:=own.tail) n2 c1.ext c1.rel (k.mono c1.le) f1 (fun r hrk=>by
   obtain ⟨q1,q2⟩:=hr r (List.mem_append_right _ hrk)
   refine ⟨by rw [c1.len]; exact q1,?_⟩
   rw [c1.same _ ?_]; exact q2
   intro hm
   obtain ⟨r',hr',he⟩:=List.mem_map.1 hm
   have:r' = r:= by omega
   subst this
   exact n3 r' hr' r' hrk rfl)
  refine ⟨g2,?_,by simp only [A1e,List.length_cons,l2],⟨c2.rel,c2.ext,c1.le.trans c2.le,c2.len.trans c1.len,fun i hi=>?_⟩,f2⟩
  ·intro i x hx
   simp only [A1e] at hx
   rcases i with _ | i
   ·simp only [List.getElem?_cons_zero,Option.some.injEq] at hx; subst hx; exact v1.mono c2.le
   ·simp only [List.getElem?_cons_succ] at hx; exact v2 i x hx
  ·simp only [List.map_append,List.mem_append,not_or] at hi
   rw [c2.same i hi.2,c1.same i hi.1]
end
theorem D5j {c:Sc} {n0:Nat} (hn:c.cur≤n0) {H:A7} {own:List (Nat × Nat)} {j:Nat} {v:AV} (h:ScOk c H):ScOk c (inC n0 H own j v).2:= by
 unfold inC
 repeat' split
 all_goals first | exact h | exact h.setNew _ (by omega) _
theorem D1i {c:Sc} {n0:Nat} (hn:c.cur≤n0) {own:List (Nat × Nat)}:∀{l:List AV} {j:Nat} {H:A7},ScOk c H→ScOk c (A6o n0 H own j l).2
 | [],j,H,h=>h
 | v :: l,j,H,h=>by simp only [A6o]; exact D1i hn (D5j hn h)
theorem D9i {c:Sc} {n0:Nat} (hn:c.cur≤n0) {H:A7} {own:List (Nat × Nat)} {v:AV} (h:ScOk c H):ScOk c (inV n0 H own v).2:= by
 unfold inV
 split
 ·exact D1i hn h
 ·exact D5j hn h
theorem C55 {c:Sc} {n0:Nat} (hn:c.cur≤n0):∀{l:List AV} {own:List (List (Nat × Nat))} {H:A7},ScOk c H→ScOk c (A1e n0 H l own).2
 | [],own,H,h=>h
 | v :: l,own,H,h=>by simp only [A1e]; exact C55 hn (D9i hn h)
def B5a:List Nat→Bool
 | []=>true
 | x :: l=>!l.contains x && B5a l
theorem A8q:∀{l:List Nat},B5a l = true→l.Nodup
 | [],_=>.nil
 | x :: l,h=>by
  simp only [B5a,Bool.and_eq_true,Bool.not_eq_true',List.contains_eq_mem,decide_eq_false_iff_not] at h
  exact List.nodup_cons.2 ⟨h.1,A8q h.2⟩
def B48 (ops:Array Oper):Option (Nat × Bool)→Option (Nat × Bool)→Bool
 | none,none=>true
 | some (j,want),some (t,want')=>want == want' && (match ops[j]? with | some q=>q.dst == some t | none=>false)
 | _,_=>false
def A77 (P:Program) (ops:Array Oper) (nt:Nat) (ao:AOper):Bool :=
 match ops[ao.src]? with
 | none=>false
 | some o=>D7 P o.op ao.op && D8b ao.op && o.dst == ao.dst && (match ao.dst with | some d=>decide (d < nt) | none=>true) && B48 ops o.guard ao.guard
def masks (ops:List Oper) (acc:List Nat):List Nat :=
 match ops with
 | []=>acc
 | o :: l=>masks l (acc++[o.after.toList.foldl (fun m e=>if Region.binds .any e then m ||| 2 ^ e.on ||| acc.getD e.on 0 else m) 0])
def A5c (op:AOp):Bool:=(T9 op).isSome || (match op with | .call ..=>true | _=>false) || writes op
def isR (op:AOp):Bool:=(T9 op).isSome
def P6:Opd→List Nat
 | .t i=>[i]
 | _=>[]
def B6r:Option Opd→List Nat
 | some x=>P6 x
 | none=>[]
def A4a:AOp→List Nat
 | .mv x | .mvz x | .storeN x _ _ | .box _ x _ | .load _ x | .nilck x | .un _ x | .conv _ x | .idc x | .nilq _ x | .fieldAddr _ x | .field _ _ x | .range x _ | .next x | .extract x _ | .lenS x | .lenL x | .lenM x=>P6 x
 | .pick x y z | .mupd _ _ x y z=>P6 x++P6 y++P6 z
 | .nil _ _ | .alloc _ _ _ | .mkmap _=>[]
 | .build _ ps=>ps.flatMap fun q=>P6 q.2.2
 | .lits _ _ _ ps _ | .xlits _ _ _ ps=>ps.flatMap fun q=>P6 q.2
 | .store _ x y | .bin _ x y | .beq _ x y | .cmp _ _ x y | .idxS _ x y | .idxA _ _ x y | .idxStr x y | .idxAgg _ _ _ x y | .lookup _ _ _ x y _ | .append _ _ x y _ _ | .copy _ x y | .mkslice _ _ _ x y _=>P6 x++P6 y
 | .mkfn _ x y=>x.flatMap P6++y.flatMap P6
 | .sliceS x l h | .sliceL _ x l h | .sliceQ _ x l h=>P6 x++B6r l++B6r h
 | .mm _ xs=>xs.flatMap P6
 | .cut _ x h _ | .sliceA _ _ x h=>P6 x++B6r h
 | .call f aq _ _=>P6 f++aq.flatMap P6
def B0a (o:AOper):List Nat:=A4a o.op++(match o.guard with | some (t,_)=>[t] | none=>[])++o.hida.map (·.1)
def D4g (l m:List Nat):Bool:=l.all fun x=>!m.contains x
def D0q (l m:List Nat):Bool:=l.all fun x=>m.contains x
def C0l (a x:AOper):Bool :=
 (match a.dst with | some d=>!(B0a x).contains d && !(x.dst == some d) | none=>true) && (match x.dst with | some d=>!(B0a a).contains d | none=>true)
def A97 (a x:AOper) (n:Nat):Bool :=
 C0l a x &&
 (match writes a.op,writes x.op with
  | false,false=>(!A5c a.op || D0q (F4 x.op) a.hid) && (!A5c x.op || D0q (F4 a.op) x.hid)
  | true,false=>if isR x.op then Nat.ble n x.inc else !A5c x.op && D0q (F4 x.op) a.hid
  | false,true=>!A5c a.op && D0q (F4 a.op) x.hid
  | true,true=>false)
def A43 (ms:List Nat) (a:AOper):Nat→List AOper→Bool
 | _,[]=>true
 | n,x :: l=>((ms.getD x.src 0).testBit a.src || A97 a x n) && A43 ms a (if writes x.op then n + 1 else n) l
def A70 (ms:List Nat):List AOper→Bool
 | []=>true
 | a :: l=>A43 ms a (if writes a.op then 1 else 0) l && A70 ms l
def A9f (o:AOper):Bool:=(writes o.op || o.hida.isEmpty) && D4g (F4 o.op) o.hid
def B7p (ops:List Oper):Bool:=ops.zipIdx.all fun x=>x.1.after.toList.all fun e=>!Region.binds .any e || decide (e.on < x.2)
def C9h (ops:Array Oper) (l:List AOper):Bool :=
 B7p ops.toList && A70 (masks ops.toList []) l && l.all A9f && B5a (l.map (·.src)) && l.length == ops.size
def A9c:ACode→Bool
 | .seq a b | .cond _ a b=>A9c a && A9c b
 | .block _ a | .loop _ _ a | .scope a=>A9c a
 | .rangeFunc ..=>false
 | _=>true
def B21 (P:Program) (nt:Nat) (ops:Array Oper) (draw draw':Bool) (nres:Nat) (l:List AOper):Bool :=
 draw == draw' && (l.all fun o=>A77 P ops nt o) && ((l.flatMap fun o=>F4 o.op).all fun r=>decide (r < nres)) && B5a (l.flatMap fun o=>F4 o.op) &&
 (if draw then C9h ops l else l.map (·.src) == List.range ops.size)
def K6 (P:Program) (nt:Nat):Code→ACode→Bool
 | .skip,.skip=>true
 | .label _,.skip=>true
 | .region _ ops d,.region d' nres _ l _=>B21 P nt ops d d' nres l
 | .seq a b,.seq a' b'=>K6 P nt a a' && K6 P nt b b'
 | .cond c a b,.cond c' a' b'=>E5 c c' && K6 P nt a a' && K6 P nt b b'
 | .block id a,.block id' a'=>id == id' && K6 P nt a a'
 | .loop a,.loop _ _ a'=>K6 P nt a a'
 | .rangeFunc f ps aq bd,.rangeFunc f' ps' _ as' bd'=>E5 f f' && ps.toList == ps' && (ps'.all fun t=>decide (t < nt)) && A9c as' && A9c bd' && K6 P nt aq as' && K6 P nt bd bd'
 | .scope a,.scope a'=>K6 P nt a a'
 | .exit id,.exit id'=>id == id'
 | .ret,.ret=>true
 | _,_=>false
def A69 (P:Program):ResultVar→ARes→Bool
 | .tmp t,.tmp t'=>t == t'
 | .cell a t,.cell a' k=>a == a' && A7r P t k && (match k with | some 0=>false | _=>true)
 | _,_=>false
def A2l (P:Program):List ResultVar→List ARes→Bool
 | [],[]=>true
 | x :: l,y :: m=>A69 P x y && A2l P l m
 | _,_=>false
def D3 (P:Program) (fn:Func) (af:AFunc):Bool :=
 fn.name != "runtime.NumGoroutine" && (match fn.body with | some c=>K6 P fn.ntmps c af.body | none=>false) && decide (af.nargs≤fn.ntmps) && A2l P fn.results.toList af.results
def C3t (P:Program) (T:Tab):Prop:=∀ i af,T i = some af→∃ fn,P.funcs[i]? = some fn∧D3 P fn af = true
section
variable {P:Program} {b:Frame} {a:Act} {k:List Item} {cs:List Frame} {w w':World} {ops:Array Oper}
def Arr (P:Program) (m:Machine) (b:Frame) (k:List Item) (cs:List Frame):Ex→Act→World→Prop
 | .normal,a,w=>Steps P m (lone (b.atR a k) cs w)
 | .exit id,a,w=>∃ k',exitTo id k' = exitTo id k∧Steps P m (lone (b.atR a (.code (.exit id) :: k')) cs w)
 | .ret,a,w=>∃ k',Steps P m (lone (b.atR a (.code .ret :: k')) cs w)
theorem Arr.of_steps {m m1:Machine} {e:Ex} (h:Steps P m m1) (h':Arr P m1 b k cs e a w):Arr P m b k cs e a w:= by
 cases e with
 | normal=>exact h.trans h'
 | exit id=>obtain ⟨k',h1,h2⟩:=h'; exact ⟨k',h1,h.trans h2⟩
 | ret=>obtain ⟨k',h2⟩:=h'; exact ⟨k',h.trans h2⟩
theorem Arr.pass {m:Machine} {e:Ex} {i:Item} (he:e ≠ .normal) (hi:∀id,e = .exit id→exitTo id (i :: k) = exitTo id k) (h:Arr P m b (i :: k) cs e a w):Arr P m b k cs e a w:= by
 cases e with
 | normal=>exact absurd rfl he
 | exit id=>obtain ⟨k',h1,h2⟩:=h; exact ⟨k',h1.trans (hi id rfl),h2⟩
 | ret=>exact h
theorem D25 {o:Op} {ao:AOp} (h:D7 P o ao = true):∀c,o ≠ .defer c:= by
 rintro c rfl
 cases ao <;> simp [D7] at h
theorem D0p {i:Nat} {rest:List Nat} {o:Oper} {x:Value} (ho:ops[i]? = some o) (hw:Region.wanted o (yielded ops a.tmps) = true) (hnd:∀c,o.op ≠ .defer c)
  (h:Gives ((execOp a.eval o).run P w) x w') :
  step P (lone (b.atR a (.inRegion ops (i :: rest) :: k)) cs w) = .next (lone (b.atR (a.put o.dst x) (.inRegion ops rest :: k)) cs w'):= by
 have hf:=Frame.finish_atR b a ops i rest k x
 rw [ho] at hf
 rw [show a.put o.dst x = a.put ((some o).bind (·.dst)) x from rfl,← hf]
 refine step_lone_go ?_
 rw [stepGR_op ho hw,Oper.semAt_eq _ _ _ hnd]
 rcases h with h | ⟨h,rfl⟩ <;> simp [stepG.apply,Sem.runT_eq,h]
theorem C3m {i:Nat} {rest:List Nat} {o:Oper} (ho:ops[i]? = some o) (hw:Region.wanted o (yielded ops a.tmps) = false) :
  step P (lone (b.atR a (.inRegion ops (i :: rest) :: k)) cs w) = .next (lone (b.atR (a.put o.dst undef) (.inRegion ops rest :: k)) cs w):= by
 have:=stepR_op_skip (P:=P) (b:=b) (a:=a) (k:=k) (cs:=cs) (w:=w) (ops:=ops) (i:=i) (rest:=rest) (by simp [ho,hw])
 rw [this]; simp [ho]
def A71 (f:Value) (args:Array Value):Sem Next:=do let d ← Deferred.ofValue f args; invoke d.target d.args
def Begins (P:Program) (w:World) (f:Value) (args:Array Value) (fr:Frame):Prop :=
 (∃ i aq,(A71 f args).run P w = .ok (.enter i aq) w∧fr = Frame.enter P i aq .normal) ∨
 (∃ l i tmps assign body,(A71 f args).run P w = .ok (.round l i tmps assign body) w∧fr = Frame.round l i tmps assign body .normal)
theorem C89 {i:Nat} {fn:Func} (hf:P.funcs[i]? = some fn) (hb:fn.body.isSome = true) (hn:(fn.name != "runtime.NumGoroutine") = true) (fa fc args:Array Value) :
  Begins P w (.func (.func i) fa fc) args (Frame.enter P i (fa++args++fc) .normal):= by
 refine .inl ⟨i,_,?_,rfl⟩
 have hn':¬ fn.name = "runtime.NumGoroutine":= by simpa using hn
 have hb':¬ fn.body = none:= by
  intro h; simp [h] at hb
 simp [A71,Deferred.ofValue,Sem.run_bind,Result.andThen,invoke,callFunc,program,Sem.run,hf,hn',hb']
theorem C5p {β:Nat} {r:Loop} (h:w.heap[β]? = some (.loop r)) {args:Array Value} (hs:args.size = r.params.size) :
  Begins P w (.func (.yield β) #[] #[]) args (Frame.round β r.fn ((r.params.zip args).foldl (fun tmps (t,a)=>tmps.setIfInBounds t a) r.tmps) r.assign r.body .normal):= by
 refine .inr ⟨β,r.fn,_,r.assign,r.body,?_,rfl⟩
 have:=run_yield (P:=P) h hs
 simp [A71,Deferred.ofValue,Sem.run_bind,Result.andThen,invoke,this]
theorem B86 {i:Nat} {rest:List Nat} {o:Oper} {f:Operand} {args:Array Operand} {ats:Array TypeId} (ho:ops[i]? = some o) (hw:Region.wanted o (yielded ops a.tmps) = true)
  (hop:o.op = .call { callee:=.value f,args,argTypes:=ats }) {fr:Frame} (h:Begins P w (a.eval f) (args.map a.eval) fr) :
  step P (lone (b.atR a (.inRegion ops (i :: rest) :: k)) cs w) = .next (lone fr (b.atR a (.inRegion ops (i :: rest) :: k) :: cs) w):= by
 have he:execOp a.eval o = A71 (a.eval f) (args.map a.eval):= by
  simp only [execOp,hop,resolve,A71]
 refine step_lone_go ?_
 rw [stepGR_op ho hw,Oper.semAt_eq _ _ _ (by rw [hop]; simp),he]
 rcases h with ⟨j,aq,h,rfl⟩ | ⟨l,j,tmps,assign,body,h,rfl⟩
 ·simp [stepG.apply,Sem.runT_eq,h,Frame.atR]
 ·simp [stepG.apply,Sem.runT_eq,h,Frame.atR]
theorem C2q {f:Operand} {ps:Array Tmp} {assign body:Code} {l:Nat} {mark:List Deferred} {w1:World} {i:Nat} {aq:Array Value}
  (he:(Instr.enterLoop b.fn a.tmps ps assign body b.roundOf).run P w = .ok (l,mark) w1) (hc:(A71 (a.eval f) #[.func (.yield l) #[] #[]]).run P w1 = .ok (.enter i aq) w1) :
  step P (lone (b.atR a (.code (.rangeFunc f ps assign body) :: k)) cs w) =
   .next (lone (Frame.enter P i aq .normal) (b.atR { a with defers:=mark++a.defers } (.inRangeFunc l :: k) :: cs) w1) :=
 step_lone_go (by
  have hev:=Frame.eval_atR b { a with defers:=mark++a.defers } (.inRangeFunc l :: k)
  simp only [Frame.atR] at hev
  have hc':Sem.run P (resolve ({ tmps:=a.tmps,defers:=mark++a.defers }:Act).eval { callee:=.value f,args:=#[.const (.func (.yield l) #[] #[])],argTypes:=#[] } 0 >>= fun d=>invoke d.target d.args) w1 = .ok (.enter i aq) w1:= by
   have e1:({ tmps:=a.tmps,defers:=mark++a.defers }:Act).eval f = a.eval f:= by cases f <;> rfl
   have e2:({ tmps:=a.tmps,defers:=mark++a.defers }:Act).eval (.const (.func (.yield l) #[] #[])) = .func (.yield l) #[] #[]:=rfl
   simpa [resolve,A71,e1,e2] using hc
  simp [stepG,stepG.exec,Frame.atR,Sem.runT_eq,he,GStep.bare_after,stepG.apply,hev,hc'])
theorem B7a {l:Nat} {jump:Option Code} (h:(Instr.endLoop l).run P w = .ok jump w') :
  step P (lone (b.atR a (.endRangeFunc l :: k)) cs w) = .next (lone (b.atR a ((jump.map Item.code).toList++k)) cs w') :=
 step_lone_go (by simp [stepG,stepG.exec,Frame.atR,Sem.runT_eq,h,GStep.bare_after])
theorem B43 (l:Nat) (v:Value):(b.atR a (.inRangeFunc l :: k)).finish v = b.atR a (.endRangeFunc l :: k):= by
 simp [Frame.finish,Frame.atR]
def A90 (β:Nat):Deferred:={ target:=.collected β,args:=#[] }
theorem D3x {fr:Frame} {w w':World} {β:Nat} {ds:List Deferred} (hm:fr.mode = .returning) (hd:fr.defers = A90 β :: ds) (hk:(Instr.takeDeferred β).run P w = .ok [] w') :
  step P (lone fr cs w) = .next (lone { fr with defers:=ds } cs w'):= by
 refine step_lone_go ?_
 simp [stepG,unwind,hm,hd,A90,Sem.runT_eq,hk,GStep.bare_after]
theorem B87:∀(βs:List Nat) (fr:Frame) (w:World),fr.mode = .returning→fr.defers = βs.map A90→βs.Nodup→(∀ β ∈ βs,w.heap[β]? = some (.deferred (some []))) →
  ∃ w',Steps P (lone fr cs w) (lone { fr with defers:=[] } cs w')∧w'.os = w.os∧w'.tape = w.tape∧w'.output = w.output∧w'.heap.size = w.heap.size∧(∀ β,β ∉ βs→w'.heap[β]? = w.heap[β]?)∧∀ β ∈ βs,w'.heap[β]? = some (.deferred none)
 | [],fr,w,hm,hd,hn,hβ=>⟨w,by
   have:({ fr with defers:=[] }:Frame) = fr:= by cases fr; simp at hd; simp [hd]
   rw [this]; exact .refl _ _,rfl,rfl,rfl,rfl,fun _ _=>rfl,by simp⟩
 | β :: βs,fr,w,hm,hd,hn,hβ=>by
  obtain ⟨hn1,hn2⟩:=List.nodup_cons.1 hn
  have hβ0:=hβ β (by simp)
  have hlt:β < w.heap.size:= by
   rcases Nat.lt_or_ge β w.heap.size with h | h
   ·exact h
   ·simp [Array.getElem?_eq_none h] at hβ0
  have h1:=D3x (P:=P) (cs:=cs) (ds:=βs.map A90) hm (by simpa using hd) (run_takeDeferred (P:=P) hβ0)
  obtain ⟨w',q1,q2,q3,q4,q5,q6,q7⟩:=B87 βs { fr with defers:=βs.map A90 } (w.putObj β (.deferred none)) hm rfl hn2 (fun γ hγ=>by
   rw [World.putObj_heap_other (by rintro rfl; exact hn1 hγ)]; exact hβ γ (by simp [hγ]))
  refine ⟨w',.head h1 q1,q2,q3,q4,by simpa using q5,fun γ hγ=>?_,fun γ hγ=>?_⟩
  ·simp at hγ
   rw [q6 γ hγ.2,World.putObj_heap_other hγ.1]
  ·rcases List.mem_cons.1 hγ with rfl | hγ
   ·rw [q6 _ hn1,World.putObj_heap_same hlt]
   ·exact q7 γ hγ
end
section
variable {MC:Nat→Code→ACode→Prop} {P:Program} {B0:Nat} {c:Sc} {n0:Nat} {H H':A7} {g:Ghost} {w:World} {s:C9} {a:Act} {o:Oper} {v:AV}
theorem E1h {k r:Nat} {x:Opd} {hi:Option Opd} (hm:D7 P o.op (.cut k x hi r) = true) (hR:Rel MC P B0 H g w) (hS:E7 g s a.tmps) (hF:Free H g n0 [r]) (h:prim c n0 s H (.cut k x hi r) = some (v,H')):Does MC P B0 a o [n0 + r] H g w v H':= by
 simp only [D7] at hm
 split at hm
 ·next t x' hi' hop =>
  simp only [Bool.and_eq_true] at hm
  obtain ⟨⟨h1,h2⟩,h4⟩:=hm
  split at h1
  ·next e hsl =>
   have hu:=A09 hsl
   simp at h1
   obtain ⟨⟨hk,hkn⟩,hpos⟩:=h1
   simp only [prim] at h
   split at h
   ·next b n hp =>
    split at h
    ·next k2 rows hh hw hr =>
     split at h
     ·next hb =>
      simp only [Option.some.injEq,Prod.mk.injEq] at h
      obtain ⟨rfl,rfl⟩:=h
      simp only [Bool.and_eq_true,decide_eq_true_eq] at hb
      obtain ⟨hn,b2,b3⟩:=hb
      have hn:=Nat.eq_of_beq_eq_true hn
      subst hn
      obtain ⟨v0,hL,hbox⟩:=hR.arrW hw
      have hg:=A31 hw
      have hVx:=M8 hS h2 hp
      have hsl2:=A4i hbox
      have e0:=B0d hVx hL (by rw [hsl2])
      obtain ⟨hi0,hn0⟩:=hF r (by simp)
      have q2:((hi'.map a.eval) = none∧hh = rows.length)∨∃ k,(hi'.map a.eval) = some (.int k hh):= by
       rcases B3t h4 hS hr with ⟨e1,e2⟩ | ⟨x2,k,e1,e2⟩
       ·exact .inl ⟨by simp [e1],e2⟩
       ·exact .inr ⟨k,by simp [e1,e2]⟩
      have hrun:∀ad cp,rows.length≤cp→a.eval x' = .slice ad rows.length cp →
        (execOp a.eval o).run P w = .ok (.value (.slice (if cp = 0 then ad else ad.map (·.add (0 * k2))) (hh.toNat - 0) (cp - 0))) w:= by
       intro ad cp hcp he
       have:=A45 (P:=P) (isSlice:=true) (l:=0) (by omega) b2 b3 hcp (.inl ⟨rfl,rfl⟩) q2 w
       obtain ⟨k0,_⟩:=hbox
       simp [execOp,hop,Instr.sliceAt,run_underlying hu,he,Instr.slice,this,O6 (O4 hkn)]
      obtain ⟨g1,q1,q3,q4,q5⟩:=hR.letgo hg hL (lo:=OkB B0 H g w) (fun β hβ=>⟨(hR.base b β hβ).1,.inr ⟨b,_,hg,rfl,hβ⟩⟩)
      have hne:n0 + r ≠ b:= by rintro e; rw [← e,hn0] at hL; cases hL
      have new:∃v1,(execOp a.eval o).run P w = .ok (.value v1) w∧v1.oneCell' = true∧FOk MC P g1 w (OkB B0 H g w) (k2,rows.take hh.toNat,v1):= by
       obtain ⟨k0,hk2,hlen,h5⟩:=q3.box
       rcases h5 with ⟨hr0,hu0⟩ | ⟨β,cp,e',cur,hu0,c1,c2,c3,c4,c5,c6,c7⟩
       ·simp only at hr0 hu0
        subst hr0
        rw [hu0] at e0
        simp only [List.length_nil] at b3
        have e1:hh = 0:= by omega
        subst e1
        have:=hrun none 0 (by simp) (by simpa using e0)
        refine ⟨.slice none 0 0,by simpa using this,rfl,⟨rfl,hk2,by simp,.inl ⟨rfl,rfl⟩⟩,fun β hβ=>by simp [FE.blk,GB.blk] at hβ⟩
       ·simp only at hu0 c1 c5 hlen
        subst hu0
        have:=hrun (some ⟨β,0,none⟩) cp c1 e0
        have e1:(if cp = 0 then (some ⟨β,0,none⟩:Option Addr) else (some ⟨β,0,none⟩:Option Addr).map (·.add (0 * k2))) = some ⟨β,0,none⟩:= by
         split
         ·rfl
         ·simp [Addr.add]
        rw [e1] at this
        have hlt:(rows.take hh.toNat).length = hh.toNat:= by simp; omega
        refine ⟨.slice (some ⟨β,0,none⟩) hh.toNat cp,by simpa using this,rfl,⟨rfl,hk2,fun r hr=>hlen r (List.mem_of_mem_take hr),.inr ⟨β,cp,e',cur,by rw [hlt],by rw [hlt]; omega,c2,c3,c4,fun i r j x hi hj=>?_,c6,by simp⟩⟩,fun β' hβ=>q3.own β' hβ⟩
        rw [List.getElem?_take] at hi
        split at hi
        ·exact c5 i r j x hi hj
        ·cases hi
      obtain ⟨v1,r1,r2,r3⟩:=new
      obtain ⟨t1,t2⟩:=Rel.take_over (i:=n0 + r) q1.ext q1.rel (by rw [q1.len]; exact hi0) (by rw [q5 _ hne]; exact hn0) r3
      refine ⟨v1,w,_,.inl r1,?_,t1,t2,by simp [hset],?_⟩
      ·have hsl3:=A4i r3.box
       have hlt:(rows.take hh.toNat).length = hh.toNat:= by simp; omega
       exact .asl _ _ k2 v1 _ (by simp [K1]) (by rw [hsl3,hlt]; exact Nat.le_refl _) r2 (fun _=>rfl)
      ·intro i hi hn
       simp only [List.mem_singleton] at hi
       simp only [K1,if_neg hi]
       exact q1.unb i hn
     ·cases h
    ·cases h
   ·cases h
  ·cases h1
 ·cases hm
theorem D0f {op:AOp} (hok:D8b op = true) (hm:D7 P o.op op = true) (hR:Rel MC P B0 H g w) (hS:E7 g s a.tmps) (hF:Free H g n0 (F4 op)) (hnd:(F4 op).Nodup)
  (h:prim c n0 s H op = some (v,H')):Does MC P B0 a o ((F4 op).map (n0 + ·)) H g w v H':= by
 cases op with
 | mv x=>exact (E32 hm hS h).does hR _
 | mvz x=>exact (E1i hm hR hS h).mono (by simp)
 | pick x y z=>exact (D99 hm hS h).does hR _
 | nil k r=>exact E1j hm hR hF h
 | alloc zs owns r=>exact D7t hm hR hF hnd h
 | box n x r=>exact E1g hm hR hS hF h
 | build z parts=>exact (D8e hm hS h).does hR _
 | lits k z n parts own=>exact D9m hm hR hS hF h
 | xlits k z n parts=>exact (D7x hm hR hS h).mono (by simp)
 | load k x=>exact (D96 hm hR hS (by rintro rfl; simp [D8b] at hok) h).does hR _
 | storeN x k r=>exact D5v hm hR hS hF h
 | store k x y=>exact (D7w hm hR hS h).mono (by simp)
 | nilck x=>exact (D8g hm hS h).does hR _
 | bin op x y=>exact (E13 hm hS h).does hR _
 | beq neg x y=>exact (E12 hm hS h).does hR _
 | cmp neg ks x y=>exact (E14 hm hS h).does hR _
 | un op x=>exact (E33 hm hS h).does hR _
 | conv k x=>exact (D90 hm hS h).does hR _
 | idc x=>exact (E15 hm hS h).does hR _
 | mkfn f x y=>exact (D97 hm hS h).does hR _
 | mkmap r=>exact D7u hm hR hF h
 | mkslice k b z l cp r=>exact D22 hm hR hS hF h
 | sliceS x lo hi=>exact (D6j hm hS h).does hR _
 | sliceL k x lo hi=>exact (C7x hm hR hS h).mono (by simp)
 | sliceQ k x lo hi=>exact (D5u hm hR hS h).mono (by simp)
 | sliceA k n x hi=>exact (D6i hm hR hS h).does hR _
 | nilq q x=>exact (D98 hm hS h).does hR _
 | fieldAddr off x=>exact (C76 hm hS h).does hR _
 | field k off x=>exact (D8f hm hS h).does hR _
 | idxS k x i=>exact (D92 hm hR hS h).does hR _
 | idxA k n x i=>exact (D91 hm hS h).does hR _
 | idxStr x i=>exact (D6g hm hS h).does hR _
 | idxAgg k sz n x i=>exact (D6f hm hS h).does hR _
 | lookup z ag ks x i ok=>exact (D6h hm hR hS h).does hR _
 | mupd ag ks x y z=>exact (D9n hm hR hS h).mono (by simp)
 | range x r=>exact D7v hm hR hS hF h
 | next x=>exact (D9o hm hR hS h).mono (by simp)
 | extract x i=>exact (D3d hm hS h).does hR _
 | lenS x=>exact (D95 hm hS h).does hR _
 | lenL x=>exact (D93 hm hR hS h).does hR _
 | lenM x=>exact (D94 hm hR hS h).does hR _
 | mm mx xs=>exact (E31 hm hS h).does hR _
 | append k b d x r fz=>exact D5t hm hR hS hF h
 | copy k d x=>exact (D9l hm hR hS h).mono (by simp)
 | cut k x hi r=>exact E1h hm hR hS hF h
 | call f aq own p=>simp [prim] at h
end
theorem D3u {s:C9} {d t:Nat} {v:AV}:sget (sput s (some d) v) t = if d = t then some v else sget s t:= by
 simp only [sput,O7,M3]
 cases h:Nat.beq d t with
 | true=>simp [Nat.eq_of_beq_eq_true h]
 | false=>simp [Nat.ne_of_beq_eq_false h]
theorem E7.put {g:Ghost} {s:C9} {a:Act} {dst:Option Nat} {v:AV} {x:Value} (h:E7 g s a.tmps) (hV:V g v x) (hd:∀d,dst = some d→d < a.tmps.size):E7 g (sput s dst v) (a.put dst x).tmps:= by
 cases dst with
 | none=>exact h
 | some d =>
  intro t u hu
  rw [D3u] at hu
  simp only [Act.put]
  split at hu
  ·next e=>subst e; cases hu; exact ⟨x,by simp [hd d rfl],hV⟩
  ·next e =>
   obtain ⟨y,hy,hVy⟩:=h t u hu
   exact ⟨y,by rw [Array.getElem?_setIfInBounds_ne e]; exact hy,hVy⟩
theorem C8b {a:Act} {dst:Option Nat} {x:Value}:(a.put dst x).tmps.size = a.tmps.size:= by cases dst <;> simp [Act.put]
theorem C18 {a:Act} {dst:Option Nat} {x:Value}:(a.put dst x).defers = a.defers:= by cases dst <;> rfl
theorem E7.restrict {g:Ghost} {s:C9} {tmps:Array Value} (h:E7 g s tmps) (l:List Nat):E7 g (restrict s l) tmps:= by
 intro t v hv
 induction l with
 | nil=>simp [Am.restrict,O7,M3] at hv
 | cons x l ih =>
  simp only [Am.restrict] at hv
  split at hv
  ·next u hu =>
   simp only [O7,M3] at hv
   cases hb:Nat.beq x t with
   | true=>simp [hb] at hv; subst hv; exact h t _ (Nat.eq_of_beq_eq_true hb ▸ hu)
   | false=>simp [hb] at hv; exact ih hv
  ·exact ih hv
theorem D2c {g:Ghost} {u:Value} (h:V g (.tup []) u):u = .tuple #[]:= by
 cases h with
 | den _ _ hd=>cases hd
 | tup _ vs hl=>simp at hl; simp [hl]
theorem C5d {g:Ghost} {s:C9} {tmps:Array Value} {ops:Array Oper} {o:Oper} {ao:AOper} {r:Bool} (hm:B48 ops o.guard ao.guard = true) (hS:E7 g s tmps) (h:wanted s ao.guard = some r):Region.wanted o (yielded ops tmps) = r:= by
 unfold B48 at hm
 unfold wanted at h
 unfold Region.wanted
 revert hm h
 cases o.guard <;> cases ao.guard <;> simp only [Bool.false_eq_true,false_implies,imp_self,implies_true]
 ·intro _ h; simpa using h
 ·rename_i x y
  obtain ⟨j,want⟩:=x
  obtain ⟨t,want'⟩:=y
  intro hm h
  simp only [Bool.and_eq_true,beq_iff_eq] at hm
  obtain ⟨rfl,hm⟩:=hm
  split at hm
  ·next q hq =>
   have hd:q.dst = some t:= by simpa using hm
   have hy:yielded ops tmps j = (match tmps[t]? with | some (.bool b)=>some b | _=>none):= by
    simp only [yielded,hq,hd,Option.bind_some]
    rcases tmps[t]? with _ | v
    ·rfl
    ·cases v <;> rfl
   simp only [hy]
   split at h
   ·next b hb =>
    obtain ⟨x,hx,hV⟩:=hS t _ hb
    have:=U7 hV
    subst this
    simp only [hx]
    simp only [Option.some.injEq] at h
    subst h
    cases b <;> cases want <;> rfl
   ·next hb =>
    obtain ⟨x,hx,hV⟩:=hS t _ hb
    have:=D2c hV
    subst this
    simp only [hx]
    simp at h
    simp [h]
   ·cases h
  ·cases hm
section
variable {MC:Nat→Code→ACode→Prop} {P:Program} {B0:Nat}
def C3s (lo:Nat) (ds:List Deferred) (g:Ghost) (w:World):Prop :=
 lo≤w.heap.size∧∃ βs:List Nat,ds = βs.map A90∧βs.Nodup∧∀ β ∈ βs,lo≤β∧β < w.heap.size∧w.heap[β]? = some (.deferred (some []))∧∀ i,(g.L i).blk ≠ some β
theorem C3s.ext {lo:Nat} {ds:List Deferred} {H H':A7} {g g':Ghost} {w w':World} (h:C3s lo ds g w) (hE:Ext H g w H' g' w'):C3s lo ds g' w':= by
 obtain ⟨h0,βs,h1,h2,h3⟩:=h
 refine ⟨Nat.le_trans h0 hE.size,βs,h1,h2,fun β hβ=>?_⟩
 obtain ⟨q1,q2,q3,q4⟩:=h3 β hβ
 refine ⟨q1,Nat.lt_of_lt_of_le q2 hE.size,?_,fun i hc=>?_⟩
 ·rw [(hE.frame β q2 (fun i o _ _=>q4 i)).1]; exact q3
 ·rcases hE.blk i β hc with h | h | ⟨j,_,_,_,h⟩
  ·exact q4 i h
  ·omega
  ·exact q4 j h
theorem C1a:∀{l m:List Nat},l.map A90 = m.map A90→l = m
 | [],[],_=>rfl
 | [],_ :: _,h=>by simp at h
 | _ :: _,[],h=>by simp at h
 | x :: l,y :: m,h=>by
  simp only [List.map_cons,List.cons.injEq] at h
  have h1:x = y:= by have:=h.1; simpa [A90] using this
  rw [h1,C1a h.2]
def B2b:List Value→Value
 | [v]=>v
 | l=>.tuple l.toArray
def B4y (MC:Nat→Code→ACode→Prop) (P:Program) (B0:Nat) (M:Mach):Prop :=
 ∀ c H f args rs H',M.call c H f args = some (rs,H')→∀ g w fv (vs:Array Value),Rel MC P B0 H g w→ScOk c H→V g f fv→vs.size = args.length→(∀ (j:Nat) x,args[j]? = some x→V g x (vs[j]?.getD undef)) →
  ∃ fr0,Begins P w fv vs fr0∧∀ fr cs,∃ us w' g' fs,Steps P (lone fr0 (fr :: cs) w) (lone (fr.finish (B2b us)) cs w')∧RVs g' rs us fs∧FsOk MC P g' w' (OkB B0 H g w) fs∧Rel MC P B0 H' g' w'∧Ext H g w H' g' w'∧ScOk c H'∧Unborn H g g'
theorem D09 {s:C9}:∀{xs:List Opd} {vs:List AV},evs s xs = some vs→vs.length = xs.length
 | [],vs,h=>by simp only [evs,Option.some.injEq] at h; simp [← h]
 | x :: xs,vs,h=>by
  simp only [evs,Option.bind_eq_some_iff,Option.map_eq_some_iff] at h
  obtain ⟨v,_,l,hl,rfl⟩:=h
  simp [D09 hl]
theorem B4l:∀{xs:List Operand} {ys:List Opd},U1 xs ys = true→xs.length = ys.length
 | [],[],_=>rfl
 | [],_ :: _,h=>by simp [U1] at h
 | _ :: _,[],h=>by simp [U1] at h
 | x :: l,y :: m,h=>by simp only [U1,Bool.and_eq_true] at h; simp [B4l h.2]
theorem D1e {H H':A7} {v v':AV} (hp:pubbed H v = true) (h:frv H v = some (v',H')):H' = H:= by
 unfold frv at h
 repeat' split at h
 all_goals first
  | (cases h; done)
  | (simp only [Option.some.injEq,Prod.mk.injEq] at h; exact h.2.symm)
  | (simp_all [pubbed])
theorem C7l:∀{l l':List AV} {H H':A7},l.all (pubbed H) = true→A1d H l = some (l',H')→H' = H
 | [],l',H,H',_,h=>by simp only [A1d,Option.some.injEq,Prod.mk.injEq] at h; exact h.2.symm
 | v :: l,l',H,H',hp,h=>by
  simp only [List.all_cons,Bool.and_eq_true] at hp
  simp only [A1d] at h
  split at h
  ·cases h
  ·next v1 H1 e1 =>
   have:=D1e hp.1 e1
   subst this
   split at h
   ·cases h
   ·next l2 H2 e2 =>
    simp only [Option.some.injEq,Prod.mk.injEq] at h
    exact h.2 ▸ C7l hp.2 e2
theorem D5b {H H':A7} {v v':AV} (hp:X0 H v = true) (h:A0m H v = some (v',H')):H' = H:= by
 unfold A0m at h
 split at h
 ·next cs =>
  cases hl:A1d H cs with
  | none=>simp [hl] at h
  | some r=>simp only [hl,Option.map_some,Option.some.injEq,Prod.mk.injEq] at h; exact h.2 ▸ C7l (by simpa [X0] using hp) (l':=r.1) (H':=r.2) hl
 ·simp only [Option.some.injEq,Prod.mk.injEq] at h; exact h.2.symm
 ·refine D1e ?_ h
  rename_i h1 h2
  cases v <;> first | exact hp | exact absurd rfl (h1 _)
theorem C4f:∀{l l':List AV} {H H':A7},l.all (X0 H) = true→W4 H l = some (l',H')→H' = H
 | [],l',H,H',_,h=>by simp only [W4,Option.some.injEq,Prod.mk.injEq] at h; exact h.2.symm
 | v :: l,l',H,H',hp,h=>by
  simp only [List.all_cons,Bool.and_eq_true] at hp
  simp only [W4] at h
  split at h
  ·cases h
  ·next v1 H1 e1 =>
   have:=D5b hp.1 e1
   subst this
   split at h
   ·cases h
   ·next l2 H2 e2 =>
    simp only [Option.some.injEq,Prod.mk.injEq] at h
    exact h.2 ▸ C4f hp.2 e2
theorem C6t {g:Ghost} {xs:List AV} {us:List Value} (hl:xs.length = us.length) (h:∀(i:Nat) x,xs[i]? = some x→V g x (us[i]?.getD undef)):V g (packed xs) (B2b us):= by
 match xs,us,hl with
 | [],[],_=>exact .tup [] #[] rfl (by simp)
 | [x],[u],_=>exact h 0 x rfl
 | x :: y :: l,u :: v :: m,hl =>
  simp only [packed,B2b]
  exact .tup _ _ (by simpa using hl.symm) (fun j z hz=>by simpa using h j z hz)
variable {M:Mach} {b:Frame} {k:List Item} {cs:List Frame} {ops:Array Oper} {nt n0:Nat} {c:Sc}
theorem C9f (hM:B4y MC P B0 M) {a:Act} {s:C9} {H H':A7} {g:Ghost} {w:World} {i:Nat} {rest:List Nat} {o:Oper} {op:AOp} {v:AV} (ho:ops[i]? = some o) (hw:Region.wanted o (yielded ops a.tmps) = true)
  (hok:D8b op = true) (hm:D7 P o.op op = true) (hR:Rel MC P B0 H g w) (hS:E7 g s a.tmps) (hC:ScOk c H) (hn:c.cur≤n0) (hF:Free H g n0 (F4 op)) (hnd:(F4 op).Nodup) (h:core M c n0 s H op = some (v,H')) :
  ∃ x w' g',Steps P (lone (b.atR a (.inRegion ops (i :: rest) :: k)) cs w) (lone (b.atR (a.put o.dst x) (.inRegion ops rest :: k)) cs w')∧V g' v x∧Rel MC P B0 H' g' w'∧Ext H g w H' g' w'∧ScOk c H' ∧
   ∀ i,i < H.length→i ∉ (F4 op).map (n0 + ·)→g.L i = .none→g'.L i = .none:= by
 by_cases hcall:∃f args own pure,op = .call f args own pure
 ·obtain ⟨f,args,own,pure,rfl⟩:=hcall
  simp only [core] at h
  simp only [D7] at hm
  split at hm
  ·next f0 args0 ats hop =>
   simp only [Bool.and_eq_true] at hm
   obtain ⟨hm1,hm2⟩:=hm
   have hB:B0≤w.heap.size:=hR.b0
   simp only [A0o] at h
   split at h
   ·next fv aq he1 he2 =>
    have hVf:=M8 hS hm1 he1
    have hVas:=C38 hS hm2 he2
    have hlen:(args0.map a.eval).toList.length = aq.length:= by simp [D09 he2]; simpa using B4l hm2
    have hVas':∀(j:Nat) x,aq[j]? = some x→V g x ((args0.map a.eval).toList[j]?.getD undef):= by
     have:=C38 hS hm2 he2
     first
      | exact this
      | (intro j x hj; have:=this j x hj; simpa using this)
      | (intro j x hj; obtain ⟨q1,q2⟩:=this; have:=q2 j x hj; simpa using this)
    have finish:∀(x:Value),(b.atR a (.inRegion ops (i :: rest) :: k)).finish x = b.atR (a.put o.dst x) (.inRegion ops rest :: k):= by
     intro x
     have hf:=Frame.finish_atR b a ops i rest k x
     rw [ho] at hf; exact hf
    split at h
    ·next hpure =>
     split at h
     ·next hpub =>
      split at h
      ·cases h
      ·next as' H1 hfr =>
       have e1:=C4f hpub hfr
       subst e1
       obtain ⟨g1,hFz,hl1,hV1⟩:=B2v hR hlen hVas' hfr
       split at h
       ·cases h
       ·next rs H2 hcl =>
        split at h
        ·next hbd =>
         simp only [Option.some.injEq,Prod.mk.injEq] at h
         obtain ⟨rfl,rfl⟩:=h
         obtain ⟨fr0,hb,hgo⟩:=hM _ _ _ _ _ _ hcl g1 w (a.eval f0) (args0.map a.eval) hFz.rel.ro hC.ro (hVf.mono hFz.ext.le) (by rw [hl1]; simpa using hlen) (fun j x hj=>by simpa using hV1 j x hj)
         obtain ⟨us,w',g2,fs,hs,hrv,hfs,hR2,hE2,hC2,hU2⟩:=hgo (b.atR a (.inRegion ops (i :: rest) :: k)) cs
         obtain ⟨hR3,hE3⟩:=hFz.rel.backRo hE2 hR2
         have hE4:=hFz.ext.trans hE3
         have hun:∀j,j < H1.length→g.L j = .none→(A4e H1.length g2).L j = .none:= by
          intro j hj hjn
          rw [C0k hj]
          exact hU2 j (by simpa using hj) (by rw [hFz.L]; exact hjn)
         obtain ⟨g3,hx,hxl,hc3,_⟩:=B45 (n0:=n0) (own:=own) (l:=rs) hnd hE4 hR3 (hrv.cut hbd) (rest:=[]) (by simpa using (hfs.cut (N:=H1.length)).weaken (fun β hβ=>OkB.back hFz.ext (OkB.ofRo hβ))) (fun r hr=>by
          obtain ⟨q1,q2⟩:=hF r hr
          exact ⟨q1,hun _ q1 q2⟩)
         refine ⟨B2b us,w',g3,?_,C6t hxl hx,hc3.rel,hc3.ext,C55 hn hC,?_⟩
         ·exact .head (B86 ho hw hop hb) (by rw [← finish]; exact hs)
         ·intro j hj hjn hjg
          rw [hc3.same j hjn]; exact hun j hj hjg
        ·cases h
     ·cases h
    ·next hpure =>
     split at h
     ·cases h
     ·next as' H1 hfr =>
      obtain ⟨g1,hFz,hl1,hV1⟩:=B2v hR hlen hVas' hfr
      split at h
      ·cases h
      ·next rs H2 hcl =>
       simp only [Option.some.injEq,Prod.mk.injEq] at h
       obtain ⟨rfl,rfl⟩:=h
       obtain ⟨fr0,hb,hgo⟩:=hM _ _ _ _ _ _ hcl g1 w (a.eval f0) (args0.map a.eval) hFz.rel (C7k hC hfr) (hVf.mono hFz.ext.le) (by rw [hl1]; simpa using hlen) (fun j x hj=>by simpa using hV1 j x hj)
       obtain ⟨us,w',g2,fs,hs,hrv,hfs,hR2,hE2,hC2,hU2⟩:=hgo (b.atR a (.inRegion ops (i :: rest) :: k)) cs
       have hE4:=hFz.ext.trans hE2
       have hun:∀j,j < H.length→g.L j = .none→g2.L j = .none:= by
        intro j hj hjn
        exact hU2 j (by rw [hFz.len]; exact hj) (by rw [hFz.L]; exact hjn)
       obtain ⟨g3,hx,hxl,hc3,_⟩:=B45 (n0:=n0) (own:=own) (l:=rs) hnd hE4 hR2 hrv (rest:=[]) (by simpa using hfs.weaken (fun β hβ=>OkB.back hFz.ext hβ)) (fun r hr=>by
        obtain ⟨q1,q2⟩:=hF r hr
        exact ⟨Nat.lt_of_lt_of_le q1 hE4.len,hun _ q1 q2⟩)
       refine ⟨B2b us,w',g3,?_,C6t hxl hx,hc3.rel,hc3.ext,C55 hn hC2,?_⟩
       ·exact .head (B86 ho hw hop hb) (by rw [← finish]; exact hs)
       ·intro j hj hjn hjg
        rw [hc3.same j hjn]; exact hun j hj hjg
   ·cases h
  ·cases hm
 ·have hp:prim c n0 s H op = some (v,H'):= by
   cases op with
   | call f args own pure=>exact absurd ⟨_,_,_,_,rfl⟩ hcall
   | _=>exact h
  obtain ⟨x,w',g',h1,h2,h3,h4,h5,h6⟩:=D0f (a:=a) hok hm hR hS hF hnd hp
  exact ⟨x,w',g',.one (D0p ho hw (D25 hm) h1),h2,h3,h4,D8h hC hn hp,fun i _ hi hn=>h6 i hi hn⟩
structure RInv (MC:Nat→Code→ACode→Prop) (P:Program) (B0 nt:Nat) (c:Sc) (n0 lo:Nat) (fn:Bool) (rem:List Nat) (s:C9) (H:A7) (g:Ghost) (a:Act) (w:World):Prop where
 rel:Rel MC P B0 H g w
 slots:E7 g s a.tmps
 size:a.tmps.size = nt
 sc:ScOk c H
 cn:c.cur≤n0
 free:Free H g n0 rem
 dl:fn = true→C3s lo a.defers g w
theorem C99 (hM:B4y MC P B0 M) {lo:Nat} {fn:Bool} {a:Act} {s s':C9} {H H':A7} {hc hc':List (Option (List Nat))} {g:Ghost} {w:World} {rest:List Nat} {ao:AOper} {rem:List Nat} (hm:A77 P ops nt ao = true)
  (hI:RInv MC P B0 nt c n0 lo fn (F4 ao.op++rem) s H g a w) (hnd:(F4 ao.op++rem).Nodup) (h:oper M c n0 s H hc ao = some (s',H',hc')) :
  ∃ a' g' w',Steps P (lone (b.atR a (.inRegion ops (ao.src :: rest) :: k)) cs w) (lone (b.atR a' (.inRegion ops rest :: k)) cs w')∧RInv MC P B0 nt c n0 lo fn rem s' H' g' a' w'∧Ext H g w H' g' w' ∧
   ∀ i,i < n0→i < H.length→g.L i = .none→g'.L i = .none:= by
 unfold A77 at hm
 split at hm
 ·cases hm
 ·next o ho =>
  simp only [Bool.and_eq_true] at hm
  obtain ⟨⟨⟨⟨m1,m2⟩,m3⟩,m4⟩,m5⟩:=hm
  have hdst:o.dst = ao.dst:= by simpa using m3
  have hd:∀d,ao.dst = some d→d < a.tmps.size:= by
   intro d he; rw [he] at m4; rw [hI.size]; simpa using m4
  obtain ⟨n1,n2,n3⟩:=List.nodup_append.1 hnd
  have hF1:Free H g n0 (F4 ao.op):=fun r hr=>hI.free r (List.mem_append_left _ hr)
  unfold oper at h
  split at h
  ·cases h
  ·next hwt =>
   have hw:=C5d m5 hI.slots hwt
   simp only [Option.some.injEq,Prod.mk.injEq] at h
   obtain ⟨rfl,rfl,rfl⟩:=h
   refine ⟨a.put o.dst undef,g,w,.one (C3m ho hw),⟨hI.rel,?_,by rw [C8b]; exact hI.size,hI.sc,hI.cn,fun r hr=>hI.free r (List.mem_append_right _ hr),by rw [C18]; exact hI.dl⟩,Ext.refl _ _ _,fun _ _ _ h=>h⟩
   rw [hdst]; exact hI.slots.put (B96 g) hd
  ·next hwt =>
   have hw:=C5d m5 hI.slots hwt
   split at h
   ·next hs heq1 heq2 =>
    split at h
    ·next r hr =>
     split at h
     case isFalse=>cases h
     simp only [Option.some.injEq,Prod.mk.injEq] at h
     obtain ⟨rfl,rfl,rfl⟩:=h
     obtain ⟨v,H2⟩:=r
     obtain ⟨x,w',g',q1,q2,q3,q4,q5,q6⟩:=C9f (b:=b) (k:=k) (cs:=cs) (rest:=rest) hM ho hw m2 m1 (hI.rel.hide hs) hI.slots (hI.sc.hide hs) hI.cn (fun r hr=>by rw [A50]; exact hF1 r hr) n1 hr
     obtain ⟨e1,e2⟩:=hI.rel.unhide hs q4 q3
     have hlen:H.length≤H2.length:= by have:=q4.len; rwa [A50] at this
     have q6':∀i,i < H.length→i ∉ (F4 ao.op).map (n0 + ·)→g.L i = .none→g'.L i = .none:=fun i hi=>q6 i (by rw [A50]; exact hi)
     refine ⟨a.put o.dst x,g',w',q1,⟨e1,?_,by rw [C8b]; exact hI.size,hI.sc.unhide q5 hlen hs,hI.cn,?_,?_⟩,e2,?_⟩
     ·rw [hdst]; exact (hI.slots.mono e2.le).put q2 hd
     ·intro r hr
      obtain ⟨p1,p2⟩:=hI.free r (List.mem_append_right _ hr)
      refine ⟨by rw [A2u]; exact Nat.lt_of_lt_of_le p1 hlen,q6' _ p1 ?_ p2⟩
      intro hmem
      obtain ⟨r',hr',he⟩:=List.mem_map.1 hmem
      have:r' = r:= by omega
      subst this
      exact n3 r' hr' r' hr rfl
     ·intro hfn; rw [C18]; exact (hI.dl hfn).ext e2
     ·intro i hi hil hn
      refine q6' i hil ?_ hn
      intro hmem
      obtain ⟨r',_,he⟩:=List.mem_map.1 hmem
      omega
    ·cases h
   ·cases h
theorem B8q (hM:B4y MC P B0 M) {lo:Nat} {fn:Bool}:∀{l:List AOper} {a:Act} {s s':C9} {H H':A7} {hc:List (Option (List Nat))} {g:Ghost} {w:World},(l.all fun o=>A77 P ops nt o) = true →
  RInv MC P B0 nt c n0 lo fn (l.flatMap fun o=>F4 o.op) s H g a w→(l.flatMap fun o=>F4 o.op).Nodup→opers M c n0 l s H hc = some (s',H') →
  ∃ a' g' w',Steps P (lone (b.atR a (.inRegion ops (l.map (·.src)) :: k)) cs w) (lone (b.atR a' (.inRegion ops [] :: k)) cs w')∧RInv MC P B0 nt c n0 lo fn [] s' H' g' a' w'∧Ext H g w H' g' w' ∧
   ∀ i,i < n0→i < H.length→g.L i = .none→g'.L i = .none
 | [],a,s,s',H,H',hc,g,w,hm,hI,hnd,h=>by
  simp only [opers,Option.some.injEq,Prod.mk.injEq] at h
  obtain ⟨rfl,rfl⟩:=h
  exact ⟨a,g,w,.refl _ _,hI,Ext.refl _ _ _,fun _ _ _ h=>h⟩
 | o :: l,a,s,s',H,H',hc,g,w,hm,hI,hnd,h=>by
  simp only [List.all_cons,Bool.and_eq_true] at hm
  simp only [opers] at h
  split at h
  ·cases h
  ·next s1 H1 hc1 h1 =>
   simp only [List.flatMap_cons] at hI hnd
   obtain ⟨a1,g1,w1,q1,q2,q3,q4⟩:=C99 (b:=b) (k:=k) (cs:=cs) (rest:=l.map (·.src)) hM hm.1 hI hnd h1
   obtain ⟨a2,g2,w2,p1,p2,p3,p4⟩:=B8q hM hm.2 q2 (List.nodup_append.1 hnd).2.1 h
   exact ⟨a2,g2,w2,q1.trans p1,p2,q3.trans p3,fun i hi hl hn=>p4 i hi (Nat.lt_of_lt_of_le hl q3.len) (q4 i hi hl hn)⟩
end
section
variable {s s':C9}
theorem X6 (x:Opd) (h:∀t ∈ P6 x,sget s t = sget s' t):ev s x = ev s' x:= by
 cases x <;> simp [ev]
 exact h _ (by simp [P6])
theorem B0g:∀(l:List Opd) (_:∀t ∈ l.flatMap P6,sget s t = sget s' t),evs s l = evs s' l
 | [],_=>rfl
 | x :: l,h=>by
  simp only [evs,X6 x (fun t ht=>h t (by simp [ht])),B0g l (fun t ht=>h t (by simp at ht ⊢; exact .inr ht))]
theorem B4j:∀(l:List (Nat × Nat × Opd)) (_:∀t ∈ l.flatMap fun q=>P6 q.2.2,sget s t = sget s' t),Y4 s l = Y4 s' l
 | [],_=>rfl
 | x :: l,h=>by
  obtain ⟨i,n,x⟩:=x
  simp only [Y4,X6 x (fun t ht=>h t (by simp [ht])),B4j l (fun t ht=>h t (by simp at ht ⊢; exact .inr ht))]
theorem A8h:∀(l:List (Nat × Opd)) (_:∀t ∈ l.flatMap fun q=>P6 q.2,sget s t = sget s' t),N0 s l = N0 s' l
 | [],_=>rfl
 | x :: l,h=>by
  obtain ⟨i,x⟩:=x
  simp only [N0,X6 x (fun t ht=>h t (by simp [ht])),A8h l (fun t ht=>h t (by simp at ht ⊢; exact .inr ht))]
theorem B3s (d:Int) (x:Option Opd) (h:∀t ∈ B6r x,sget s t = sget s' t):bnd s d x = bnd s' d x:= by
 cases x with
 | none=>rfl
 | some x=>simp only [bnd,B5z,X6 x h]
theorem D0e {c:Sc} {n0:Nat} {H:A7} {op:AOp} (h:∀t ∈ A4a op,sget s t = sget s' t):prim c n0 s H op = prim c n0 s' H op:= by
 cases op with
 | load k x=>cases k <;> simp only [prim,X6 x h]
 | build z ps=>simp only [prim,B4j ps h]
 | lits k z n ps own=>simp only [prim,A8h ps h]
 | xlits k z n ps=>simp only [prim,A8h ps h]
 | mkfn f x y =>
  simp only [A4a,List.mem_append] at h
  simp only [prim,B0g x (fun t ht=>h t (.inl ht)),B0g y (fun t ht=>h t (.inr ht))]
 | mm mx xs=>simp only [prim,B0g xs h]
 | pick x y z | mupd _ _ x y z =>
  simp only [A4a,List.mem_append] at h
  simp only [prim,X6 x (fun t ht=>h t (.inl (.inl ht))),X6 y (fun t ht=>h t (.inl (.inr ht))),X6 z (fun t ht=>h t (.inr ht))]
 | store _ x y | bin _ x y | beq _ x y | cmp _ _ x y | idxS _ x y | idxA _ _ x y | idxStr x y | idxAgg _ _ _ x y | lookup _ _ _ x y _ | append _ _ x y _ _ | copy _ x y | mkslice _ _ _ x y _ =>
  simp only [A4a,List.mem_append] at h
  simp only [prim,X6 x (fun t ht=>h t (.inl ht)),X6 y (fun t ht=>h t (.inr ht))]
 | sliceS x l r | sliceL _ x l r | sliceQ _ x l r =>
  simp only [A4a,List.mem_append] at h
  have e1:∀d,bnd s d l = bnd s' d l:=fun d=>B3s d l (fun t ht=>h t (.inl (.inr ht)))
  have e2:∀d,bnd s d r = bnd s' d r:=fun d=>B3s d r (fun t ht=>h t (.inr ht))
  simp only [prim,X6 x (fun t ht=>h t (.inl (.inl ht))),e1,e2]
 | sliceA _ _ x r =>
  simp only [A4a,List.mem_append] at h
  have e2:∀d,bnd s d r = bnd s' d r:=fun d=>B3s d r (fun t ht=>h t (.inr ht))
  simp only [prim,X6 x (fun t ht=>h t (.inl ht)),e2]
 | cut _ x r _ =>
  simp only [A4a,List.mem_append] at h
  have e2:∀d,bnd s d r = bnd s' d r:=fun d=>B3s d r (fun t ht=>h t (.inr ht))
  simp only [prim,X6 x (fun t ht=>h t (.inl ht)),e2]
 | nil | alloc | mkmap | call=>rfl
 | mv x | mvz x | storeN x _ _ | box _ x _ | nilck x | un _ x | conv _ x | idc x | nilq _ x | fieldAddr _ x | field _ _ x | range x _ | next x | extract x _ | lenS x | lenL x | lenM x=>simp only [prim,X6 x h]
theorem C9d {M:Mach} {c:Sc} {n0:Nat} {H:A7} {op:AOp} (h:∀t ∈ A4a op,sget s t = sget s' t):core M c n0 s H op = core M c n0 s' H op:= by
 by_cases hc:∃f args own pure,op = .call f args own pure
 ·obtain ⟨f,args,own,pure,rfl⟩:=hc
  simp only [A4a,List.mem_append] at h
  simp only [core,A0o,X6 f (fun t ht=>h t (.inl ht)),B0g args (fun t ht=>h t (.inr ht))]
 ·have e:∀s,core M c n0 s H op = prim c n0 s H op:= by
   intro s; cases op <;> first | rfl | exact absurd ⟨_,_,_,_,rfl⟩ hc
  rw [e,e]; exact D0e h
theorem C2y {H:A7}:∀(l:List (Nat × List Nat)) (_:∀t ∈ l.map (·.1),sget s t = sget s' t),ways s H l = ways s' H l
 | [],_=>rfl
 | x :: l,h=>by
  simp only [ways,h x.1 (by simp),C2y l (fun t ht=>h t (by simp at ht ⊢; exact .inr ht))]
theorem C6p (x:Option (Nat × Bool)) (h:∀t ∈ (match x with | some (t,_)=>[t] | none=>[]),sget s t = sget s' t):wanted s x = wanted s' x:= by
 cases x with
 | none=>rfl
 | some x=>obtain ⟨t,w⟩:=x; simp only [wanted,h t (by simp)]
end
def look:List (Nat × AO)→Nat→Option AO
 | [],_=>none
 | x :: l,i=>(look l i).or (if x.1 = i then some x.2 else none)
def J6:A7→List (Nat × AO)→A7
 | H,[]=>H
 | H,x :: l=>J6 (hset H x.1 x.2) l
theorem A5i:∀(l:List (Nat × AO)) (H:A7) (i:Nat),(J6 H l)[i]? = (H[i]?).map fun o=>(look l i).getD o
 | [],H,i=>by simp [J6,look]
 | x :: l,H,i=>by
  simp only [J6,A5i l,hset,List.getElem?_set,look]
  by_cases e:x.1 = i
  ·subst e
   by_cases hl:x.1 < H.length
   ·simp [hl]
   ·simp [hl]
  ·simp [e]
theorem B1z:∀(l:List (Nat × AO)) (H:A7),(J6 H l).length = H.length
 | [],H=>rfl
 | x :: l,H=>by simp [J6,B1z l,hset]
theorem B72 {l:List (Nat × AO)} {i:Nat} (h:∀x ∈ l,x.1 ≠ i):look l i = none:= by
 induction l with
 | nil=>rfl
 | cons x l ih=>simp [look,ih (fun y hy=>h y (by simp [hy])),h x (by simp)]
theorem C7w {l:List (Nat × AO)} {i:Nat} {o:AO} (h:look l i = some o):∃x ∈ l,x.1 = i:= by
 induction l generalizing o with
 | nil=>cases h
 | cons x l ih =>
  simp only [look] at h
  cases hl:look l i with
  | some o'=>obtain ⟨y,hy,e⟩:=ih hl; exact ⟨y,by simp [hy],e⟩
  | none =>
   rw [hl] at h
   simp only [Option.none_or] at h
   split at h
   ·next e=>exact ⟨x,by simp,e⟩
   ·cases h
theorem B7z (H:A7):∀l,(hide H l).length = H.length
 | []=>rfl
 | b :: l=>by simp [hide,hset,B7z H l]
theorem B3o (G H:A7):∀l,(unhide G H l).length = H.length
 | []=>rfl
 | b :: l=>by
  simp only [unhide]
  split
  ·simp [hset,B3o G H l]
  ·exact B3o G H l
theorem A75 (H:A7) (i:Nat):∀l,(hide H l)[i]? = (H[i]?).map fun o=>if i ∈ l then AO.dead else o
 | []=>by simp [hide]
 | b :: l=>by
  simp only [hide,hset,List.getElem?_set,A75 H i l,List.mem_cons,B7z]
  by_cases e:b = i
  ·subst e
   by_cases hb:b < H.length
   ·simp [hb]
   ·have:H[b]? = none:=List.getElem?_eq_none (by omega)
    simp [hb,this]
  ·have e':¬ i = b:=fun h=>e h.symm
   simp [e,e']
theorem A5s (G H:A7) (i:Nat):∀l,(unhide G H l)[i]? = (H[i]?).map fun o=>if i ∈ l then (G[i]?).getD o else o
 | []=>by simp [unhide]
 | b :: l=>by
  simp only [unhide]
  split
  ·next o ho =>
   have ho':G[b]? = some o:=ho
   simp only [hset,List.getElem?_set,B3o,A5s G H i l,List.mem_cons]
   by_cases e:b = i
   ·subst e
    by_cases hb:b < H.length
    ·simp [hb,ho']
    ·have:H[b]? = none:=List.getElem?_eq_none (by omega)
     simp [hb,this]
   ·have e':¬ i = b:=fun h=>e h.symm
    simp [e,e']
  ·next hn =>
   have hn':G[b]? = none:=hn
   rw [A5s G H i l]
   by_cases e:i = b
   ·subst e; simp [hn']
   ·simp [e]
theorem B57 {H K:A7} (h:∀i:Nat,H[i]? = K[i]?):H = K:=List.ext_getElem? h
theorem A9k {H:A7} {S:List (Nat × AO)} {hs:List Nat} (h:∀x ∈ S,x.1 ∈ hs):hide (J6 H S) hs = hide H hs:= by
 apply B57; intro i
 rw [A75,A75,A5i,Option.map_map]
 congr 1; funext o
 simp only [Function.comp]
 by_cases hi:i ∈ hs
 ·simp [hi]
 ·simp [hi,B72 (l:=S) (i:=i) (fun x hx e=>hi (by rw [← e]; exact h x hx))]
theorem C3o {H H2:A7} {S:List (Nat × AO)} {hs:List Nat} (h:∀x ∈ S,x.1 ∈ hs) (hb:∀b ∈ hs,b < H.length):unhide (J6 H S) H2 hs = J6 (unhide H H2 hs) S:= by
 apply B57; intro i
 rw [A5s,A5i,A5i,A5s,Option.map_map]
 congr 1; funext o
 simp only [Function.comp]
 by_cases hi:i ∈ hs
 ·have:=List.getElem?_eq_getElem (hb i hi)
  simp [hi,this]
 ·simp [hi,B72 (l:=S) (i:=i) (fun x hx e=>hi (by rw [← e]; exact h x hx))]
theorem A88 {H:A7} {S:List (Nat × AO)} {hs:List Nat} (h:∀x ∈ S,x.1 ∉ hs):unhide H (J6 (hide H hs) S) hs = J6 H S:= by
 apply B57; intro i
 rw [A5s,A5i,A5i,A75,Option.map_map,Option.map_map]
 cases hH:H[i]? with
 | none=>simp
 | some o =>
  simp only [Option.map_some,Option.getD_some,Function.comp,Option.some.injEq]
  by_cases hi:i ∈ hs
  ·simp [hi,B72 (l:=S) (i:=i) (fun x hx e=>h x hx (by rw [e]; exact hi))]
  ·simp [hi]
theorem C8n {H:A7} {S T:List (Nat × AO)} (h:∀x ∈ S,∀ y ∈ T,x.1 ≠ y.1):J6 (J6 H S) T = J6 (J6 H T) S:= by
 apply B57; intro i
 simp only [A5i,Option.map_map]
 congr 1; funext o
 simp only [Function.comp]
 cases hS:look S i with
 | none=>simp
 | some oS =>
  cases hT:look T i with
  | none=>simp
  | some oT =>
   obtain ⟨x,hx,e1⟩:=C7w hS
   obtain ⟨y,hy,e2⟩:=C7w hT
   exact absurd (e1.trans e2.symm) (h x hx y hy)
theorem A85:∀(S T:List (Nat × AO)) (H:A7),J6 H (S++T) = J6 (J6 H S) T
 | [],T,H=>rfl
 | x :: S,T,H=>by simp [J6,A85 S T]
def B92 (n0:Nat) (owns:List (Nat × Nat × Nat)):List (Nat × AO):=owns.map fun x=>(n0 + x.2.1,.arr x.2.2 false [])
theorem B10 {n0:Nat}:∀(owns:List (Nat × Nat × Nat)) (zs:List AV) (H:A7),R3 n0 owns zs H = ((R3 n0 owns zs []).1,J6 H (B92 n0 owns))
 | [],zs,H=>rfl
 | (j,r,k) :: l,zs,H=>by
  simp only [R3,B92,List.map_cons,J6]
  rw [B10 l _ (hset H (n0 + r) (.arr k false [])),B10 l _ (hset [] (n0 + r) (.arr k false []))]
  rfl
theorem D5i {n0:Nat} {own:List (Nat × Nat)} {j:Nat} (v:AV):∃S,(∀ x ∈ S,∃ r ∈ own.map (·.2),x.1 = n0 + r)∧∀ H,inC n0 H own j v = ((inC n0 [] own j v).1,J6 H S):= by
 have none:(∀ H,inC n0 H own j v = ((inC n0 [] own j v).1,H))→∃ S:List (Nat × AO),(∀ x ∈ S,∃ r ∈ own.map (·.2),x.1 = n0 + r)∧∀ H,inC n0 H own j v = ((inC n0 [] own j v).1,J6 H S):=fun h=>⟨[],by simp,fun H=>by rw [h]; rfl⟩
 cases v with
 | fresh k rows =>
  cases hr:A1z j own with
  | none=>exact none (fun H=>by simp [inC,hr])
  | some r =>
   refine ⟨[(n0 + r,.arr k false rows)],?_,fun H=>by simp [inC,hr,J6]⟩
   intro x hx
   simp at hx; subst hx
   refine ⟨r,?_,rfl⟩
   clear none
   induction own with
   | nil=>cases hr
   | cons y own ih =>
    simp only [A1z] at hr
    cases hb:Nat.beq y.1 j with
    | true=>simp [hb] at hr; simp [hr]
    | false=>simp only [hb,cond_false] at hr; exact List.mem_cons_of_mem _ (ih hr)
 | _=>exact none (fun H=>rfl)
theorem D1h {n0:Nat} {own:List (Nat × Nat)}:∀(l:List AV) (j:Nat),∃ S,(∀ x ∈ S,∃ r ∈ own.map (·.2),x.1 = n0 + r)∧∀ H,A6o n0 H own j l = ((A6o n0 [] own j l).1,J6 H S)
 | [],j=>⟨[],by simp,fun H=>rfl⟩
 | v :: l,j=>by
  obtain ⟨S,h1,h2⟩:=D5i (n0:=n0) (own:=own) (j:=j) v
  obtain ⟨T,h3,h4⟩:=D1h (n0:=n0) (own:=own) l (j + 1)
  refine ⟨S++T,fun x hx=>(List.mem_append.1 hx).elim (h1 x) (h3 x),fun H=>?_⟩
  simp only [A6o]
  rw [h2 H,h4 (J6 H S),h2 [],h4 (J6 [] S),A85]
theorem D9h {n0:Nat} {own:List (Nat × Nat)} (v:AV):∃S,(∀ x ∈ S,∃ r ∈ own.map (·.2),x.1 = n0 + r)∧∀ H,inV n0 H own v = ((inV n0 [] own v).1,J6 H S):= by
 by_cases hv:∃cs,v = .agg cs
 ·obtain ⟨cs,rfl⟩:=hv
  obtain ⟨S,h1,h2⟩:=D1h (n0:=n0) (own:=own) cs 0
  refine ⟨S,h1,fun H=>?_⟩
  simp only [inV]; rw [h2 H,h2 []]
 ·obtain ⟨S,h1,h2⟩:=D5i (n0:=n0) (own:=own) (j:=0) v
  have e:∀H,inV n0 H own v = inC n0 H own 0 v:= by
   intro H; cases v <;> first | rfl | exact absurd ⟨_,rfl⟩ hv
  exact ⟨S,h1,fun H=>by rw [e,e]; exact h2 H⟩
theorem D1l {n0:Nat}:∀(l:List AV) (own:List (List (Nat × Nat))),∃ S,(∀ x ∈ S,∃ r ∈ own.flatMap fun q=>q.map (·.2),x.1 = n0 + r)∧∀ H,A1e n0 H l own = ((A1e n0 [] l own).1,J6 H S)
 | [],own=>⟨[],by simp,fun H=>rfl⟩
 | v :: l,own=>by
  obtain ⟨S,h1,h2⟩:=D9h (n0:=n0) (own:=own.headD []) v
  obtain ⟨T,h3,h4⟩:=D1l (n0:=n0) l own.tail
  refine ⟨S++T,fun x hx=>?_,fun H=>?_⟩
  ·have split:(own.flatMap fun q=>q.map (·.2)) = (own.headD []).map (·.2)++own.tail.flatMap fun q=>q.map (·.2):= by cases own <;> simp
   rw [split]
   rcases List.mem_append.1 hx with hx | hx
   ·obtain ⟨r,hr,e⟩:=h1 x hx; exact ⟨r,List.mem_append_left _ hr,e⟩
   ·obtain ⟨r,hr,e⟩:=h3 x hx; exact ⟨r,List.mem_append_right _ hr,e⟩
  ·simp only [A1e]
   rw [h2 H,h4 (J6 H S),h2 [],h4 (J6 [] S),A85]
def Same (s:C9) (op:AOp) (H K:A7):Prop:=A5c op = false∨H = K∨(isR op = true∧∀ b,rbox s op = some b→hget K b = hget H b)
theorem C4g {H K:A7} {b:Nat} (h:hget K b = hget H b):hcells K b = hcells H b:= by simp [hcells,h]
theorem C50 {H K:A7} {b:Nat} (h:hget K b = hget H b):harr K b = harr H b:= by simp [harr,h]
theorem D1f {H K:A7} {b:Nat} (h:hget K b = hget H b):hmap K b = hmap H b:= by simp [hmap,h]
theorem B8x {H K:A7} {p:AV} (h:∀b,p.box? = some b→hget K b = hget H b):I9 K p = I9 H p:= by
 cases p with
 | ptr b o=>simp [I9,C4g (h b rfl)]
 | eptr b n i o=>simp [I9,C50 (h b rfl)]
 | _=>rfl
theorem D6e {M:Mach} {c:Sc} {n0:Nat} {s:C9} {H H':A7} {op:AOp} {v:AV} (hw:writes op = false) (h:core M c n0 s H op = some (v,H')) :
  ∃ S:List (Nat × AO),(∀ x ∈ S,∃ r ∈ F4 op,x.1 = n0 + r)∧H' = J6 H S∧∀ K,Same s op H K→core M c n0 s K op = some (v,J6 K S):= by
 have still:H' = H→(∀ K,Same s op H K→core M c n0 s K op = some (v,K))→∃ S:List (Nat × AO),(∀ x ∈ S,∃ r ∈ F4 op,x.1 = n0 + r)∧H' = J6 H S∧∀ K,Same s op H K→core M c n0 s K op = some (v,J6 K S) :=
  fun e hK=>⟨[],by simp,e,hK⟩
 cases op with
 | store | storeN | append | copy | next | mupd | cut | sliceL | mvz=>simp [writes] at hw
 | call f args own pure =>
  simp only [writes,Bool.not_eq_false'] at hw
  subst hw
  have hH:∀{K},Same s (.call f args own true) H K→H = K:= by
   intro K hK
   rcases hK with hK | hK | ⟨hK,_⟩
   ·simp [A5c] at hK
   ·exact hK
   ·simp [isR,T9] at hK
  simp only [core,A0o,if_true] at h
  have h0:=h
  repeat' split at h
  all_goals try (cases h; done)
  rename_i rs _ _ hbd
  obtain ⟨S,h1,h2⟩:=D1l (n0:=n0) rs own
  simp only [Option.some.injEq,Prod.mk.injEq] at h
  obtain ⟨rfl,rfl⟩:=h
  refine ⟨S,h1,by rw [h2 H],fun K hK=>?_⟩
  have:=hH hK; subst this
  simp only [core,A0o,if_true]
  rw [h0,h2 H]
 | load k x =>
  cases k with
  | none =>
   simp only [core,prim] at h
   split at h
   ·next p hp =>
    split at h
    ·next y l hy =>
     simp only [Option.some.injEq,Prod.mk.injEq] at h
     obtain ⟨rfl,rfl⟩:=h
     refine still rfl (fun K hK=>?_)
     have:I9 K p = I9 H p:= by
      rcases hK with hK | hK | ⟨_,hK⟩
      ·simp [A5c,T9] at hK
      ·rw [hK]
      ·exact B8x (fun b hb=>hK b (by simp [rbox,T9,hp,hb]))
     simp [core,prim,hp,this,hy]
    ·cases h
   ·cases h
  | some k =>
   simp only [core,prim] at h
   split at h
   ·next p hp =>
    split at h
    ·next cs hy =>
     split at h
     ·next hle =>
      simp only [Option.some.injEq,Prod.mk.injEq] at h
      obtain ⟨rfl,rfl⟩:=h
      refine still rfl (fun K hK=>?_)
      have:I9 K p = I9 H p:= by
       rcases hK with hK | hK | ⟨_,hK⟩
       ·simp [A5c,T9] at hK
       ·rw [hK]
       ·exact B8x (fun b hb=>hK b (by simp [rbox,T9,hp,hb]))
      simp only [core,prim,hp,this,hy,hle,if_true]
     ·cases h
    ·cases h
   ·cases h
 | lookup z ag ks x y ok =>
  simp only [core,prim] at h
  split at h
  ·next m key e1 e2 =>
   have hh:∀K,Same s (.lookup z ag ks x y ok) H K→∀ b,m = .mp b→hmap K b = hmap H b:= by
    intro K hK b hb
    rcases hK with hK | hK | ⟨_,hK⟩
    ·simp [A5c,T9] at hK
    ·rw [hK]
    ·exact D1f (hK b (by simp [rbox,T9,e1,hb,AV.box?]))
   cases m with
   | mp b =>
    simp only at h
    split at h
    ·next es cs he hk =>
     split at h
     ·next hif =>
      split at h
      ·next i v' hfd =>
       simp only [Option.some.injEq,Prod.mk.injEq] at h
       obtain ⟨rfl,rfl⟩:=h
       exact still rfl (fun K hK=>by simp only [core,prim,e1,e2,hh K hK b rfl,he,hk,hif,if_true,hfd])
      ·next hfd =>
       simp only [Option.some.injEq,Prod.mk.injEq] at h
       obtain ⟨rfl,rfl⟩:=h
       exact still rfl (fun K hK=>by simp only [core,prim,e1,e2,hh K hK b rfl,he,hk,hif,if_true,hfd])
      ·cases h
     ·cases h
    ·cases h
   | lit u =>
    cases u with
    | map r =>
     cases r with
     | none =>
      simp only at h
      split at h
      ·next es cs he hk =>
       simp only [Option.some.injEq] at he; subst he
       split at h
       ·next hif =>
        simp only [findKey,Option.some.injEq,Prod.mk.injEq] at h
        obtain ⟨rfl,rfl⟩:=h
        exact still rfl (fun K hK=>by simp only [core,prim,e1,e2,hk,hif,if_true,findKey])
       ·cases h
      ·cases h
     | some r=>simp at h
    | _=>simp at h
   | _=>simp at h
  ·cases h
 | lenL x =>
  simp only [core,prim] at h
  split at h
  ·next hx =>
   simp only [Option.some.injEq,Prod.mk.injEq] at h
   obtain ⟨rfl,rfl⟩:=h
   exact still rfl (fun K _=>by simp only [core,prim,hx])
  ·next hx =>
   simp only [Option.some.injEq,Prod.mk.injEq] at h
   obtain ⟨rfl,rfl⟩:=h
   exact still rfl (fun K _=>by simp only [core,prim,hx])
  ·next hx =>
   simp only [Option.some.injEq,Prod.mk.injEq] at h
   obtain ⟨rfl,rfl⟩:=h
   exact still rfl (fun K _=>by simp only [core,prim,hx])
  ·next hx =>
   simp only [Option.some.injEq,Prod.mk.injEq] at h
   obtain ⟨rfl,rfl⟩:=h
   exact still rfl (fun K _=>by simp only [core,prim,hx])
  ·next b n hx =>
   split at h
   ·next k p rows hr =>
    split at h
    ·next hn =>
     simp only [Option.some.injEq,Prod.mk.injEq] at h
     obtain ⟨rfl,rfl⟩:=h
     refine still rfl (fun K hK=>?_)
     have:harr K b = harr H b:= by
      rcases hK with hK | hK | ⟨_,hK⟩
      ·simp [A5c,T9] at hK
      ·rw [hK]
      ·exact C50 (hK b (by simp [rbox,T9,hx,AV.box?]))
     simp only [core,prim,hx,this,hr,if_pos hn]
    ·cases h
   ·cases h
  ·cases h
 | lenM x =>
  simp only [core,prim] at h
  split at h
  ·next b hx =>
   split at h
   ·next es hr =>
    simp only [Option.some.injEq,Prod.mk.injEq] at h
    obtain ⟨rfl,rfl⟩:=h
    refine still rfl (fun K hK=>?_)
    have:hmap K b = hmap H b:= by
     rcases hK with hK | hK | ⟨_,hK⟩
     ·simp [A5c,T9] at hK
     ·rw [hK]
     ·exact D1f (hK b (by simp [rbox,T9,hx,AV.box?]))
    simp only [core,prim,hx,this,hr]
   ·cases h
  ·next hx =>
   simp only [Option.some.injEq,Prod.mk.injEq] at h
   obtain ⟨rfl,rfl⟩:=h
   exact still rfl (fun K _=>by simp only [core,prim,hx])
  ·cases h
 | idxS k x y =>
  simp only [core,prim] at h
  split at h
  ·next k' rows m i hx hy =>
   split at h
   ·next hif =>
    split at h
    ·next r hr =>
     simp only [Option.some.injEq,Prod.mk.injEq] at h
     obtain ⟨rfl,rfl⟩:=h
     exact still rfl (fun K _=>by simp only [core,prim,hx,hy,if_pos hif,hr])
    ·cases h
   ·cases h
  ·next k' rows m i hx hy =>
   split at h
   ·next hif =>
    split at h
    ·next r hr =>
     simp only [Option.some.injEq,Prod.mk.injEq] at h
     obtain ⟨rfl,rfl⟩:=h
     exact still rfl (fun K _=>by simp only [core,prim,hx,hy,if_pos hif,hr])
    ·cases h
   ·cases h
  ·next b n m i hx hy =>
   split at h
   ·next k' p rows hr =>
    split at h
    ·next hif =>
     simp only [Option.some.injEq,Prod.mk.injEq] at h
     obtain ⟨rfl,rfl⟩:=h
     refine still rfl (fun K hK=>?_)
     have:harr K b = harr H b:= by
      rcases hK with hK | hK | ⟨_,hK⟩
      ·simp [A5c,T9] at hK
      ·rw [hK]
      ·exact C50 (hK b (by simp [rbox,T9,hx,AV.box?]))
     simp only [core,prim,hx,hy,this,hr,if_pos hif]
    ·cases h
   ·cases h
  ·cases h
 | nilq neg x =>
  simp only [core,prim] at h
  split at h
  ·next hx =>
   simp only [Option.some.injEq,Prod.mk.injEq] at h
   obtain ⟨rfl,rfl⟩:=h
   exact still rfl (fun K _=>by simp only [core,prim,hx])
  ·next hx =>
   simp only [Option.some.injEq,Prod.mk.injEq] at h
   obtain ⟨rfl,rfl⟩:=h
   exact still rfl (fun K _=>by simp only [core,prim,hx])
  ·next hx =>
   simp only [Option.some.injEq,Prod.mk.injEq] at h
   obtain ⟨rfl,rfl⟩:=h
   exact still rfl (fun K _=>by simp only [core,prim,hx])
  ·cases h
 | sliceA k n x hi =>
  simp only [core,prim] at h
  split at h
  ·next b o hb =>
   split at h
   ·next cs hh hcs hbd =>
    split at h
    ·next hle =>
     simp only [Option.some.injEq,Prod.mk.injEq] at h
     obtain ⟨rfl,rfl⟩:=h
     refine still rfl (fun K hK=>?_)
     have:hcells K b = hcells H b:= by
      rcases hK with hK | hK | ⟨_,hK⟩
      ·simp [A5c,T9] at hK
      ·rw [hK]
      ·exact C4g (hK b (by simp [rbox,T9,hb,AV.box?]))
     simp only [core,prim,hb,this,hcs,hbd,hle,if_true]
    ·cases h
   ·cases h
  ·cases h
 | nil k r =>
  simp only [core,prim,Option.some.injEq,Prod.mk.injEq] at h
  obtain ⟨rfl,rfl⟩:=h
  exact ⟨[(n0 + r,.arr k false [])],by simp [F4],rfl,fun K _=>rfl⟩
 | mkmap r =>
  simp only [core,prim,Option.some.injEq,Prod.mk.injEq] at h
  obtain ⟨rfl,rfl⟩:=h
  exact ⟨[(n0 + r,.map [])],by simp [F4],rfl,fun K _=>rfl⟩
 | alloc zs owns r =>
  simp only [core,prim,Option.some.injEq,Prod.mk.injEq] at h
  obtain ⟨rfl,rfl⟩:=h
  refine ⟨B92 n0 owns++[(n0 + r,.cells (R3 n0 owns zs []).1)],?_,?_,fun K _=>?_⟩
  ·intro x hx
   simp only [List.mem_append,B92,List.mem_map,List.mem_singleton] at hx
   rcases hx with ⟨q,hq,rfl⟩ | rfl
   ·exact ⟨q.2.1,by simp only [F4,List.mem_cons,List.mem_map]; exact .inr ⟨q,hq,rfl⟩,rfl⟩
   ·exact ⟨r,by simp [F4],rfl⟩
  ·rw [B10,A85]; rfl
  ·simp only [core,prim]; rw [B10,A85]; rfl
 | box n x r =>
  simp only [core,prim] at h
  split at h
  ·next u hu =>
   split at h
   ·next hn =>
    simp only [Option.some.injEq,Prod.mk.injEq] at h
    obtain ⟨rfl,rfl⟩:=h
    exact ⟨[(n0 + r,.cells u.cellsOf)],by simp [F4],rfl,fun K _=>by simp only [core,prim,hu,hn,if_true]; rfl⟩
   ·cases h
  ·cases h
 | range x r =>
  simp only [core,prim] at h
  split at h
  ·next u hu =>
   simp only [Option.some.injEq,Prod.mk.injEq] at h
   obtain ⟨rfl,rfl⟩:=h
   exact ⟨[(n0 + r,.iter u 0)],by simp [F4],rfl,fun K _=>by simp only [core,prim,hu]; rfl⟩
  ·cases h
 | mkslice k b z l cp r =>
  simp only [core,prim] at h
  split at h
  ·next l1 c1 e1 e2 =>
   split at h
   ·next hif =>
    simp only [Option.some.injEq,Prod.mk.injEq] at h
    obtain ⟨rfl,rfl⟩:=h
    exact ⟨[(n0 + r,.arr k false (List.replicate l1.toNat z))],by simp [F4],rfl,fun K _=>by simp only [core,prim,e1,e2,if_pos hif]; rfl⟩
   ·cases h
  ·cases h
 | lits k z n ps own =>
  simp only [core,prim,Option.bind_eq_some_iff] at h
  obtain ⟨qs,e1,rows,e2,h⟩:=h
  split at h
  ·next hfr =>
   cases own with
   | none =>
    simp only [Option.some.injEq,Prod.mk.injEq] at h
    obtain ⟨rfl,rfl⟩:=h
    exact still rfl (fun K _=>by simp [core,prim,e1,e2,hfr])
   | some r =>
    simp only [Option.some.injEq,Prod.mk.injEq] at h
    obtain ⟨rfl,rfl⟩:=h
    exact ⟨[(n0 + r,.arr k false rows)],by simp [F4],rfl,fun K _=>by simp [core,prim,e1,e2,hfr,J6]⟩
  ·cases h
 | build z ps =>
  simp only [core,prim,Option.bind_eq_some_iff] at h
  obtain ⟨qs,e1,h⟩:=h
  have e:=A9m h
  subst e
  refine still rfl (fun K _=>?_)
  simp only [core,prim,e1,Option.bind_some]
  revert h
  cases B16 z qs <;> simp
 | xlits k z n ps =>
  simp only [core,prim,Option.bind_eq_some_iff] at h
  obtain ⟨qs,e1,h⟩:=h
  have e:=A9m h
  subst e
  refine still rfl (fun K _=>?_)
  simp only [core,prim,e1,Option.bind_some]
  revert h
  cases A6m k (List.replicate n z) qs <;> simp
 | _ =>
  simp only [core,prim] at h
  have h0:=h
  have e:H' = H:= by
   first
   | exact A9m h
   | (repeat' split at h) <;> first
     | (cases h; done)
     | (simp only [Option.some.injEq,Prod.mk.injEq] at h; exact h.2.symm)
     | exact A9m h
  subst e
  refine still rfl (fun K _=>?_)
  simp only [core,prim]
  revert h0
  first
  | (cases ev s _ <;> simp <;> done)
  | (repeat' split) <;> first
    | (simp; done)
    | (simp only [Option.map_eq_some_iff,Prod.mk.injEq]; rintro ⟨y,hy,rfl,_⟩; exact ⟨y,hy,rfl,rfl⟩)
section
variable {M:Mach} {c:Sc} {n0:Nat}
def act (M:Mach) (c:Sc) (n0:Nat) (s:C9) (H:A7) (o:AOper):Option (AV × A7 × Option (List Nat)) :=
 match wanted s o.guard with
 | none=>none
 | some false=>some (.tup [],H,none)
 | some true=>match A5t n0 s H o with
  | some hs=>match core M c n0 s (hide H hs) o.op with
   | some r=>if hs.isEmpty || Nat.ble H.length r.2.length then some (r.1,unhide H r.2 hs,some hs) else none
   | none=>none
  | none=>none
theorem B0x {s s':C9} {H H':A7} {hc hc':List (Option (List Nat))} {o:AOper}:oper M c n0 s H hc o = some (s',H',hc') ↔
  ∃ v e,act M c n0 s H o = some (v,H',e)∧(e = none∨P9 s o hc = true)∧s' = sput s o.dst v∧hc' = if writes o.op then e :: hc else hc:= by
 unfold oper act
 constructor
 ·intro h
  split at h
  ·cases h
  ·next hw =>
   simp only [Option.some.injEq,Prod.mk.injEq] at h
   obtain ⟨rfl,rfl,rfl⟩:=h
   exact ⟨.tup [],none,by simp only [hw],.inl rfl,rfl,rfl⟩
  ·next hw =>
   split at h
   ·next hs e1 e2 =>
    split at h
    ·next r hr =>
     split at h
     case isFalse=>cases h
     next hlen =>
     simp only [Option.some.injEq,Prod.mk.injEq] at h
     obtain ⟨rfl,rfl,rfl⟩:=h
     exact ⟨r.1,some hs,by simp only [hw,e1,hr,hlen,if_true],.inr e2,rfl,rfl⟩
    ·cases h
   ·cases h
 ·rintro ⟨v,e,h,h1,rfl,rfl⟩
  split at h
  ·cases h
  ·next hw =>
   simp only [Option.some.injEq,Prod.mk.injEq] at h
   obtain ⟨rfl,rfl,rfl⟩:=h
   simp only [hw]
  ·next hw =>
   split at h
   ·next hs e1 =>
    split at h
    ·next r hr =>
     split at h
     case isFalse=>cases h
     next hlen =>
     simp only [Option.some.injEq,Prod.mk.injEq] at h
     obtain ⟨rfl,rfl,rfl⟩:=h
     have h2:=h1.resolve_left (by simp)
     simp only [hw,e1,h2,hr,hlen,if_true]
    ·cases h
   ·cases h
theorem B7j {s s':C9} {H:A7} {o:AOper} (h:∀t ∈ B0a o,sget s t = sget s' t):act M c n0 s H o = act M c n0 s' H o:= by
 simp only [B0a,List.mem_append] at h
 have e1:wanted s o.guard = wanted s' o.guard:=C6p _ (fun t ht=>h t (.inl (.inr ht)))
 have e2:∀K,ways s K o.hida = ways s' K o.hida:=fun K=>C2y _ (fun t ht=>h t (.inr ht))
 have e3:∀K,core M c n0 s K o.op = core M c n0 s' K o.op:=fun K=>C9d (fun t ht=>h t (.inl (.inl ht)))
 simp only [act,A5t,e1,e2,e3]
theorem C3f {op:AOp} {x:Opd} (h:T9 op = some x):∀t ∈ P6 x,t ∈ A4a op:= by
 intro t ht
 cases op <;> simp [T9] at h <;> subst h <;> simp [A4a,ht]
theorem D0g {s s':C9} {op:AOp} (h:∀t ∈ A4a op,sget s t = sget s' t):rbox s op = rbox s' op:= by
 unfold rbox
 cases ha:T9 op with
 | none=>rfl
 | some x=>simp only [Option.bind_some,X6 x (fun t ht=>h t (C3f ha t ht))]
theorem B1y {s s':C9} {o:AOper} {hc:List (Option (List Nat))} (h:∀t ∈ B0a o,sget s t = sget s' t):P9 s o hc = P9 s' o hc:= by
 simp only [B0a,List.mem_append] at h
 simp only [P9,D0g (fun t ht=>h t (.inl (.inl ht)))]
def Eqv (s s':C9):Prop:=∀ t,sget s t = sget s' t
theorem B3n (s:C9) (d:Option Nat) (v:AV) (t:Nat):sget (sput s d v) t = if d = some t then some v else sget s t:= by
 cases d with
 | none=>simp [sput]
 | some d =>
  simp only [sput,O7,M3]
  cases h:Nat.beq d t with
  | true=>simp [Nat.eq_of_beq_eq_true h]
  | false=>simp [Nat.ne_of_beq_eq_false h]
theorem Eqv.put {s s':C9} (h:Eqv s s') (d:Option Nat) (v:AV):Eqv (sput s d v) (sput s' d v):=fun t=>by rw [B3n,B3n,h t]
theorem D59 {s s1 s':C9} {H H':A7} {hc hc':List (Option (List Nat))} {o:AOper} (he:Eqv s s1) (h:oper M c n0 s H hc o = some (s',H',hc')) :
  ∃ s1',oper M c n0 s1 H hc o = some (s1',H',hc')∧Eqv s' s1':= by
 obtain ⟨v,e,h1,h2,rfl,rfl⟩:=B0x.1 h
 exact ⟨_,B0x.2 ⟨v,e,by rw [← B7j (fun t _=>he t)]; exact h1,by rw [← B1y (fun t _=>he t)]; exact h2,rfl,rfl⟩,he.put _ _⟩
theorem C4z:∀{l:List AOper} {s s1 s':C9} {H H':A7} {hc:List (Option (List Nat))},Eqv s s1→opers M c n0 l s H hc = some (s',H') →
  ∃ s1',opers M c n0 l s1 H hc = some (s1',H')∧Eqv s' s1'
 | [],s,s1,s',H,H',hc,he,h=>by
  simp only [opers,Option.some.injEq,Prod.mk.injEq] at h
  obtain ⟨rfl,rfl⟩:=h
  exact ⟨s1,rfl,he⟩
 | o :: l,s,s1,s',H,H',hc,he,h=>by
  simp only [opers] at h
  split at h
  ·cases h
  ·next s2 H2 hc2 h2 =>
   obtain ⟨s3,q1,q2⟩:=D59 he h2
   obtain ⟨s4,q3,q4⟩:=C4z q2 h
   exact ⟨s4,by simp only [opers,q1,q3],q4⟩
theorem B9q {s:C9} {H H':A7} {o:AOper} {v:AV} {e:Option (List Nat)} (hw:writes o.op = false) (h1:A9f o = true) (h:act M c n0 s H o = some (v,H',e)) :
  ∃ S:List (Nat × AO),(∀ x ∈ S,∃ r ∈ F4 o.op,x.1 = n0 + r)∧H' = J6 H S ∧
   ∀ K,Same s o.op (hide H (o.hid.map (n0 + ·))) (hide K (o.hid.map (n0 + ·)))→act M c n0 s K o = some (v,J6 K S,e):= by
 simp only [A9f,hw,Bool.false_or,Bool.and_eq_true,List.isEmpty_iff] at h1
 obtain ⟨h1,h2⟩:=h1
 unfold act at h ⊢
 split at h
 ·cases h
 ·next hwt =>
  simp only [Option.some.injEq,Prod.mk.injEq] at h
  obtain ⟨rfl,rfl,rfl⟩:=h
  exact ⟨[],by simp,rfl,fun K _=>by simp only [hwt,J6]⟩
 ·next hwt =>
  have hs0:∀K:A7,A5t n0 s K o = some (o.hid.map (n0 + ·)):= by
   intro K; simp [A5t,h1,ways,hw]
  simp only [hs0] at h
  split at h
  ·next r hr =>
   split at h
   case isFalse=>cases h
   simp only [Option.some.injEq,Prod.mk.injEq] at h
   obtain ⟨rfl,rfl,rfl⟩:=h
   obtain ⟨v,H2⟩:=r
   obtain ⟨S,q1,q2,q3⟩:=D6e hw hr
   have hd:∀x ∈ S,x.1 ∉ o.hid.map (n0 + ·):= by
    intro x hx hm
    obtain ⟨r,hr',he⟩:=q1 x hx
    obtain ⟨r',hr2,he2⟩:=List.mem_map.1 hm
    have:r = r':= by omega
    subst this
    simp only [D4g,List.all_eq_true,Bool.not_eq_true',List.contains_eq_mem,decide_eq_false_iff_not] at h2
    exact h2 r hr' hr2
   refine ⟨S,q1,by simp only [q2]; exact A88 hd,fun K hS=>?_⟩
   have hle:Nat.ble K.length (J6 (hide K (o.hid.map (n0 + ·))) S).length = true:= by rw [B1z,B7z]; simp
   simp only [hwt,hs0,q3 _ hS,A88 hd,hle,Bool.or_true,if_true]
  ·cases h
theorem C6v {s:C9} {H:A7} {o:AOper} {S:List (Nat × AO)} (hw:writes o.op = true) (hS:∀x ∈ S,∃ r ∈ o.hid,x.1 = n0 + r):act M c n0 s (J6 H S) o = (act M c n0 s H o).map fun r=>(r.1,J6 r.2.1 S,r.2.2):= by
 have hS0:∀x ∈ S,x.1 ∈ o.hid.map (n0 + ·):=fun x hx=>by
  obtain ⟨r,hr,he⟩:=hS x hx
  rw [he]; exact List.mem_map_of_mem hr
 have e0:A5t n0 s (J6 H S) o = A5t n0 s H o:= by
  simp only [A5t,A9k hS0,B1z]
 unfold act
 split
 ·rfl
 ·rfl
 ·rw [e0]
  split
  ·next hs e1 =>
   have hsub:∀x ∈ S,x.1 ∈ hs:= by
    intro x hx
    unfold A5t at e1
    split at e1
    ·dsimp only at e1
     split at e1
     ·simp only [Option.some.injEq] at e1
      subst e1
      exact List.mem_append_left _ (hS0 x hx)
     ·cases e1
    ·cases e1
   have hb:∀b ∈ hs,b < H.length:= by
    unfold A5t at e1
    split at e1
    ·dsimp only at e1
     split at e1
     ·next hall =>
      simp only [Option.some.injEq] at e1
      subst e1
      intro b hb
      simp only [hw,Bool.not_true,Bool.false_or] at hall
      have:=List.all_eq_true.1 hall b hb
      simpa [Nat.blt_eq] using this
     ·cases e1
    ·cases e1
   rw [A9k hsub]
   split
   ·next r hr =>
    rw [B1z]
    split
    ·simp only [Option.map_some,C3o hsub hb]
    ·rfl
   ·rfl
  ·rfl
theorem E1d {s:C9} {H:A7} {o:AOper} {v:AV} {H':A7} {hs:List Nat} (hw:writes o.op = true) (h:act M c n0 s H o = some (v,H',some hs)):(∀ b ∈ hs,b < H.length)∧∃ H2,H' = unhide H H2 hs∧(hs = []∨H.length≤H2.length):= by
 unfold act at h
 split at h
 ·cases h
 ·cases h
 ·split at h
  ·next hs' e1 =>
   split at h
   ·next r hr =>
    split at h
    case isFalse=>cases h
    next hle =>
    simp only [Option.some.injEq,Prod.mk.injEq] at h
    obtain ⟨_,rfl,rfl⟩:=h
    refine ⟨?_,r.2,rfl,by simpa using hle⟩
    unfold A5t at e1
    split at e1
    ·dsimp only at e1
     split at e1
     ·next hall =>
      simp only [Option.some.injEq] at e1
      subst e1
      intro b hb
      simp only [hw,Bool.not_true,Bool.false_or] at hall
      have:=List.all_eq_true.1 hall b hb
      simpa [Nat.blt_eq] using this
     ·cases e1
    ·cases e1
   ·cases h
  ·cases h
theorem C6u {s:C9} {H:A7} {o:AOper} {v:AV} {H':A7} (h:act M c n0 s H o = some (v,H',none)):v = .tup []∧H' = H∧∀ K,act M c n0 s K o = some (.tup [],K,none):= by
 unfold act at h ⊢
 split at h
 ·cases h
 ·next hw =>
  simp only [Option.some.injEq,Prod.mk.injEq] at h
  exact ⟨h.1.symm,h.2.1.symm,fun K=>by simp only [hw]⟩
 ·split at h
  ·split at h
   ·split at h
    ·simp at h
    ·cases h
   ·cases h
  ·cases h
theorem D60 {l m:List Nat}:D0q l m = true↔∀ x ∈ l,x ∈ m:= by simp [D0q]
theorem D6q {op:AOp} (h:A5c op = false):isR op = false∧writes op = false:= by
 simp only [A5c,Bool.or_eq_false_iff] at h
 exact ⟨h.1.1,h.2⟩
theorem D3j {s:C9} {op:AOp} (h:isR op = false):rbox s op = none:= by
 unfold rbox
 cases ha:T9 op with
 | none=>rfl
 | some x=>simp [isR,ha] at h
theorem D68 {op:AOp} (h:isR op = true):F4 op = []∧writes op = false:= by
 cases op <;> simp [isR,T9] at h <;> simp [F4,writes]
theorem C28 {a x:AOper} (h:C0l a x = true):(∀ d,a.dst = some d→d ∉ B0a x∧x.dst ≠ some d)∧∀ d,x.dst = some d→d ∉ B0a a:= by
 simp only [C0l,Bool.and_eq_true] at h
 refine ⟨fun d hd=>?_,fun d hd=>?_⟩
 ·have:=h.1; rw [hd] at this
  simpa using this
 ·have:=h.2; rw [hd] at this
  simpa using this
theorem swap {s s1 s2:C9} {H H1 H2:A7} {hc hc1 hc2:List (Option (List Nat))} {a x:AOper} (hda:A9f a = true) (hdx:A9f x = true) (hp:A97 a x (if writes a.op then 1 else 0) = true)
  (hdis:∀r ∈ F4 a.op,r ∉ F4 x.op)
  (ha:oper M c n0 s H hc a = some (s1,H1,hc1)) (hx:oper M c n0 s1 H1 hc1 x = some (s2,H2,hc2)) :
  ∃ s1' H1' hc1' s2',oper M c n0 s H hc { x with inc:=if writes a.op then x.inc - 1 else x.inc } = some (s1',H1',hc1')∧oper M c n0 s1' H1' hc1' a = some (s2',H2,hc2)∧Eqv s2 s2':= by
 obtain ⟨va,ea,a1,a2,rfl,rfl⟩:=B0x.1 ha
 obtain ⟨vx,ex,x1,x2,rfl,rfl⟩:=B0x.1 hx
 simp only [A97,Bool.and_eq_true] at hp
 obtain ⟨hap,hp⟩:=hp
 obtain ⟨ap1,ap2⟩:=C28 hap
 have cx:∀t ∈ B0a x,sget (sput s a.dst va) t = sget s t:= by
  intro t ht
  rw [B3n]
  split
  ·next e=>exact absurd ht (ap1 t e).1
  ·rfl
 have ca:∀v,∀ t ∈ B0a a,sget s t = sget (sput s x.dst v) t:= by
  intro v t ht
  rw [B3n]
  split
  ·next e=>exact absurd ht (ap2 t e)
  ·rfl
 rw [B7j cx] at x1
 rw [B1y cx] at x2
 have eqv:Eqv (sput (sput s a.dst va) x.dst vx) (sput (sput s x.dst vx) a.dst va):= by
  intro t
  simp only [B3n]
  by_cases e1:x.dst = some t <;> by_cases e2:a.dst = some t <;> simp [e1,e2]
  exact absurd e1 (ap1 t e2).2
 have x':∀K,act M c n0 s K { x with inc:=if writes a.op then x.inc - 1 else x.inc } = act M c n0 s K x:=fun K=>rfl
 have goal:∀(H1':A7) (hc1':List (Option (List Nat))),act M c n0 s H x = some (vx,H1',ex)→act M c n0 s H1' a = some (va,H2,ea) →
   (ex = none∨P9 s { x with inc:=if writes a.op then x.inc - 1 else x.inc } hc = true)→hc1' = (if writes x.op then ex :: hc else hc)→(ea = none∨P9 s a hc1' = true) →
   ((if writes a.op then ea :: hc1' else hc1') = if writes x.op then ex :: (if writes a.op then ea :: hc else hc) else (if writes a.op then ea :: hc else hc)) →
   ∃ s1' H1' hc1' s2',oper M c n0 s H hc { x with inc:=if writes a.op then x.inc - 1 else x.inc } = some (s1',H1',hc1')∧oper M c n0 s1' H1' hc1' a = some (s2',H2,if writes x.op then ex :: (if writes a.op then ea :: hc else hc) else (if writes a.op then ea :: hc else hc))∧Eqv (sput (sput s a.dst va) x.dst vx) s2':= by
  intro H1' hc1' g1 g2 g3 g4 g5 g6
  refine ⟨sput s x.dst vx,H1',hc1',sput (sput s x.dst vx) a.dst va,?_,?_,eqv⟩
  ·exact B0x.2 ⟨vx,ex,by rw [x']; exact g1,g3,rfl,g4⟩
  ·refine B0x.2 ⟨va,ea,by rw [← B7j (ca vx)]; exact g2,?_,rfl,g6.symm⟩
   rw [← B1y (ca vx)]; exact g5
 have ranksIn:∀{S:List (Nat × AO)} {l m:List Nat},(∀ q ∈ S,∃ r ∈ l,q.1 = n0 + r)→D0q l m = true→∀ q ∈ S,∃ r ∈ m,q.1 = n0 + r:= by
  intro S l m h1 h2 q hq
  obtain ⟨r,hr,e⟩:=h1 q hq
  exact ⟨r,D60.1 h2 r hr,e⟩
 have inHid:∀{S:List (Nat × AO)} {m:List Nat},(∀ q ∈ S,∃ r ∈ m,q.1 = n0 + r)→∀ q ∈ S,q.1 ∈ m.map (n0 + ·):= by
  intro S m h q hq
  obtain ⟨r,hr,e⟩:=h q hq
  rw [e]; exact List.mem_map_of_mem hr
 have unseen:∀(o:AOper) (l:List (Option (List Nat))),isR o.op = false→P9 s o l = true:= by
  intro o l h
  simp [P9,D3j h]
 cases hwa:writes a.op <;> cases hwx:writes x.op <;> simp only [hwa,hwx,if_true,if_false,Bool.false_eq_true] at hp goal x2 ⊢
 ·
  simp only [Bool.and_eq_true,Bool.or_eq_true,Bool.not_eq_true'] at hp
  obtain ⟨S,s1,rfl,s3⟩:=B9q hwa hda a1
  obtain ⟨T,t1,rfl,t3⟩:=B9q hwx hdx x1
  have hST:∀q ∈ S,∀ p ∈ T,q.1 ≠ p.1:= by
   intro q hq p hp' e
   obtain ⟨r,hr,e1⟩:=s1 q hq
   obtain ⟨r',hr',e2⟩:=t1 p hp'
   have:r = r':= by omega
   subst this
   exact hdis r hr hr'
  have g1:=t3 H (by
   rcases hp.2 with h | h
   ·exact .inl h
   ·right; left; rw [A9k (inHid (ranksIn s1 h))])
  have g2:=s3 (J6 H T) (by
   rcases hp.1 with h | h
   ·exact .inl h
   ·right; left; rw [A9k (inHid (ranksIn t1 h))])
  refine goal _ hc g1 (by rw [g2,C8n hST]) x2 rfl a2 rfl
 ·
  simp only [Bool.and_eq_true,Bool.not_eq_true'] at hp
  obtain ⟨S,s1,rfl,s3⟩:=B9q hwa hda a1
  rw [C6v hwx (ranksIn s1 hp.2)] at x1
  cases hq:act M c n0 s H x with
  | none=>simp [hq] at x1
  | some r =>
   obtain ⟨v',H1',e'⟩:=r
   simp only [hq,Option.map_some,Option.some.injEq,Prod.mk.injEq] at x1
   obtain ⟨rfl,rfl,rfl⟩:=x1
   exact goal H1' (e' :: hc) hq (s3 H1' (.inl hp.1)) x2 rfl (.inr (unseen a _ (D6q hp.1).1)) rfl
 ·
  obtain ⟨T,t1,rfl,t3⟩:=B9q hwx hdx x1
  have aT:(∀ q ∈ T,∃ r ∈ a.hid,q.1 = n0 + r)→act M c n0 s (J6 H T) a = some (va,J6 H1 T,ea):= by
   intro hT
   rw [C6v hwa hT,a1]; rfl
  cases hR:isR x.op with
  | true =>
   simp only [hR,if_true,Nat.ble_eq] at hp
   have hT:T = []:= by
    cases T with
    | nil=>rfl
    | cons q T=>obtain ⟨r,hr,_⟩:=t1 q (by simp); rw [(D68 hR).1] at hr; cases hr
   subst hT
   have hinc:∃m,x.inc = m + 1:=⟨x.inc - 1,by omega⟩
   obtain ⟨m,hm⟩:=hinc
   have hlook:ex = none∨(P9 s { x with inc:=x.inc - 1 } hc = true∧(Same s x.op (hide H1 (x.hid.map (n0 + ·))) (hide H (x.hid.map (n0 + ·))))):= by
    rcases x2 with h | h
    ·exact .inl h
    ·right
     simp only [P9,hm] at h ⊢
     cases hb:rbox s x.op with
     | none =>
      refine ⟨by simp,.inr (.inr ⟨hR,fun b h=>by rw [hb] at h; cases h⟩)⟩
     | some b =>
      simp only [hb,List.take_succ_cons,List.all_cons,Bool.and_eq_true] at h
      refine ⟨by simpa using h.2,.inr (.inr ⟨hR,fun b' hb'=>?_⟩)⟩
      rw [hb] at hb'; cases hb'
      have e1:H1[b]? = H[b]?:= by
       cases ea with
       | none=>rw [(C6u a1).2.1]
       | some hs =>
        obtain ⟨q1,H2',rfl,q2⟩:=E1d hwa a1
        have hbs:b ∈ hs:= by simpa using h.1
        have hlt:=q1 b hbs
        have hget:=List.getElem?_eq_getElem hlt
        have hle:H.length≤H2'.length:=q2.resolve_left (by rintro rfl; simp at hbs)
        have hget2:H2'[b]? = some (H2'[b]'(by omega)):=List.getElem?_eq_getElem (by omega)
        rw [A5s,hget,hget2]
        simp only [hbs,if_true,Option.getD_some,Option.map_some]
      show (hide H _)[b]? = (hide H1 _)[b]?
      rw [A75,A75,e1]
   rcases hlook with rfl | ⟨h1,h2⟩
   ·have:=C6u x1
    exact goal H hc (this.2.2 H |>.trans (by rw [this.1])) (by simpa [J6] using a1) (.inl rfl) rfl a2 rfl
   ·exact goal H hc (by simpa [J6] using t3 H h2) (by simpa [J6] using a1) (.inr h1) rfl a2 rfl
  | false =>
   simp only [hR,Bool.false_eq_true,if_false,Bool.and_eq_true,Bool.not_eq_true'] at hp
   have g1:=t3 H (.inl hp.1)
   exact goal (J6 H T) hc g1 (aT (ranksIn t1 hp.2)) (.inr (unseen _ _ hR)) rfl a2 rfl
def wc:List AOper→Nat
 | []=>0
 | a :: l=>(if writes a.op then 1 else 0) + wc l
theorem C1o {ms:List Nat} {a x:AOper}:∀{A B:List AOper} {n:Nat},A43 ms a n (A++x :: B) = true→(ms.getD x.src 0).testBit a.src = true∨A97 a x (n + wc A) = true
 | [],B,n,h=>by
  simp only [List.nil_append,A43,Bool.and_eq_true,Bool.or_eq_true] at h
  simpa [wc] using h.1
 | y :: A,B,n,h=>by
  simp only [List.cons_append,A43,Bool.and_eq_true] at h
  have:=C1o h.2
  rcases this with h1 | h1
  ·exact .inl h1
  ·right
   cases hw:writes y.op <;> simp only [hw,if_true,if_false,Bool.false_eq_true,wc] at h1 ⊢
   ·simpa using h1
   ·rw [show n + (1 + wc A) = n + 1 + wc A by omega]; exact h1
theorem D3e {a x:AOper} {n m:Nat} (h:A97 a x n = true) (hm:m≤n):A97 a x m = true:= by
 simp only [A97,Bool.and_eq_true] at h ⊢
 refine ⟨h.1,?_⟩
 have h2:=h.2
 revert h2
 cases writes a.op <;> cases writes x.op <;> simp only [imp_self]
 split
 ·intro h2; simp only [Nat.ble_eq] at h2 ⊢; omega
 ·exact id
theorem C1p {ms:List Nat} {a:AOper}:∀{l:List AOper} {n m:Nat},A43 ms a n l = true→m≤n→A43 ms a m l = true
 | [],n,m,h,_=>rfl
 | x :: l,n,m,h,hm=>by
  simp only [A43,Bool.and_eq_true,Bool.or_eq_true] at h ⊢
  refine ⟨h.1.imp id (fun q=>D3e q hm),C1p h.2 ?_⟩
  split <;> omega
theorem B8p {ms:List Nat} {a x:AOper}:∀{A B:List AOper} {n:Nat},A43 ms a n (A++x :: B) = true→A43 ms a n (A++B) = true
 | [],B,n,h=>by
  simp only [List.nil_append,A43,Bool.and_eq_true] at h ⊢
  exact C1p h.2 (by split <;> omega)
 | y :: A,B,n,h=>by
  simp only [List.cons_append,A43,Bool.and_eq_true] at h ⊢
  exact ⟨h.1,B8p h.2⟩
theorem B8t {ms:List Nat} {x:AOper}:∀{A B:List AOper},A70 ms (A++x :: B) = true→A70 ms (A++B) = true
 | [],B,h=>by simp only [List.nil_append,A70,Bool.and_eq_true] at h; exact h.2
 | y :: A,B,h=>by
  simp only [List.cons_append,A70,Bool.and_eq_true] at h ⊢
  exact ⟨B8p h.1,B8t h.2⟩
theorem D0b {a x:AOper} {n m:Nat} (h:A97 a x n = true) (hm:m≤n):A97 a { x with inc:=x.inc - (n - m) } m = true:= by
 simp only [A97,Bool.and_eq_true] at h ⊢
 refine ⟨h.1,?_⟩
 have h2:=h.2
 revert h2
 cases writes a.op <;> cases writes x.op <;> simp only [imp_self]
 split
 ·intro h2; simp only [Nat.ble_eq] at h2 ⊢; omega
 ·exact id
theorem C1c {ms:List Nat} {x:AOper} {B:List AOper} (hdx:A9f x = true):∀{A:List AOper} {s s':C9} {H H':A7} {hc:List (Option (List Nat))},(∀ a ∈ A,A9f a = true)→(∀ a ∈ A,(ms.getD x.src 0).testBit a.src = false)→A70 ms (A++x :: B) = true →
  (∀ a ∈ A,∀ r ∈ F4 a.op,r ∉ F4 x.op)→opers M c n0 (A++x :: B) s H hc = some (s',H') →
  ∃ s1 H1 hc1 s'',oper M c n0 s H hc { x with inc:=x.inc - wc A } = some (s1,H1,hc1)∧opers M c n0 (A++B) s1 H1 hc1 = some (s'',H')∧Eqv s' s''
 | [],s,s',H,H',hc,hA,hms,hp,hr,h=>by
  simp only [List.nil_append,opers] at h
  split at h
  ·cases h
  ·next s1 H1 hc1 h1 =>
   exact ⟨s1,H1,hc1,s',by simpa [wc] using h1,h,fun _=>rfl⟩
 | a :: A,s,s',H,H',hc,hA,hms,hp,hr,h=>by
  simp only [List.cons_append,opers] at h
  split at h
  ·cases h
  ·next s1 H1 hc1 h1 =>
   simp only [List.cons_append,A70,Bool.and_eq_true] at hp
   obtain ⟨s2,H2,hc2,s3,q1,q2,q3⟩:=C1c (ms:=ms) hdx (fun y hy=>hA y (by simp [hy])) (fun y hy=>hms y (by simp [hy])) hp.2 (fun y hy=>hr y (by simp [hy])) h
   have hpo:=(C1o hp.1).resolve_left (by rw [hms a (by simp)]; simp)
   have hpo':=D0b hpo (Nat.le_add_right (if writes a.op then 1 else 0) (wc A))
   rw [show (if writes a.op = true then 1 else 0) + wc A - (if writes a.op = true then 1 else 0) = wc A by omega] at hpo'
   obtain ⟨s1',H1',hc1',s2',p1,p2,p3⟩:=swap (hA a (by simp)) (x:={ x with inc:=x.inc - wc A }) hdx hpo' (hr a (by simp)) h1 q1
   obtain ⟨s3',r1,r2⟩:=C4z p3 q2
   refine ⟨s1',H1',hc1',s3',?_,by simp only [List.cons_append,opers,p2,r1],fun t=>(q3 t).trans (r2 t)⟩
   have e:x.inc - wc (a :: A) = if writes a.op = true then x.inc - wc A - 1 else x.inc - wc A:= by
    simp only [wc]
    cases writes a.op <;> simp <;> omega
   rw [e]; exact p1
end
theorem C0v {D:Nat→Prop} {acc:List Nat}:∀(es:List Edge) (m:Nat),(∀ i,m.testBit i = true→D i)→(∀ e ∈ es,Region.binds .any e = true→D e.on∧∀ i,(acc.getD e.on 0).testBit i = true→D i) →
  ∀ i,(es.foldl (fun m e=>if Region.binds .any e then m ||| 2 ^ e.on ||| acc.getD e.on 0 else m) m).testBit i = true→D i
 | [],m,h,_,i,hi=>h i hi
 | e :: es,m,h,he,i,hi=>by
  simp only [List.foldl_cons] at hi
  refine C0v es _ ?_ (fun e' he'=>he e' (by simp [he'])) i hi
  intro j hj
  split at hj
  ·next hb =>
   obtain ⟨q1,q2⟩:=he e (by simp) hb
   simp only [Nat.testBit_or,Bool.or_eq_true,Nat.testBit_two_pow,decide_eq_true_eq] at hj
   rcases hj with (hj | hj) | hj
   ·exact h j hj
   ·exact hj ▸ q1
   ·exact q2 j hj
  ·exact h j hj
def MOk (ops:List Oper) (D:Nat→Prop) (acc:List Nat):Prop :=
 ∀ (j:Nat) (m:Nat),acc[j]? = some m→∀ o,ops[j]? = some o→(∀ e ∈ o.after.toList,Region.binds .any e = true→D e.on)→∀ i,m.testBit i = true→D i
theorem C7y {ops:List Oper} {D:Nat→Prop} (hD:∀(y:Nat) o,ops[y]? = some o→D y→∀ e ∈ o.after.toList,Region.binds .any e = true→D e.on) :
  ∀ (l:List Oper) (pre:List Oper) (acc:List Nat),ops = pre++l→acc.length = pre.length→MOk ops D acc→MOk ops D (masks l acc)
 | [],pre,acc,_,_,h=>h
 | o :: l,pre,acc,e,hl,h=>by
  simp only [masks]
  refine C7y hD l (pre++[o]) _ (by simp [e]) (by simp [hl]) ?_
  intro j m hj o' ho' he i hi
  rcases Nat.lt_or_ge j acc.length with hlt | hge
  ·rw [List.getElem?_append_left hlt] at hj
   exact h j m hj o' ho' he i hi
  ·have hj':j = acc.length:= by
    have:=(List.getElem?_eq_some_iff.1 hj).1
    simp at this; omega
   subst hj'
   rw [List.getElem?_append_right (Nat.le_refl _)] at hj
   simp only [Nat.sub_self,List.getElem?_cons_zero,Option.some.injEq] at hj
   have:o' = o:= by
    rw [e,hl,List.getElem?_append_right (Nat.le_refl _)] at ho'
    simpa using ho'.symm
   subst this
   subst hj
   refine C0v _ 0 (by simp) (fun ed hed hb=>?_) i hi
   have hDe:=he ed hed hb
   refine ⟨hDe,fun i hi=>?_⟩
   rw [List.getD_eq_getElem?_getD] at hi
   cases hq:acc[ed.on]? with
   | none=>simp [hq] at hi
   | some m' =>
    simp only [hq,Option.getD_some] at hi
    have hlt:=(List.getElem?_eq_some_iff.1 hq).1
    have hlo:ed.on < ops.length:= by rw [e]; simp; omega
    have ho2:=List.getElem?_eq_getElem hlo
    exact h ed.on m' hq _ ho2 (hD ed.on _ ho2 hDe) i hi
theorem C9w {ops:List Oper} {D:Nat→Prop} (hD:∀(y:Nat) o,ops[y]? = some o→D y→∀ e ∈ o.after.toList,Region.binds .any e = true→D e.on)
  {j:Nat} {o:Oper} (ho:ops[j]? = some o) (he:∀e ∈ o.after.toList,Region.binds .any e = true→D e.on) {i:Nat} (hi:((masks ops []).getD j 0).testBit i = true):D i:= by
 have h:=C7y hD ops [] [] rfl rfl (fun j m hj=>by simp at hj)
 rw [List.getD_eq_getElem?_getD] at hi
 cases hq:(masks ops [])[j]? with
 | none=>simp [hq] at hi
 | some m=>simp only [hq,Option.getD_some] at hi; exact h j m hq o ho he i hi
theorem gD (a:Array Bool) (i:Nat) (d:Bool):a.getD i d = (a[i]?).getD d:= by simp [Array.getD_eq_getD_getElem?]
theorem C5y (a:Array Bool) {j:Nat} (h:j < a.size) (i:Nat) (d:Bool):(a.setIfInBounds j true).getD i d = if i = j then true else a.getD i d:= by
 rw [gD,gD,Array.getElem?_setIfInBounds]
 by_cases e:j = i
 ·subst e; simp [h]
 ·have e':¬ i = j:=fun h=>e h.symm
  simp [e,e']
theorem E1c {a:Array Bool} {i:Nat} (h:i < a.size) (d d':Bool):a.getD i d = a.getD i d':= by
 rw [gD,gD]; simp [h]
def B5k (l l':List AOper):Prop:=∀ o ∈ l',∃ o0 ∈ l,∃ n,o = { o0 with inc:=n }
section
variable {M:Mach} {c:Sc} {n0:Nat}
theorem D06 {ops:Array Oper} (hback:B7p ops.toList = true):∀(fuel t:Nat) (listed:Array Bool) (l:List AOper) (s s':C9) (H H':A7) (hc:List (Option (List Nat))),
  l.length = fuel→listed.size = ops.size→(∀ i,i < ops.size→(listed.getD i true = false↔∃ o ∈ l,o.src = i))→(∀ o ∈ l,o.src < ops.size)→(l.map (·.src)).Nodup →
  (∀ (y:Nat) o,ops[y]? = some o→listed.getD y false = true→∀ e ∈ o.after.toList,Region.binds .any e = true→listed.getD e.on false = true) →
  (∀ a ∈ l,A9f a = true)→A70 (masks ops.toList []) l = true→(l.flatMap fun o=>F4 o.op).Nodup→opers M c n0 l s H hc = some (s',H') →
  ∃ l' s'',l'.map (·.src) = Region.linearise.go .any ops fuel t listed []∧B5k l l'∧(l'.flatMap fun o=>F4 o.op).Perm (l.flatMap fun o=>F4 o.op)∧opers M c n0 l' s H hc = some (s'',H')∧Eqv s' s''
 | 0,t,listed,l,s,s',H,H',hc,hf,_,_,_,_,_,_,_,_,h=>by
  have:l = []:=List.length_eq_zero_iff.1 hf
  subst this
  exact ⟨[],s',by simp [Region.linearise.go],by simp [B5k],List.Perm.refl _,h,fun _=>rfl⟩
 | fuel + 1,t,listed,l,s,s',H,H',hc,hf,hsz,hun,hlt,hnd,hcl,hd,hp,hrk,h=>by
  simp only [Region.linearise.go]
  change ∃(l':List AOper) (s'':C9),l'.map (·.src) = (match (Region.ready .any ops listed)[t % (Region.ready .any ops listed).length]? with
   | some i=>Region.linearise.go .any ops fuel (t / (Region.ready .any ops listed).length) (listed.setIfInBounds i true) [i]
   | none=>[].reverse)∧_
  have hne:Region.ready .any ops listed ≠ []:= by
   obtain ⟨o0,ho0⟩:∃o0,o0 ∈ l:= by
    cases l with
    | nil=>simp at hf
    | cons o l=>exact ⟨o,by simp⟩
   have hmin:∀n,(∃ i,i < n∧i < ops.size∧listed.getD i true = false)→∃ i,i ∈ Region.ready .any ops listed:= by
    intro n
    induction n with
    | zero=>rintro ⟨i,hi,_⟩; omega
    | succ n ih =>
     by_cases hex:∃i,i < n∧i < ops.size∧listed.getD i true = false
     ·exact fun _=>ih hex
     ·rintro ⟨i,hi,hi2,hi3⟩
      have hin:i = n:= by
       rcases Nat.lt_or_ge i n with h1 | h1
       ·exact absurd ⟨i,h1,hi2,hi3⟩ hex
       ·omega
      subst hin
      refine ⟨i,?_⟩
      have hq:ops[i]? = some ops[i]:= by simp [hi2]
      simp only [Region.ready,List.mem_filter,List.mem_range,hi2,hi3,hq,Option.map_some,Option.getD_some,true_and,Bool.not_false,Bool.true_and,Array.all_eq_true]
      intro k hk
      cases hbk:Region.binds .any ops[i].after[k] with
      | false=>simp
      | true =>
      have hon:ops[i].after[k].on < i:= by
       simp only [B7p,List.all_eq_true] at hback
       have:=hback (ops[i],i) (by
        rw [List.mem_zipIdx_iff_getElem?]
        simp [hi2]) ops[i].after[k] (by simp)
       simpa [hbk] using this
      have:listed.getD ops[i].after[k].on true ≠ false:=fun hc=>hex ⟨_,hon,by omega,hc⟩
      have hlt2:ops[i].after[k].on < listed.size:= by omega
      simp only [Bool.or_eq_true]
      right
      simpa [Array.getD,hlt2] using this
   have h1:=hlt o0 ho0
   obtain ⟨i,hi⟩:=hmin ops.size ⟨o0.src,h1,h1,(hun o0.src h1).2 ⟨o0,ho0,rfl⟩⟩
   intro hnil; rw [hnil] at hi; cases hi
  have hpos:0 < (Region.ready .any ops listed).length:= by
   cases hr:Region.ready .any ops listed with
   | nil=>exact absurd hr hne
   | cons=>simp
  have hmod:t % (Region.ready .any ops listed).length < (Region.ready .any ops listed).length:=Nat.mod_lt _ hpos
  obtain ⟨i,hi⟩:∃i,(Region.ready .any ops listed)[t % (Region.ready .any ops listed).length]? = some i:=⟨_,List.getElem?_eq_getElem hmod⟩
  rw [hi]
  have hmem:=List.mem_of_getElem? hi
  simp only [Region.ready,List.mem_filter,List.mem_range,Bool.and_eq_true,Bool.not_eq_true'] at hmem
  obtain ⟨hi1,hi2,hi3⟩:=hmem
  have hq:ops[i]? = some ops[i]:= by simp [hi1]
  simp only [hq,Option.map_some,Option.getD_some,Array.all_eq_true] at hi3
  have hedges:∀e ∈ ops[i].after.toList,Region.binds .any e = true→listed.getD e.on false = true:= by
   intro e he hb
   obtain ⟨k,hk,rfl⟩:=List.mem_iff_getElem.1 he
   have:=hi3 k (by simpa using hk)
   simp only [Array.getElem_toList] at hb ⊢
   rw [hb] at this
   simpa using this
  obtain ⟨x,hx,hsrc⟩:=(hun i hi1).1 hi2
  obtain ⟨A,B,rfl⟩:=List.append_of_mem hx
  subst hsrc
  have hms:∀a ∈ A,((masks ops.toList []).getD x.src 0).testBit a.src = false:= by
   intro a ha
   cases hb:((masks ops.toList []).getD x.src 0).testBit a.src with
   | false=>rfl
   | true =>
    have hD:=C9w (ops:=ops.toList) (D:=fun i=>listed.getD i false = true) (fun y o ho=>hcl y o (by simpa using ho)) (j:=x.src) (o:=ops[x.src]) (by simpa using hq) hedges hb
    have halt:=hlt a (by simp [ha])
    have hunl:=(hun a.src halt).2 ⟨a,by simp [ha],rfl⟩
    have:a.src < listed.size:= by omega
    rw [E1c this true false] at hunl
    rw [hunl] at hD; cases hD
  have hdisj:∀a ∈ A,∀ r ∈ F4 a.op,r ∉ F4 x.op:= by
   intro a ha r hr hr'
   rw [List.flatMap_append] at hrk
   exact (List.nodup_append.1 hrk).2.2 r (List.mem_flatMap.2 ⟨a,ha,hr⟩) r (List.mem_flatMap.2 ⟨x,by simp,hr'⟩) rfl
  obtain ⟨s1,H1,hc1,s2,q1,q2,q3⟩:=C1c (ms:=masks ops.toList []) (hd x (by simp)) (fun a ha=>hd a (by simp [ha])) hms hp hdisj h
  simp only [List.map_append,List.map_cons] at hnd
  have hnd':((A++B).map (·.src)).Nodup∧∀ o ∈ A++B,o.src ≠ x.src:= by
   obtain ⟨n1,n2,n3⟩:=List.nodup_append.1 hnd
   obtain ⟨n4,n5⟩:=List.nodup_cons.1 n2
   refine ⟨by rw [List.map_append]; exact List.nodup_append.2 ⟨n1,n5,fun a ha b hb=>n3 a ha b (List.mem_cons_of_mem _ hb)⟩,fun o ho e=>?_⟩
   rcases List.mem_append.1 ho with ho | ho
   ·exact n3 _ (List.mem_map_of_mem ho) _ (by simp) e
   ·exact n4 (e ▸ List.mem_map_of_mem ho)
  obtain ⟨l',s3,r1,r2,r3,r4,r5⟩:=D06 hback fuel (t / (Region.ready .any ops listed).length) (listed.setIfInBounds x.src true) (A++B) s1 s2 H1 H' hc1
   (by simp at hf ⊢; omega) (by simpa using hsz) (fun i hi=>by
    by_cases e:i = x.src
    ·subst e
     have:x.src < listed.size:= by omega
     rw [C5y _ this,if_pos rfl]
     constructor
     ·intro h; cases h
     ·rintro ⟨o,ho,e⟩; exact absurd e (hnd'.2 o ho)
    ·have hxs:x.src < listed.size:= by omega
     have e2:(listed.setIfInBounds x.src true).getD i true = listed.getD i true:= by rw [C5y _ hxs,if_neg e]
     rw [e2,hun i hi]
     constructor
     ·rintro ⟨o,ho,rfl⟩
      refine ⟨o,?_,rfl⟩
      rcases List.mem_append.1 ho with ho | ho
      ·exact List.mem_append_left _ ho
      ·rcases List.mem_cons.1 ho with rfl | ho
       ·exact absurd rfl e
       ·exact List.mem_append_right _ ho
     ·rintro ⟨o,ho,rfl⟩
      refine ⟨o,?_,rfl⟩
      rcases List.mem_append.1 ho with ho | ho
      ·exact List.mem_append_left _ ho
      ·exact List.mem_append_right _ (List.mem_cons_of_mem _ ho))
   (fun o ho=>hlt o (by rcases List.mem_append.1 ho with ho | ho <;> simp [ho])) hnd'.1
   (fun y o ho hy e he hb=>by
    have hxs:x.src < listed.size:= by omega
    have mono:∀i,listed.getD i false = true→(listed.setIfInBounds x.src true).getD i false = true:= by
     intro i hi
     rw [C5y _ hxs]
     split
     ·rfl
     ·exact hi
    by_cases e2:y = x.src
    ·subst e2
     rw [hq] at ho; cases ho
     exact mono _ (hedges e he hb)
    ·refine mono _ (hcl y o ho ?_ e he hb)
     rw [C5y _ hxs,if_neg e2] at hy
     exact hy)
   (fun a ha=>hd a (by rcases List.mem_append.1 ha with ha | ha <;> simp [ha])) (B8t hp)
   (by
    rw [List.flatMap_append] at hrk ⊢
    rw [List.flatMap_cons] at hrk
    obtain ⟨n1,n2,n3⟩:=List.nodup_append.1 hrk
    obtain ⟨n4,n5,n6⟩:=List.nodup_append.1 n2
    exact List.nodup_append.2 ⟨n1,n5,fun a ha b hb=>n3 a ha b (List.mem_append_right _ hb)⟩) q2
  refine ⟨{ x with inc:=x.inc - wc A } :: l',s3,?_,?_,?_,by simp only [opers,q1,r4],fun t=>(q3 t).trans (r5 t)⟩
  ·simp only []
   rw [linearise_go_acc]
   simp [r1]
  ·intro o ho
   rcases List.mem_cons.1 ho with rfl | ho
   ·exact ⟨x,by simp,_,rfl⟩
   ·obtain ⟨o0,h0,n,e⟩:=r2 o ho
    exact ⟨o0,by rcases List.mem_append.1 h0 with h0 | h0 <;> simp [h0],n,e⟩
  ·simp only [List.flatMap_cons]
   refine (List.Perm.append_left _ r3).trans ?_
   rw [List.flatMap_append,List.flatMap_append,List.flatMap_cons]
   exact List.perm_append_comm_assoc _ _ _
theorem short:∀(n:Nat) (l:List Nat),l.Nodup→(∀ x ∈ l,x < n)→l.length≤n
 | 0,l,_,h=>by
  cases l with
  | nil=>simp
  | cons x l=>have:=h x (by simp); omega
 | n + 1,l,hn,h=>by
  by_cases hm:n ∈ l
  ·have h1:=short n (l.erase n) (hn.erase n) (fun x hx=>by
    obtain ⟨h1,h2⟩:=(hn.mem_erase_iff).1 hx
    have:=h x h2
    omega)
   rw [List.length_erase_of_mem hm] at h1
   omega
  ·have h1:=short n l hn (fun x hx=>by
    have:=h x hx
    have:x ≠ n:=fun e=>hm (e ▸ hx)
    omega)
   omega
theorem D2e {n:Nat} {l:List Nat} (hn:l.Nodup) (h:∀x ∈ l,x < n) (hl:l.length = n) {i:Nat} (hi:i < n):i ∈ l:= by
 by_cases hm:i ∈ l
 ·exact hm
 ·have:=short n (i :: l) (List.nodup_cons.2 ⟨hm,hn⟩) (fun x hx=>by
   rcases List.mem_cons.1 hx with rfl | hx
   ·exact hi
   ·exact h x hx)
  simp at this
  omega
theorem D2p {ops:Array Oper} {l:List AOper} (hd:C9h ops l = true) (hsrc:∀o ∈ l,o.src < ops.size) (hrk:(l.flatMap fun o=>F4 o.op).Nodup) {s s':C9} {H H':A7} (h:opers M c n0 l s H [] = some (s',H')) (t:Nat) :
  ∃ l' s'',l'.map (·.src) = Region.schedule true ops t∧B5k l l'∧(l'.flatMap fun o=>F4 o.op).Perm (l.flatMap fun o=>F4 o.op)∧opers M c n0 l' s H [] = some (s'',H')∧Eqv s' s'':= by
 simp only [C9h,Bool.and_eq_true] at hd
 obtain ⟨⟨⟨⟨d1,d2⟩,d3⟩,d4⟩,d5⟩:=hd
 have hlen:l.length = ops.size:= by simpa using d5
 have hnd:=A8q d4
 have go:∀t,∃ l' s'',l'.map (·.src) = Region.linearise .any ops t∧B5k l l'∧(l'.flatMap fun o=>F4 o.op).Perm (l.flatMap fun o=>F4 o.op)∧opers M c n0 l' s H [] = some (s'',H')∧Eqv s' s'':= by
  intro t
  refine D06 d1 ops.size t (Array.replicate ops.size false) l s s' H H' [] hlen (by simp) (fun i hi=>?_) hsrc hnd (fun y o ho hy=>?_) (fun a ha=>List.all_eq_true.1 d3 a ha) d2 hrk h
  ·have:(Array.replicate ops.size false).getD i true = false:= by simp [Array.getD,hi]
   simp only [this,true_iff]
   have this:i ∈ l.map (·.src):=D2e hnd (fun j hj=>by
    obtain ⟨o,ho,rfl⟩:=List.mem_map.1 hj
    exact hsrc o ho) (by simpa using hlen) hi
   obtain ⟨o,ho,e⟩:=List.mem_map.1 this
   exact ⟨o,ho,e⟩
  ·by_cases hlt:y < ops.size
   ·simp [Array.getD,hlt] at hy
   ·simp [Array.getD,hlt] at hy
 simp only [Region.schedule,Bool.true_or,if_true]
 exact go t
end
section
variable {MC:Nat→Code→ACode→Prop} {P:Program} {B0:Nat}
structure CInv (MC:Nat→Code→ACode→Prop) (P:Program) (B0 nt lo:Nat) (fn:Bool) (st:St) (g:Ghost) (a:Act) (w:World):Prop where
 rel:Rel MC P B0 st.H g w
 slots:E7 g st.s a.tmps
 size:a.tmps.size = nt
 sc:ScOk st.c st.H
 dl:fn = true→C3s lo a.defers g w
def Enters (code:Code) (i:Item):Prop:=i = .code code∨∃ c,code = .loop c∧i = .inLoop c
def B7i (MC:Nat→Code→ACode→Prop) (P:Program) (B0:Nat) (M:Mach):Prop :=
 ∀ nt code ac st e st',K6 P nt code ac = true→M.code ac st = some (e,st')→∀ (b:Frame) a k cs g w lo i,Enters code i→(b.roundOf = none∨A9c ac = true)→CInv MC P B0 nt lo b.roundOf.isNone st g a w →
  ∃ a' g' w',Arr P (lone (b.atR a (i :: k)) cs w) b k cs e a' w'∧CInv MC P B0 nt lo b.roundOf.isNone st' g' a' w'∧Ext st.H g w st'.H g' w'∧Unborn st.H g g'∧st'.c = st.c
theorem Enters.code {c:Code} {i:Item} (h:Enters c i) (hc:∀b,c ≠ .loop b):i = .code c:= by
 rcases h with h | ⟨b,h,_⟩
 ·exact h
 ·exact absurd h (hc b)
theorem E7.eqv {g:Ghost} {s s':C9} {tmps:Array Value} (h:E7 g s tmps) (he:Eqv s' s):E7 g s' tmps:=fun t v hv=>h t v (by rw [← he t]; exact hv)
theorem D0d {l l':List Nat} (h:l'.Perm l) (hn:l.Nodup):l'.Nodup:=h.nodup_iff.2 hn
theorem C6l (hmix:P.follows .mixedOrders = true) {M:Mach} (hM:B4y MC P B0 M) {nt:Nat} {id:Nat} {ops:Array Oper} {d d':Bool} {nres:Nat} {pre live:List Nat} {l:List AOper} {st st':St} {e:Ex} (hm:B21 P nt ops d d' nres l = true)
  (h:G4 M st (.region d' nres pre l live) = some (e,st')) {b:Frame} {a:Act} {k:List Item} {cs:List Frame} {g:Ghost} {w:World} {lo:Nat} (hI:CInv MC P B0 nt lo b.roundOf.isNone st g a w) :
  ∃ a' g' w',Arr P (lone (b.atR a (.code (.region id ops d) :: k)) cs w) b k cs e a' w'∧CInv MC P B0 nt lo b.roundOf.isNone st' g' a' w'∧Ext st.H g w st'.H g' w'∧Unborn st.H g g'∧st'.c = st.c:= by
 simp only [G4] at h
 split at h
 ·next H1 hpub =>
  split at h
  ·next r hr =>
   simp only [Option.some.injEq,Prod.mk.injEq] at h
   obtain ⟨rfl,rfl⟩:=h
   obtain ⟨s',H'⟩:=r
   obtain ⟨g1,hFz⟩:=B4t hI.rel hI.slots hpub
   simp only [B21,Bool.and_eq_true] at hm
   obtain ⟨⟨⟨⟨m1,m2⟩,m3⟩,m4⟩,m5⟩:=hm
   have hnd:=A8q m4
   have hrk:∀r ∈ l.flatMap fun o=>F4 o.op,r < nres:=fun r hr=>by simpa using List.all_eq_true.1 m3 r hr
   have hsrc:∀o ∈ l,o.src < ops.size:= by
    intro o ho
    have:=List.all_eq_true.1 m2 o ho
    unfold A77 at this
    split at this
    ·cases this
    ·next o' ho' =>
     rcases Nat.lt_or_ge o.src ops.size with h | h
     ·exact h
     ·simp [Array.getElem?_eq_none h] at ho'
   obtain ⟨hR2,hE2⟩:=hFz.rel.reserve nres
   have hE3:=hFz.ext.trans hE2
   have hC1:=C16 hI.sc hpub
   have main:∀(l':List AOper) (s'':C9) (w0:World),B5k l l'→(l'.flatMap fun o=>F4 o.op).Perm (l.flatMap fun o=>F4 o.op)→opers M st.c H1.length l' st.s (H1++List.replicate nres .dead) [] = some (s'',H')→Eqv s' s'' →
     Rel MC P B0 (H1++List.replicate nres .dead) g1 w0→Ext st.H g w (H1++List.replicate nres .dead) g1 w0→step P (lone (b.atR a (.code (.region id ops d) :: k)) cs w) = .next (lone (b.atR a (.inRegion ops (l'.map (·.src)) :: k)) cs w0) →
     ∃ a' g' w',Arr P (lone (b.atR a (.code (.region id ops d) :: k)) cs w) b k cs .normal a' w'∧CInv MC P B0 nt lo b.roundOf.isNone { s:=restrict s' live,H:=H',c:=st.c } g' a' w'∧Ext st.H g w H' g' w'∧Unborn st.H g g'∧st.c = st.c:= by
    intro l' s'' w0 hsame hperm hops heqv hR0 hE0 hstep
    have hm':(l'.all fun o=>A77 P ops nt o) = true:= by
     rw [List.all_eq_true]
     intro o ho
     obtain ⟨o0,h0,n,rfl⟩:=hsame o ho
     exact List.all_eq_true.1 m2 o0 h0
    obtain ⟨a',g',w',q1,q2,q3,q4⟩:=B8q (b:=b) (k:=k) (cs:=cs) hM (lo:=lo) (fn:=b.roundOf.isNone) (a:=a) (g:=g1) (w:=w0) hm'
     ⟨hR0,hI.slots.mono hE0.le,hI.size,hC1.app _,hC1.cur,fun r hr=>by
      have hr':=hrk r (hperm.mem_iff.1 hr)
      exact ⟨by simp; omega,hFz.rel.nolive _ (by omega)⟩,fun hfn=>(hI.dl hfn).ext hE0⟩ (D0d hperm hnd) hops
    refine ⟨a',g',w',.head hstep (q1.trans (.one stepR_region_end)),⟨q2.rel,(q2.slots.eqv heqv).restrict live,q2.size,q2.sc,q2.dl⟩,hE0.trans q3,?_,rfl⟩
    intro i hi hn
    refine q4 i (by rw [hFz.len]; exact hi) (by simp; have:=hFz.len; omega) ?_
    rw [hFz.L]; exact hn
   simp only [beq_iff_eq] at m1
   subst m1
   cases d with
   | false =>
    simp only [Bool.false_eq_true,if_false,beq_iff_eq] at m5
    exact main l s' w (fun o ho=>⟨o,ho,o.inc,rfl⟩) (List.Perm.refl _) hr (fun _=>rfl) hR2 hE3 (by rw [m5]; exact stepR_region)
   | true =>
    simp only [if_true] at m5
    obtain ⟨l',s'',r1,r2,r3,r4,r5⟩:=D2p m5 hsrc hnd hr (w.tape w.drawn (.order b.fn id))
    exact main l' s'' w.drew r2 r3 r4 r5 hR2.drew (hE3.trans (Ext.drew _ _ _)) (by rw [r1]; have hs:=stepR_region_draw (P:=P) (b:=b) (a:=a) (k:=k) (cs:=cs) (w:=w) (ops:=ops) (id:=id); rw [hmix] at hs; exact hs)
  ·cases h
 ·cases h
theorem C3x {N:Nat}:∀{s:C9},A5v N s = true→∀ t v,sget s t = some v→v.bd N = true
 | [],_,t,v,h=>by simp [O7,M3] at h
 | x :: s,hb,t,v,h=>by
  simp only [A5v,Bool.and_eq_true] at hb
  simp only [O7,M3] at h
  cases hq:Nat.beq x.1 t with
  | true=>simp [hq] at h; subst h; exact hb.1
  | false=>simp [hq] at h; exact C3x hb.2 t v h
theorem Unborn.cut {H:A7} {g g':Ghost} {N:Nat} (h:Unborn H g g'):Unborn H g (A4e N g'):=fun i hi hn=>by
 simp only [A4e]; split
 ·exact h i hi hn
 ·rfl
theorem Rel.spare {H:A7} {g:Ghost} {w:World} (hR:Rel MC P B0 H g w) (ob:Obj):Rel MC P B0 H g (w.alloc ob)∧Ext H g w H g (w.alloc ob):= by
 refine ⟨⟨?_,?_,hR.inj,?_,hR.nolive,?_⟩,⟨Nat.le_refl _,rfl,rfl,rfl,by simp,Ghost.le_refl g,fun _ _ h=>.inl h,fun _ _ _ _ _=>rfl,fun i o h k=>.inr ⟨o,h,k⟩,?_⟩⟩
 ·intro β off u h
  rw [World.cell?_alloc_lt _ _ _ (hR.phi_lt h)]; exact hR.phi β off u h
 ·intro i β h
  obtain ⟨h1,h2⟩:=hR.base i β h
  exact ⟨h1,by simp; omega⟩
 ·intro i o hi
  refine (hR.box i o hi).mono (Ghost.le_refl g) (fun β hb=>?_)
  exact ⟨heap_alloc_old w _ β (hR.base i β hb).2,fun off=>rfl⟩
 ·simp; have:=hR.b0; omega
 ·intro β hβ _
  exact ⟨heap_alloc_old w _ β hβ,fun off=>rfl⟩
theorem B8h {b:Frame} {a:Act} {k:List Item} {cs:List Frame} {w w1:World} {f:Operand} {ps:Array Tmp} {assign body:Code} {l:Nat} {mark:List Deferred} {fr0:Frame}
  (he:(Instr.enterLoop b.fn a.tmps ps assign body b.roundOf).run P w = .ok (l,mark) w1) (hc:Begins P w1 (a.eval f) #[.func (.yield l) #[] #[]] fr0) :
  step P (lone (b.atR a (.code (.rangeFunc f ps assign body) :: k)) cs w) = .next (lone fr0 (b.atR { a with defers:=mark++a.defers } (.inRangeFunc l :: k) :: cs) w1):= by
 rcases hc with ⟨i,aq,h,rfl⟩ | ⟨l',i,tmps,aq,bd,h,rfl⟩
 ·exact C2q he h
 ·refine step_lone_go ?_
  have hev:=Frame.eval_atR b { a with defers:=mark++a.defers } (.inRangeFunc l :: k)
  simp only [Frame.atR] at hev
  have hc':Sem.run P (resolve ({ tmps:=a.tmps,defers:=mark++a.defers }:Act).eval { callee:=.value f,args:=#[.const (.func (.yield l) #[] #[])],argTypes:=#[] } 0 >>= fun d=>invoke d.target d.args) w1 = .ok (.round l' i tmps aq bd) w1:= by
   have e1:({ tmps:=a.tmps,defers:=mark++a.defers }:Act).eval f = a.eval f:= by cases f <;> rfl
   have e2:({ tmps:=a.tmps,defers:=mark++a.defers }:Act).eval (.const (.func (.yield l) #[] #[])) = .func (.yield l) #[] #[]:=rfl
   simpa [resolve,A71,e1,e2] using h
  simp [stepG,stepG.exec,Frame.atR,Sem.runT_eq,he,GStep.bare_after,stepG.apply,hev,hc']
theorem B73 {w:World} {β:Nat} {r:Loop} (h:w.heap[β]? = some (.loop r)) (off:Nat):w.cell? ⟨β,off,none⟩ = none:= by
 simp [World.cell?,h]
def MCof (P:Program):Nat→Code→ACode→Prop:=fun nt c ac=>K6 P nt c ac = true∧A9c ac = true
theorem D2o (hmix:P.follows .mixedOrders = true) {M:Mach} (hC:B7i (MCof P) P B0 M) (hM:B4y (MCof P) P B0 M):B7i (MCof P) P B0 ⟨M.call,fun ac st=>G4 M st ac⟩:= by
 intro nt code ac st e st' hm h b a k cs g w lo i hi hb hI
 simp only at h
 cases code with
 | skip =>
  obtain rfl:=hi.code (by simp)
  cases ac <;> simp only [K6,Bool.false_eq_true] at hm
  simp only [G4,Option.some.injEq,Prod.mk.injEq] at h
  obtain ⟨rfl,rfl⟩:=h
  exact ⟨a,g,w,.one stepR_skip,hI,Ext.refl _ _ _,Unborn.refl _ _,rfl⟩
 | label l =>
  obtain rfl:=hi.code (by simp)
  cases ac <;> simp only [K6,Bool.false_eq_true] at hm
  simp only [G4,Option.some.injEq,Prod.mk.injEq] at h
  obtain ⟨rfl,rfl⟩:=h
  exact ⟨a,g,w,.one stepR_label,hI,Ext.refl _ _ _,Unborn.refl _ _,rfl⟩
 | region id ops d =>
  obtain rfl:=hi.code (by simp)
  cases ac <;> simp only [K6,Bool.false_eq_true] at hm
  exact C6l hmix hM hm h hI
 | seq x y =>
  obtain rfl:=hi.code (by simp)
  cases ac <;> simp only [K6,Bool.false_eq_true,Bool.and_eq_true] at hm
  rename_i ax ay
  have hb1:b.roundOf = none∨A9c ax = true:=hb.imp id (fun h=>by simp only [A9c,Bool.and_eq_true] at h; exact h.1)
  have hb2:b.roundOf = none∨A9c ay = true:=hb.imp id (fun h=>by simp only [A9c,Bool.and_eq_true] at h; exact h.2)
  simp only [G4] at h
  have s0:step P (lone (b.atR a (.code (.seq x y) :: k)) cs w) = _:=stepR_seq
  split at h
  ·next st1 h1 =>
   obtain ⟨a1,g1,w1,q1,q2,q3,q4,q5⟩:=hC _ _ _ _ _ _ hm.1 h1 b a (.code y :: k) cs g w lo _ (.inl rfl) hb1 hI
   obtain ⟨a2,g2,w2,p1,p2,p3,p4,p5⟩:=hC _ _ _ _ _ _ hm.2 h b a1 k cs g1 w1 lo _ (.inl rfl) hb2 q2
   exact ⟨a2,g2,w2,.of_steps (.head s0 q1) p1,p2,q3.trans p3,q4.trans p4 q3.len,p5.trans q5⟩
  ·next hne =>
   obtain ⟨a1,g1,w1,q1,q2,q3,q4,q5⟩:=hC _ _ _ _ _ _ hm.1 h b a (.code y :: k) cs g w lo _ (.inl rfl) hb1 hI
   have hen:e ≠ .normal:= by rintro rfl; exact hne _ h
   exact ⟨a1,g1,w1,.of_steps (.one s0) (.pass hen (fun _ _=>rfl) q1),q2,q3,q4,q5⟩
 | cond cnd x y =>
  obtain rfl:=hi.code (by simp)
  cases ac <;> simp only [K6,Bool.false_eq_true,Bool.and_eq_true] at hm
  rename_i ac ax ay
  have hb1:b.roundOf = none∨A9c ax = true:=hb.imp id (fun h=>by simp only [A9c,Bool.and_eq_true] at h; exact h.1)
  have hb2:b.roundOf = none∨A9c ay = true:=hb.imp id (fun h=>by simp only [A9c,Bool.and_eq_true] at h; exact h.2)
  simp only [G4] at h
  split at h
  ·next hv =>
   have:=U7 (M8 hI.slots hm.1.1 hv)
   obtain ⟨a1,g1,w1,q1,q2,q3,q4,q5⟩:=hC _ _ _ _ _ _ hm.1.2 h b a k cs g w lo _ (.inl rfl) hb1 hI
   exact ⟨a1,g1,w1,.of_steps (.one (by have:=stepR_cond (P:=P) (b:=b) (k:=k) (cs:=cs) (w:=w) (x:=x) (y:=y) this; simpa using this)) q1,q2,q3,q4,q5⟩
  ·next hv =>
   have:=U7 (M8 hI.slots hm.1.1 hv)
   obtain ⟨a1,g1,w1,q1,q2,q3,q4,q5⟩:=hC _ _ _ _ _ _ hm.2 h b a k cs g w lo _ (.inl rfl) hb2 hI
   exact ⟨a1,g1,w1,.of_steps (.one (by have:=stepR_cond (P:=P) (b:=b) (k:=k) (cs:=cs) (w:=w) (x:=x) (y:=y) this; simpa using this)) q1,q2,q3,q4,q5⟩
  ·cases h
 | block id x =>
  obtain rfl:=hi.code (by simp)
  cases ac <;> simp only [K6,Bool.false_eq_true,Bool.and_eq_true] at hm
  rename_i id' ax
  have hid:id = id':= by simpa using hm.1
  subst hid
  have hb1:b.roundOf = none∨A9c ax = true:=hb.imp (fun h=>h) (fun h=>by simpa only [A9c] using h)
  simp only [G4] at h
  have s0:step P (lone (b.atR a (.code (.block id x) :: k)) cs w) = _:=stepR_block
  split at h
  ·next j st1 h1 =>
   obtain ⟨a1,g1,w1,q1,q2,q3,q4,q5⟩:=hC _ _ _ _ _ _ hm.2 h1 b a (.inBlock id :: k) cs g w lo _ (.inl rfl) hb1 hI
   obtain ⟨k',r1,r2⟩:=q1
   split at h
   ·next hj =>
    simp only [Option.some.injEq,Prod.mk.injEq] at h
    obtain ⟨rfl,rfl⟩:=h
    have hj':=Nat.eq_of_beq_eq_true hj
    subst hj'
    have:exitTo j k' = some k:= by rw [r1]; simp [exitTo]
    exact ⟨a1,g1,w1,.head s0 (r2.trans (.one (stepR_exit this))),q2,q3,q4,q5⟩
   ·next hj =>
    simp only [Option.some.injEq,Prod.mk.injEq] at h
    obtain ⟨rfl,rfl⟩:=h
    have hj':¬ id = j:=fun e=>hj (by simp [e])
    refine ⟨a1,g1,w1,⟨k',?_,.head s0 r2⟩,q2,q3,q4,q5⟩
    rw [r1]
    have hb':(id == j) = false:= by simpa using hj'
    simp [exitTo,hb']
  ·next hne =>
   obtain ⟨a1,g1,w1,q1,q2,q3,q4,q5⟩:=hC _ _ _ _ _ _ hm.2 h b a (.inBlock id :: k) cs g w lo _ (.inl rfl) hb1 hI
   cases e with
   | normal=>exact ⟨a1,g1,w1,.head s0 (Steps.trans q1 (.one stepR_inBlock)),q2,q3,q4,q5⟩
   | exit j=>exact absurd h (hne _ _)
   | ret=>exact ⟨a1,g1,w1,.of_steps (.one s0) q1,q2,q3,q4,q5⟩
 | loop x =>
  cases ac <;> simp only [K6,Bool.false_eq_true] at hm
  rename_i tr live ax
  have hm':K6 P nt (.loop x) (.loop tr live ax) = true:=hm
  have hb1:b.roundOf = none∨A9c ax = true:=hb.imp id (fun h=>by simpa only [A9c] using h)
  have s0:step P (lone (b.atR a (i :: k)) cs w) = .next (lone (b.atR a (.code x :: .inLoop x :: k)) cs w):= by
   rcases hi with rfl | ⟨c,hc,rfl⟩
   ·exact stepR_loop
   ·cases hc; exact stepR_inLoop
  simp only [G4] at h
  have hI0:CInv (MCof P) P B0 nt lo b.roundOf.isNone (if tr then { s:=restrict st.s live,H:=st.H,c:=⟨st.H.length,st.c.cur :: st.c.outer⟩ } else { st with s:=restrict st.s live }) g a w:= by
   cases tr with
   | true=>exact ⟨hI.rel,hI.slots.restrict live,hI.size,hI.sc.enter hI.rel,hI.dl⟩
   | false=>exact ⟨hI.rel,hI.slots.restrict live,hI.size,hI.sc,hI.dl⟩
  have hH0:(if tr then ({ s:=restrict st.s live,H:=st.H,c:=⟨st.H.length,st.c.cur :: st.c.outer⟩ }:St) else { st with s:=restrict st.s live }).H = st.H:= by cases tr <;> rfl
  split at h
  ·next st1 h1 =>
   obtain ⟨a1,g1,w1,q1,q2,q3,q4,q5⟩:=hC _ _ _ _ _ _ hm h1 b a (.inLoop x :: k) cs g w lo _ (.inl rfl) hb1 hI0
   rw [hH0] at q3 q4
   cases tr with
   | true =>
    simp only [if_true] at h q5
    split at h
    ·next hbd =>
     have hsc:ScOk ⟨st.H.length,st.c.cur :: st.c.outer⟩ st1.H:=q5 ▸ q2.sc
     obtain ⟨t1,t2⟩:=Rel.take hI.rel q3 q2.rel (fun i hi o ho=>hsc.bd _ (by simp) i hi o ho)
     obtain ⟨a2,g2,w2,p1,p2,p3,p4,p5⟩:=hC _ _ _ _ _ _ hm' h b a1 k cs (A4e st.H.length g1) w1 lo (.inLoop x) (.inr ⟨x,rfl,rfl⟩) hb
      ⟨t1,(q2.slots.restrict live).cut (C3x hbd),q2.size,(hsc.leave hI.sc.out).take hI.sc.cur,fun hfn=>(hI.dl hfn |>.ext t2 |> fun _=>by
       have:=q2.dl hfn
       obtain ⟨d0,βs,d1,d2,d3⟩:=this
       exact ⟨d0,βs,d1,d2,fun β hβ=>⟨(d3 β hβ).1,(d3 β hβ).2.1,(d3 β hβ).2.2.1,fun i hc=>by
        simp only [A4e] at hc
        split at hc
        ·exact (d3 β hβ).2.2.2 i hc
        ·simp [GB.blk] at hc⟩⟩)⟩
     refine ⟨a2,g2,w2,.of_steps (.head s0 q1) p1,p2,t2.trans p3,?_,p5⟩
     exact (Unborn.cut q4).trans p4 (by have:=q3.len; simp; omega)
    ·cases h
   | false =>
    simp only [Bool.false_eq_true,if_false] at h q5
    obtain ⟨a2,g2,w2,p1,p2,p3,p4,p5⟩:=hC _ _ _ _ _ _ hm' h b a1 k cs g1 w1 lo (.inLoop x) (.inr ⟨x,rfl,rfl⟩) hb ⟨q2.rel,q2.slots.restrict live,q2.size,by simpa [q5] using q2.sc,q2.dl⟩
    exact ⟨a2,g2,w2,.of_steps (.head s0 q1) p1,p2,q3.trans p3,q4.trans p4 q3.len,p5⟩
  ·next e1 st1 hne h1 =>
   simp only [Option.some.injEq,Prod.mk.injEq] at h
   obtain ⟨rfl,rfl⟩:=h
   obtain ⟨a1,g1,w1,q1,q2,q3,q4,q5⟩:=hC _ _ _ _ _ _ hm h1 b a (.inLoop x :: k) cs g w lo _ (.inl rfl) hb1 hI0
   rw [hH0] at q3 q4
   have hen:e1 ≠ .normal:= by rintro rfl; first | exact hne rfl | exact hne _ rfl
   refine ⟨a1,g1,w1,.of_steps (.one s0) (.pass hen (fun _ _=>rfl) q1),⟨q2.rel,q2.slots,q2.size,?_,q2.dl⟩,q3,q4,rfl⟩
   cases tr with
   | true =>
    have hsc:ScOk ⟨st.H.length,st.c.cur :: st.c.outer⟩ st1.H:= by simp only [if_true] at q5; exact q5 ▸ q2.sc
    exact hsc.leave hI.sc.out
   | false=>simp only [Bool.false_eq_true,if_false] at q5; exact q5 ▸ q2.sc
  ·cases h
 | rangeFunc f ps aq bd =>
  obtain rfl:=hi.code (by simp)
  cases ac <;> simp only [K6,Bool.false_eq_true,Bool.and_eq_true] at hm
  rename_i f' ps' live' as' bd'
  obtain ⟨⟨⟨⟨⟨⟨m1,m2⟩,m3⟩,m4⟩,m5⟩,m6⟩,m7⟩:=hm
  have hro:b.roundOf = none:=hb.resolve_right (by simp [A9c])
  have hfn:b.roundOf.isNone = true:= by simp [hro]
  simp only [G4] at h
  split at h
  ·next i0 fa fc hv =>
   split at h
   ·next rs H' hcall =>
    have hVf:=M8 hI.slots m1 hv
    have henter:=run_enterLoop_outer (P:=P) (w:=w) b.fn a.tmps ps aq bd
    obtain ⟨r1,x1⟩:=hI.rel.spare (.deferred (some []))
    obtain ⟨r2,x2⟩:=r1.reserve 1
    have hl:st.H.length < (st.H++List.replicate 1 AO.dead).length:= by simp
    have hsetE:(st.H++List.replicate 1 AO.dead).set st.H.length (.loop 0 (Am.restrict st.s live') ps' as' bd' false none) = st.H++[.loop 0 (Am.restrict st.s live') ps' as' bd' false none]:= by simp
    have hps:ps = ps'.toArray:= by
     have:ps.toList = ps':= by simpa using m2
     subst this; simp
    let rec0:Loop:={ state:=.ready,pending:=none,fn:=b.fn,tmps:=a.tmps,params:=ps,assign:=aq,body:=bd,defers:=w.heap.size }
    have hsz1:(w.alloc (.deferred (some []))).heap.size = w.heap.size + 1:= by simp
    have hle1:g.le ⟨K1 g.L st.H.length (.loop (w.heap.size + 1)),g.Φ,g.gl⟩:=⟨fun j=>by
     by_cases e:j = st.H.length
     ·subst e; rw [hI.rel.nolive _ (Nat.le_refl _)]; trivial
     ·simp only [K1,if_neg e]; exact GB.le_refl _,fun _ _ _ h=>h⟩
    obtain ⟨r3,x3⟩:=r2.alloc (i:=st.H.length) hl (r1.nolive _ (Nat.le_refl _)) (.loop rec0) (o':=.loop 0 (Am.restrict st.s live') ps' as' bd' false none) (gb':=.loop (w.heap.size + 1)) (by rw [hsz1]; rfl)
     ⟨rec0,by rw [← hsz1]; exact World.alloc_heap_new _ _,rfl,rfl,hps,(hI.slots.restrict live').mono hle1,⟨by rw [show rec0.tmps.size = nt from hI.size]; exact m6,m4⟩,⟨by rw [show rec0.tmps.size = nt from hI.size]; exact m7,m5⟩,
      fun t ht=>by rw [show rec0.tmps.size = nt from hI.size]; simpa using List.all_eq_true.1 m3 t ht⟩
    rw [hsetE] at r3 x3
    have hE1:=(x1.trans x2).trans x3
    obtain ⟨fr0,c1,c2⟩:=hM _ _ _ _ _ _ hcall ⟨K1 g.L st.H.length (.loop (w.heap.size + 1)),g.Φ,g.gl⟩ _ (a.eval f) #[.func (.yield (w.heap.size + 1)) #[] #[]] r3 (hI.sc.app _) (hVf.mono hle1) rfl
     (fun j y hj=>by
      rcases j with _ | j <;> simp at hj
      subst hj
      exact .fn _ _ _ _ _ _ ⟨w.heap.size + 1,by simp [K1],rfl⟩ rfl rfl (by simp) (by simp))
    have hst:=B8h (P:=P) (b:=b) (a:=a) (k:=k) (cs:=cs) (w:=w) (f:=f) (l:=w.heap.size + 1) (mark:=[{ target:=.collected w.heap.size,args:=#[] }]) (by rw [hro]; exact henter) c1
    obtain ⟨us,w2,g2,fs,d1,d2,d3,d4,d5,d6,d7⟩:=c2 (b.atR { a with defers:=[{ target:=.collected w.heap.size,args:=#[] }]++a.defers } (.inRangeFunc (w.heap.size + 1) :: k)) cs
    rw [B43] at d1
    have hL2:g2.L st.H.length = .loop (w.heap.size + 1):=B9z d5.le (by simp [K1])
    have hE2:=hE1.trans d5
    have fin:∀(s2:C9) (f2:Nat) ps2 as2 bd2 (pend:Option Ex),H'[st.H.length]? = some (.loop f2 s2 ps2 as2 bd2 false pend) →
      ∃ jump w3,jump = pend.bind B6c∧step P (lone (b.atR { a with defers:=[{ target:=.collected w.heap.size,args:=#[] }]++a.defers } (.endRangeFunc (w.heap.size + 1) :: k)) cs w2) = .next (lone (b.atR { a with defers:=[{ target:=.collected w.heap.size,args:=#[] }]++a.defers } ((jump.map Item.code).toList++k)) cs w3) ∧
       CInv (MCof P) P B0 nt lo b.roundOf.isNone { st with H:=hset H' st.H.length .dead } g2 { a with defers:=[{ target:=.collected w.heap.size,args:=#[] }]++a.defers } w3∧Ext st.H g w (hset H' st.H.length .dead) g2 w3∧Unborn st.H g g2:= by
     intro s2 f2 ps2 as2 bd2 pend hH
     have hbox:=d4.box _ _ hH
     simp only [AO.rd] at hbox
     rw [hL2] at hbox
     obtain ⟨r,b1,b2,b3,_⟩:=hbox
     have hbusy:r.state ≠ .busy:= by rw [b2]; cases pend <;> simp
     obtain ⟨r4,x4⟩:=d4.put hH rfl (β:=w.heap.size + 1) (by rw [hL2]; rfl) (B73 b1) (.loop { r with state:=.exhausted }) (o':=.dead) trivial
     have hE3:=hE2.trans x4
     refine ⟨r.pending,_,b3,B7a (run_endLoop b1 hbusy),⟨r4,hI.slots.mono hE3.le,hI.size,d6.setTriv _ .dead (fun _=>trivial),fun _=>?_⟩,hE3,?_⟩
     ·obtain ⟨e0,βs,e1,e2,e3⟩:=hI.dl hfn
      have hdef:C3s lo (A90 w.heap.size :: a.defers) ⟨K1 g.L st.H.length (.loop (w.heap.size + 1)),g.Φ,g.gl⟩ ((w.alloc (.deferred (some []))).alloc (.loop rec0)):= by
       have hold:=(hI.dl hfn).ext hE1
       obtain ⟨f0,βs',f1,f2,f3⟩:=hold
       refine ⟨f0,w.heap.size :: βs',by rw [List.map_cons,f1],?_,?_⟩
       ·refine List.nodup_cons.2 ⟨fun hmem=>?_,f2⟩
        have hb':βs' = βs:=C1a (by rw [← f1,← e1])
        subst hb'
        have:=(e3 _ hmem).2.1
        omega
       ·intro β hβ
        rcases List.mem_cons.1 hβ with rfl | hβ
        ·refine ⟨?_,by simp; omega,?_,?_⟩
         ·exact e0
         ·rw [heap_alloc_old _ _ _ (by simp)]; exact World.alloc_heap_new _ _
         ·intro i hc
          simp only [K1] at hc
          split at hc
          ·simp [GB.blk] at hc
          ·have:=(hI.rel.base i _ hc).2; omega
        ·exact f3 β hβ
      exact (hdef.ext d5).ext x4
     ·intro i hi hn
      refine d7 i (by simp; omega) ?_
      have:i ≠ st.H.length:= by omega
      simpa [K1,this] using hn
    split at h
    ·next f2 s2 ps2 as2 bd2 hH =>
     simp only [Option.some.injEq,Prod.mk.injEq] at h
     obtain ⟨rfl,rfl⟩:=h
     obtain ⟨jump,w3,j1,j2,j3,j4,j5⟩:=fin _ _ _ _ _ _ hH
     simp only [Option.bind_none] at j1
     subst j1
     exact ⟨_,g2,w3,.head hst (d1.trans (.one j2)),j3,j4,j5,rfl⟩
    ·next f2 s2 ps2 as2 bd2 e2 hH =>
     simp only [Option.some.injEq,Prod.mk.injEq] at h
     obtain ⟨rfl,rfl⟩:=h
     obtain ⟨jump,w3,j1,j2,j3,j4,j5⟩:=fin _ _ _ _ _ _ hH
     have hs:Steps P (lone (b.atR a (.code (.rangeFunc f ps aq bd) :: k)) cs w) _:=.head hst (d1.trans (.one j2))
     refine ⟨_,g2,w3,?_,j3,j4,j5,rfl⟩
     cases e2 with
     | normal=>subst j1; exact hs
     | exit id=>subst j1; exact ⟨k,rfl,hs⟩
     | ret=>subst j1; exact ⟨k,hs⟩
    ·cases h
   ·cases h
  ·cases h
 | exit id =>
  obtain rfl:=hi.code (by simp)
  cases ac <;> simp only [K6,Bool.false_eq_true] at hm
  simp only [G4,Option.some.injEq,Prod.mk.injEq] at h
  obtain ⟨rfl,rfl⟩:=h
  rename_i id'
  have:id = id':= by simpa using hm
  subst this
  exact ⟨a,g,w,⟨k,rfl,.refl _ _⟩,hI,Ext.refl _ _ _,Unborn.refl _ _,rfl⟩
 | ret =>
  obtain rfl:=hi.code (by simp)
  cases ac <;> simp only [K6,Bool.false_eq_true] at hm
  simp only [G4,Option.some.injEq,Prod.mk.injEq] at h
  obtain ⟨rfl,rfl⟩:=h
  exact ⟨a,g,w,⟨k,.refl _ _⟩,hI,Ext.refl _ _ _,Unborn.refl _ _,rfl⟩
 | scope x =>
  obtain rfl:=hi.code (by simp)
  cases ac <;> simp only [K6,Bool.false_eq_true] at hm
  rename_i ax
  have hb1:b.roundOf = none∨A9c ax = true:=hb.imp (fun h=>h) (fun h=>by simpa only [A9c] using h)
  simp only [G4] at h
  have s0:step P (lone (b.atR a (.code (.scope x) :: k)) cs w) = .next (lone (b.atR a (.code x :: .inScope x :: k)) cs w):=step_lone_go (by simp [stepG,stepG.exec,Frame.atR])
  obtain ⟨a1,g1,w1,q1,q2,q3,q4,q5⟩:=hC _ _ _ _ _ _ hm h b a (.inScope x :: k) cs g w lo _ (.inl rfl) hb1 hI
  cases e with
  | normal =>
   have s1:step P (lone (b.atR a1 (.inScope x :: k)) cs w1) = .next (lone (b.atR a1 k) cs w1):=step_lone_go (by simp [stepG,stepG.exec,Frame.atR])
   exact ⟨a1,g1,w1,.head s0 (Steps.trans q1 (.one s1)),q2,q3,q4,q5⟩
  | exit j=>exact ⟨a1,g1,w1,.of_steps (.one s0) (.pass (by simp) (fun _ _=>rfl) q1),q2,q3,q4,q5⟩
  | ret=>exact ⟨a1,g1,w1,.of_steps (.one s0) q1,q2,q3,q4,q5⟩
 | goto l=>cases ac <;> simp [K6] at hm
 | refuse s=>cases ac <;> simp [K6] at hm
end
theorem B5o:∀(l:List AV) (i t:Nat) (v:AV),sget (Q3 i l) t = some v→i≤t∧l[t - i]? = some v
 | [],i,t,v,h=>by simp [Q3,O7,M3] at h
 | x :: l,i,t,v,h=>by
  simp only [Q3,O7,M3] at h
  cases hb:Nat.beq i t with
  | true =>
   have:=Nat.eq_of_beq_eq_true hb
   subst this
   simp [hb] at h; subst h
   simp
  | false =>
   simp only [hb,cond_false] at h
   obtain ⟨h1,h2⟩:=B5o l (i + 1) t v h
   refine ⟨by omega,?_⟩
   have e:t - i = (t - (i + 1)) + 1:= by omega
   rw [e]; simpa using h2
theorem C5h {g:Ghost}:∀(ps:List Nat) (args:List AV) (vs:List Value) (s:C9) (tmps:Array Value),ps.length = args.length→vs.length = args.length→(∀ t ∈ ps,t < tmps.size)→(∀ (j:Nat) x,args[j]? = some x→V g x (vs[j]?.getD undef))→E7 g s tmps →
  E7 g ((ps.zip args).foldl (fun s x=>sput s (some x.1) x.2) s) ((ps.zip vs).foldl (fun tmps x=>tmps.setIfInBounds x.1 x.2) tmps)∧((ps.zip vs).foldl (fun tmps x=>tmps.setIfInBounds x.1 x.2) tmps).size = tmps.size
 | [],args,vs,s,tmps,_,_,_,_,h=>by simpa using h
 | p :: ps,[],vs,s,tmps,hl,_,_,_,h=>by simp at hl
 | p :: ps,x :: args,[],s,tmps,_,hl,_,_,h=>by simp at hl
 | p :: ps,x :: args,v :: vs,s,tmps,hl,hl2,hp,hV,h=>by
  simp only [List.zip_cons_cons,List.foldl_cons]
  have h0:=E7.put (a:={ tmps,defers:=[] }) (dst:=some p) (v:=x) (x:=v) h (hV 0 x rfl) (fun d hd=>by cases hd; exact hp p (by simp))
  have:=C5h ps args vs (sput s (some p) x) (tmps.setIfInBounds p v) (by simpa using hl) (by simpa using hl2) (fun t ht=>by simpa using hp t (by simp [ht])) (fun j y hj=>hV (j + 1) y hj) h0
  exact ⟨this.1,by rw [this.2]; simp⟩
section
variable {MC:Nat→Code→ACode→Prop} {P:Program} {B0:Nat}
theorem Rel.marks {H0 H:A7} {g0 g:Ghost} {w0 w w':World} (hE:Ext H0 g0 w0 H g w) (hR:Rel MC P B0 H g w) {βs:List Nat} (hown:∀β ∈ βs,w0.heap.size≤β∧w.heap[β]? = some (.deferred (some []))∧∀ i,(g.L i).blk ≠ some β)
  (h1:w'.os = w.os) (h2:w'.tape = w.tape) (h3:w'.output = w.output) (h4:w'.heap.size = w.heap.size) (h5:∀β,β ∉ βs→w'.heap[β]? = w.heap[β]?):Rel MC P B0 H g w'∧Ext H0 g0 w0 H g w':= by
 refine ⟨⟨?_,?_,hR.inj,?_,hR.nolive,by rw [h4]; exact hR.b0⟩,⟨hE.len,h1.trans hE.os,h2.trans hE.tape,h3.trans hE.output,by rw [h4]; exact hE.size,hE.le,hE.blk,hE.keep,hE.wit,?_⟩⟩
 ·intro β o v h
  have hc:=hR.phi β o v h
  by_cases hb:β ∈ βs
  ·have:=(hown β hb).2.1
   simp [World.cell?,this] at hc
  ·rw [World.cell?_of_block (h5 β hb)]; exact hc
 ·intro i β h; rw [h4]; exact hR.base i β h
 ·intro i o ho
  exact (hR.box i o ho).mono (Ghost.le_refl g) (fun β hb=>⟨h5 β (fun hm=>(hown β hm).2.2 i hb),fun _=>rfl⟩)
 ·intro β hβ hn
  obtain ⟨e1,e2⟩:=hE.frame β hβ hn
  exact ⟨(h5 β (fun hm=>by have:=(hown β hm).1; omega)).trans e1,e2⟩
theorem D5q {c:Sc} {n0:Nat} {H H':A7} {g:Ghost} {w:World} {s:C9} {tmps:Array Value} {t:TypeId} {t':Nat} {k:Option Nat} {v:AV} (hR:Rel MC P B0 H g w) (hS:E7 g s tmps) (ht:A7r P t k = true) (hk:k ≠ some 0)
  (h:prim c n0 s H (.load k (.t t')) = some (v,H')):∃x,(do loadVar t (← asAddr (tmps.getD t' undef)):Sem Value).run P w = .ok x w∧V g v x:= by
 have fin:∀p cs,sget s t' = some p→I9 H p = some cs→k.getD 1≤cs.length→v = A7h k cs→∃ x,(do loadVar t (← asAddr (tmps.getD t' undef)):Sem Value).run P w = .ok x w∧V g v x:= by
  intro p cs he hp hl hv
  have hne:cs ≠ []:= by
   intro e; subst e
   cases k with
   | none=>simp at hl
   | some k=>simp at hl; subst hl; exact hk rfl
  obtain ⟨x,hx,hV⟩:=hS t' p he
  obtain ⟨ad,e1,e2⟩:=B28 hR hp hV hne
  obtain ⟨u,hu,hV⟩:=A9r ht e2 hl
  refine ⟨u,?_,by rw [hv]; exact hV⟩
  have e3:tmps.getD t' undef = .pointer (some ad):= by rw [← e1,Array.getD_eq_getD_getElem?,hx]; rfl
  simp [e3,asAddr,hu]
 cases k with
 | none =>
  simp only [prim,ev] at h
  split at h
  ·next p he =>
   split at h
   ·next u l hp=>simp at h; exact fin p _ he hp (by simp) (by simp [A7h,h.1])
   ·cases h
  ·cases h
 | some k =>
  simp only [prim,ev] at h
  split at h
  ·next p he =>
   split at h
   ·next cs hp =>
    split at h
    ·next hle=>simp at h; exact fin p _ he hp (by simpa using hle) (by simp [A7h,h.1])
    ·cases h
   ·cases h
  ·cases h
def B0z (tmps:Array Value):ResultVar→Sem Value
 | .tmp t=>pure (tmps.getD t undef)
 | .cell a t=>do loadVar t (← asAddr (tmps.getD a undef))
theorem B64 {H:A7} {g:Ghost} {w:World} {s:C9} {tmps:Array Value} (hR:Rel MC P B0 H g w) (hS:E7 g s tmps):∀{l:List ResultVar} {m:List ARes} {rs:List AV},A2l P l m = true→Am.results s H m = some rs →
  ∃ us:List Value,(l.mapM (B0z tmps)).run P w = .ok us w∧us.length = rs.length∧∀ (j:Nat) x,rs[j]? = some x→V g x (us[j]?.getD undef)
 | [],[],rs,_,h=>by
  simp only [Am.results,Option.some.injEq] at h
  subst h
  exact ⟨[],rfl,rfl,by simp⟩
 | [],_ :: _,rs,hm,h=>by simp [A2l] at hm
 | _ :: _,[],rs,hm,h=>by simp [A2l] at hm
 | x :: l,y :: m,rs,hm,h=>by
  simp only [A2l,Bool.and_eq_true] at hm
  have step:∀(v:AV) (rs':List AV) (u:Value),(B0z tmps x).run P w = .ok u w→V g v u→Am.results s H m = some rs'→rs = v :: rs' →
    ∃ us:List Value,((x :: l).mapM (B0z tmps)).run P w = .ok us w∧us.length = rs.length∧∀ (j:Nat) x,rs[j]? = some x→V g x (us[j]?.getD undef):= by
   rintro v rs' u hu hV hr rfl
   obtain ⟨us,q1,q2,q3⟩:=B64 hR hS hm.2 hr
   refine ⟨u :: us,?_,by simp [q2],fun j z hj=>?_⟩
   ·rw [List.mapM_cons]
    simp [Sem.run_bind,hu,q1]
   ·rcases j with _ | j
    ·simp at hj; subst hj; exact hV
    ·exact q3 j z (by simpa using hj)
  cases x with
  | tmp t =>
   cases y with
   | tmp t' =>
    have e:t = t':= by simpa [A69] using hm.1
    subst e
    simp only [Am.results,Option.bind_eq_some_iff,Option.map_eq_some_iff] at h
    obtain ⟨v,hv,rs',hr,rfl⟩:=h
    obtain ⟨u,hu,hV⟩:=hS t v hv
    exact step v rs' u (by simp [B0z,Array.getD_eq_getD_getElem?,hu]) hV hr rfl
   | cell _ _=>simp [A69] at hm
  | cell a t =>
   cases y with
   | tmp _=>simp [A69] at hm
   | cell a' k =>
    have hm1:=hm.1
    simp only [A69,Bool.and_eq_true] at hm1
    obtain ⟨⟨e,h2⟩,h3⟩:=hm1
    have e:a = a':= by simpa using e
    subst e
    simp only [Am.results,Option.bind_eq_some_iff,Option.map_eq_some_iff] at h
    obtain ⟨v,hv,rs',hr,rfl⟩:=h
    obtain ⟨u,hu,hV⟩:=D5q hR hS h2 (by rintro rfl; simp at h3) (v:=v.1) (H':=v.2) hv
    exact step v.1 rs' u hu hV hr rfl
theorem C3i {H:A7} {g:Ghost} {w:World} {s:C9} {tmps:Array Value} {fn:Func} {m:List ARes} {rs:List AV} (hR:Rel MC P B0 H g w) (hS:E7 g s tmps) (hm:A2l P fn.results.toList m = true) (h:Am.results s H m = some rs) :
  ∃ us:List Value,(Go.results fn tmps).run P w = .ok (B2b us) w∧us.length = rs.length∧∀ (j:Nat) x,rs[j]? = some x→V g x (us[j]?.getD undef):= by
 obtain ⟨us,q1,q2,q3⟩:=B64 hR hS hm h
 refine ⟨us,?_,q2,q3⟩
 have e:Go.results fn tmps = (do let vs ← fn.results.mapM (B0z tmps); pure (if h:vs.size = 1 then vs[0] else .tuple vs)):= by
  unfold Go.results
  congr 1
 rw [e,Array.mapM_eq_mapM_toList]
 have hmap:(Functor.map (fun l:List Value=>l.toArray) (fn.results.toList.mapM (B0z tmps))).run P w = .ok us.toArray w:= by
  simp only [Sem.run_map,q1,Result.andThen_ok]
 simp only [Sem.run_bind]
 first
 | rw [hmap]
 | (have:=hmap; simp only [Functor.map] at this ⊢; rw [this])
 simp only [Result.andThen,Sem.run_pure]
 rcases us with _ | ⟨u,_ | ⟨v,us⟩⟩
 ·rfl
 ·rfl
 ·simp [B2b]
theorem D4a {g:Ghost} {f:Fn} {fa fc:List AV} {u:Value} (h:V g (.fn f fa fc) u):∃f' a' c',u = .func f' a' c'∧B8j g f f'∧a'.size = fa.length∧c'.size = fc.length∧(∀ (j:Nat) x,fa[j]? = some x→V g x (a'[j]?.getD undef))∧∀ (j:Nat) x,fc[j]? = some x→V g x (c'[j]?.getD undef):= by
 cases h with
 | den _ _ hd=>cases hd
 | fn _ f' _ _ a' c' hf l1 l2 h1 h2=>exact ⟨f',a',c',rfl,hf,l1,l2,h1,h2⟩
theorem B7x {M:Mach} {T:Tab} (hT:C3t P T) (hC:B7i (MCof P) P B0 M) {c:Sc} {H H':A7} {i:Nat} {fa args fc rs:List AV} (h:Q4 T M c H (.fn (.func i) fa fc) args = some (rs,H')) {g:Ghost} {w:World} {aq:Array Value}
  (hR:Rel (MCof P) P B0 H g w) (hS:ScOk c H) (hl:aq.size = (fa++args++fc).length) (hV:∀(j:Nat) x,(fa++args++fc)[j]? = some x→V g x (aq[j]?.getD undef)) :
  (∃ fn,P.funcs[i]? = some fn∧fn.body.isSome = true∧(fn.name != "runtime.NumGoroutine") = true) ∧
  ∀ cs,∃ us w' g' fs fr,Steps P (lone (Frame.enter P i aq .normal) cs w) (lone fr cs w')∧fr.fn = i∧fr.leaving P w' (.returned (B2b us))∧RVs g' rs us fs∧FsOk (MCof P) P g' w' (OkB B0 H g w) fs∧Rel (MCof P) P B0 H' g' w'∧Ext H g w H' g' w'∧ScOk c H'∧Unborn H g g':= by
 simp only [Q4] at h
 split at h
 ·cases h
 ·next af haf =>
  obtain ⟨fn,hfn,hm⟩:=hT i af haf
  simp only [D3,Bool.and_eq_true] at hm
  obtain ⟨⟨⟨m1,m2⟩,m3⟩,m4⟩:=hm
  split at m2
  ·next code hbody =>
   refine ⟨⟨fn,hfn,by simp [hbody],m1⟩,fun cs=>?_⟩
   split at h
   ·next hna =>
    have hna':aq.size = af.nargs:= by rw [hl]; exact Nat.eq_of_beq_eq_true hna
    have m3':af.nargs≤fn.ntmps:= by simpa using m3
    let b:Frame:={ (default:Frame) with fn:=i,kind:=.normal,roundOf:=none }
    let a:Act:={ tmps:=aq++Array.replicate (fn.ntmps - aq.size) undef,defers:=[] }
    have henter:Frame.enter P i aq .normal = b.atR a [.code code]:= by
     simp [Frame.enter,Frame.atR,hfn,hbody,b,a]
    have hI:CInv (MCof P) P B0 fn.ntmps w.heap.size b.roundOf.isNone { s:=Q3 0 (fa++args++fc),H,c:=⟨H.length,c.cur :: c.outer⟩ } g a w:= by
     refine ⟨hR,fun t v hv=>?_,by simp [a]; omega,hS.enter hR,fun _=>⟨Nat.le_refl _,[],rfl,.nil,by simp⟩⟩
     obtain ⟨_,h2⟩:=B5o _ _ _ _ hv
     simp only [Nat.sub_zero] at h2
     have hlt:t < aq.size:= by rw [hl]; exact (List.getElem?_eq_some_iff.1 h2).1
     refine ⟨aq[t],by show (aq++_)[t]? = some aq[t]; rw [Array.getElem?_append_left hlt]; simp [hlt],?_⟩
     have:=hV t v h2
     simpa [hlt] using this
    have go:∀(e:Ex) (st:St),M.code af.body { s:=Q3 0 (fa++args++fc),H,c:=⟨H.length,c.cur :: c.outer⟩ } = some (e,st)→(e = .normal∨e = .ret) →
      (match Am.results st.s st.H af.results with | none=>none | some rs=>match A0n H.length st.H rs with | none=>none | some (rs,H')=>some (rs,trunc H.length rs H')) = some (rs,H') →
      ∃ us w' g' fs fr,Steps P (lone (Frame.enter P i aq .normal) cs w) (lone fr cs w')∧fr.fn = i∧fr.leaving P w' (.returned (B2b us))∧RVs g' rs us fs∧FsOk (MCof P) P g' w' (OkB B0 H g w) fs∧Rel (MCof P) P B0 H' g' w'∧Ext H g w H' g' w'∧ScOk c H'∧Unborn H g g':= by
     intro e st hcode he hres
     obtain ⟨a1,g1,w1,q1,q2,q3,q4,q5⟩:=hC _ _ _ _ _ _ m2 hcode b a [] cs g w w.heap.size _ (.inl rfl) (.inl rfl) hI
     have hout:∃todo,Steps P (lone (Frame.enter P i aq .normal) cs w) (lone { b.atR a1 todo with mode:=.returning } cs w1):= by
      rw [henter]
      rcases he with rfl | rfl
      ·exact ⟨[],Steps.trans q1 (.one (stepR_end rfl))⟩
      ·obtain ⟨k',hk⟩:=q1
       exact ⟨_,Steps.trans hk (.one (stepR_ret rfl))⟩
     obtain ⟨todo,hout⟩:=hout
     obtain ⟨_,βs,d1,d2,d3⟩:=q2.dl rfl
     obtain ⟨w2,t1,t2,t3,t4,t5,t6,t7⟩:=B87 (P:=P) (cs:=cs) βs { b.atR a1 todo with mode:=.returning } w1 rfl d1 d2 (fun β hβ=>(d3 β hβ).2.2.1)
     obtain ⟨r2,x2⟩:=Rel.marks q3 q2.rel (βs:=βs) (fun β hβ=>⟨(d3 β hβ).1,(d3 β hβ).2.2.1,(d3 β hβ).2.2.2⟩) t2 t3 t4 t5 t6
     split at hres
     ·cases hres
     ·next rs0 hrs =>
      obtain ⟨us,u1,u2,u3⟩:=C3i (fn:=fn) r2 q2.slots m4 hrs
      split at hres
      ·cases hres
      ·next rs1 H1 ho =>
       simp only [Option.some.injEq,Prod.mk.injEq] at hres
       obtain ⟨rfl,rfl⟩:=hres
       obtain ⟨g2,fs,v1,v2,v3,v4⟩:=B8s (lo:=OkB B0 H g w) r2 (fun j hj β hb=>by
        refine ⟨(r2.base j β hb).1,?_⟩
        rcases x2.blk j β hb with h | h
        ·rw [hR.nolive j hj] at h; simp [GB.blk] at h
        ·exact h) u2 u3 ho
       have hsc1:ScOk ⟨H.length,c.cur :: c.outer⟩ H1:= by
        have hq:=q2.sc
        rw [q5] at hq
        exact C75 hq ho
       have hun:Unborn H g g2:=fun j hj hn=>v1.unb j (q4 j hj hn)
       have hleave:({ b.atR a1 todo with mode:=.returning,defers:=[] }:Frame).leaving P w2 (.returned (B2b us)):=⟨rfl,rfl,rfl,fn,hfn,u1⟩
       by_cases hbd:bdL H.length rs1 = true
       ·have htr:trunc H.length rs1 H1 = H1.take H.length:= by simp [trunc,hbd]
        rw [htr]
        obtain ⟨y1,y2⟩:=Rel.take hR (x2.trans v1.ext) v1.rel (fun j hj o ho=>hsc1.bd _ (by simp) j hj o ho)
        exact ⟨us,w2,_,fs,_,hout.trans t1,rfl,hleave,v2.cut hbd,v3.cut,y1,y2,(hsc1.leave hS.out).take hS.cur,hun.cut⟩
       ·have htr:trunc H.length rs1 H1 = H1:= by simp [trunc,hbd]
        rw [htr]
        exact ⟨us,w2,g2,fs,_,hout.trans t1,rfl,hleave,v2,v3,v1.rel,x2.trans v1.ext,hsc1.leave hS.out,hun⟩
    split at h
    ·next st hc=>exact go _ _ hc (.inl rfl) h
    ·next st hc=>exact go _ _ hc (.inr rfl) h
    ·cases h
   ·cases h
  ·cases m2
theorem C05 {H:A7} {g:Ghost} {w:World} {l β:Nat} {f:Nat} {s:C9} {ps:List Nat} {aq bd:ACode} {busy:Bool} {pend:Option Ex} (hR:Rel (MCof P) P B0 H g w) (hL:g.L l = .loop β) (h:H[l]? = some (.loop f s ps aq bd busy pend)) :
  ∃ r:Loop,w.heap[β]? = some (.loop r)∧r.state = (if busy then .busy else if pend.isNone then .ready else .done)∧r.pending = pend.bind B6c∧r.params = ps.toArray∧E7 g s r.tmps∧MCof P r.tmps.size r.assign aq∧MCof P r.tmps.size r.body bd∧∀ t ∈ ps,t < r.tmps.size:= by
 have:=hR.box _ _ h
 simp only [AO.rd,hL] at this
 exact this
theorem C84 {M:Mach} {T:Tab} (hC:B7i (MCof P) P B0 M) {c:Sc} {H H':A7} {l:Nat} {args rs:List AV} (h:Q4 T M c H (.fn (.yield l) [] []) args = some (rs,H')) {g:Ghost} {w:World} {β:Nat} {vs:Array Value}
  (hR:Rel (MCof P) P B0 H g w) (hS:ScOk c H) (hL:g.L l = .loop β) (hl:vs.size = args.length) (hV:∀(j:Nat) x,args[j]? = some x→V g x (vs[j]?.getD undef)) :
  ∃ r:Loop,w.heap[β]? = some (.loop r)∧vs.size = r.params.size ∧
  ∀ fr cs,∃ us w' g' fs,Steps P (lone (Frame.round β r.fn ((r.params.zip vs).foldl (fun tmps (t,a)=>tmps.setIfInBounds t a) r.tmps) r.assign r.body .normal) (fr :: cs) w) (lone (fr.finish (B2b us)) cs w')∧RVs g' rs us fs∧FsOk (MCof P) P g' w' (OkB B0 H g w) fs∧Rel (MCof P) P B0 H' g' w'∧Ext H g w H' g' w'∧ScOk c H'∧Unborn H g g':= by
 simp only [Q4] at h
 split at h
 ·next f0 s0 ps aq bd hH =>
  have hH':H[l]? = some (.loop f0 s0 ps aq bd false none):=hH
  obtain ⟨r,b1,b2,b3,b4,b5,b6,b7,b8⟩:=C05 hR hL hH'
  have hll:l < H.length:=(List.getElem?_eq_some_iff.1 hH').1
  split at h
  ·next hpl =>
   have hpl':=Nat.eq_of_beq_eq_true hpl
   have hsz:vs.size = r.params.size:= by rw [b4,hl,← hpl']; simp
   refine ⟨r,b1,hsz,fun fr cs=>?_⟩
   obtain ⟨z1,z2⟩:=C5h ps args vs.toList s0 r.tmps hpl' (by simpa using hl) b8 (fun j x hj=>by simpa using hV j x hj) b5
   have hfold:(r.params.zip vs).foldl (fun tmps (t,a)=>tmps.setIfInBounds t a) r.tmps = (ps.zip vs.toList).foldl (fun tmps x=>tmps.setIfInBounds x.1 x.2) r.tmps:= by
    rw [← Array.foldl_toList]
    simp [b4,Array.toList_zip]
   let b:Frame:={ (default:Frame) with fn:=r.fn,kind:=.normal,roundOf:=some β }
   let a:Act:={ tmps:=(ps.zip vs.toList).foldl (fun tmps x=>tmps.setIfInBounds x.1 x.2) r.tmps,defers:=[] }
   have henter:Frame.round β r.fn ((r.params.zip vs).foldl (fun tmps (t,a)=>tmps.setIfInBounds t a) r.tmps) r.assign r.body .normal = b.atR a [.code r.assign,.beginRound,.code r.body]:= by
    simp only [hfold]; rfl
   have hbn:b.roundOf.isNone = false:=rfl
   split at h
   ·next st1 h1 =>
    obtain ⟨a1,g1,w1,q1,q2,q3,q4,q5⟩:=hC _ _ _ _ _ _ b6.1 h1 b a [.beginRound,.code r.body] (fr :: cs) g w 0 _ (.inl rfl) (.inr b6.2) ⟨hR,z1,z2,hS.enter hR,fun hf=>by simp [hbn] at hf⟩
    have hL1:=B9z q3.le hL
    split at h
    ·next f1 s1 ps1 as1 bd1 hH1 =>
     have hH1':st1.H[l]? = some (.loop f1 s1 ps1 as1 bd1 false none):=hH1
     obtain ⟨r1,c1,c2,c3,c4,c5,c6,c7,c8⟩:=C05 q2.rel hL1 hH1'
     have hready:r1.state = .ready:= by rw [c2]; rfl
     have hle1:H.length≤st1.H.length:=q3.len
     obtain ⟨p1,p2⟩:=q2.rel.put hH1' rfl (β:=β) (by rw [hL1]; rfl) (B73 c1) (.loop { r1 with state:=.busy }) (o':=.loop f1 s1 ps1 as1 bd1 true none) (by
      rw [hL1]
      exact ⟨{ r1 with state:=.busy },A9p _ _ (q2.rel.base l β (by rw [hL1]; rfl)).2,rfl,c3,c4,c5,c6,c7,c8⟩)
     have hbd1:∀B ∈ st1.c.cur :: st1.c.outer,l < B→(AO.loop f1 s1 ps1 as1 bd1 true none).bdP B:=fun B hB hlt=>(by have:=q2.sc.bd B hB l hlt _ hH1'; exact this)
     have hst1:step P (lone (b.atR a1 [.beginRound,.code r.body]) (fr :: cs) w1) = .next (lone (b.atR a1 [.code r.body]) (fr :: cs) (w1.putObj β (.loop { r1 with state:=.busy }))):=stepR_beginRound rfl (run_beginRound c1 hready)
     have hsz1:a1.tmps.size = r.tmps.size:=q2.size
     split at h
     ·next e st2 h2 =>
      obtain ⟨a2,g2,w2,t1,t2,t3,t4,t5⟩:=hC _ _ _ _ _ _ b7.1 h2 b a1 [] (fr :: cs) g1 _ 0 _ (.inl rfl) (.inr b7.2) ⟨p1,q2.slots,hsz1,q2.sc.set l _ hbd1,fun hf=>by simp [hbn] at hf⟩
      have hL2:=B9z t3.le hL1
      split at h
      ·next f2 s2 ps2 as2 bd2 hH2 =>
       have hH2':st2.H[l]? = some (.loop f2 s2 ps2 as2 bd2 true none):=hH2
       obtain ⟨r2,e1,e2,e3,e4,e5,e6,e7,e8⟩:=C05 t2.rel hL2 hH2'
       simp only [Option.some.injEq,Prod.mk.injEq] at h
       obtain ⟨rfl,rfl⟩:=h
       have fin:∀(jump:Option Code) (pend:Option Ex),jump = pend.bind B6c→(jump.isNone = pend.isNone)→Steps P (lone (b.atR a1 [.code r.body]) (fr :: cs) (w1.putObj β (.loop { r1 with state:=.busy }))) (lone (fr.finish (.bool jump.isNone)) cs (w2.putObj β (.loop { r2 with state:=if jump.isNone then .ready else .done,pending:=jump }))) →
         ∃ us w' g' fs,Steps P (lone (b.atR a [.code r.assign,.beginRound,.code r.body]) (fr :: cs) w) (lone (fr.finish (B2b us)) cs w')∧RVs g' [.b pend.isNone] us fs∧FsOk (MCof P) P g' w' (OkB B0 H g w) fs∧Rel (MCof P) P B0 (trunc H.length [] (hset st2.H l (.loop f2 s2 ps2 as2 bd2 false pend))) g' w'∧Ext H g w (trunc H.length [] (hset st2.H l (.loop f2 s2 ps2 as2 bd2 false pend))) g' w'∧ScOk c (trunc H.length [] (hset st2.H l (.loop f2 s2 ps2 as2 bd2 false pend)))∧Unborn H g g':= by
        intro jump pend hj hjn hs
        obtain ⟨y1,y2⟩:=t2.rel.put hH2' rfl (β:=β) (by rw [hL2]; rfl) (B73 e1) (.loop { r2 with state:=if jump.isNone then .ready else .done,pending:=jump }) (o':=.loop f2 s2 ps2 as2 bd2 false pend) (by
         rw [hL2]
         refine ⟨{ r2 with state:=if jump.isNone then .ready else .done,pending:=jump },A9p _ _ (t2.rel.base l β (by rw [hL2]; rfl)).2,?_,hj,e4,e5,e6,e7,e8⟩
         simp [hjn])
        have hc2:st2.c = ⟨H.length,c.cur :: c.outer⟩:=t5.trans q5
        have hsc2:ScOk ⟨H.length,c.cur :: c.outer⟩ (hset st2.H l (.loop f2 s2 ps2 as2 bd2 false pend)):=hc2 ▸ t2.sc.set l _ (fun B hB hlt=>(by have:=t2.sc.bd B hB l hlt _ hH2'; exact this))
        have hE:=((q3.trans p2).trans t3).trans y2
        obtain ⟨x1,x2⟩:=Rel.take hR hE y1 (fun j hj o ho=>hsc2.bd _ (by simp) j hj o ho)
        have htr:trunc H.length [] (hset st2.H l (.loop f2 s2 ps2 as2 bd2 false pend)) = (hset st2.H l (.loop f2 s2 ps2 as2 bd2 false pend)).take H.length:= by simp [trunc,bdL]
        rw [htr]
        have hun:Unborn H g g2:= by
         refine q4.trans (Unborn.trans (H1:=hset st1.H l (.loop f1 s1 ps1 as1 bd1 true none)) (Unborn.refl _ _) t4 (by simp [hset])) hle1
        refine ⟨[.bool jump.isNone],_,_,[],(Steps.trans q1 (.head hst1 hs)),?_,.nil,x1,x2,(hsc2.leave hS.out).take hS.cur,hun.cut⟩
        exact .cons _ _ [] _ _ [] (.one _ _ _ (by simp) (.val _ _ (by rw [hjn]; exact N9 rfl))) .nil
       rw [henter]
       have hw2:∀jump,(Instr.endRound β jump).run P w2 = .ok (.bool jump.isNone) (w2.putObj β (.loop { r2 with state:=if jump.isNone then .ready else .done,pending:=jump })):=fun jump=>run_endRound jump e1
       cases e with
       | normal=>exact fin none none rfl rfl (Steps.trans t1 (.one (stepR_round_end rfl rfl (hw2 none))))
       | exit id =>
        obtain ⟨k',hk1,hk2⟩:=t1
        exact fin (some (.exit id)) (some (.exit id)) rfl rfl (Steps.trans hk2 (.one (stepR_round_exit rfl rfl (by rw [hk1]; rfl) (hw2 (some (.exit id))))))
       | ret =>
        obtain ⟨k',hk2⟩:=t1
        exact fin (some .ret) (some .ret) rfl rfl (Steps.trans hk2 (.one (stepR_round_ret rfl rfl (hw2 (some .ret)))))
      ·cases h
     ·cases h
    ·cases h
   ·cases h
  ·cases h
 ·cases h
theorem D2k {M:Mach} {T:Tab} (hT:C3t P T) (hC:B7i (MCof P) P B0 M):B4y (MCof P) P B0 ⟨fun c H f args=>Q4 T M c H f args,M.code⟩:= by
 intro c H f args rs H' h g w fv vs hR hS hf hl hV
 simp only at h
 cases f with
 | fn f fa fc =>
  obtain ⟨f',a',c',rfl,hfr,l1,l2,h1,h2⟩:=D4a hf
  cases f with
  | func i =>
   have:f' = .func i:=hfr
   subst this
   have hl3:(a'++vs++c').size = (fa++args++fc).length:= by simp [l1,l2,hl]
   have hV3:∀(j:Nat) x,(fa++args++fc)[j]? = some x→V g x ((a'++vs++c')[j]?.getD undef):= by
    intro j x hj
    rw [List.append_assoc] at hj
    rw [Array.append_assoc]
    by_cases hj1:j < fa.length
    ·rw [List.getElem?_append_left hj1] at hj
     rw [Array.getElem?_append_left (by omega)]
     exact h1 j x hj
    ·rw [List.getElem?_append_right (by omega)] at hj
     rw [Array.getElem?_append_right (by omega),l1]
     by_cases hj2:j - fa.length < args.length
     ·rw [List.getElem?_append_left hj2] at hj
      rw [Array.getElem?_append_left (by omega)]
      exact hV _ x hj
     ·rw [List.getElem?_append_right (by omega)] at hj
      rw [Array.getElem?_append_right (by omega),hl]
      exact h2 _ x hj
   obtain ⟨⟨fn,q1,q2,q3⟩,q4⟩:=B7x hT hC h hR hS hl3 hV3
   refine ⟨_,C89 q1 q2 q3 a' c' vs,fun fr cs=>?_⟩
   obtain ⟨us,w',g',fs,fr',p1,p2,p3,p4,p5,p6,p7,p8,p9⟩:=q4 (fr :: cs)
   exact ⟨us,w',g',fs,p1.trans (.one (step_leave_returned p3)),p4,p5,p6,p7,p8,p9⟩
  | yield l =>
   obtain ⟨β,hL,rfl⟩:=hfr
   have hnil:fa = []∧fc = []:= by
    unfold Q4 at h
    split at h
    ·next heq=>cases heq
    ·next heq=>cases heq; exact ⟨rfl,rfl⟩
    ·cases h
   obtain ⟨rfl,rfl⟩:=hnil
   have ea:a' = #[]:= by simpa using l1
   have ec:c' = #[]:= by simpa using l2
   subst ea; subst ec
   obtain ⟨r,q1,q2,q3⟩:=C84 hC h hR hS hL hl hV
   exact ⟨_,C5p q1 q2,fun fr cs=>q3 fr cs⟩
  | _=>exact hfr.elim
 | _=>simp [Q4] at h
theorem B47 (hmix:P.follows .mixedOrders = true) {T:Tab} (hT:C3t P T):∀n,B7i (MCof P) P B0 (mach T n)∧B4y (MCof P) P B0 (mach T n)
 | 0=>⟨fun nt code ac st e st' _ h=>(by simp [mach] at h),fun c H f args rs H' h=>(by simp [mach] at h)⟩
 | n + 1=>by
  obtain ⟨hC,hM⟩:=B47 hmix hT n
  have h1:=D2o hmix hC hM
  have h2:=D2k hT hC
  exact ⟨h1,h2⟩
end
structure Mach.le (M M':Mach):Prop where
 call:∀c H f args r,M.call c H f args = some r→M'.call c H f args = some r
 code:∀ac st r,M.code ac st = some r→M'.code ac st = some r
section
variable {M M':Mach}
theorem C66 (h:M.le M') {c:Sc} {n0:Nat} {s:C9} {H:A7} {f:Opd} {args:List Opd} {own:List (List (Nat × Nat))} {pure:Bool} {r:AV × A7} (hr:A0o M c n0 s H f args own pure = some r):A0o M' c n0 s H f args own pure = some r:= by
 unfold A0o at hr ⊢
 split at hr
 ·next fv aq e1 e2 =>
  simp only [e1,e2]
  split at hr
  ·next hp =>
   simp only [hp,if_true]
   split at hr
   ·next hpub =>
    simp only [hpub,if_true]
    split at hr
    ·cases hr
    ·next as' H1 e3 =>
     try simp only [e3]
     split at hr
     ·cases hr
     ·next rs H2 e4=>simp only [h.call _ _ _ _ _ e4]; exact hr
   ·cases hr
  ·next hp =>
   simp only [hp]
   split at hr
   ·cases hr
   ·next as' H1 e3 =>
    try simp only [e3]
    split at hr
    ·cases hr
    ·next rs H2 e4=>simp only [h.call _ _ _ _ _ e4]; exact hr
 ·cases hr
theorem C34 (h:M.le M') {c:Sc} {n0:Nat} {s:C9} {H:A7} {op:AOp} {r:AV × A7} (hr:core M c n0 s H op = some r):core M' c n0 s H op = some r:= by
 cases op with
 | call=>exact C66 h hr
 | _=>exact hr
theorem C4x (h:M.le M') {c:Sc} {n0:Nat} {s:C9} {H:A7} {hc:List (Option (List Nat))} {o:AOper} {r:C9 × A7 × List (Option (List Nat))} (hr:oper M c n0 s H hc o = some r):oper M' c n0 s H hc o = some r:= by
 unfold oper at hr ⊢
 split at hr
 ·cases hr
 ·next hw=>(try simp only [hw]); exact hr
 ·next hw =>
  try simp only [hw]
  split at hr
  ·next hs e1 e2 =>
   try simp only [e1,e2]
   split at hr
   ·next q e3=>simp only [C34 h e3]; exact hr
   ·cases hr
  ·cases hr
theorem A2o (h:M.le M') {c:Sc} {n0:Nat}:∀{l:List AOper} {s:C9} {H:A7} {hc:List (Option (List Nat))} {r:C9 × A7},opers M c n0 l s H hc = some r→opers M' c n0 l s H hc = some r
 | [],s,H,hc,r,hr=>hr
 | o :: l,s,H,hc,r,hr=>by
  simp only [opers] at hr ⊢
  split at hr
  ·cases hr
  ·next s1 H1 hc1 e1=>simp only [C4x h e1]; exact A2o h hr
theorem C26 (h:M.le M') {ac:ACode} {st:St} {r:Ex × St} (hr:G4 M st ac = some r):G4 M' st ac = some r:= by
 cases ac with
 | region d nres pre ops live =>
  simp only [G4] at hr ⊢
  split at hr
  ·next H e1 =>
   split at hr
   ·next q e2=>simp only [A2o h e2]; exact hr
   ·cases hr
  ·cases hr
 | seq a b =>
  simp only [G4] at hr ⊢
  cases ha:M.code a st with
  | none=>simp [ha] at hr
  | some p =>
   obtain ⟨e,st1⟩:=p
   rw [h.code _ _ _ ha]
   rw [ha] at hr
   cases e with
   | normal=>exact h.code _ _ _ hr
   | _=>exact hr
 | cond c a b =>
  simp only [G4] at hr ⊢
  split at hr
  ·exact h.code _ _ _ hr
  ·exact h.code _ _ _ hr
  ·cases hr
 | block id a =>
  simp only [G4] at hr ⊢
  cases ha:M.code a st with
  | none=>simp [ha] at hr
  | some p=>rw [h.code _ _ _ ha]; rw [ha] at hr; exact hr
 | loop tr live a =>
  simp only [G4] at hr ⊢
  cases ha:M.code a (if tr then { s:=restrict st.s live,H:=st.H,c:=⟨st.H.length,st.c.cur :: st.c.outer⟩ } else { st with s:=restrict st.s live }) with
  | none=>simp [ha] at hr
  | some p =>
   obtain ⟨e,st1⟩:=p
   rw [h.code _ _ _ ha]
   rw [ha] at hr
   cases e with
   | normal =>
    cases tr with
    | true =>
     simp only [if_true] at hr ⊢
     split at hr
     ·next hb=>simp only [hb,if_true]; exact h.code _ _ _ hr
     ·cases hr
    | false=>exact h.code _ _ _ hr
   | _=>exact hr
 | rangeFunc f ps live a b =>
  simp only [G4] at hr ⊢
  split at hr
  ·next i fa fc e1 =>
   split at hr
   ·next rs H' e2=>simp only [h.call _ _ _ _ _ e2]; exact hr
   ·cases hr
  ·cases hr
 | scope a=>exact h.code _ _ _ hr
 | skip=>exact hr
 | exit id=>exact hr
 | ret=>exact hr
theorem C24 {T:Tab} (h:M.le M') {c:Sc} {H:A7} {f:AV} {args:List AV} {r:List AV × A7} (hr:Q4 T M c H f args = some r):Q4 T M' c H f args = some r:= by
 unfold Q4 at hr ⊢
 split at hr
 ·split at hr
  ·cases hr
  ·next af e1 =>
   simp only at hr ⊢
   split at hr
   ·next hl =>
    simp only [hl,if_true]
    split at hr
    ·next st e2=>simp only [h.code _ _ _ e2]; exact hr
    ·next st e2=>simp only [h.code _ _ _ e2]; exact hr
    ·cases hr
   ·cases hr
 ·split at hr
  ·next e1 =>
   split at hr
   ·next hl =>
    simp only [hl,if_true]
    split at hr
    ·next st e2 =>
     simp only [h.code _ _ _ e2]
     split at hr
     ·next e3 =>
      split at hr
      ·next e st' e4=>simp only [h.code _ _ _ e4]; exact hr
      ·cases hr
     ·cases hr
    ·cases hr
   ·cases hr
  ·cases hr
 ·cases hr
end
theorem B90 (T:Tab):∀n,(mach T n).le (mach T (n + 1))
 | 0=>⟨fun _ _ _ _ _ h=>by simp [mach] at h,fun _ _ _ h=>by simp [mach] at h⟩
 | n + 1=>⟨fun _ _ _ _ _ h=>C24 (B90 T n) h,fun _ _ _ h=>C26 (B90 T n) h⟩
theorem B20 (T:Tab) (n:Nat):∀k,(mach T n).le (mach T (n + k))
 | 0=>⟨fun _ _ _ _ _ h=>h,fun _ _ _ h=>h⟩
 | k + 1=>⟨fun c H f a r h=>(B90 T (n + k)).call _ _ _ _ _ ((B20 T n k).call _ _ _ _ _ h),fun ac st r h=>(B90 T (n + k)).code _ _ _ ((B20 T n k).code _ _ _ h)⟩
theorem M6 (T:Tab) {n m:Nat} (h:n≤m):(mach T n).le (mach T m):= by
 obtain ⟨k,rfl⟩:=Nat.exists_eq_add_of_le h
 exact B20 T n k
theorem A0v (T:Tab) (n:Nat) (ac:ACode) (st:St):(mach T (n + 1)).code ac st = G4 (mach T n) st ac:=rfl
theorem A0u (T:Tab) (n:Nat) (c:Sc) (H:A7) (f:AV) (args:List AV):(mach T (n + 1)).call c H f args = Q4 T (mach T n) c H f args:=rfl
def L4 (T:Tab) (ac:ACode) (st:St) (e:Ex) (st':St):Prop:=∃ n,(mach T n).code ac st = some (e,st')
def V4 (T:Tab) (c:Sc) (H:A7) (f:AV) (args:List AV) (rs:List AV) (H':A7):Prop:=∃ n,(mach T n).call c H f args = some (rs,H')
def opers3 (M:Mach) (c:Sc) (n0:Nat):List AOper→C9 × A7 × List (Option (List Nat))→Option (C9 × A7 × List (Option (List Nat)))
 | [],x=>some x
 | o :: l,x=>match oper M c n0 x.1 x.2.1 x.2.2 o with
  | none=>none
  | some y=>opers3 M c n0 l y
abbrev OS:=C9 × A7 × List (Option (List Nat))
def B95 (T:Tab) (c:Sc) (n0:Nat) (l:List AOper) (x y:OS):Prop:=∃ n,opers3 (mach T n) c n0 l x = some y
theorem B26 {M M':Mach} (h:M.le M') {c:Sc} {n0:Nat}:∀{l:List AOper} {x y:OS},opers3 M c n0 l x = some y→opers3 M' c n0 l x = some y
 | [],x,y,hr=>hr
 | o :: l,x,y,hr=>by
  simp only [opers3] at hr ⊢
  split at hr
  ·cases hr
  ·next z e1=>simp only [C4x h e1]; exact B26 h hr
theorem B79 (M:Mach) (c:Sc) (n0:Nat):∀(l:List AOper) (x:OS),opers M c n0 l x.1 x.2.1 x.2.2 = (opers3 M c n0 l x).map fun y=>(y.1,y.2.1)
 | [],x=>rfl
 | o :: l,x=>by
  simp only [opers,opers3]
  cases oper M c n0 x.1 x.2.1 x.2.2 o with
  | none=>rfl
  | some y=>exact B79 M c n0 l y
theorem C1y (M:Mach) (c:Sc) (n0:Nat):∀(l m:List AOper) (x:OS),opers3 M c n0 (l++m) x = (opers3 M c n0 l x).bind (opers3 M c n0 m)
 | [],m,x=>rfl
 | o :: l,m,x=>by
  simp only [List.cons_append,opers3]
  cases oper M c n0 x.1 x.2.1 x.2.2 o with
  | none=>rfl
  | some y=>exact C1y M c n0 l m y
variable {T:Tab}
theorem B95.app {c:Sc} {n0:Nat} {l l1 l2:List AOper} {x y z:OS} (hl:l = l1++l2) (h1:B95 T c n0 l1 x y) (h2:B95 T c n0 l2 y z):B95 T c n0 l x z:= by
 obtain ⟨n1,e1⟩:=h1
 obtain ⟨n2,e2⟩:=h2
 refine ⟨max n1 n2,?_⟩
 rw [hl,C1y,B26 (M6 T (Nat.le_max_left n1 n2)) e1]
 exact B26 (M6 T (Nat.le_max_right n1 n2)) e2
theorem B95.call {c:Sc} {n0:Nat} {o:AOper} {x y:OS} {f:Opd} {args:List Opd} {own:List (List (Nat × Nat))} {hs:List Nat} {fv:AV} {aq as' rs:List AV} {H1 H2:A7} (ho:o.op = .call f args own false)
  (h1:wanted x.1 o.guard = some true) (h2:A5t n0 x.1 x.2.1 o = some hs) (h3:P9 x.1 o x.2.2 = true) (h4:ev x.1 f = some fv) (h5:evs x.1 args = some aq) (h6:W4 (hide x.2.1 hs) aq = some (as',H1))
  (hcall:V4 T c H1 fv as' rs H2) (h7:(hs.isEmpty || Nat.ble x.2.1.length (A1e n0 H2 rs own).2.length) = true)
  (hy:y = (sput x.1 o.dst (packed (A1e n0 H2 rs own).1),unhide x.2.1 (A1e n0 H2 rs own).2 hs,some hs :: x.2.2)):B95 T c n0 [o] x y:= by
 obtain ⟨n,e⟩:=hcall
 refine ⟨n,?_⟩
 obtain ⟨dst,op,g,hid,hida,inc,src⟩:=o
 simp only at ho
 subst ho
 simp only [opers3,oper,h1,h2,h3,core,A0o,h4,h5,h6,e,h7,if_true,Bool.false_eq_true,if_false,writes,Bool.not_false,hy]
theorem B95.pure {c:Sc} {n0:Nat} {o:AOper} {x y:OS} {f:Opd} {args:List Opd} {own:List (List (Nat × Nat))} {hs:List Nat} {fv:AV} {aq as' rs:List AV} {H1 H2:A7} (ho:o.op = .call f args own true)
  (h1:wanted x.1 o.guard = some true) (h2:A5t n0 x.1 x.2.1 o = some hs) (h3:P9 x.1 o x.2.2 = true) (h4:ev x.1 f = some fv) (h5:evs x.1 args = some aq) (h5':aq.all (X0 (hide x.2.1 hs)) = true) (h6:W4 (hide x.2.1 hs) aq = some (as',H1))
  (hcall:V4 T c ((hide x.2.1 hs).map AO.toRo) fv as' rs H2) (hbd:bdL (hide x.2.1 hs).length rs = true) (h7:(hs.isEmpty || Nat.ble x.2.1.length (A1e n0 (hide x.2.1 hs) rs own).2.length) = true)
  (hy:y = (sput x.1 o.dst (packed (A1e n0 (hide x.2.1 hs) rs own).1),unhide x.2.1 (A1e n0 (hide x.2.1 hs) rs own).2 hs,x.2.2)):B95 T c n0 [o] x y:= by
 obtain ⟨n,e⟩:=hcall
 refine ⟨n,?_⟩
 obtain ⟨dst,op,g,hid,hida,inc,src⟩:=o
 simp only at ho
 subst ho
 simp only [opers3,oper,h1,h2,h3,core,A0o,h4,h5,h5',h6,e,hbd,h7,if_true,writes,Bool.not_true,Bool.false_eq_true,if_false,hy]
theorem L4.region {ac:ACode} {d:Bool} {nres:Nat} {pre live:List Nat} {ops:List AOper} {st st':St} {H:A7} {n0:Nat} {x y:OS} (hac:ac = .region d nres pre ops live) (h1:publish st.s st.H pre = some H) (hn:n0 = H.length)
  (hx:x = (st.s,H++List.replicate nres .dead,[])) (hr:B95 T st.c n0 ops x y) (hst:st' = ⟨restrict y.1 live,y.2.1,st.c⟩):L4 T ac st .normal st':= by
 obtain ⟨n,e⟩:=hr
 refine ⟨n + 1,?_⟩
 subst hac; subst hn; subst hx; subst hst
 have:=B79 (mach T n) st.c H.length ops (st.s,H++List.replicate nres .dead,[])
 rw [e] at this
 rw [A0v]
 simp only [G4,h1]
 simp only at this
 rw [this]; rfl
theorem L4.seq {ac a b:ACode} {st st1 st':St} {e:Ex} (hac:ac = .seq a b) (h1:L4 T a st .normal st1) (h2:L4 T b st1 e st'):L4 T ac st e st':= by
 obtain ⟨n1,e1⟩:=h1
 obtain ⟨n2,e2⟩:=h2
 refine ⟨max n1 n2 + 1,?_⟩
 subst hac
 rw [A0v]
 simp only [G4,(M6 T (Nat.le_max_left n1 n2)).code _ _ _ e1]
 exact (M6 T (Nat.le_max_right n1 n2)).code _ _ _ e2
def Ex.out:Ex→Bool
 | .normal=>false
 | _=>true
theorem L4.seqOut {ac a b:ACode} {st st':St} {e:Ex} (hac:ac = .seq a b) (he:e.out = true) (h1:L4 T a st e st'):L4 T ac st e st':= by
 obtain ⟨n1,e1⟩:=h1
 refine ⟨n1 + 1,?_⟩
 subst hac
 rw [A0v]
 simp only [G4,e1]
 cases e <;> first | rfl | cases he
theorem L4.cond {ac a b:ACode} {c:Opd} {t:Bool} {st st':St} {e:Ex} (hac:ac = .cond c a b) (hc:ev st.s c = some (.lit (.bool t))) (h1:L4 T (if t then a else b) st e st'):L4 T ac st e st':= by
 obtain ⟨n1,e1⟩:=h1
 refine ⟨n1 + 1,?_⟩
 subst hac
 rw [A0v]
 simp only [G4,hc]
 cases t <;> exact e1
theorem L4.condT {ac a b:ACode} {c:Opd} {st st':St} {e:Ex} (hac:ac = .cond c a b) (hc:ev st.s c = some (.lit (.bool true))) (h1:L4 T a st e st'):L4 T ac st e st':=L4.cond hac hc h1
theorem L4.condF {ac a b:ACode} {c:Opd} {st st':St} {e:Ex} (hac:ac = .cond c a b) (hc:ev st.s c = some (.lit (.bool false))) (h1:L4 T b st e st'):L4 T ac st e st':=L4.cond hac hc h1
theorem B95.nil {c:Sc} {n0:Nat} {l:List AOper} {x:OS} (hl:l = []):B95 T c n0 l x x:=⟨0,by rw [hl]; rfl⟩
theorem L4.blockExit {ac a:ACode} {id:Nat} {st st':St} (hac:ac = .block id a) (h1:L4 T a st (.exit id) st'):L4 T ac st .normal st':= by
 obtain ⟨n1,e1⟩:=h1
 refine ⟨n1 + 1,?_⟩
 subst hac
 rw [A0v]
 simp [G4,e1]
def Ex.not (id:Nat):Ex→Bool
 | .exit j=>!Nat.beq j id
 | _=>true
theorem L4.block {ac a:ACode} {id:Nat} {st st':St} {e:Ex} (hac:ac = .block id a) (he:e.not id = true) (h1:L4 T a st e st'):L4 T ac st e st':= by
 obtain ⟨n1,e1⟩:=h1
 refine ⟨n1 + 1,?_⟩
 subst hac
 rw [A0v]
 simp only [G4,e1]
 cases e with
 | exit j=>simp only [Ex.not,Bool.not_eq_true'] at he; simp only [he,Bool.false_eq_true,if_false]
 | _=>rfl
theorem L4.scope {ac a:ACode} {st st':St} {e:Ex} (hac:ac = .scope a) (h1:L4 T a st e st'):L4 T ac st e st':= by
 obtain ⟨n1,e1⟩:=h1
 refine ⟨n1 + 1,?_⟩
 subst hac
 exact e1
def A9z (tr:Bool) (live:List Nat) (st:St):St:=if tr then { s:=restrict st.s live,H:=st.H,c:=⟨st.H.length,st.c.cur :: st.c.outer⟩ } else { st with s:=restrict st.s live }
def B2z (tr:Bool) (live:List Nat) (st st1:St):Option St :=
 if tr then (if A5v st.H.length (restrict st1.s live) then some { s:=restrict st1.s live,H:=st1.H.take st.H.length,c:=st.c } else none)
 else some { s:=restrict st1.s live,H:=st1.H,c:=st.c }
theorem L4.loop {ac body:ACode} {tr:Bool} {live:List Nat} {st st0 st1 st2 st':St} {e:Ex} (hac:ac = .loop tr live body) (h0:st0 = A9z tr live st) (h1:L4 T body st0 .normal st1) (h2:B2z tr live st st1 = some st2)
  (h3:L4 T ac st2 e st'):L4 T ac st e st':= by
 obtain ⟨n1,e1⟩:=h1
 obtain ⟨n2,e2⟩:=h3
 refine ⟨max n1 n2 + 1,?_⟩
 subst hac; subst h0
 have e1':=(M6 T (Nat.le_max_left n1 n2)).code _ _ _ e1
 have e2':=(M6 T (Nat.le_max_right n1 n2)).code _ _ _ e2
 rw [A0v]
 unfold A9z at e1'
 unfold B2z at h2
 simp only [G4,e1']
 cases tr with
 | true =>
  simp only [if_true] at h2 ⊢
  split at h2
  ·next hb=>simp only [Option.some.injEq] at h2; subst h2; simp only [hb,if_true]; exact e2'
  ·cases h2
 | false =>
  simp only [Bool.false_eq_true,if_false,Option.some.injEq] at h2 ⊢
  subst h2; exact e2'
theorem L4.loopOut {ac body:ACode} {tr:Bool} {live:List Nat} {st st0 st1 st':St} {e:Ex} (hac:ac = .loop tr live body) (h0:st0 = A9z tr live st) (he:e.out = true) (h1:L4 T body st0 e st1) (hst:st' = { st1 with c:=st.c }):L4 T ac st e st':= by
 obtain ⟨n1,e1⟩:=h1
 refine ⟨n1 + 1,?_⟩
 subst hac; subst h0; subst hst
 rw [A0v]
 unfold A9z at e1
 simp only [G4,e1]
 cases e <;> first | rfl | cases he
theorem V4.fn {c:Sc} {H H1 H':A7} {f:AV} {i:Nat} {fa fc args aq rs0 rs1 rs:List AV} {af:AFunc} {bd:ACode} {st st':St} {e:Ex} (hf:f = .fn (.func i) fa fc) (haf:T i = some af) (hb:af.body = bd) (has:aq = fa++args++fc) (hn:Nat.beq aq.length af.nargs = true)
  (hst:st = { s:=Q3 0 aq,H,c:=⟨H.length,c.cur :: c.outer⟩ }) (h1:L4 T bd st e st') (he:(match e with | .exit _=>false | _=>true) = true) (h2:results st'.s st'.H af.results = some rs0) (h3:A0n H.length st'.H rs0 = some (rs1,H1))
  (hr:rs = rs1) (hH:H' = trunc H.length rs1 H1):V4 T c H f args rs H':= by
 obtain ⟨n1,e1⟩:=h1
 refine ⟨n1 + 1,?_⟩
 subst hf; subst has; subst hst; subst hr; subst hH
 rw [A0u]
 subst hb
 simp only [Q4,haf,hn,if_true]
 simp only [e1]
 cases e with
 | exit id=>cases he
 | _=>simp only [h2,h3]
theorem V4.yield {c:Sc} {H H':A7} {f:AV} {l:Nat} {args rs:List AV} {f0 f1 f2:Nat} {s0 s1 s2:C9} {ps ps1 ps2:List Nat} {aq as1 as2 bd bd1 bd2:ACode} {st0 st1 st1' st2:St} {e:Ex} (hf:f = .fn (.yield l) [] []) (h0:hget H l = some (.loop f0 s0 ps aq bd false none))
  (hn:Nat.beq ps.length args.length = true) (hst:st0 = { s:=(ps.zip args).foldl (fun s x=>sput s (some x.1) x.2) s0,H,c:=⟨H.length,c.cur :: c.outer⟩ }) (h1:L4 T aq st0 .normal st1) (h2:hget st1.H l = some (.loop f1 s1 ps1 as1 bd1 false none))
  (hst1:st1' = { st1 with H:=hset st1.H l (.loop f1 s1 ps1 as1 bd1 true none) }) (h3:L4 T bd st1' e st2) (h4:hget st2.H l = some (.loop f2 s2 ps2 as2 bd2 true none))
  (hr:rs = [.b (!e.out)]) (hH:H' = trunc H.length [] (hset st2.H l (.loop f2 s2 ps2 as2 bd2 false (match e with | .normal=>none | e=>some e)))):V4 T c H f args rs H':= by
 obtain ⟨n1,e1⟩:=h1
 obtain ⟨n2,e2⟩:=h3
 refine ⟨max n1 n2 + 1,?_⟩
 subst hf; subst hst; subst hst1; subst hr; subst hH
 have e1':=(M6 T (Nat.le_max_left n1 n2)).code _ _ _ e1
 have e2':=(M6 T (Nat.le_max_right n1 n2)).code _ _ _ e2
 rw [A0u]
 simp only [Q4,h0,hn,if_true,e1',h2,e2',h4]
 cases e <;> rfl
theorem L4.rangeFunc {ac aq bd:ACode} {f:Opd} {ps live:List Nat} {i l:Nat} {fa fc rs:List AV} {st st':St} {H0 H':A7} {f1:Nat} {s1:C9} {ps1:List Nat} {as1 bd1:ACode} {pend:Option Ex} {e:Ex} (hac:ac = .rangeFunc f ps live aq bd) (hf:ev st.s f = some (.fn (.func i) fa fc)) (hl:l = st.H.length)
  (hH0:H0 = st.H++[.loop 0 (restrict st.s live) ps aq bd false none]) (h1:V4 T st.c H0 (.fn (.func i) fa fc) [.fn (.yield l) [] []] rs H') (h2:hget H' l = some (.loop f1 s1 ps1 as1 bd1 false pend)) (he:e = pend.getD .normal)
  (hst:st' = { st with H:=hset H' l .dead }):L4 T ac st e st':= by
 obtain ⟨n1,e1⟩:=h1
 refine ⟨n1 + 1,?_⟩
 subst hac; subst hl; subst hH0; subst he; subst hst
 rw [A0v]
 simp only [G4,hf,e1,h2]
 cases pend <;> rfl
end Am
end
section
namespace Am
open Go Go.RowKit
theorem C9t {P:Program} (hmix:P.follows .mixedOrders = true) {T:Tab} (hT:C3t P T) {i:Nat} {args:List AV} {H':A7} (h:V4 T ⟨0,[]⟩ [] (.fn (.func i) [] []) args [.b true] H') (W:World) (hG:C5j fun β o=>W.cell? ⟨β,o,none⟩) {vs:Array Value} (hl:vs.size = args.length)
  (hV:∀(j:Nat) x,args[j]? = some x→V ⟨fun _=>.none,fun β o=>W.cell? ⟨β,o,none⟩,hG⟩ x (vs[j]?.getD undef)):Calls P i vs W fun e W'=>e = .returned (.bool true)∧Below W.heap.size W W':= by
 obtain ⟨n,h⟩:=h
 cases n with
 | zero=>simp [mach] at h
 | succ m =>
  rw [A0u] at h
  let g0:Ghost:=⟨fun _=>.none,fun β o=>W.cell? ⟨β,o,none⟩,hG⟩
  have hR:Rel (MCof P) P W.heap.size [] g0 W:=⟨fun _ _ _ h=>h,fun i β h=>by simp [g0,GB.blk] at h,fun i j β h=>by simp [g0,GB.blk] at h,fun i o h=>by simp at h,fun _ _=>rfl,Nat.le_refl _⟩
  have hS:ScOk ⟨0,[]⟩ ([]:A7):=⟨by simp,by simp,fun B _ i _ o h=>by simp at h⟩
  obtain ⟨_,hgo⟩:=B7x hT (B47 hmix hT m).1 h hR hS (by simpa using hl) (fun j x hj=>hV j x (by simpa using hj))
  intro cs
  obtain ⟨us,w',g',fs,fr,h1,h2,h3,h4,h5,h6,h7,h8,h9⟩:=hgo cs
  have hus:us = [.bool true]:= by
   cases h4 with
   | cons _ u f _ us fs h k =>
    cases k
    cases h with
    | one _ _ _ _ h =>
     cases h with
     | val _ _ h=>have:=U7 h; subst this; rfl
  subst hus
  refine ⟨.returned (.bool true),w',fr,⟨rfl,?_⟩,h1,h2,h3⟩
  exact ⟨h7.os,h7.tape,h7.output,h7.size,fun k hk=>(h7.frame k hk (fun i o hi=>by simp at hi)).1⟩
end Am
end
section
namespace Am
open Go
def Sub (s S:C9):Prop:=∀ t v,sget s t = some v→sget S t = some v
theorem Sub.refl (s:C9):Sub s s:=fun _ _ h=>h
theorem Sub.trans {a b c:C9} (h:Sub a b) (k:Sub b c):Sub a c:=fun t v e=>k t v (h t v e)
theorem Sub.nil (S:C9):Sub [] S:=fun _ _ h=>by simp [O7,M3] at h
theorem Sub.cons {s S:C9} {t:Nat} {v:AV} (h:sget S t = some v) (k:Sub s S):Sub ((t,v) :: s) S:= by
 intro i w e
 simp only [O7,M3] at e
 cases hb:Nat.beq t i with
 | true=>rw [hb] at e; simp only [cond_true,Option.some.injEq] at e; subst e; rw [← Nat.eq_of_beq_eq_true hb]; exact h
 | false=>rw [hb] at e; exact k i w e
theorem Sub.put {s S:C9} (h:Sub s S) (d:Option Nat) (v:AV):Sub (sput s d v) (sput S d v):= by
 cases d with
 | none=>exact h
 | some d =>
  intro i w e
  simp only [sput,O7,M3] at e ⊢
  cases hb:Nat.beq d i with
  | true=>rw [hb] at e; exact e
  | false=>rw [hb] at e; exact h i w e
theorem A65 {s:C9} {t:Nat} {v:AV}:∀{l:List Nat},sget (restrict s l) t = some v↔t ∈ l∧sget s t = some v
 | []=>by simp [restrict,O7,M3]
 | u :: l=>by
  have ih:=A65 (s:=s) (t:=t) (v:=v) (l:=l)
  simp only [restrict]
  cases hu:sget s u with
  | none =>
   simp only [List.mem_cons]
   constructor
   ·intro h; have:=ih.1 h; exact ⟨.inr this.1,this.2⟩
   ·rintro ⟨rfl | h,k⟩
    ·simp [hu] at k
    ·exact ih.2 ⟨h,k⟩
  | some w =>
   simp only [O7,M3,List.mem_cons]
   cases hb:Nat.beq u t with
   | true =>
    have:=Nat.eq_of_beq_eq_true hb
    subst this
    simp [hu]
   | false =>
    have:t ≠ u:=fun e=>by subst e; simp at hb
    simp only [cond_false]
    rw [ih]; simp [this]
theorem Sub.restrict {s S:C9} (h:Sub s S) (l:List Nat):Sub (restrict s l) (restrict S l):= by
 intro t v e
 rw [A65] at e ⊢
 exact ⟨e.1,h t v e.2⟩
section
variable {s S:C9} (h:Sub s S)
include h
theorem A60 {x:Opd} {v:AV} (e:ev s x = some v):ev S x = some v:= by
 cases x with
 | t i=>exact h _ _ e
 | c v=>exact e
 | f i=>exact e
theorem B2p:∀{l:List Opd} {vs:List AV},evs s l = some vs→evs S l = some vs
 | [],_,e=>e
 | x :: l,vs,e=>by
  simp only [evs,Option.bind_eq_some_iff,Option.map_eq_some_iff] at e ⊢
  obtain ⟨v,e1,w,e2,e3⟩:=e
  exact ⟨v,A60 h e1,w,B2p e2,e3⟩
theorem B50:∀{l:List (Nat × Nat × Opd)} {vs:List (Nat × Nat × AV)},Y4 s l = some vs→Y4 S l = some vs
 | [],_,e=>e
 | (a,b,x) :: l,vs,e=>by
  simp only [Y4,Option.bind_eq_some_iff,Option.map_eq_some_iff] at e ⊢
  obtain ⟨v,e1,w,e2,e3⟩:=e
  exact ⟨v,A60 h e1,w,B50 e2,e3⟩
theorem A9x:∀{l:List (Nat × Opd)} {vs:List (Nat × AV)},N0 s l = some vs→N0 S l = some vs
 | [],_,e=>e
 | (a,x) :: l,vs,e=>by
  simp only [N0,Option.bind_eq_some_iff,Option.map_eq_some_iff] at e ⊢
  obtain ⟨v,e1,w,e2,e3⟩:=e
  exact ⟨v,A60 h e1,w,A9x e2,e3⟩
theorem C9i {x:Opd} {n:Int} (e:B5z s x = some n):B5z S x = some n:= by
 unfold B5z at e ⊢
 cases hx:ev s x with
 | none=>simp [hx] at e
 | some v=>rw [A60 h hx]; rw [hx] at e; exact e
theorem A67 {d:Int} {x:Option Opd} {n:Int} (e:bnd s d x = some n):bnd S d x = some n:= by
 cases x with
 | none=>exact e
 | some x=>exact C9i h e
theorem C45 {c:Sc} {n0:Nat} {H:A7} {op:AOp} {r:AV × A7} (e:prim c n0 s H op = some r):prim c n0 S H op = some r:= by
 have E:∀x v,ev s x = some v→ev S x = some v:=fun x v=>A60 h
 cases op with
 | nil=>exact e
 | alloc=>exact e
 | mkmap=>exact e
 | call=>exact e
 | build z parts =>
  simp only [prim,Option.bind_eq_some_iff] at e ⊢
  obtain ⟨ps,e1,e2⟩:=e
  exact ⟨ps,B50 h e1,e2⟩
 | lits k z n parts own =>
  simp only [prim,Option.bind_eq_some_iff] at e ⊢
  obtain ⟨ps,e1,e2⟩:=e
  exact ⟨ps,A9x h e1,e2⟩
 | xlits k z n parts =>
  simp only [prim,Option.bind_eq_some_iff] at e ⊢
  obtain ⟨ps,e1,e2⟩:=e
  exact ⟨ps,A9x h e1,e2⟩
 | mkfn f a b =>
  simp only [prim] at e ⊢
  cases h1:evs s a with
  | none=>simp [h1] at e
  | some u =>
   cases h2:evs s b with
   | none=>simp [h1,h2] at e
   | some w=>rw [B2p h h1,B2p h h2]; rw [h1,h2] at e; exact e
 | mm mx xs =>
  simp only [prim] at e ⊢
  cases h1:evs s xs with
  | none=>simp [h1] at e
  | some u=>rw [B2p h h1]; rw [h1] at e; exact e
 | mv x | box n x r | nilck x | un op x | conv k x | idc x | nilq q x | fieldAddr o x | field k o x | range x r | next x | extract x i | lenS x | lenM x | lenL x =>
  simp only [prim] at e ⊢
  cases h1:ev s x with
  | none=>simp [h1] at e
  | some u=>rw [E _ _ h1]; rw [h1] at e; exact e
 | load k x =>
  cases k <;>
  ·simp only [prim] at e ⊢
   cases h1:ev s x with
   | none=>simp [h1] at e
   | some u=>rw [E _ _ h1]; rw [h1] at e; exact e
 | pick c a b =>
  simp only [prim] at e ⊢
  cases h1:ev s c with
  | none=>simp [h1] at e
  | some u =>
   rw [E _ _ h1]; rw [h1] at e
   split at e
   ·next hu =>
    cases h2:ev s a with
    | none=>simp [h2] at e
    | some w=>simp only [Option.some.injEq] at hu; subst hu; (try simp only); rw [E _ _ h2]; rw [h2] at e; exact e
   ·next hu =>
    cases h2:ev s b with
    | none=>simp [h2] at e
    | some w=>simp only [Option.some.injEq] at hu; subst hu; (try simp only); rw [E _ _ h2]; rw [h2] at e; exact e
   ·cases e
 | store k x y | bin op x y | beq ng x y | cmp ng ks x y | idxS k x y | idxA k n x y | idxStr x y | idxAgg k sz n x y | lookup z ag ks x y ok | append k b x y r fz | copy k x y | mkslice k b z x y r =>
  simp only [prim] at e ⊢
  cases h1:ev s x with
  | none=>simp [h1] at e
  | some u =>
   cases h2:ev s y with
   | none=>simp [h1,h2] at e
   | some w=>rw [E _ _ h1,E _ _ h2]; rw [h1,h2] at e; exact e
 | mupd ag ks x y z =>
  simp only [prim] at e ⊢
  cases h1:ev s x with
  | none=>simp [h1] at e
  | some u =>
   cases h2:ev s y with
   | none=>simp [h1,h2] at e
   | some w =>
    cases h3:ev s z with
    | none=>simp [h1,h2,h3] at e
    | some w'=>rw [E _ _ h1,E _ _ h2,E _ _ h3]; rw [h1,h2,h3] at e; exact e
 | sliceS x lo hi =>
  simp only [prim] at e ⊢
  cases h1:ev s x with
  | none=>simp [h1] at e
  | some u =>
   rw [E _ _ h1]; rw [h1] at e
   split at e
   ·next b hu =>
    simp only [Option.some.injEq] at hu; subst hu
    try simp only
    cases h2:bnd s 0 lo with
    | none=>simp [h2] at e
    | some w =>
     cases h3:bnd s b.size hi with
     | none=>simp [h2,h3] at e
     | some w'=>rw [A67 h h2,A67 h h3]; rw [h2,h3] at e; exact e
   ·cases e
 | storeN x k r =>
  simp only [prim] at e ⊢
  cases h1:ev s x with
  | none=>simp [h1] at e
  | some u=>rw [E _ _ h1]; rw [h1] at e; exact e
 | mvz x =>
  simp only [prim] at e ⊢
  cases h1:ev s x with
  | none=>simp [h1] at e
  | some u=>rw [E _ _ h1]; rw [h1] at e; exact e
 | sliceL k x lo hi =>
  simp only [prim] at e ⊢
  cases h1:ev s x with
  | none=>simp [h1] at e
  | some u =>
   rw [E _ _ h1]; rw [h1] at e
   simp only at e ⊢
   split at e
   ·next k' rows H' hu =>
    try simp only [hu]
    cases h2:bnd s 0 lo with
    | none=>simp [h2] at e
    | some w =>
     cases h3:bnd s rows.length hi with
     | none=>simp [h2,h3] at e
     | some w'=>rw [A67 h h2,A67 h h3]; rw [h2,h3] at e; exact e
   ·cases e
 | sliceQ k x lo hi =>
  simp only [prim] at e ⊢
  cases h1:ev s x with
  | none=>simp [h1] at e
  | some u =>
   rw [E _ _ h1]; rw [h1] at e
   split at e
   ·next k' rows hu =>
    simp only [Option.some.injEq] at hu; subst hu
    try simp only
    cases h2:bnd s 0 lo with
    | none=>simp [h2] at e
    | some w =>
     cases h3:bnd s rows.length hi with
     | none=>simp [h2,h3] at e
     | some w'=>rw [A67 h h2,A67 h h3]; rw [h2,h3] at e; exact e
   ·cases e
 | sliceA k n x hi =>
  simp only [prim] at e ⊢
  cases h1:ev s x with
  | none=>simp [h1] at e
  | some u =>
   rw [E _ _ h1]; rw [h1] at e
   split at e
   ·next b o hu =>
    simp only [Option.some.injEq] at hu; subst hu
    try simp only
    cases h2:hcells H b with
    | none=>simp [h2] at e
    | some w =>
     cases h3:bnd s n hi with
     | none=>rw [h2,h3] at e; simp at e
     | some w'=>rw [A67 h h3]; rw [h2,h3] at e; exact e
   ·cases e
 | cut k x hi r =>
  simp only [prim] at e ⊢
  cases h1:ev s x with
  | none=>simp [h1] at e
  | some u =>
   rw [E _ _ h1]; rw [h1] at e
   split at e
   ·next b n hu =>
    simp only [Option.some.injEq] at hu; subst hu
    try simp only
    cases h2:A4j H b with
    | none=>simp [h2] at e
    | some w =>
     cases h3:bnd s n hi with
     | none=>rw [h2,h3] at e; split at e <;> simp_all
     | some w'=>rw [A67 h h3]; rw [h2,h3] at e; exact e
   ·cases e
theorem B9b {g:Option (Nat × Bool)} {b:Bool} (e:wanted s g = some b):wanted S g = some b:= by
 cases g with
 | none=>exact e
 | some g =>
  simp only [wanted] at e ⊢
  cases h1:sget s g.1 with
  | none=>simp [h1] at e
  | some u=>rw [h _ _ h1]; rw [h1] at e; exact e
theorem C5f {H:A7}:∀{l:List (Nat × List Nat)} {bs:List Nat},ways s H l = some bs→ways S H l = some bs
 | [],_,e=>e
 | x :: l,bs,e=>by
  simp only [ways] at e ⊢
  cases h1:sget s x.1 with
  | none=>simp [h1] at e
  | some u =>
   rw [h _ _ h1]; rw [h1] at e
   simp only [Option.bind_some] at e ⊢
   split at e
   ·next b hb =>
    cases h2:follow H b x.2 with
    | none=>simp [h2] at e
    | some b' =>
     cases h3:ways s H l with
     | none=>simp [h2,h3] at e
     | some r=>rw [C5f h3]; rw [h2,h3] at e; exact e
   ·cases e
theorem D2x {n0:Nat} {H:A7} {o:AOper} {hs:List Nat} (e:A5t n0 s H o = some hs):A5t n0 S H o = some hs:= by
 unfold A5t at e ⊢
 split at e
 ·next bs hb=>rw [C5f h hb]; exact e
 ·cases e
theorem D3i {M:Mach} {c:Sc} {n0:Nat} {H:A7} {op:AOp} {r:AV × A7} (e:core M c n0 s H op = some r):rbox S op = rbox s op:= by
 have key:∀a,(∃ v,ev s a = some v)→(ev S a).bind AV.box? = (ev s a).bind AV.box?:= by
  rintro a ⟨v,hv⟩; rw [A60 h hv,hv]
 have nn:∀a,((ev s a = none)→False)→∃ v,ev s a = some v:= by
  intro a ha
  cases hh:ev s a with
  | none=>exact (ha hh).elim
  | some v=>exact ⟨v,rfl⟩
 cases op <;> simp only [rbox,T9,Option.bind_none,Option.bind_some]
 case load k a=>exact key a (nn a fun hh=>by cases k <;> simp [core,prim,hh] at e)
 case lookup z ag ks x i ok=>exact key x (nn x fun hh=>by simp [core,prim,hh] at e)
 case lenL x=>exact key x (nn x fun hh=>by simp [core,prim,hh] at e)
 case lenM x=>exact key x (nn x fun hh=>by simp [core,prim,hh] at e)
 case idxS k x i=>exact key x (nn x fun hh=>by simp [core,prim,hh] at e)
 case sliceA k n x hi=>exact key x (nn x fun hh=>by simp [core,prim,hh] at e)
theorem C9e {M:Mach} {c:Sc} {n0:Nat} {H:A7} {op:AOp} {r:AV × A7} (e:core M c n0 s H op = some r):core M c n0 S H op = some r:= by
 cases op with
 | call f args own pure =>
  simp only [core,A0o] at e ⊢
  cases h1:ev s f with
  | none=>simp [h1] at e
  | some u =>
   cases h2:evs s args with
   | none=>simp [h1,h2] at e
   | some w=>rw [A60 h h1,B2p h h2]; rw [h1,h2] at e; exact e
 | _=>simp only [core] at e ⊢; exact C45 h e
theorem D3b {M:Mach} {c:Sc} {n0:Nat} {H:A7} {hc:List (Option (List Nat))} {o:AOper} {s':C9} {H':A7} {hc':List (Option (List Nat))} (e:oper M c n0 s H hc o = some (s',H',hc')) :
  ∃ S',oper M c n0 S H hc o = some (S',H',hc')∧Sub s' S':= by
 unfold oper at e ⊢
 split at e
 ·cases e
 ·next hw =>
  rw [B9b h hw]
  simp only [Option.some.injEq,Prod.mk.injEq] at e
  obtain ⟨rfl,rfl,rfl⟩:=e
  exact ⟨_,rfl,h.put _ _⟩
 ·next hw =>
  rw [B9b h hw]
  simp only
  split at e
  ·next hs e1 e2 =>
   rw [D2x h e1]
   split at e
   ·next q e3 =>
    have e4:P9 S o hc = true:= by
     rw [← e2]; unfold P9; rw [D3i h e3]
    rw [e4]
    simp only [C9e h e3]
    split at e
    ·next e5 =>
     simp only [e5,if_true]
     simp only [Option.some.injEq,Prod.mk.injEq] at e
     obtain ⟨rfl,rfl,rfl⟩:=e
     exact ⟨_,rfl,h.put _ _⟩
    ·cases e
   ·cases e
  ·cases e
end
theorem B5d {M:Mach} {c:Sc} {n0:Nat}:∀{l:List AOper} {s S:C9} (_:Sub s S) {H:A7} {hc:List (Option (List Nat))} {s':C9} {H':A7},opers M c n0 l s H hc = some (s',H') →
  ∃ S',opers M c n0 l S H hc = some (S',H')∧Sub s' S'
 | [],s,S,h,H,hc,s',H',e=>by
  simp only [opers,Option.some.injEq,Prod.mk.injEq] at e
  obtain ⟨rfl,rfl⟩:=e
  exact ⟨S,rfl,h⟩
 | o :: l,s,S,h,H,hc,s',H',e=>by
  simp only [opers] at e ⊢
  split at e
  ·cases e
  ·next s1 H1 hc1 e1 =>
   obtain ⟨S1,e2,h1⟩:=D3b h e1
   simp only [e2]
   exact B5d h1 e
theorem B6w {s S:C9} (h:Sub s S):∀{l:List Nat} {H H':A7},publish s H l = some H'→publish S H l = some H'
 | [],_,_,e=>e
 | t :: l,H,H',e=>by
  simp only [publish] at e ⊢
  cases h1:sget s t with
  | none=>simp [h1] at e
  | some u =>
   rw [h _ _ h1]; rw [h1] at e
   simp only at e ⊢
   cases h2:A2h H u with
   | none=>simp [h2] at e
   | some r=>rw [h2] at e; exact B6w h e
theorem A2r {s S:C9} (h:Sub s S) {H:A7}:∀{l:List ARes} {rs:List AV},results s H l = some rs→results S H l = some rs
 | [],_,e=>e
 | .tmp t :: l,rs,e=>by
  simp only [results,Option.bind_eq_some_iff,Option.map_eq_some_iff] at e ⊢
  obtain ⟨v,e1,w,e2,e3⟩:=e
  exact ⟨v,h _ _ e1,w,A2r h e2,e3⟩
 | .cell t k :: l,rs,e=>by
  simp only [results,Option.bind_eq_some_iff,Option.map_eq_some_iff] at e ⊢
  obtain ⟨v,e1,w,e2,e3⟩:=e
  exact ⟨v,C45 h e1,w,A2r h e2,e3⟩
section
variable (p g:Nat)
def rb (b:Nat):Nat:=bif Nat.blt b p then b else b + g
def B62:Fn→Fn
 | .yield l=>.yield (rb p g l)
 | f=>f
mutual
def ren:AV→AV
 | .xseq k rows=>.xseq k (renR rows)
 | .ptr b o=>.ptr (rb p g b) o
 | .itr b=>.itr (rb p g b)
 | .eptr b n i o=>.eptr (rb p g b) n i o
 | .cptr cs=>.cptr (renL cs)
 | .asl b n=>.asl (rb p g b) n
 | .csl b o k n=>.csl (rb p g b) o k n
 | .mp b=>.mp (rb p g b)
 | .fn f a c=>.fn (B62 p g f) (renL a) (renL c)
 | .agg cs=>.agg (renL cs)
 | .tup cs=>.tup (renL cs)
 | .lit v=>.lit v
 | .nils k=>.nils k
 | .seq k rows=>.seq k (renR rows)
 | .fresh k rows=>.fresh k (renR rows)
 | .undef=>.undef
def renL:List AV→List AV
 | []=>[]
 | v :: l=>ren v :: renL l
def renR:List (List AV)→List (List AV)
 | []=>[]
 | r :: l=>renL r :: renR l
end
theorem T7:∀l:List AV,renL p g l = l.map (ren p g)
 | []=>by simp only [renL,List.map_nil]
 | v :: l=>by simp only [renL,List.map_cons,T7 l]
theorem A6d:∀l:List (List AV),renR p g l = l.map (fun r=>r.map (ren p g))
 | []=>by simp only [renR,List.map_nil]
 | v :: l=>by simp only [renR,List.map_cons,A6d l,T7]
def U3 (s:C9):C9:=s.map fun x=>(x.1,ren p g x.2)
def F6:Opd→Opd
 | .c v=>.c (ren p g v)
 | x=>x
def A6c:Option Opd→Option Opd
 | some x=>some (F6 p g x)
 | none=>none
def L6:AOp→AOp
 | .mv x=>.mv (F6 p g x)
 | .mvz x=>.mvz (F6 p g x)
 | .storeN x k r=>.storeN (F6 p g x) k r
 | .pick c a b=>.pick (F6 p g c) (F6 p g a) (F6 p g b)
 | .nil k r=>.nil k r
 | .alloc zs owns r=>.alloc (renL p g zs) owns r
 | .box n x r=>.box n (F6 p g x) r
 | .build z parts=>.build (renL p g z) (parts.map fun q=>(q.1,q.2.1,F6 p g q.2.2))
 | .lits k z n parts own=>.lits k (renL p g z) n (parts.map fun q=>(q.1,F6 p g q.2)) own
 | .xlits k z n parts=>.xlits k (renL p g z) n (parts.map fun q=>(q.1,F6 p g q.2))
 | .load k a=>.load k (F6 p g a)
 | .store k a v=>.store k (F6 p g a) (F6 p g v)
 | .nilck x=>.nilck (F6 p g x)
 | .bin op x y=>.bin op (F6 p g x) (F6 p g y)
 | .beq n x y=>.beq n (F6 p g x) (F6 p g y)
 | .cmp n ks x y=>.cmp n ks (F6 p g x) (F6 p g y)
 | .un op x=>.un op (F6 p g x)
 | .conv k x=>.conv k (F6 p g x)
 | .idc x=>.idc (F6 p g x)
 | .mkfn f a c=>.mkfn (B62 p g f) (a.map (F6 p g)) (c.map (F6 p g))
 | .mkmap r=>.mkmap r
 | .mkslice k b z l c r=>.mkslice k b (renL p g z) (F6 p g l) (F6 p g c) r
 | .sliceS x lo hi=>.sliceS (F6 p g x) (A6c p g lo) (A6c p g hi)
 | .sliceL k x lo hi=>.sliceL k (F6 p g x) (A6c p g lo) (A6c p g hi)
 | .sliceQ k x lo hi=>.sliceQ k (F6 p g x) (A6c p g lo) (A6c p g hi)
 | .sliceA k n x h=>.sliceA k n (F6 p g x) (A6c p g h)
 | .nilq q x=>.nilq q (F6 p g x)
 | .fieldAddr o x=>.fieldAddr o (F6 p g x)
 | .field k o x=>.field k o (F6 p g x)
 | .idxS k x i=>.idxS k (F6 p g x) (F6 p g i)
 | .idxA k n x i=>.idxA k n (F6 p g x) (F6 p g i)
 | .idxStr x i=>.idxStr (F6 p g x) (F6 p g i)
 | .idxAgg k sz n x i=>.idxAgg k sz n (F6 p g x) (F6 p g i)
 | .lookup z ag ks x i ok=>.lookup (ren p g z) ag ks (F6 p g x) (F6 p g i) ok
 | .mupd ag ks m k v=>.mupd ag ks (F6 p g m) (F6 p g k) (F6 p g v)
 | .range x r=>.range (F6 p g x) r
 | .next x=>.next (F6 p g x)
 | .extract x i=>.extract (F6 p g x) i
 | .lenS x=>.lenS (F6 p g x)
 | .lenL x=>.lenL (F6 p g x)
 | .lenM x=>.lenM (F6 p g x)
 | .mm mx xs=>.mm mx (xs.map (F6 p g))
 | .append k b s x r fz=>.append k b (F6 p g s) (F6 p g x) r fz
 | .copy k d s=>.copy k (F6 p g d) (F6 p g s)
 | .cut k x hi r=>.cut k (F6 p g x) (A6c p g hi) r
 | .call f args own pure=>.call (F6 p g f) (args.map (F6 p g)) own pure
def A2q (o:AOper):AOper:={ o with op:=L6 p g o.op }
def M1:ACode→ACode
 | .region d n pre ops live=>.region d n pre (ops.map (A2q p g)) live
 | .seq a b=>.seq (M1 a) (M1 b)
 | .cond c a b=>.cond (F6 p g c) (M1 a) (M1 b)
 | .block id a=>.block id (M1 a)
 | .loop tr l a=>.loop tr l (M1 a)
 | .rangeFunc f ps live a b=>.rangeFunc (F6 p g f) ps live (M1 a) (M1 b)
 | .scope a=>.scope (M1 a)
 | .skip=>.skip
 | .exit id=>.exit id
 | .ret=>.ret
def P7:AO→AO
 | .cells cs=>.cells (renL p g cs)
 | .arr k q rows=>.arr k q (renR p g rows)
 | .map es=>.map (es.map fun e=>(ren p g e.1,ren p g e.2))
 | .loop f s ps a b busy pend=>.loop f (U3 p g s) ps (M1 p g a) (M1 p g b) busy pend
 | .ro o=>.ro (P7 o)
 | .dead=>.dead
 | .iter s q=>.iter s q
def G8 (G H:A7):A7:=(H.take p).map (P7 p g)++(G++(H.drop p).map (P7 p g))
end
section
variable {p g:Nat} {G:A7} (hG:G.length = g)
theorem B0y {b:Nat} (h:b < p):rb p g b = b:= by
 unfold rb; rw [show Nat.blt b p = true from Nat.ble_eq_true_of_le h]; rfl
theorem A7b {b:Nat} (h:p≤b):rb p g b = b + g:= by
 unfold rb
 cases hb:Nat.blt b p with
 | false=>rfl
 | true=>have:b < p:=Nat.le_of_ble_eq_true hb; omega
theorem E0c {a b:Nat} (h:rb p g a = rb p g b):a = b:= by
 by_cases ha:a < p <;> by_cases hb:b < p
 ·rwa [B0y ha,B0y hb] at h
 ·rw [B0y ha,A7b (by omega)] at h; omega
 ·rw [A7b (by omega),B0y hb] at h; omega
 ·rw [A7b (by omega),A7b (by omega)] at h; omega
theorem E0b (a b:Nat):(rb p g a == rb p g b) = (a == b):= by
 by_cases h:a = b
 ·subst h; simp only [BEq.rfl]
 ·have:rb p g a ≠ rb p g b:=fun e=>h (E0c e)
  rw [beq_eq_false_iff_ne.2 h,beq_eq_false_iff_ne.2 this]
include hG
theorem A61 {H:A7} (hp:p≤H.length):(G8 p g G H).length = H.length + g:= by
 simp [G8,hG]; omega
theorem A2w {H:A7} (hp:p≤H.length) (b:Nat):hget (G8 p g G H) (rb p g b) = (hget H b).map (P7 p g):= by
 unfold hget G8
 have hl:((H.take p).map (P7 p g)).length = p:= by simp; omega
 by_cases h:b < p
 ·rw [B0y h,List.getElem?_append_left (by rw [hl]; exact h),List.getElem?_map,List.getElem?_take_of_lt h]
 ·rw [A7b (by omega),List.getElem?_append_right (by rw [hl]; omega),hl,List.getElem?_append_right (by omega),List.getElem?_map,List.getElem?_drop]
  congr 2; omega
theorem S6 {H:A7} (hp:p≤H.length) (b:Nat) (o:AO):hset (G8 p g G H) (rb p g b) (P7 p g o) = G8 p g G (hset H b o):= by
 unfold hset G8
 have hl:((H.take p).map (P7 p g)).length = p:= by simp; omega
 by_cases h:b < p
 ·rw [B0y h,List.set_append_left _ _ (by rw [hl]; exact h),← List.map_set,← List.take_set,List.drop_set_of_lt h]
 ·rw [A7b (by omega),List.set_append_right _ _ (by rw [hl]; omega),hl,List.set_append_right _ _ (by omega),← List.map_set,List.take_set_of_le (by omega),List.drop_set]
  rw [if_neg (by omega)]
  congr 4; omega
omit hG
theorem B02 (s:C9) (t:Nat):sget (U3 p g s) t = (sget s t).map (ren p g):= by
 induction s with
 | nil=>rfl
 | cons x s ih =>
  simp only [U3,List.map_cons,O7,M3]
  cases Nat.beq x.1 t with
  | true=>rfl
  | false=>exact ih
theorem K7 (s:C9) (x:Opd):ev (U3 p g s) (F6 p g x) = (ev s x).map (ren p g):= by
 cases x with
 | t i=>exact B02 s i
 | c v=>rfl
 | f i=>simp [ev,F6,ren,B62,renL]
theorem B9u (s:C9):∀l:List Opd,evs (U3 p g s) (l.map (F6 p g)) = (evs s l).map (renL p g)
 | []=>by simp [evs,renL]
 | x :: l=>by
  simp only [List.map_cons,evs,K7,B9u s l]
  cases ev s x with
  | none=>rfl
  | some v=>cases evs s l with
   | none=>rfl
   | some vs=>simp [renL]
theorem B8k (s:C9):∀l:List (Nat × Nat × Opd),Y4 (U3 p g s) (l.map fun q=>(q.1,q.2.1,F6 p g q.2.2)) = (Y4 s l).map fun ps=>ps.map fun q=>(q.1,q.2.1,ren p g q.2.2)
 | []=>rfl
 | (a,b,x) :: l=>by
  simp only [List.map_cons,Y4,K7,B8k s l]
  cases ev s x with
  | none=>rfl
  | some v=>cases Y4 s l with
   | none=>rfl
   | some vs=>rfl
theorem B1c (s:C9):∀l:List (Nat × Opd),N0 (U3 p g s) (l.map fun q=>(q.1,F6 p g q.2)) = (N0 s l).map fun ps=>ps.map fun q=>(q.1,ren p g q.2)
 | []=>rfl
 | (a,x) :: l=>by
  simp only [List.map_cons,N0,K7,B1c s l]
  cases ev s x with
  | none=>rfl
  | some v=>cases N0 s l with
   | none=>rfl
   | some vs=>rfl
theorem D2r (s:C9) (x:Opd):B5z (U3 p g s) (F6 p g x) = B5z s x:= by
 unfold B5z; rw [K7]
 cases ev s x with
 | none=>rfl
 | some v=>cases v <;> simp [ren]
theorem B5s (s:C9) (d:Int) (x:Option Opd):bnd (U3 p g s) d (A6c p g x) = bnd s d x:= by
 cases x with
 | none=>rfl
 | some x=>exact D2r s x
theorem A19 (l:List AV):(renL p g l).length = l.length:= by rw [T7,List.length_map]
theorem V9 (l:List (List AV)):(renR p g l).length = l.length:= by rw [A6d,List.length_map]
theorem A5l (v:AV):(ren p g v).cellsOf = renL p g v.cellsOf:= by
 cases v <;> simp [ren,AV.cellsOf,renL]
theorem D7m (v:AV):(ren p g v).frz = v.frz:= by cases v <;> simp [ren,AV.frz]
theorem D3g (v:AV):(ren p g v).plain = v.plain:= by cases v <;> simp [ren,AV.plain]
theorem B2h (l:List AV):(renL p g l).all AV.frz = l.all AV.frz:= by
 rw [T7,List.all_map]; congr 1; funext v; exact D7m v
theorem C0y (l:List (List AV)):B9d (renR p g l) = B9d l:= by
 unfold B9d; rw [A6d,List.all_map]; congr 1; funext r
 simp only [Function.comp_def]; rw [← T7]; exact B2h r
theorem A86 (cs new:List AV) (o:Nat):splice (renL p g cs) o (renL p g new) = renL p g (splice cs o new):= by
 simp only [splice,T7,List.map_append,List.map_take,List.map_drop,List.length_map]
include hG
theorem B1f {H:A7} (hp:p≤H.length) (b:Nat):hcells (G8 p g G H) (rb p g b) = (hcells H b).map (renL p g):= by
 unfold hcells; rw [A2w hG hp]
 cases hget H b with
 | none=>rfl
 | some o=>cases o with
  | ro o=>cases o <;> simp [P7]
  | _=>simp [P7]
theorem A9i {H:A7} (hp:p≤H.length) (b:Nat):A1t (G8 p g G H) (rb p g b) = (A1t H b).map (renL p g):= by
 unfold A1t; rw [A2w hG hp]
 cases hget H b with
 | none=>rfl
 | some o=>cases o <;> simp [P7]
theorem A8j {H:A7} (hp:p≤H.length) (b:Nat):harr (G8 p g G H) (rb p g b) = (harr H b).map fun x=>(x.1,x.2.1,renR p g x.2.2):= by
 unfold harr; rw [A2w hG hp]
 cases hget H b with
 | none=>rfl
 | some o=>cases o with
  | ro o=>cases o <;> simp [P7]
  | _=>simp [P7]
theorem A74 {H:A7} (hp:p≤H.length) (b:Nat):A4j (G8 p g G H) (rb p g b) = (A4j H b).map fun x=>(x.1,x.2.1,renR p g x.2.2):= by
 unfold A4j; rw [A2w hG hp]
 cases hget H b with
 | none=>rfl
 | some o=>cases o <;> simp [P7]
theorem C7n {H:A7} (hp:p≤H.length) (b:Nat):hmap (G8 p g G H) (rb p g b) = (hmap H b).map fun es=>es.map fun e=>(ren p g e.1,ren p g e.2):= by
 unfold hmap; rw [A2w hG hp]
 cases hget H b with
 | none=>rfl
 | some o=>cases o with
  | ro o=>cases o <;> simp [P7]
  | _=>simp [P7]
theorem D2u {H:A7} (hp:p≤H.length) (b:Nat):B2w (G8 p g G H) (rb p g b) = (B2w H b).map fun es=>es.map fun e=>(ren p g e.1,ren p g e.2):= by
 unfold B2w; rw [A2w hG hp]
 cases hget H b with
 | none=>rfl
 | some o=>cases o <;> simp [P7]
omit hG
abbrev ren2 (p g:Nat) (G:A7) (r:AV × A7):AV × A7:=(ren p g r.1,G8 p g G r.2)
theorem L8 (H:A7) (b:Nat) (o:AO):(hset H b o).length = H.length:= by simp [hset]
theorem B54 {H:A7} {v:AV} {r:AV × A7} (h:frv H v = some r):r.2.length = H.length:= by
 cases v with
 | asl b n =>
  simp only [frv] at h
  cases e:harr H b with
  | none=>simp [e] at h
  | some x =>
   obtain ⟨k,q,rows⟩:=x
   rw [e] at h
   cases q with
   | true=>simp only at h; split at h <;> simp at h; subst h; rfl
   | false =>
    simp only at h
    split at h
    ·split at h <;> simp at h; subst h; exact L8 ..
    ·cases h
 | _=>simp only [frv,Option.some.injEq] at h; subst h; rfl
theorem B0h:∀{l:List AV} {H:A7} {r:List AV × A7},A1d H l = some r→r.2.length = H.length
 | [],H,r,h=>by simp only [A1d,Option.some.injEq] at h; subst h; rfl
 | v :: l,H,r,h=>by
  simp only [A1d] at h
  split at h
  ·cases h
  ·next v' H' e1 =>
   split at h
   ·cases h
   ·next l' H'' e2 =>
    simp only [Option.some.injEq] at h; subst h
    have:=B54 e1; have:=B0h e2; simp_all
theorem B2u {H:A7} {v:AV} {r:AV × A7} (h:A0m H v = some r):r.2.length = H.length:= by
 cases v with
 | agg cs =>
  simp only [A0m,Option.map_eq_some_iff] at h
  obtain ⟨x,h1,rfl⟩:=h; exact B0h h1
 | nils k=>simp only [A0m,Option.some.injEq] at h; subst h; rfl
 | _=>simp only [A0m] at h; exact B54 h
theorem C4e:∀{l:List AV} {H:A7} {r:List AV × A7},W4 H l = some r→r.2.length = H.length
 | [],H,r,h=>by simp only [W4,Option.some.injEq] at h; subst h; rfl
 | v :: l,H,r,h=>by
  simp only [W4] at h
  split at h
  ·cases h
  ·next v' H' e1 =>
   split at h
   ·cases h
   ·next l' H'' e2 =>
    simp only [Option.some.injEq] at h; subst h
    have:=B2u e1; have:=C4e e2; simp_all
include hG
theorem C5x {H:A7} (hp:p≤H.length) (v:AV):frv (G8 p g G H) (ren p g v) = (frv H v).map (ren2 p g G):= by
 cases v with
 | asl b n =>
  simp only [ren,frv,A8j hG hp,A74 hG hp]
  cases harr H b with
  | none=>rfl
  | some x =>
   obtain ⟨k,q,rows⟩:=x
   cases q with
   | true =>
    simp only [Option.map_some,V9]
    split <;> first | rfl | simp [ren2,ren]
   | false =>
    simp only [Option.map_some,V9]
    cases A4j H b with
    | none=>rfl
    | some y =>
     simp only [Option.map_some]
     split
     ·simp only [Option.map_some,ren2,ren,← S6 hG hp,P7]
     ·rfl
 | _=>simp [ren,frv,ren2]
theorem B53:∀(l:List AV) {H:A7} (hp:p≤H.length),A1d (G8 p g G H) (renL p g l) = (A1d H l).map fun r=>(renL p g r.1,G8 p g G r.2)
 | [],H,hp=>by simp [A1d,renL]
 | v :: l,H,hp=>by
  simp only [renL,A1d,C5x hG hp]
  cases e:frv H v with
  | none=>rfl
  | some r =>
   simp only [Option.map_some,ren2]
   have hp':p≤r.2.length:= by rw [B54 e]; exact hp
   rw [B53 l hp']
   cases A1d r.2 l with
   | none=>rfl
   | some q=>simp [renL]
theorem B52 {H:A7} (hp:p≤H.length) (v:AV):A0m (G8 p g G H) (ren p g v) = (A0m H v).map (ren2 p g G):= by
 cases v with
 | agg cs =>
  simp only [ren,A0m,B53 hG cs hp]
  cases A1d H cs <;> simp [ren2,ren]
 | nils k=>simp [ren,A0m,ren2,renR]
 | asl b n=>have:=C5x hG hp (.asl b n); simpa [ren,A0m] using this
 | _=>simp [ren,A0m,frv,ren2]
theorem B7v:∀(l:List AV) {H:A7} (hp:p≤H.length),W4 (G8 p g G H) (renL p g l) = (W4 H l).map fun r=>(renL p g r.1,G8 p g G r.2)
 | [],H,hp=>by simp [W4,renL]
 | v :: l,H,hp=>by
  simp only [renL,W4,B52 hG hp]
  cases e:A0m H v with
  | none=>rfl
  | some r =>
   simp only [Option.map_some,ren2]
   have hp':p≤r.2.length:= by rw [B2u e]; exact hp
   rw [B7v l hp']
   cases W4 r.2 l with
   | none=>rfl
   | some q=>simp [renL]
omit hG
theorem D4r (op:BinOp) (a b:AV):A9w op (ren p g a) (ren p g b) = (A9w op a b).map (ren p g):= by
 have key:∀u w,(A9w op (.lit u) (.lit w)).map (ren p g) = A9w op (.lit u) (.lit w):= by
  intro u w
  have:∀v,A9w op (.lit u) (.lit w) = some v→∃ x,v = .lit x:= by
   intro v h
   unfold A9w at h
   split at h
   ·split at h
    ·split at h <;> simp at h; exact ⟨_,h.symm⟩
    ·split at h <;> simp at h; exact ⟨_,h.symm⟩
    ·split at h
     ·simp only [Option.map_eq_some_iff] at h; obtain ⟨y,_,rfl⟩:=h; exact ⟨y,rfl⟩
     ·cases h
   ·simp only [Option.map_eq_some_iff] at h; obtain ⟨y,_,rfl⟩:=h; exact ⟨y,rfl⟩
   ·cases h
  cases e:A9w op (.lit u) (.lit w) with
  | none=>rfl
  | some v=>obtain ⟨x,rfl⟩:=this v e; simp [ren]
 cases a with
 | lit u=>cases b with
  | lit w=>simp only [ren]; exact (key u w).symm
  | _=>cases u <;> simp [ren,A9w]
 | _=>simp [ren,A9w]
theorem D8r (op:UnOp) (a:AV):unV op (ren p g a) = (unV op a).map (ren p g):= by
 cases a with
 | lit u=>cases op <;> cases u <;> simp [ren,unV]
 | _=>cases op <;> simp [ren,unV]
theorem D2q (a b:AV):A5z (ren p g a) (ren p g b) = A5z a b:= by
 cases a with
 | lit u=>cases b with
  | lit w=>simp only [ren]
  | _=>cases u <;> simp [ren,A5z]
 | _=>simp [ren,A5z]
theorem B42:∀(a b:List AV),J0 (renL p g a) (renL p g b) = J0 a b
 | [],[]=>rfl
 | [],_ :: _=>by simp [renL,J0]
 | _ :: _,[]=>by simp [renL,J0]
 | x :: a,y :: b=>by simp only [renL,J0,D2q,B42 a b]
theorem A76:∀(ks:List Nat) (a:List AV),kinds ks (renL p g a) = kinds ks a
 | [],[]=>rfl
 | [],x :: a=>by simp [renL,kinds]
 | k :: ks,[]=>by simp [renL,kinds]
 | k :: ks,x :: a=>by
  have ih:=A76 ks a
  cases x with
  | lit u =>
   simp only [renL,ren]
   cases u <;> (match k with
    | 0 | 1 | 2 | (n + 3)=>simp only [kinds,ih])
  | _=>simp [renL,ren,kinds]
theorem A2i (ag:Bool) (v:AV):J4 ag (ren p g v) = (J4 ag v).map (renL p g):= by
 cases ag <;> cases v <;> simp [ren,J4,renL]
theorem B2q (ag:Bool) (ks:List Nat) (k:List AV):∀(es:List (AV × AV)) (i:Nat),findKey ag ks (renL p g k) (es.map fun e=>(ren p g e.1,ren p g e.2)) i = (findKey ag ks k es i).map (Option.map fun x=>(x.1,ren p g x.2))
 | [],i=>rfl
 | e :: es,i=>by
  simp only [List.map_cons,findKey,A2i]
  cases J4 ag e.1 with
  | none=>rfl
  | some l =>
   simp only [Option.map_some,A76,B42,B2q ag ks k es (i + 1)]
   split
   ·cases J0 k l with
    | none=>rfl
    | some t=>cases t <;> rfl
   ·rfl
theorem C39:∀(ps:List (Nat × Nat × AV)) (cs:List AV),B16 (renL p g cs) (ps.map fun q=>(q.1,q.2.1,ren p g q.2.2)) = (B16 cs ps).map (renL p g)
 | [],cs=>rfl
 | (o,n,v) :: ps,cs=>by
  simp only [List.map_cons,B16,A5l,A19]
  split
  ·rw [A86]; exact C39 ps _
  ·rfl
theorem C8f (l:List (List AV)) (i:Nat) (r:List AV):renR p g (l.set i r) = (renR p g l).set i (renL p g r):= by
 simp only [A6d,T7,List.map_set]
theorem B7r (k:Nat):∀(ps:List (Nat × AV)) (rows:List (List AV)),A6m k (renR p g rows) (ps.map fun q=>(q.1,ren p g q.2)) = (A6m k rows ps).map (renR p g)
 | [],rows=>rfl
 | (i,v) :: ps,rows=>by
  simp only [List.map_cons,A6m,A5l,A19,V9]
  split
  ·rw [← C8f]; exact B7r k ps _
  ·rfl
theorem D1u (mx:Bool):∀(l:List AV) (a:AV),mmV mx (ren p g a) (renL p g l) = (mmV mx a l).map (ren p g)
 | [],a=>by simp [renL,mmV]
 | y :: l,a=>by
  cases a with
  | lit u =>
   cases u with
   | int k x =>
    cases y with
    | lit w =>
     cases w with
     | int k' z =>
      simp only [renL,ren,mmV]
      split
      ·have:=D1u mx l (.lit (.int k (if mx = true then if z > x then z else x else if z < x then z else x)))
       simpa only [ren] using this
      ·rfl
     | _=>simp [renL,ren,mmV]
    | _=>simp [renL,ren,mmV]
   | _=>simp [renL,ren,mmV]
  | _=>simp [renL,ren,mmV]
include hG
theorem C2j {H:A7} (hp:p≤H.length) (v:AV):A4g (G8 p g G H) (ren p g v) = (A4g H v).map (renR p g):= by
 cases v with
 | asl b n =>
  simp only [ren,A4g,A8j hG hp]
  cases harr H b with
  | none=>rfl
  | some x=>simp only [Option.map_some,V9]; split <;> rfl
 | csl b o k n =>
  simp only [ren,A4g,B1f hG hp]
  cases hcells H b with
  | none=>rfl
  | some cs =>
   simp only [Option.map_some,A19]
   split
   ·simp only [Option.map_some,A6d,T7,List.map_map,Function.comp_def,List.map_take,List.map_drop]
   ·rfl
 | _=>simp [ren,A4g,renR]
theorem D1n {H:A7} (hp:p≤H.length) (v:AV):kOf (G8 p g G H) (ren p g v) = kOf H v:= by
 cases v with
 | asl b n=>simp only [ren,kOf,A8j hG hp,Option.map_map]; rfl
 | _=>simp [ren,kOf]
theorem B6v {H:A7} (hp:p≤H.length) (v:AV):I9 (G8 p g G H) (ren p g v) = (I9 H v).map (renL p g):= by
 cases v with
 | ptr b o =>
  simp only [ren,I9,B1f hG hp]
  cases hcells H b with
  | none=>rfl
  | some cs=>simp only [Option.map_some,T7,List.map_drop]
 | eptr b n i o =>
  simp only [ren,I9,A8j hG hp]
  cases harr H b with
  | none=>rfl
  | some x =>
   simp only [Option.map_some,V9]
   split
   ·simp only [A6d,List.getElem?_map]
    cases x.2.2[i]? with
    | none=>rfl
    | some r=>simp only [Option.map_some,T7,List.map_drop]
   ·rfl
 | _=>simp [ren,I9]
end
def ScB (p g B B':Nat):Prop:=(B≤p∧B' = B)∨(p≤B∧B' = B + g)∨(B = p∧p≤B'∧B'≤p + g)
inductive ScBs (p g:Nat):List Nat→List Nat→Prop
 | nil:ScBs p g [] []
 | cons {B B':Nat} {l l':List Nat} (h:ScB p g B B') (k:ScBs p g l l'):ScBs p g (B :: l) (B' :: l')
 | extra {B':Nat} {l l':List Nat} (h:∀b,B'≤rb p g b) (k:ScBs p g l l'):ScBs p g l (B' :: l')
 | drop {l l':List Nat} (k:ScBs p g l l'):ScBs p g (0 :: l) l'
structure ScR (p g:Nat) (c c':Sc):Prop where
 cur:ScB p g c.cur c'.cur
 outer:ScBs p g c.outer c'.outer
section
variable {p g:Nat} {G:A7} (hG:G.length = g)
theorem ScB.lt {B B':Nat} (h:ScB p g B B') (b:Nat):Nat.blt (rb p g b) B' = Nat.blt b B:= by
 have:rb p g b < B'↔b < B:= by
  rcases h with ⟨h1,rfl⟩ | ⟨h1,rfl⟩ | ⟨rfl,h1,h2⟩
  ·by_cases hb:b < p
   ·rw [B0y hb]
   ·rw [A7b (by omega)]; omega
  ·by_cases hb:b < p
   ·rw [B0y hb]; omega
   ·rw [A7b (by omega)]; omega
  ·by_cases hb:b < B
   ·rw [B0y hb]; omega
   ·rw [A7b (by omega)]; omega
 cases h1:Nat.blt (rb p g b) B' <;> cases h2:Nat.blt b B <;> first | rfl | skip
 ·have:=this.2 (Nat.le_of_ble_eq_true h2)
  have:=Nat.ble_eq_true_of_le this
  unfold Nat.blt at h1; rw [h1] at this; cases this
 ·have:=this.1 (Nat.le_of_ble_eq_true h1)
  have:=Nat.ble_eq_true_of_le this
  unfold Nat.blt at h2; rw [h2] at this; cases this
theorem ScB.le {B B':Nat} (h:ScB p g B B') (b:Nat):Nat.ble B' (rb p g b) = Nat.ble B b:= by
 have:B'≤rb p g b↔B≤b:= by
  rcases h with ⟨h1,rfl⟩ | ⟨h1,rfl⟩ | ⟨rfl,h1,h2⟩
  ·by_cases hb:b < p
   ·rw [B0y hb]
   ·rw [A7b (by omega)]; omega
  ·by_cases hb:b < p
   ·rw [B0y hb]; omega
   ·rw [A7b (by omega)]; omega
  ·by_cases hb:b < B
   ·rw [B0y hb]; omega
   ·rw [A7b (by omega)]; omega
 cases h1:Nat.ble B' (rb p g b) <;> cases h2:Nat.ble B b <;> first | rfl | skip
 ·have:=Nat.ble_eq_true_of_le (this.2 (Nat.le_of_ble_eq_true h2)); rw [h1] at this; cases this
 ·have:=Nat.ble_eq_true_of_le (this.1 (Nat.le_of_ble_eq_true h1)); rw [h2] at this; cases this
mutual
theorem bd_ren {B B':Nat} (h:ScB p g B B'):(v:AV)→(ren p g v).bd B' = v.bd B
 | .lit _ | .nils _ | .seq _ _ | .fresh _ _ | .undef=>by simp only [ren,AV.bd]
 | .xseq _ rows=>by simp only [ren,AV.bd]; exact bdR_ren h rows
 | .ptr b _ | .itr b | .eptr b _ _ _ | .asl b _ | .csl b _ _ _ | .mp b=>by simp only [ren,AV.bd]; exact h.lt b
 | .cptr cs | .agg cs | .tup cs=>by simp only [ren,AV.bd]; exact bdL_ren h cs
 | .fn f a c=>by
  simp only [ren]
  cases f <;> simp only [B62,AV.bd,bdL_ren h a,bdL_ren h c,h.lt]
theorem bdL_ren {B B':Nat} (h:ScB p g B B'):(l:List AV)→bdL B' (renL p g l) = bdL B l
 | []=>by simp only [renL,bdL]
 | v :: l=>by simp only [renL,bdL,bd_ren h v,bdL_ren h l]
theorem bdR_ren {B B':Nat} (h:ScB p g B B'):(l:List (List AV))→bdR B' (renR p g l) = bdR B l
 | []=>by simp only [renR,bdR]
 | v :: l=>by simp only [renR,bdR,bdL_ren h v,bdR_ren h l]
end
theorem D9y {c c':Sc} (h:ScR p g c c') (b:Nat) (v:AV):c'.ok (rb p g b) (ren p g v) = c.ok b v:= by
 have:(c'.outer.all fun B=>Nat.ble B (rb p g b) || (ren p g v).bd B) = c.outer.all fun B=>Nat.ble B b || v.bd B:= by
  have h1:=h.outer
  generalize c.outer = l at h1
  generalize c'.outer = l' at h1
  induction h1 with
  | nil=>rfl
  | cons h1 _ ih=>simp only [List.all_cons,h1.le,bd_ren h1,ih]
  | extra h1 _ ih=>rw [List.all_cons,Nat.ble_eq_true_of_le (h1 b),ih]; rfl
  | drop _ ih=>rw [List.all_cons,Nat.ble_eq_true_of_le (Nat.zero_le b),ih]; rfl
 simp only [Sc.ok,D3g,h.cur.le,bd_ren h.cur,this]
theorem C6b {c c':Sc} (h:ScR p g c c') (b:Nat):∀l:List AV,c'.okL (rb p g b) (renL p g l) = c.okL b l
 | []=>by simp only [renL,Sc.okL]
 | v :: l=>by simp only [renL,Sc.okL,D9y h,C6b h b l]
theorem rbn {n0:Nat} (hn:p≤n0) (r:Nat):rb p g (n0 + r) = n0 + g + r:= by rw [A7b (by omega)]; omega
include hG
theorem A2x {H:A7} (hp:p≤H.length) {n0:Nat} (hn:p≤n0) (r:Nat) (o:AO):hset (G8 p g G H) (n0 + g + r) (P7 p g o) = G8 p g G (hset H (n0 + r) o):= by
 rw [← rbn hn]; exact S6 hG hp _ _
theorem B83 {n0:Nat} (hn:p≤n0):∀(owns:List (Nat × Nat × Nat)) (zs:List AV) {H:A7} (hp:p≤H.length),R3 (n0 + g) owns (renL p g zs) (G8 p g G H) = (renL p g (R3 n0 owns zs H).1,G8 p g G (R3 n0 owns zs H).2)
 | [],zs,H,hp=>rfl
 | (j,r,k) :: l,zs,H,hp=>by
  simp only [R3]
  have h1:(renL p g zs).set j (.asl (n0 + g + r) 0) = renL p g (zs.set j (.asl (n0 + r) 0)):= by
   rw [T7,T7,List.map_set]; simp only [ren,rbn hn]
  have h2:hset (G8 p g G H) (n0 + g + r) (.arr k false []) = G8 p g G (hset H (n0 + r) (.arr k false [])):= by
   rw [← A2x hG hp hn]; simp only [P7,renR]
  rw [h1,h2]
  exact B83 hn l _ (by rw [L8]; exact hp)
omit hG
theorem B3m {n0:Nat}:∀(owns:List (Nat × Nat × Nat)) (zs:List AV) (H:A7),(R3 n0 owns zs H).2.length = H.length
 | [],zs,H=>rfl
 | (j,r,k) :: l,zs,H=>by simp only [R3]; rw [B3m l]; exact L8 ..
theorem B39 (l:List (List AV)) (n:Nat):renR p g (l.take n) = (renR p g l).take n:= by simp only [A6d,List.map_take]
theorem B8g (l:List (List AV)) (n:Nat):renR p g (l.drop n) = (renR p g l).drop n:= by simp only [A6d,List.map_drop]
theorem C2f (l m:List (List AV)):renR p g (l++m) = renR p g l++renR p g m:= by simp only [A6d,List.map_append]
theorem B8f (l:List AV) (n:Nat):renL p g (l.take n) = (renL p g l).take n:= by simp only [T7,List.map_take]
theorem B38 (l:List AV) (n:Nat):renL p g (l.drop n) = (renL p g l).drop n:= by simp only [T7,List.map_drop]
theorem B63 (l:List AV) (n:Nat):(renL p g l)[n]? = (l[n]?).map (ren p g):= by simp only [T7,List.getElem?_map]
theorem C2g (l:List (List AV)) (n:Nat):(renR p g l)[n]? = (l[n]?).map (renL p g):= by
 simp only [A6d,List.getElem?_map]
 congr 1; funext r; rw [T7]
theorem C2h (z:List AV) (n:Nat):renR p g (List.replicate n z) = List.replicate n (renL p g z):= by simp only [A6d,List.map_replicate,T7]
include hG
theorem C77 {c c':Sc} (hc:ScR p g c c') {n0:Nat} (hn:p≤n0) {H:A7} (hp:p≤H.length) (s:C9) (op:AOp):prim c' (n0 + g) (U3 p g s) (G8 p g G H) (L6 p g op) = (prim c n0 s H op).map (ren2 p g G):= by
 cases op with
 | call=>rfl
 | mv x=>simp only [L6,prim,K7]; cases ev s x <;> rfl
 | pick x a b =>
  simp only [L6,prim,K7]
  cases ev s x with
  | none=>rfl
  | some v =>
   cases v with
   | lit u=>cases u with
    | bool t=>cases t <;> simp only [Option.map_some,ren] <;> first | (cases ev s a <;> rfl) | (cases ev s b <;> rfl)
    | _=>rfl
   | _=>rfl
 | nil k r=>simp only [L6,prim,Option.map_some,ren2,ren,rbn hn,← A2x hG hp hn,P7,renR]
 | alloc zs owns r =>
  simp only [L6,prim,B83 hG hn owns zs hp,Option.map_some,ren2,ren,rbn hn]
  rw [← A2x hG (by rw [B3m]; exact hp) hn]; simp only [P7]
 | box n x r =>
  simp only [L6,prim,K7]
  cases ev s x with
  | none=>rfl
  | some v =>
   simp only [Option.map_some,A5l,A19]
   split
   ·simp only [Option.map_some,ren2,ren,rbn hn,← A2x hG hp hn,P7]
   ·rfl
 | build z parts =>
  simp only [L6,prim,B8k]
  cases Y4 s parts with
  | none=>rfl
  | some ps =>
   simp only [Option.map_some,Option.bind_some,C39]
   cases B16 z ps with
   | none=>rfl
   | some cs=>simp only [Option.map_some,ren2,ren]
 | lits k z n parts own =>
  simp only [L6,prim,B1c]
  cases N0 s parts with
  | none=>rfl
  | some ps =>
   simp only [Option.map_some,Option.bind_some,← C2h,B7r]
   cases A6m k (List.replicate n z) ps with
   | none=>rfl
   | some rows =>
    simp only [Option.map_some,Option.bind_some,C0y]
    split
    ·cases own with
     | none=>simp only [Option.map_some,ren2,ren]
     | some r=>simp only [Option.map_some,ren2,ren,rbn hn,← A2x hG hp hn,P7]
    ·rfl
 | xlits k z n parts =>
  simp only [L6,prim,B1c]
  cases N0 s parts with
  | none=>rfl
  | some ps =>
   simp only [Option.map_some,Option.bind_some,← C2h,B7r]
   cases A6m k (List.replicate n z) ps with
   | none=>rfl
   | some rows=>simp only [Option.map_some,ren2,ren]
 | load k a =>
  cases k with
  | none =>
   simp only [L6,prim,K7]
   cases ev s a with
   | none=>rfl
   | some v =>
    simp only [Option.map_some,B6v hG hp]
    cases I9 H v with
    | none=>rfl
    | some l=>cases l <;> simp only [Option.map_some,renL] <;> rfl
  | some k =>
   simp only [L6,prim,K7]
   cases ev s a with
   | none=>rfl
   | some v =>
    simp only [Option.map_some,B6v hG hp]
    cases I9 H v with
    | none=>rfl
    | some l =>
     simp only [Option.map_some,A19]
     split
     ·simp only [Option.map_some,ren2,ren,B8f]
     ·rfl
 | storeN a k r =>
  simp only [L6,prim,K7]
  cases ev s a with
  | none=>rfl
  | some u =>
   cases u with
   | ptr b o =>
    have hp1:p≤(hset H (n0 + r) (.arr k false [])).length:= by simp only [hset,List.length_set]; exact hp
    have e:hset (G8 p g G H) (n0 + g + r) (.arr k false []) = G8 p g G (hset H (n0 + r) (.arr k false [])):=A2x hG hp hn r (.arr k false [])
    have e3:([.asl (n0 + g + r) 0]:List AV) = renL p g [.asl (n0 + r) 0]:= by simp only [renL,ren,rbn hn]
    simp only [Option.map_some,ren]
    rw [e,A9i hG hp1]
    cases A1t (hset H (n0 + r) (.arr k false [])) b with
    | none=>rfl
    | some cs =>
     rw [e3]
     simp only [Option.map_some,A19,C6b hc,A86]
     split
     ·simp only [Option.map_some,ren2,ren,← S6 hG hp1,P7,A86]
      try rfl
     ·rfl
   | _=>rfl
 | store k a x =>
  simp only [L6,prim,K7]
  cases ev s a with
  | none=>rfl
  | some u =>
   cases ev s x with
   | none=>cases u <;> rfl
   | some v =>
    cases u with
    | ptr b o =>
     simp only [Option.map_some,ren,A9i hG hp]
     cases A1t H b with
     | none=>rfl
     | some cs =>
      simp only [Option.map_some,A5l,A19,C6b hc,A86]
      split
      ·simp only [Option.map_some,ren2,ren,renL,← S6 hG hp,P7]
      ·rfl
    | eptr b n i o =>
     simp only [Option.map_some,ren,A5l,B53 hG v.cellsOf hp]
     cases e:A1d H v.cellsOf with
     | none=>rfl
     | some r =>
      have hp':p≤r.2.length:= by rw [B0h e]; exact hp
      simp only [Option.map_some,A74 hG hp']
      cases A4j r.2 b with
      | none=>rfl
      | some y =>
       obtain ⟨kk,q,rows⟩:=y
       cases q with
       | true=>rfl
       | false =>
        simp only [Option.map_some,C2g]
        cases rows[i]? with
        | none=>rfl
        | some rr =>
         simp only [Option.map_some,V9,A19,B2h]
         split
         ·simp only [Option.map_some,ren2,ren,renL,← S6 hG hp',P7,C8f,A86]
         ·rfl
    | _=>rfl
 | nilck x =>
  simp only [L6,prim,K7]
  cases ev s x with
  | none=>rfl
  | some v=>cases v with
   | fn f a b=>cases f <;> simp only [Option.map_some,ren,B62] <;> first | rfl | simp only [Option.map_some,ren2,ren,B62]
   | _=>simp only [Option.map_some,ren] <;> first | rfl | simp only [Option.map_some,ren2,ren]
 | bin op x y =>
  simp only [L6,prim,K7]
  cases ev s x with
  | none=>rfl
  | some u =>
   cases ev s y with
   | none=>rfl
   | some v=>simp only [Option.map_some,D4r]; cases A9w op u v <;> rfl
 | beq n x y =>
  simp only [L6,prim,K7]
  cases ev s x with
  | none=>rfl
  | some u =>
   cases ev s y with
   | none=>cases u with
    | lit u=>cases u <;> rfl
    | _=>rfl
   | some v=>cases u with
    | lit u=>cases u with
     | bool a=>cases v with
      | lit v=>cases v <;> simp only [Option.map_some,ren] <;> first | rfl | simp only [Option.map_some,ren2,ren]
      | _=>rfl
     | _=>rfl
    | _=>rfl
 | cmp n ks x y =>
  simp only [L6,prim,K7]
  cases ev s x with
  | none=>rfl
  | some u =>
   cases ev s y with
   | none=>cases u <;> rfl
   | some v=>cases u with
    | agg a=>cases v with
     | agg b =>
      simp only [Option.map_some,ren,A76,B42]
      split
      ·cases J0 a b with
       | none=>rfl
       | some t=>simp only [Option.map_some,ren2,ren]
      ·rfl
     | _=>rfl
    | _=>rfl
 | un op x =>
  simp only [L6,prim,K7]
  cases ev s x with
  | none=>rfl
  | some u=>simp only [Option.map_some,D8r]; cases unV op u <;> rfl
 | conv k x =>
  simp only [L6,prim,K7]
  cases ev s x with
  | none=>rfl
  | some u=>cases u with
   | lit u=>cases u <;> simp only [Option.map_some,ren] <;> first | rfl | simp only [Option.map_some,ren2,ren]
   | _=>rfl
 | idc x =>
  simp only [L6,prim,K7]
  cases ev s x with
  | none=>rfl
  | some u=>cases u with
   | lit u=>cases u <;> simp only [Option.map_some,ren] <;> first | rfl | simp only [Option.map_some,ren2,ren]
   | _=>rfl
 | mkfn f a b =>
  simp only [L6,prim,B9u]
  cases evs s a with
  | none=>rfl
  | some u=>cases evs s b with
   | none=>rfl
   | some v=>simp only [Option.map_some,ren2,ren]
 | mkmap r=>simp only [L6,prim,Option.map_some,ren2,ren,rbn hn,← A2x hG hp hn,P7,List.map_nil]
 | mkslice k bytes z x y r =>
  simp only [L6,prim,K7]
  cases ev s x with
  | none=>rfl
  | some u =>
   cases ev s y with
   | none=>cases u with
    | lit u=>cases u with
     | int k1 a=>cases k1 <;> rfl
     | _=>rfl
    | _=>rfl
   | some v=>cases u with
    | lit u=>cases u with
     | int k1 a=>cases v with
      | lit v=>cases v with
       | int k2 b =>
        cases k1 <;> cases k2 <;> simp only [Option.map_some,ren] <;> first | rfl | skip
        split
        ·simp only [Option.map_some,ren2,ren,rbn hn,← A2x hG hp hn,P7,C2h]
        ·rfl
       | _=>cases k1 <;> rfl
      | _=>cases k1 <;> rfl
     | _=>rfl
    | _=>rfl
 | sliceS x lo hi =>
  simp only [L6,prim,K7,B5s]
  cases ev s x with
  | none=>rfl
  | some u=>cases u with
   | lit u=>cases u with
    | string b =>
     simp only [Option.map_some,ren]
     cases bnd s 0 lo with
     | none=>rfl
     | some l=>cases bnd s b.size hi with
      | none=>rfl
      | some h=>simp only; split <;> first | rfl | simp only [Option.map_some,ren2,ren]
    | _=>rfl
   | _=>rfl
 | mvz x =>
  simp only [L6,prim,K7]
  cases ev s x with
  | none=>rfl
  | some u=>simp only [Option.map_some,B52 hG hp]
 | sliceL kk x lo hi =>
  simp only [L6,prim,K7,B5s]
  cases ev s x with
  | none=>rfl
  | some u =>
   simp only [Option.map_some,B52 hG hp]
   cases A0m H u with
   | none=>rfl
   | some r =>
    obtain ⟨w,H1⟩:=r
    cases w with
    | seq k rows =>
     simp only [Option.map_some,ren2,ren,V9]
     cases bnd s 0 lo with
     | none=>rfl
     | some l=>cases bnd s rows.length hi with
      | none=>rfl
      | some h=>simp only; split <;> first | rfl | simp only [Option.map_some,ren2,ren,B39,B8g]
    | _=>simp only [Option.map_some,ren2,ren] <;> rfl
 | sliceQ kk x lo hi =>
  simp only [L6,prim,K7,B5s]
  cases ev s x with
  | none=>rfl
  | some u=>cases u with
   | seq k rows =>
    simp only [Option.map_some,ren,V9]
    cases bnd s 0 lo with
    | none=>rfl
    | some l=>cases bnd s rows.length hi with
     | none=>rfl
     | some h=>simp only; split <;> first | rfl | simp only [Option.map_some,ren2,ren,B39,B8g]
   | _=>rfl
 | nilq q x =>
  simp only [L6,prim,K7]
  cases ev s x with
  | none=>rfl
  | some u=>cases u with
   | seq k rows=>cases rows <;> simp [ren,ren2,renR]
   | _=>simp [ren,ren2]
 | sliceA k n x hi =>
  simp only [L6,prim,K7]
  cases ev s x with
  | none=>rfl
  | some u=>cases u with
   | ptr b o =>
    simp only [Option.map_some,ren,B1f hG hp,B5s]
    cases hcells H b with
    | none=>rfl
    | some cs=>cases bnd s n hi with
     | none=>rfl
     | some h=>simp only [Option.map_some,A19]; split <;> first | rfl | simp only [Option.map_some,ren2,ren]
   | _=>rfl
 | fieldAddr off x =>
  simp only [L6,prim,K7]
  cases ev s x with
  | none=>rfl
  | some u=>cases u <;> simp only [Option.map_some,ren] <;> first | rfl | simp only [Option.map_some,ren2,ren,B38]
 | field k off x =>
  simp only [L6,prim,K7]
  cases ev s x with
  | none=>rfl
  | some u=>cases u with
   | agg cs=>cases k with
    | none=>simp only [Option.map_some,ren,B63]; cases cs[off]? <;> rfl
    | some k=>simp only [Option.map_some,ren,A19]; split <;> first | rfl | simp only [Option.map_some,ren2,ren,B38,B8f]
   | _=>rfl
 | idxS k x i =>
  simp only [L6,prim,K7]
  cases ev s x with
  | none=>rfl
  | some u =>
   cases ev s i with
   | none=>cases u <;> rfl
   | some v=>cases v with
    | lit v=>cases v with
     | int k1 n=>cases u with
      | seq k' rows =>
       simp only [Option.map_some,ren,C2g]
       split
       ·cases rows[n.toNat]? with
        | none=>rfl
        | some r=>simp only [Option.map_some,ren2,ren]
       ·rfl
      | xseq k' rows =>
       simp only [Option.map_some,ren,C2g]
       split
       ·cases rows[n.toNat]? with
        | none=>rfl
        | some r=>simp only [Option.map_some,ren2,ren]
       ·rfl
      | asl b m =>
       simp only [Option.map_some,ren,A8j hG hp]
       cases harr H b with
       | none=>rfl
       | some y =>
        simp only [Option.map_some,V9]
        split
        ·simp only [Option.map_some,ren2,ren]
        ·rfl
      | _=>rfl
     | _=>cases u <;> rfl
    | _=>cases u <;> rfl
 | idxA k n x i =>
  simp only [L6,prim,K7]
  cases ev s x with
  | none=>rfl
  | some u =>
   cases ev s i with
   | none=>cases u <;> rfl
   | some v=>cases v with
    | lit v=>cases v with
     | int k1 m=>cases u <;> simp only [Option.map_some,ren] <;> first | rfl | (split <;> first | rfl | simp only [Option.map_some,ren2,ren,B38])
     | _=>cases u <;> rfl
    | _=>cases u <;> rfl
 | idxStr x i =>
  simp only [L6,prim,K7]
  cases ev s x with
  | none=>rfl
  | some u =>
   cases ev s i with
   | none=>cases u with
    | lit u=>cases u <;> rfl
    | _=>rfl
   | some v=>cases u with
    | lit u=>cases u with
     | string b=>cases v with
      | lit v=>cases v with
       | int k1 m =>
        simp only [Option.map_some,ren]
        split
        ·cases b[m.toNat]? <;> simp [ren2,ren]
        ·rfl
       | _=>rfl
      | _=>rfl
     | _=>rfl
    | _=>rfl
 | idxAgg k sz n x i =>
  simp only [L6,prim,K7]
  cases ev s x with
  | none=>rfl
  | some u =>
   cases ev s i with
   | none=>cases u <;> rfl
   | some v=>cases v with
    | lit v=>cases v with
     | int k1 m=>cases u with
      | agg cs =>
       simp only [Option.map_some,ren]
       split
       ·cases k with
        | none=>simp only [B63]; cases cs[m.toNat * sz]? <;> rfl
        | some k=>simp only [A19]; split <;> first | rfl | simp only [Option.map_some,ren2,ren,B38,B8f]
       ·rfl
      | _=>rfl
     | _=>cases u <;> rfl
    | _=>cases u <;> rfl
 | lookup z ag ks x i ok =>
  simp only [L6,prim,K7]
  cases ev s x with
  | none=>rfl
  | some u =>
   cases ev s i with
   | none=>rfl
   | some key =>
    cases u with
    | mp b =>
     simp only [Option.map_some,ren,C7n hG hp,A2i]
     cases hmap H b with
     | none=>cases J4 ag key <;> rfl
     | some es =>
      cases J4 ag key with
      | none=>rfl
      | some cs =>
       simp only [Option.map_some,A76,B2q]
       split
       ·cases findKey ag ks cs es 0 with
        | none=>rfl
        | some q=>cases q with
         | none=>cases ok <;> simp [ren2,ren,renL]
         | some q=>cases ok <;> simp [ren2,ren,renL]
       ·rfl
    | lit u=>cases u with
     | map m=>cases m with
      | none =>
       simp only [Option.map_some,ren,A2i]
       cases J4 ag key with
       | none=>rfl
       | some cs =>
        simp only [Option.map_some,A76]
        split
        ·cases ok <;> simp [findKey,ren2,ren,renL]
        ·rfl
      | some m=>simp only [Option.map_some,ren,A2i]; cases J4 ag key <;> rfl
     | _=>simp only [Option.map_some,ren,A2i]; cases J4 ag key <;> rfl
    | _=>simp only [Option.map_some,ren,A2i]; cases J4 ag key <;> rfl
 | mupd ag ks m x v =>
  simp only [L6,prim,K7]
  cases ev s m with
  | none=>rfl
  | some u =>
   cases ev s x with
   | none=>cases u <;> rfl
   | some key =>
    cases ev s v with
    | none=>cases u <;> rfl
    | some w=>cases u with
     | mp b =>
      simp only [Option.map_some,ren,D2u hG hp,A2i]
      cases B2w H b with
      | none=>rfl
      | some es=>cases J4 ag key with
       | none=>rfl
       | some cs =>
        have he:(renL p g w.cellsOf).isEmpty = w.cellsOf.isEmpty:= by rw [T7]; cases w.cellsOf <;> rfl
        simp only [Option.map_some,A76,A5l,B2h,he,B2q]
        split
        ·cases findKey ag ks cs es 0 with
         | none=>rfl
         | some q=>cases q with
          | none=>simp only [Option.map_some,Option.map_none,ren2,ren,renL,← S6 hG hp,P7,List.map_append,List.map_cons,List.map_nil]
          | some q=>simp only [Option.map_some,ren2,ren,renL,← S6 hG hp,P7,List.map_set]
        ·rfl
     | _=>rfl
 | range x r =>
  simp only [L6,prim,K7]
  cases ev s x with
  | none=>rfl
  | some u=>cases u with
   | lit u=>cases u <;> simp only [Option.map_some,ren] <;> first | rfl | simp only [Option.map_some,ren2,ren,rbn hn,← A2x hG hp hn,P7]
   | _=>rfl
 | next x =>
  simp only [L6,prim,K7]
  cases ev s x with
  | none=>rfl
  | some u=>cases u with
   | itr b =>
    simp only [Option.map_some,ren,A2w hG hp]
    cases hget H b with
    | none=>rfl
    | some o=>cases o with
     | iter t q =>
      simp only [Option.map_some,P7]
      split
      ·simp only [Option.map_some,ren2,ren,renL,← S6 hG hp,P7]
      ·simp only [Option.map_some,ren2,ren,renL]
     | _=>rfl
   | _=>rfl
 | extract x i =>
  simp only [L6,prim,K7]
  cases ev s x with
  | none=>rfl
  | some u=>cases u with
   | tup cs=>simp only [Option.map_some,ren,B63]; cases cs[i]? <;> rfl
   | _=>rfl
 | lenS x =>
  simp only [L6,prim,K7]
  cases ev s x with
  | none=>rfl
  | some u=>cases u with
   | lit u=>cases u <;> simp only [Option.map_some,ren] <;> first | rfl | simp only [Option.map_some,ren2,ren]
   | _=>rfl
 | lenM x =>
  simp only [L6,prim,K7]
  cases ev s x with
  | none=>rfl
  | some u=>cases u with
   | mp b =>
    simp only [Option.map_some,ren,C7n hG hp]
    cases hmap H b <;> simp [ren2,ren]
   | lit u=>cases u with
    | map m=>cases m <;> simp [ren,ren2]
    | _=>rfl
   | _=>rfl
 | lenL x =>
  simp only [L6,prim,K7]
  cases ev s x with
  | none=>rfl
  | some u=>cases u with
   | asl b n =>
    simp only [Option.map_some,ren,A8j hG hp]
    cases harr H b with
    | none=>rfl
    | some y=>simp only [Option.map_some,V9]; split <;> simp [ren2,ren]
   | _=>simp [ren,ren2,V9]
 | mm mx xs =>
  simp only [L6,prim,B9u]
  cases evs s xs with
  | none=>rfl
  | some l=>cases l with
   | nil=>simp [renL]
   | cons x l=>simp only [Option.map_some,renL,D1u]; cases mmV mx x l <;> rfl
 | append k bytes d x r fz =>
  simp only [L6,prim,K7]
  cases ev s d with
  | none=>rfl
  | some u =>
   cases ev s x with
   | none=>rfl
   | some v =>
    simp only [Option.map_some,C2j hG hp,D1n hG hp]
    cases A4g H v with
    | none=>rfl
    | some new=>cases kOf H v with
     | none=>rfl
     | some k' =>
      simp only [Option.map_some,C0y]
      split
      ·cases u with
       | nils kk =>
        simp only [ren,V9]
        split
        ·cases fz with
         | true=>simp only [Option.map_some,ren2,ren]
         | false=>cases r with
          | none=>rfl
          | some r=>simp only [Option.map_some,ren2,ren,rbn hn,← A2x hG hp hn,P7]
        ·rfl
       | asl b n =>
        simp only [ren,A74 hG hp]
        cases A4j H b with
        | none=>rfl
        | some y =>
         simp only [Option.map_some,V9]
         split
         ·cases fz with
          | true=>simp only [if_true,Option.map_some,ren2,ren,C2f,← S6 hG hp,P7]
          | false=>simp only [Bool.false_eq_true,if_false,Option.map_some,ren2,ren,C2f,← S6 hG hp,P7]
         ·rfl
       | _=>rfl
      ·rfl
 | copy k d x =>
  simp only [L6,prim,K7]
  cases ev s d with
  | none=>rfl
  | some u =>
   cases ev s x with
   | none=>cases u <;> rfl
   | some v=>cases u with
    | asl b n =>
     simp only [Option.map_some,ren,A74 hG hp,C2j hG hp,D1n hG hp]
     cases A4j H b with
     | none=>rfl
     | some y =>
      obtain ⟨kk,q,rows⟩:=y
      cases q with
      | true=>cases A4g H v <;> cases kOf H v <;> rfl
      | false=>cases A4g H v with
       | none=>cases kOf H v <;> rfl
       | some src=>cases kOf H v with
        | none=>rfl
        | some k' =>
         simp only [Option.map_some,V9,C0y]
         split
         ·simp only [Option.map_some,ren2,ren,← S6 hG hp,P7,C2f,B39,B8g]
         ·rfl
    | _=>rfl
 | cut k x hi r =>
  simp only [L6,prim,K7]
  cases ev s x with
  | none=>rfl
  | some u=>cases u with
   | asl b n =>
    simp only [Option.map_some,ren,A74 hG hp,B5s]
    cases A4j H b with
    | none=>rfl
    | some y =>
     obtain ⟨kk,q,rows⟩:=y
     cases q with
     | true=>rfl
     | false=>cases bnd s n hi with
      | none=>rfl
      | some h =>
       simp only [Option.map_some,V9]
       split
       ·have e1:hset (G8 p g G H) (rb p g b) .dead = G8 p g G (hset H b .dead):= by rw [← S6 hG hp]; simp only [P7]
        simp only [Option.map_some,ren2,ren,rbn hn,e1]
        rw [← A2x hG (by rw [L8]; exact hp) hn]; simp only [P7,B39]
       ·rfl
   | _=>rfl
end
end Am
end
