/- Texts that the claim stands on, one behind another. -/
import Derived.Test.YtjpjdglddmhplaaGreatA1
import Derived.RangeFuncRecord
import Derived.AtR
import Derived.Orders
set_option linter.unusedVariables false
set_option linter.unusedSimpArgs false
set_option linter.unnecessarySimpa false
section
namespace Am
open Go
section
variable {MC:Nat→Code→ACode→Prop} {P:Program} {B0:Nat} {c:Sc} {n0:Nat} {H H':A1} {g:Ghost} {w:World} {s:B4} {a:Act} {o:Oper} {v:AV}
theorem Rel.drew (hR:Rel MC P B0 H g w):Rel MC P B0 H g w.drew :=
 ⟨hR.phi,hR.base,hR.inj,fun i o ho=>(hR.box i o ho).mono (Ghost.le_refl g) (fun _ _=>⟨rfl,fun _=>rfl⟩),hR.nolive,hR.b0⟩
theorem Ext.drew (H:A1) (g:Ghost) (w:World):Ext H g w H g w.drew :=
 ⟨Nat.le_refl _,rfl,rfl,rfl,Nat.le_refl _,Ghost.le_refl g,fun _ _ h=>.inl h,fun _ _ _ _ _=>rfl,fun i o h k=>.inr ⟨o,h,k⟩,fun _ _ _=>⟨rfl,fun _=>rfl⟩⟩
section
variable {t u ty e e2:TypeId} {i:TypeInfo} {z:Value} (ht:P.underlying t = some (.slice e)) (hu:P.underlying u = some (.slice e2)) (hi:P.info? e = some i) (hz:i.zero = some z)
include ht hu hi hz
omit hz in
theorem B49 (c m:Nat) (ad:Option Addr) (cp n:Nat) {news:Array Value} (hx:(Builtin.firstCells i.size m (.slice ad m cp)).run P w = .ok news w) (hroom:n + m≤c) :
  (Builtin.append_ #[t,u] ty #[.slice none n c,.slice ad m cp]).run P w = .ok (.slice none (n + m) c) w:= by
 simp [Builtin.append_,run_underlying ht,run_underlying hu,Go.sizeOf,typeInfo,hi,Builtin.lenOf,hroom,hx]
omit hz in
theorem B2z (e':TypeId) (β c m:Nat) (ad:Option Addr) (cp n:Nat) {news cur:Array Value} (hx:(Builtin.firstCells i.size m (.slice ad m cp)).run P w = .ok news w) (hroom:n + m≤c)
  (hg:w.heap[β]? = some (.cells cur e' (0,0))) (hfit:n * i.size + news.size≤cur.size) (h1:∀x ∈ news.toList,x.oneCell' = true) :
  (Builtin.append_ #[t,u] ty #[.slice (some ⟨β,0,none⟩) n c,.slice ad m cp]).run P w =
   .ok (.slice (some ⟨β,0,none⟩) (n + m) c) (w.setRow β (cur.toList.take (n * i.size)++news.toList++cur.toList.drop (n * i.size + news.toList.length)).toArray):= by
 have hst:=run_storeCells_at P β (n * i.size) e' news.toList 0 cur w hg (by simpa using hfit) h1
 simp only [Nat.add_zero] at hst
 simp [Builtin.append_,run_underlying ht,run_underlying hu,Go.sizeOf,typeInfo,hi,Builtin.lenOf,hroom,hx,Addr.add_lit,hst]
theorem A7w (b:Option Addr) (c m:Nat) (ad:Option Addr) (cp n:Nat) {news olds:Array Value} (hx:(Builtin.firstCells i.size m (.slice ad m cp)).run P w.drew = .ok news w.drew)
  (ho:(Builtin.firstCells i.size n (.slice b n c)).run P w.drew = .ok olds w.drew) (hroom:¬ n + m≤c)
  (h63:((n + m:Nat):Int)≤9223372036854775807) (hfit:Builtin.nextslicecap (n + m) c * i.bytes≤281474976710656) :
  (Builtin.append_ #[t,u] ty #[.slice b n c,.slice ad m cp]).run P w =
   .ok (.slice (some ⟨w.heap.size,0,none⟩) (n + m) (grownCap w (n + m) c e)) (w.drew.alloc (.cells (olds++news++Builtin.zeroCells z.cells (grownCap w (n + m) c e - (n + m))) e)):= by
 have h63':¬ (9223372036854775807 < ((n:Int) + (m:Int))):= by omega
 have h48':¬ (281474976710656 < Builtin.nextslicecap (n + m) c * i.bytes):= by omega
 simp [Builtin.append_,run_underlying ht,run_underlying hu,Go.sizeOf,typeInfo,zeroValue,hi,hz,Builtin.lenOf,hroom,h63',h48',Question.forced,hx,ho,newRow,grownCap]
end
theorem B8e {k:Nat} {rows new:List (List AV)} {Φ:Nat→Nat→Option Value} (hlen:∀r ∈ rows,r.length = k) (hlen2:∀r ∈ new,r.length = k) {cur':Nat→Option Value}
  (h9:∀(i:Nat) (r:List AV) (j:Nat) (x:AV),rows[i]? = some r→r[j]? = some x→∃ u,cur' (i * k + j) = some u∧Den Φ x u)
  (hn:∀(i:Nat) (r:List AV) (j:Nat) (x:AV),new[i]? = some r→r[j]? = some x→∃ u,cur' (rows.length * k + (i * k + j)) = some u∧Den Φ x u) :
  (∀ r ∈ rows++new,r.length = k)∧∀ (i:Nat) (r:List AV) (j:Nat) (x:AV),(rows++new)[i]? = some r→r[j]? = some x→∃ u,cur' (i * k + j) = some u∧Den Φ x u:= by
 refine ⟨fun r hr=>(List.mem_append.1 hr).elim (hlen r) (hlen2 r),fun i r j x hi hj=>?_⟩
 rw [List.getElem?_append] at hi
 split at hi
 ·exact h9 i r j x hi hj
 ·next h =>
  obtain ⟨u,h1,h2⟩:=hn _ r j x hi hj
  refine ⟨u,?_,h2⟩
  rw [← h1]; congr 1
  rw [← Nat.add_assoc,← Nat.add_mul]
  congr 2; omega
theorem Rel.kill (hR:Rel MC P B0 H g w) {b:Nat} (hb:∃ob,H[b]? = some ob∧ob.isV = true):Rel MC P B0 (H.set b .dead) g w∧Ext H g w (H.set b .dead) g w:= by
 obtain ⟨ob,h1,h2⟩:=hb
 have hi:=(List.getElem?_eq_some_iff.1 h1).1
 have e1:G3 g.L b (g.L b) = g.L:= by funext j; simp only [G3]; split; (next e=>rw [e]); rfl
 have:=hR.upd hi (.inl ⟨_,h1,h2⟩) (o':=.dead) (gb':=g.L b) (Φ':=g.Φ) (w':=w) rfl rfl rfl (Nat.le_refl _) (fun _ _ _=>rfl) (GB.le_refl _)
   (fun β hβ=>⟨.inl hβ,(hR.base b β hβ).2⟩) (fun _ _ _ h=>h) (fun _ _ _ _=>rfl) (fun β off u h=>hR.phi β off u h) trivial
 rw [e1] at this
 exact this
theorem A8l {k by_:Nat} {e:TypeId} {z:Value} {rows new:List (List AV)} {olds news:Array Value} {Φ:Nat→Nat→Option Value} {need cap:Nat} (hzs:z.cells.size = k)
  (hlen:∀r ∈ rows,r.length = k) (hlen2:∀r ∈ new,r.length = k) (ho:olds.size = rows.length * k) (hn:news.size = new.length * k) (hneed:need = rows.length + new.length) (hcap:need≤cap)
  (h9:∀(i:Nat) (r:List AV) (j:Nat) (x:AV),rows[i]? = some r→r[j]? = some x→∃ u,olds[i * k + j]? = some u∧Den Φ x u)
  (h10:∀(i:Nat) (r:List AV) (j:Nat) (x:AV),new[i]? = some r→r[j]? = some x→∃ u,news[i * k + j]? = some u∧Den Φ x u) :
  (∀ r ∈ rows++new,r.length = k)∧(olds++news++Builtin.zeroCells z.cells (cap - need)).size = cap * k ∧
  ∀ (i:Nat) (r:List AV) (j:Nat) (x:AV),(rows++new)[i]? = some r→r[j]? = some x→∃ u,(olds++news++Builtin.zeroCells z.cells (cap - need))[i * k + j]? = some u∧Den Φ x u:= by
 have hget:∀q,q < olds.size→(olds++news++Builtin.zeroCells z.cells (cap - need))[q]? = olds[q]?:=fun q hq=>by
  rw [Array.append_assoc,Array.getElem?_append,if_pos hq]
 have hget2:∀q,q < news.size→(olds++news++Builtin.zeroCells z.cells (cap - need))[olds.size + q]? = news[q]?:=fun q hq=>by
  rw [Array.append_assoc,Array.getElem?_append,if_neg (by omega),Array.getElem?_append,if_pos (by omega)]
  congr 1; omega
 obtain ⟨a1,a2⟩:=B8e (cur':=fun q=>(olds++news++Builtin.zeroCells z.cells (cap - need))[q]?) hlen hlen2 (Φ:=Φ) (fun i r j x hi hj=>by
  obtain ⟨u,h1,h2⟩:=h9 i r j x hi hj
  exact ⟨u,(hget _ (Array.getElem?_eq_some_iff.1 h1).1).trans h1,h2⟩) (fun i r j x hi hj=>by
  obtain ⟨u,h1,h2⟩:=h10 i r j x hi hj
  refine ⟨u,?_,h2⟩
  show _ = _
  rw [← ho]
  exact (hget2 _ (Array.getElem?_eq_some_iff.1 h1).1).trans h1)
 refine ⟨a1,?_,a2⟩
 simp only [Array.size_append,size_zeroCells,hzs,ho,hn,← Nat.add_mul]
 congr 1; omega
theorem Rel.moved (hR:Rel MC P B0 H g w) {b k:Nat} {p:Bool} {rows rows':List (List AV)} {v0:Value} (hb:H[b]? = some (.arr k p rows)) (hL:g.L b = .arr k v0) {cur:Array Value} {e:TypeId} {cap:Nat} (hpos:0 < k)
  (h1:rows'.length≤cap) (h2:cap≤maxLen) (h3:cur.size = cap * k) (h4:∀r ∈ rows',r.length = k)
  (h5:∀(i:Nat) (r:List AV) (j:Nat) (x:AV),rows'[i]? = some r→r[j]? = some x→∃ u,cur[i * k + j]? = some u∧Den g.Φ x u) (hlt:slen v0 < rows'.length) :
  ∃ g',Rel MC P B0 (H.set b (.arr k p rows')) g' (w.alloc (.cells cur e))∧Ext H g w (H.set b (.arr k p rows')) g' (w.alloc (.cells cur e))∧g'.L b = .arr k (.slice (some ⟨w.heap.size,0,none⟩) rows'.length cap)∧∀ i,g.L i = .none→g'.L i = .none:= by
 have hi:=(List.getElem?_eq_some_iff.1 hb).1
 have hb0:=hR.phi_none (β:=w.heap.size) (off:=0) (Nat.le_refl _)
 have hcur:rows'.length * k≤cur.size:= by rw [h3]; exact Nat.mul_le_mul_right _ h1
 have hΦ:∀β off u,g.Φ β off = some u→(if p = true∧β = w.heap.size∧off < rows'.length * k then cur[off]? else g.Φ β off) = some u:= by
  intro β off u h
  have:=hR.phi_lt h
  rw [if_neg (by omega)]; exact h
 have:=hR.upd hi (.inl ⟨_,hb,rfl⟩) (o':=.arr k p rows') (gb':=.arr k (.slice (some ⟨w.heap.size,0,none⟩) rows'.length cap)) (Φ':=fun β off=>if p = true∧β = w.heap.size∧off < rows'.length * k then cur[off]? else g.Φ β off)
  (w':=w.alloc (.cells cur e)) rfl rfl rfl (by simp) (fun β hβ _=>heap_alloc_old w _ β hβ) (by rw [hL]; exact .inr ⟨_,rfl,by simpa [slen] using hlt⟩)
  (fun β hβ=>by simp [GB.blk] at hβ; subst hβ; exact ⟨.inr (Nat.le_refl _),by simp⟩) hΦ (fun β hβ _ off=>by
   have:¬ (p = true∧β = w.heap.size∧off < rows'.length * k):= by omega
   simp only [if_neg this]) (fun β off u h=>by
   try simp only at h
   split at h
   ·next e1=>obtain ⟨_,rfl,_⟩:=e1; simp [h]
   ·rw [World.cell?_alloc_lt _ _ _ (hR.phi_lt h)]; exact hR.phi β off u h)
  ⟨rfl,hpos,h4,.inr ⟨w.heap.size,cap,e,cur,rfl,h1,h2,heap_alloc_new w _,h3,fun i r j x hi hj=>by
    obtain ⟨u,hu,hd⟩:=h5 i r j x hi hj
    exact ⟨u,hu,hd.mono hΦ⟩,fun hp off=>by simp [hp]; exact hR.phi_none (Nat.le_refl _),fun hp=>⟨fun off ho=>by simp [hp,ho],fun off ho=>by
     show (if p = true∧w.heap.size = w.heap.size∧off < rows'.length * k then cur[off]? else g.Φ w.heap.size off) = none
     rw [if_neg (by omega)]; exact hR.phi_none (Nat.le_refl _)⟩⟩⟩
 refine ⟨_,this.1,this.2,by simp [G3],fun j hj=>?_⟩
 have hne:j ≠ b:= by intro e; subst e; rw [hL] at hj; cases hj
 simpa [G3,hne] using hj
theorem Rel.grewIn (hR:Rel MC P B0 H g w) {b k:Nat} {p:Bool} {rows new:List (List AV)} {β cp:Nat} (hb:H[b]? = some (.arr k p rows)) (hL:g.L b = .arr k (.slice (some ⟨β,0,none⟩) rows.length cp)) {cur cur':Array Value} {e:TypeId}
  (hg:w.heap[β]? = some (.cells cur e (0,0))) (hpos:0 < k) (h1:(rows++new).length≤cp) (h2:cp≤maxLen) (h3:cur.size = cp * k) (h3':cur'.size = cp * k) (h4:∀r ∈ rows++new,r.length = k)
  (hold:∀off,off < rows.length * k→cur'[off]? = cur[off]?) (hΦp:p = false→∀ o,g.Φ β o = none) (hΦt:p = true→(∀ o,o < rows.length * k→g.Φ β o = cur[o]?)∧∀ o,rows.length * k≤o→g.Φ β o = none)
  (h5:∀(i:Nat) (r:List AV) (j:Nat) (x:AV),(rows++new)[i]? = some r→r[j]? = some x→∃ u,cur'[i * k + j]? = some u∧Den g.Φ x u) :
  ∃ g',Rel MC P B0 (H.set b (.arr k p (rows++new))) g' (w.setRow β cur')∧Ext H g w (H.set b (.arr k p (rows++new))) g' (w.setRow β cur')∧g'.L b = .arr k (.slice (some ⟨β,0,none⟩) (rows++new).length cp)∧∀ i,g.L i = .none→g'.L i = .none:= by
 have hcur:(rows++new).length * k≤cur'.size:= by rw [h3']; exact Nat.mul_le_mul_right _ h1
 have hrl:rows.length * k≤(rows++new).length * k:=Nat.mul_le_mul_right _ (by simp)
 have hΦ:∀γ off u,g.Φ γ off = some u→(if p = true∧γ = β∧off < (rows++new).length * k then cur'[off]? else g.Φ γ off) = some u:= by
  intro γ off u h
  split
  ·next e1 =>
   obtain ⟨hp,rfl,ho⟩:=e1
   obtain ⟨t1,t2⟩:=hΦt hp
   by_cases ho2:off < rows.length * k
   ·rw [hold off ho2,← t1 off ho2]; exact h
   ·rw [t2 off (by omega)] at h; cases h
  ·exact h
 have:=hR.write (b:=b) ⟨_,hb,rfl⟩ (by rw [hL]; rfl) hg cur' (o':=.arr k p (rows++new)) (gb':=.arr k (.slice (some ⟨β,0,none⟩) (rows++new).length cp))
  (by
   rw [hL]
   rcases Nat.eq_zero_or_pos new.length with h0 | h0
   ·left; simp [h0]
   ·right; exact ⟨_,rfl,by simp [slen]; omega⟩) rfl (fun off hs=>by
   cases hp:p with
   | false=>rw [hΦp hp off] at hs; cases hs
   | true =>
    obtain ⟨t1,t2⟩:=hΦt hp
    by_cases ho2:off < rows.length * k
    ·rw [hold off ho2,← t1 off ho2]
    ·rw [t2 off (by omega)] at hs; cases hs)
  (Φ':=fun γ off=>if p = true∧γ = β∧off < (rows++new).length * k then cur'[off]? else g.Φ γ off) (fun γ off hne=>by
   have:¬ (p = true∧γ = β∧off < (rows++new).length * k):=fun h=>hne h.2.1
   simp only [if_neg this]) (fun off u h=>hΦ β off u h) (fun off u h=>by
   try simp only at h
   split at h
   ·exact h
   ·next e1 =>
    cases hp:p with
    | false=>rw [hΦp hp off] at h; cases h
    | true =>
     obtain ⟨t1,t2⟩:=hΦt hp
     by_cases ho2:off < rows.length * k
     ·rw [hold off ho2,← t1 off ho2]; exact h
     ·rw [t2 off (by omega)] at h; cases h)
  ⟨rfl,hpos,h4,.inr ⟨β,cp,e,cur',rfl,h1,h2,setRow_heap w β cur _ e (0,0) hg,h3',fun i r j x hi hj=>by
    obtain ⟨u,hu,hd⟩:=h5 i r j x hi hj
    exact ⟨u,hu,hd.mono hΦ⟩,fun hp off=>by simp [hp]; exact hΦp hp off,fun hp=>⟨fun off ho=>by simp [hp]; intro hc; simp at ho; omega,fun off ho=>by
     show (if p = true∧β = β∧off < (rows++new).length * k then cur'[off]? else g.Φ β off) = none
     rw [if_neg (by omega)]; exact (hΦt hp).2 off (by omega)⟩⟩⟩
 refine ⟨_,this.1,this.2,by simp [G3],fun j hj=>?_⟩
 have hne:j ≠ b:= by intro e; subst e; rw [hL] at hj; cases hj
 simpa [G3,hne] using hj
theorem B21 {H:A1} {b:Nat} {ob:AO} (h:H[b]? = some ob):H.set b ob = H:= by
 apply List.ext_getElem?
 intro j
 rw [List.getElem?_set]
 by_cases e:b = j
 ·subst e
  have:=(List.getElem?_eq_some_iff.1 h).1
  rw [if_pos rfl,if_pos this,h]
 ·rw [if_neg e]
theorem D1r {H:A1} {b:Nat} (hno:(H.drop (b + 1)).all (fun o=>!o.grew b) = true) (j:Nat):¬ Shr H b j:= by
 rintro ⟨h0,k,rows,anc,rows',anc',h1,h2,_,_⟩
 rw [List.all_eq_true] at hno
 have hm:∀o,H[j]? = some o→o ∈ H.drop (b + 1):=fun o ho=>List.mem_of_getElem? (i:=j - (b + 1)) (by rw [List.getElem?_drop,show b + 1 + (j - (b + 1)) = j by omega]; exact ho)
 unfold hstk hget at h1
 split at h1
 ·have:=hno _ (hm _ (by assumption))
  simp at h1
  obtain ⟨rfl,rfl,rfl⟩:=h1
  simp [AO.grew,h2] at this
 ·have:=hno _ (hm _ (by assumption))
  simp at h1
  obtain ⟨rfl,rfl,rfl⟩:=h1
  simp [AO.grew,h2] at this
 ·cases h1
theorem Rel.pushIn (hR:Rel MC P B0 H g w) {b i0 k:Nat} {q:List Nat} {rows new:List (List AV)} {β cp:Nat} (hb:H[b]? = some (.stk k rows q)) (hno:(H.drop (b + 1)).all (fun o=>!o.grew b) = true) (hlt:b < i0) (hi0:i0 < H.length) (hn:g.L i0 = .none)
  (hL:g.L b = .arr k (.slice (some ⟨β,0,none⟩) rows.length cp)) {cur cur':Array Value} {e:TypeId}
  (hg:w.heap[β]? = some (.cells cur e (0,0))) (hpos:0 < k) (hnew:0 < new.length) (h1:(rows++new).length≤cp) (h2:cp≤maxLen) (h3:cur.size = cp * k) (h3':cur'.size = cp * k) (h4:∀r ∈ rows++new,r.length = k)
  (hold:∀off,off < rows.length * k→cur'[off]? = cur[off]?) (hΦ:∀o,g.Φ β o = none)
  (h5:∀(i:Nat) (r:List AV) (j:Nat) (x:AV),(rows++new)[i]? = some r→r[j]? = some x→∃ u,cur'[i * k + j]? = some u∧Den g.Φ x u) :
  Rel MC P B0 (H.set i0 (.stk k (rows++new) (b :: q))) ⟨G3 g.L i0 (.arr k (.slice (some ⟨β,0,none⟩) (rows++new).length cp)),g.Φ,g.gl⟩ (w.setRow β cur') ∧
  Ext H g w (H.set i0 (.stk k (rows++new) (b :: q))) ⟨G3 g.L i0 (.arr k (.slice (some ⟨β,0,none⟩) (rows++new).length cp)),g.Φ,g.gl⟩ (w.setRow β cur'):= by
 have hbβ:(g.L b).blk = some β:= by rw [hL]; rfl
 have hbase:=hR.base b β hbβ
 have hbi:b ≠ i0:= by omega
 have hstkb:hstk H b = some (k,rows,q):= by unfold hstk hget; rw [hb]
 have hyoung:=D1r hno
 have hle:g.le ⟨G3 g.L i0 (.arr k (.slice (some ⟨β,0,none⟩) (rows++new).length cp)),g.Φ,g.gl⟩:=⟨fun j=>by
  by_cases e:j = i0
  ·subst e; rw [hn]; trivial
  ·simp only [G3,if_neg e]; exact GB.le_refl _,fun _ _ _ h=>h⟩
 have helder:∀j,(g.L j).blk = some β→j = b∨Shr H j b:=fun j hj=>by
  rcases hR.inj j b β hj hbβ with e | e | e
  ·exact .inl e
  ·exact .inr e
  ·exact absurd e (hyoung j)
 have hother:∀γ,γ ≠ β→(w.setRow β cur').heap[γ]? = w.heap[γ]?:=fun γ hγ=>A4n _ _ _ _ hγ
 have hnoneblk:∀j γ,(g.L j).blk = some γ→j ≠ i0:=fun j γ hj e=>by subst e; rw [hn] at hj; simp [GB.blk] at hj
 refine ⟨⟨fun γ off u h=>?_,?_,?_,?_,?_,by have:=hR.b0; simpa [World.setRow] using this⟩,⟨by simp,rfl,rfl,rfl,by simp [World.setRow],hle,?_,?_,?_,?_⟩⟩
 ·have hne:γ ≠ β:=fun e=>by subst e; rw [hΦ] at h; cases h
  have:=hR.phi γ off u h
  unfold World.cell? at this ⊢
  rw [hother γ hne]; exact this
 ·intro j γ hj
  simp only [G3] at hj
  split at hj
  ·simp [GB.blk] at hj; subst hj
   exact ⟨hbase.1,by simpa [World.setRow] using hbase.2⟩
  ·have:=hR.base j γ hj
   exact ⟨this.1,by simpa [World.setRow] using this.2⟩
 ·intro j j' γ hj hj'
  have hnew0:hstk (H.set i0 (.stk k (rows++new) (b :: q))) i0 = some (k,rows++new,b :: q):= by
   unfold hstk hget
   rw [List.getElem?_set,if_pos rfl,if_pos hi0]
  have hsh:∀m,m ≠ i0→(g.L m).blk = some β→Shr (H.set i0 (.stk k (rows++new) (b :: q))) m i0:=fun m hm hmb=>by
   have hlen:rows.length < (rows++new).length:= by rw [List.length_append]; omega
   rcases helder m hmb with rfl | ⟨c0,k1,r1,a1,r2,a2,c1,c2,c3,c4⟩
   ·exact ⟨hlt,k,rows++new,m :: q,rows,q,hnew0,List.mem_cons_self ..,by rw [B17 hm]; exact hstkb,hlen⟩
   ·rw [hstkb] at c1
    simp only [Option.some.injEq,Prod.mk.injEq] at c1
    obtain ⟨rfl,rfl,rfl⟩:=c1
    exact ⟨by omega,k,rows++new,b :: q,r2,a2,hnew0,List.mem_cons_of_mem _ c2,by rw [B17 hm]; exact c3,by omega⟩
  simp only [G3] at hj hj'
  split at hj <;> split at hj'
  ·left; omega
  ·next e1 e2 =>
   simp [GB.blk] at hj; subst hj e1
   exact .inr (.inr (hsh j' e2 hj'))
  ·next e1 e2 =>
   simp [GB.blk] at hj'; subst hj' e2
   exact .inr (.inl (hsh j e1 hj))
  ·next e1 e2=>exact (hR.inj j j' γ hj hj').imp id (Or.imp (fun q=>q.set e1 e2) (fun q=>q.set e2 e1))
 ·intro j o hj
  rw [List.getElem?_set] at hj
  by_cases e0:i0 = j
  ·subst e0
   rw [if_pos rfl,if_pos hi0] at hj
   cases hj
   simp only [G3,if_true,AO.rd]
   exact ⟨rfl,hpos,h4,.inr ⟨β,cp,e,cur',rfl,h1,h2,setRow_heap w β cur _ e (0,0) hg,h3',h5,fun _=>hΦ,fun h=>by cases h⟩⟩
  ·rw [if_neg e0] at hj
   have hne:j ≠ i0:=fun h=>e0 h.symm
   simp only [G3,if_neg hne]
   have hbx:=hR.box j o hj
   by_cases hjb:(g.L j).blk = some β
   ·have:∃rows' q',hstk H j = some (k,rows',q')∧rows'.length≤rows.length:= by
     rcases helder j hjb with rfl | ⟨c0,k1,r1,a1,r2,a2,c1,c2,c3,c4⟩
     ·exact ⟨rows,q,hstkb,Nat.le_refl _⟩
     ·rw [hstkb] at c1
      simp only [Option.some.injEq,Prod.mk.injEq] at c1
      obtain ⟨rfl,rfl,rfl⟩:=c1
      exact ⟨r2,a2,c3,by omega⟩
    obtain ⟨rows',q',hs,hl⟩:=this
    obtain ⟨o2,ho2,hrd⟩:=C7l hs
    rw [hj] at ho2; cases ho2
    have hrd:o.rd = .stk k rows' q':=hrd
    rw [hrd] at hbx ⊢
    cases hgb:g.L j with
    | arr k' v =>
     rw [hgb] at hbx hjb
     obtain ⟨rfl,a1,a2,a3⟩:=hbx
     refine ⟨rfl,a1,a2,?_⟩
     rcases a3 with a3 | ⟨β',c,e',cur1,rfl,a5,a6,a7,a8,a9,a10,a11⟩
     ·obtain ⟨_,rfl⟩:=a3
      simp [GB.blk] at hjb
     ·simp [GB.blk] at hjb; subst hjb
      rw [hg] at a7; cases a7
      refine .inr ⟨β',c,e,cur',rfl,a5,a6,setRow_heap w β' cur _ e (0,0) hg,by rw [h3',← h3,a8],fun i r x y hi hx=>?_,a10,fun h=>by cases h⟩
      obtain ⟨u,hu,hd⟩:=a9 i r x y hi hx
      refine ⟨u,?_,hd⟩
      have hik:=(List.getElem?_eq_some_iff.1 hi).1
      have hxk:=(List.getElem?_eq_some_iff.1 hx).1
      have hrk:=a2 r (List.mem_of_getElem? hi)
      have:=M4 (show i < rows.length by omega) (k:=r.length)
      rw [hrk] at this hxk
      rw [hold _ (by omega)]; exact hu
    | _=>rw [hgb] at hbx; exact hbx.elim
   ·exact hbx.mono hle (fun γ hγ=>⟨hother γ (fun e=>hjb (by rw [hγ,e])),fun _=>rfl⟩)
 ·intro j hj
  have hne:j ≠ i0:= by have:H.length≤j:= by simpa using hj
                       omega
  simp only [G3,if_neg hne]
  exact hR.nolive j (by simpa using hj)
 ·intro j γ hj
  simp only [G3] at hj
  split at hj
  ·simp [GB.blk] at hj; subst hj
   exact .inr (.inr ⟨b,_,hb,rfl,hbβ⟩)
  ·exact .inl hj
 ·intro j o hj hw hnn
  simp only [G3]
  split
  ·next e=>subst e; exact absurd hn hnn
  ·rfl
 ·intro j o' hj hw
  by_cases e:j = i0
  ·subst e; exact .inl hn
  ·rw [List.getElem?_set,if_neg (fun h=>e h.symm)] at hj
   exact .inr ⟨_,hj,hw⟩
 ·intro γ hγ hnh
  exact ⟨hother γ (fun e=>hnh b _ hb rfl (by rw [e]; exact hbβ)),fun _=>rfl⟩
theorem D0g (hR:Rel MC P B0 H g w) {t u ty e e2:TypeId} {i:TypeInfo} {z:Value} (ht:P.underlying t = some (.slice e)) (hu:P.underlying u = some (.slice e2)) (hi:P.info? e = some i) (hz:i.zero = some z) {k:Nat} (his:i.size = k) (hpos:0 < k) (hzs:z.cells.size = k)
  {b:Nat} {p:Bool} {rows new:List (List AV)} {v0:Value} (hb:H[b]? = some (.arr k p rows)) (hL:g.L b = .arr k v0) (hbox:V2 MC P g w (.arr k p rows) (.arr k v0)) {ad:Option Addr} {cp:Nat} {news newd:Array Value}
  (hn1:(Builtin.firstCells k new.length (.slice ad new.length cp)).run P w = .ok news w) (hn2:news.size = new.length * k) (hn3:∀x ∈ news.toList,x.oneCell' = true)
  (hn5:∀(i:Nat) (r:List AV) (j:Nat) (x:AV),new[i]? = some r→r[j]? = some x→∃ u,news[i * k + j]? = some u∧Den g.Φ x u)
  (hd1:(Builtin.firstCells k new.length (.slice ad new.length cp)).run P w.drew = .ok newd w.drew) (hd2:newd.size = new.length * k) (hd4:∀r ∈ new,r.length = k)
  (hd5:∀(i:Nat) (r:List AV) (j:Nat) (x:AV),new[i]? = some r→r[j]? = some x→∃ u,newd[i * k + j]? = some u∧Den g.Φ x u)
  (h63:rows.length + new.length≤maxLen) (hbytes:(rows.length + new.length) * i.bytes≤140737488355328) :
  ∃ x w' g',(Builtin.append_ #[t,u] ty #[v0,.slice ad new.length cp]).run P w = .ok x w'∧Rel MC P B0 (H.set b (.arr k p (rows++new))) g' w'∧Ext H g w (H.set b (.arr k p (rows++new))) g' w'∧g'.L b = .arr k x ∧
   x.oneCell' = true∧∀ i,g.L i = .none→g'.L i = .none:= by
 subst his
 have hsl:=T4 hbox
 have hmx:maxLen≤9223372036854775807:= by simp [maxLen]
 obtain ⟨_,hk0,hlen,h0⟩:=hbox
 have olds:∃(bo:Option Addr) (cp0:Nat) (olds:Array Value),v0 = .slice bo rows.length cp0∧rows.length≤cp0∧(Builtin.firstCells i.size rows.length (.slice bo rows.length cp0)).run P w.drew = .ok olds w.drew∧olds.size = rows.length * i.size ∧
   (∀ (i':Nat) (r:List AV) (j:Nat) (x:AV),rows[i']? = some r→r[j]? = some x→∃ u,olds[i' * i.size + j]? = some u∧Den g.Φ x u):= by
  rcases h0 with ⟨rfl,rfl⟩ | ⟨β,cp0,e',cur,rfl,a5,a6,a7,a8,a9,a10,a11⟩
  ·exact ⟨none,0,#[],rfl,Nat.le_refl _,by simp [Builtin.firstCells],by simp,by simp⟩
  ·have hsz:rows.length * i.size≤cur.size:= by rw [a8]; exact Nat.mul_le_mul_right _ a5
   refine ⟨_,cp0,((List.range (rows.length * i.size)).map fun m=>(cur[m]?).getD undef).toArray,rfl,a5,?_,by simp,fun i' r j x hi' hj=>?_⟩
   ·simp only [Builtin.firstCells]
    rw [run_loadCells (P:=P) w.drew ⟨β,0,none⟩ (rows.length * i.size) (fun m=>(cur[m]?).getD undef) (fun m hm=>by
     rw [A4t rfl]
     have:w.drew.heap[β]? = some (.cells cur e' (0,0)):=a7
     have hml:m < cur.size:= by omega
     simp [World.cell?,this,hml])]
   ·obtain ⟨u,hu,hd⟩:=a9 i' r j x hi' hj
    have hjk:j < i.size:= by have h1:=(List.getElem?_eq_some_iff.1 hj).1; have h2:=hlen r (List.mem_of_getElem? hi'); omega
    have:=M4 (k:=i.size) (List.getElem?_eq_some_iff.1 hi').1
    have hlt:i' * i.size + j < rows.length * i.size:= by omega
    exact ⟨u,by simp [hlt,hu],hd⟩
 obtain ⟨bo,cp0,olds,rfl,hcp0,ho1,ho2,ho3⟩:=olds
 by_cases hroom:rows.length + new.length≤cp0
 ·rcases h0 with ⟨rfl,hv⟩ | ⟨β,cp1,e',cur,hv,a5,a6,a7,a8,a9,a10,a11⟩
  ·cases hv
   have hm0:new = []:=List.eq_nil_of_length_eq_zero (by simpa using hroom)
   subst hm0
   refine ⟨_,w,g,B49 ht hu hi 0 0 ad cp 0 hn1 (by simp),?_,?_,by simpa using hL,rfl,fun i h=>h⟩
   ·rw [List.append_nil,B21 hb]; exact hR
   ·rw [List.append_nil,B21 hb]; exact Ext.refl _ _ _
  ·cases hv
   have hsz:rows.length * i.size + new.length * i.size≤cur.size:= by rw [a8,← Nat.add_mul]; exact Nat.mul_le_mul_right _ hroom
   have hrun:=B2z (ty:=ty) ht hu hi e' β cp0 new.length ad cp rows.length hn1 hroom a7 (by omega) hn3
   have hlt:(cur.toList.take (rows.length * i.size)).length = rows.length * i.size:= by simp; omega
   have get:∀q,((cur.toList.take (rows.length * i.size)++news.toList++cur.toList.drop (rows.length * i.size + news.toList.length)).toArray)[q]? =
     if q < rows.length * i.size then cur[q]? else if q < rows.length * i.size + new.length * i.size then news[q - rows.length * i.size]? else cur[q]?:= by
    intro q
    simp only [List.getElem?_toArray,List.append_assoc]
    rw [List.getElem?_append,hlt]
    split
    ·next h1=>rw [List.getElem?_take_of_lt h1]; simp
    ·next h1 =>
     rw [List.getElem?_append]
     simp only [Array.length_toList,hn2]
     split
     ·next h2=>rw [if_pos (by omega)]; simp
     ·next h2 =>
      rw [if_neg (by omega),List.getElem?_drop]
      simp
      congr 1; omega
   obtain ⟨r1,r2⟩:=B8e (Φ:=g.Φ) (cur':=fun q=>((cur.toList.take (rows.length * i.size)++news.toList++cur.toList.drop (rows.length * i.size + news.toList.length)).toArray)[q]?) hlen hd4 (fun i' r j x hi' hj=>by
    obtain ⟨u,h1,h2⟩:=a9 i' r j x hi' hj
    have hjk:j < i.size:= by have h1:=(List.getElem?_eq_some_iff.1 hj).1; have h2:=hlen r (List.mem_of_getElem? hi'); omega
    have:=M4 (k:=i.size) (List.getElem?_eq_some_iff.1 hi').1
    refine ⟨u,?_,h2⟩
    show _ = _
    rw [get,if_pos (by omega)]; exact h1) (fun i' r j x hi' hj=>by
    obtain ⟨u,h1,h2⟩:=hn5 i' r j x hi' hj
    have hjk:j < i.size:= by have h1:=(List.getElem?_eq_some_iff.1 hj).1; have h2:=hd4 r (List.mem_of_getElem? hi'); omega
    have:=M4 (k:=i.size) (List.getElem?_eq_some_iff.1 hi').1
    refine ⟨u,?_,h2⟩
    show _ = _
    rw [get,if_neg (by omega),if_pos (by omega),Nat.add_sub_cancel_left]; exact h1)
   obtain ⟨g',q1,q2,q3,q4⟩:=hR.grewIn hb hL (new:=new) (cur':=(cur.toList.take (rows.length * i.size)++news.toList++cur.toList.drop (rows.length * i.size + news.toList.length)).toArray) a7 hpos (by simpa using hroom) a6 a8
    (by simp only [List.size_toArray,List.length_append,hlt,List.length_drop,Array.length_toList,hn2]; omega) r1 (fun off ho=>by rw [get,if_pos ho]) a10 a11 r2
   exact ⟨_,_,g',hrun,q1,q2,by rw [q3]; simp,rfl,q4⟩
 ·have hge:=grownCap_ge w (rows.length + new.length) cp0 e
  have hcm:=grownCap_le_maxLen w (rows.length + new.length) cp0 e h63
  have hrun:=A7w (ty:=ty) ht hu hi hz bo cp0 new.length ad cp rows.length hd1 ho1 hroom (by omega) (growslice_fits (by omega) hbytes)
  obtain ⟨r1,r2,r3⟩:=A8l (rows:=rows) (olds:=olds) (Φ:=g.Φ) (need:=rows.length + new.length) (by_:=0) (e:=e) hzs hlen hd4 ho2 hd2 rfl hge ho3 hd5
  obtain ⟨g',q1,q2,q3,q4⟩:=hR.drew.moved hb hL (cur:=olds++newd++Builtin.zeroCells z.cells (grownCap w (rows.length + new.length) cp0 e - (rows.length + new.length))) (e:=e) (rows':=rows++new) hpos
   (by simpa using hge) hcm r2 r1 r3 (by simp [slen]; omega)
  exact ⟨_,_,g',hrun,q1,(Ext.drew H g w).trans q2,by rw [q3]; simp,rfl,q4⟩
theorem C9n (hR:Rel MC P B0 H g w) {t u ty e e2:TypeId} {i:TypeInfo} {z:Value} (ht:P.underlying t = some (.slice e)) (hu:P.underlying u = some (.slice e2)) (hi:P.info? e = some i) (hz:i.zero = some z) {k:Nat} (his:i.size = k) (hpos:0 < k) (hzs:z.cells.size = k)
  {b i0:Nat} {q:List Nat} {rows new:List (List AV)} {v0:Value} (hb:H[b]? = some (.stk k rows q)) (hno:(H.drop (b + 1)).all (fun o=>!o.grew b) = true) (hlt0:b < i0) (hi0:i0 < H.length) (hn0:g.L i0 = .none) (hnew:0 < new.length) (hL:g.L b = .arr k v0) (hbox:V2 MC P g w (.arr k false rows) (.arr k v0)) {ad:Option Addr} {cp:Nat} {news newd:Array Value}
  (hn1:(Builtin.firstCells k new.length (.slice ad new.length cp)).run P w = .ok news w) (hn2:news.size = new.length * k) (hn3:∀x ∈ news.toList,x.oneCell' = true)
  (hn5:∀(i:Nat) (r:List AV) (j:Nat) (x:AV),new[i]? = some r→r[j]? = some x→∃ u,news[i * k + j]? = some u∧Den g.Φ x u)
  (hd1:(Builtin.firstCells k new.length (.slice ad new.length cp)).run P w.drew = .ok newd w.drew) (hd2:newd.size = new.length * k) (hd4:∀r ∈ new,r.length = k)
  (hd5:∀(i:Nat) (r:List AV) (j:Nat) (x:AV),new[i]? = some r→r[j]? = some x→∃ u,newd[i * k + j]? = some u∧Den g.Φ x u)
  (h63:rows.length + new.length≤maxLen) (hbytes:(rows.length + new.length) * i.bytes≤140737488355328) :
  ∃ x w' g',(Builtin.append_ #[t,u] ty #[v0,.slice ad new.length cp]).run P w = .ok x w'∧Rel MC P B0 (H.set i0 (.stk k (rows++new) (b :: q))) g' w'∧Ext H g w (H.set i0 (.stk k (rows++new) (b :: q))) g' w'∧g'.L i0 = .arr k x∧slen x = rows.length + new.length ∧
   x.oneCell' = true∧∀ i,i ≠ i0→g.L i = .none→g'.L i = .none:= by
 subst his
 have hsl:=T4 hbox
 have hmx:maxLen≤9223372036854775807:= by simp [maxLen]
 obtain ⟨_,hk0,hlen,h0⟩:=hbox
 have olds:∃(bo:Option Addr) (cp0:Nat) (olds:Array Value),v0 = .slice bo rows.length cp0∧rows.length≤cp0∧(Builtin.firstCells i.size rows.length (.slice bo rows.length cp0)).run P w.drew = .ok olds w.drew∧olds.size = rows.length * i.size ∧
   (∀ (i':Nat) (r:List AV) (j:Nat) (x:AV),rows[i']? = some r→r[j]? = some x→∃ u,olds[i' * i.size + j]? = some u∧Den g.Φ x u):= by
  rcases h0 with ⟨rfl,rfl⟩ | ⟨β,cp0,e',cur,rfl,a5,a6,a7,a8,a9,a10,a11⟩
  ·exact ⟨none,0,#[],rfl,Nat.le_refl _,by simp [Builtin.firstCells],by simp,by simp⟩
  ·have hsz:rows.length * i.size≤cur.size:= by rw [a8]; exact Nat.mul_le_mul_right _ a5
   refine ⟨_,cp0,((List.range (rows.length * i.size)).map fun m=>(cur[m]?).getD undef).toArray,rfl,a5,?_,by simp,fun i' r j x hi' hj=>?_⟩
   ·simp only [Builtin.firstCells]
    rw [run_loadCells (P:=P) w.drew ⟨β,0,none⟩ (rows.length * i.size) (fun m=>(cur[m]?).getD undef) (fun m hm=>by
     rw [A4t rfl]
     have:w.drew.heap[β]? = some (.cells cur e' (0,0)):=a7
     have hml:m < cur.size:= by omega
     simp [World.cell?,this,hml])]
   ·obtain ⟨u,hu,hd⟩:=a9 i' r j x hi' hj
    have hjk:j < i.size:= by have h1:=(List.getElem?_eq_some_iff.1 hj).1; have h2:=hlen r (List.mem_of_getElem? hi'); omega
    have:=M4 (k:=i.size) (List.getElem?_eq_some_iff.1 hi').1
    have hlt:i' * i.size + j < rows.length * i.size:= by omega
    exact ⟨u,by simp [hlt,hu],hd⟩
 obtain ⟨bo,cp0,olds,rfl,hcp0,ho1,ho2,ho3⟩:=olds
 by_cases hroom:rows.length + new.length≤cp0
 ·rcases h0 with ⟨rfl,hv⟩ | ⟨β,cp1,e',cur,hv,a5,a6,a7,a8,a9,a10,a11⟩
  ·cases hv
   simp at hroom; subst hroom; simp at hnew
  ·cases hv
   have hsz:rows.length * i.size + new.length * i.size≤cur.size:= by rw [a8,← Nat.add_mul]; exact Nat.mul_le_mul_right _ hroom
   have hrun:=B2z (ty:=ty) ht hu hi e' β cp0 new.length ad cp rows.length hn1 hroom a7 (by omega) hn3
   have hlt:(cur.toList.take (rows.length * i.size)).length = rows.length * i.size:= by simp; omega
   have get:∀q,((cur.toList.take (rows.length * i.size)++news.toList++cur.toList.drop (rows.length * i.size + news.toList.length)).toArray)[q]? =
     if q < rows.length * i.size then cur[q]? else if q < rows.length * i.size + new.length * i.size then news[q - rows.length * i.size]? else cur[q]?:= by
    intro q
    simp only [List.getElem?_toArray,List.append_assoc]
    rw [List.getElem?_append,hlt]
    split
    ·next h1=>rw [List.getElem?_take_of_lt h1]; simp
    ·next h1 =>
     rw [List.getElem?_append]
     simp only [Array.length_toList,hn2]
     split
     ·next h2=>rw [if_pos (by omega)]; simp
     ·next h2 =>
      rw [if_neg (by omega),List.getElem?_drop]
      simp
      congr 1; omega
   obtain ⟨r1,r2⟩:=B8e (Φ:=g.Φ) (cur':=fun q=>((cur.toList.take (rows.length * i.size)++news.toList++cur.toList.drop (rows.length * i.size + news.toList.length)).toArray)[q]?) hlen hd4 (fun i' r j x hi' hj=>by
    obtain ⟨u,h1,h2⟩:=a9 i' r j x hi' hj
    have hjk:j < i.size:= by have h1:=(List.getElem?_eq_some_iff.1 hj).1; have h2:=hlen r (List.mem_of_getElem? hi'); omega
    have:=M4 (k:=i.size) (List.getElem?_eq_some_iff.1 hi').1
    refine ⟨u,?_,h2⟩
    show _ = _
    rw [get,if_pos (by omega)]; exact h1) (fun i' r j x hi' hj=>by
    obtain ⟨u,h1,h2⟩:=hn5 i' r j x hi' hj
    have hjk:j < i.size:= by have h1:=(List.getElem?_eq_some_iff.1 hj).1; have h2:=hd4 r (List.mem_of_getElem? hi'); omega
    have:=M4 (k:=i.size) (List.getElem?_eq_some_iff.1 hi').1
    refine ⟨u,?_,h2⟩
    show _ = _
    rw [get,if_neg (by omega),if_pos (by omega),Nat.add_sub_cancel_left]; exact h1)
   obtain ⟨q1,q2⟩:=hR.pushIn hb hno hlt0 hi0 hn0 hL (new:=new) (cur':=(cur.toList.take (rows.length * i.size)++news.toList++cur.toList.drop (rows.length * i.size + news.toList.length)).toArray) a7 hpos hnew (by simpa using hroom) a6 a8
    (by simp only [List.size_toArray,List.length_append,hlt,List.length_drop,Array.length_toList,hn2]; omega) r1 (fun off ho=>by rw [get,if_pos ho]) (a10 rfl) r2
   exact ⟨_,_,_,hrun,q1,q2,by simp [G3],by simp [slen],rfl,fun j hj h=>by simpa [G3,hj] using h⟩
 ·have hge:=grownCap_ge w (rows.length + new.length) cp0 e
  have hcm:=grownCap_le_maxLen w (rows.length + new.length) cp0 e h63
  have hrun:=A7w (ty:=ty) ht hu hi hz bo cp0 new.length ad cp rows.length hd1 ho1 hroom (by omega) (growslice_fits (by omega) hbytes)
  obtain ⟨r1,r2,r3⟩:=A8l (rows:=rows) (olds:=olds) (Φ:=g.Φ) (need:=rows.length + new.length) (by_:=0) (e:=e) hzs hlen hd4 ho2 hd2 rfl hge ho3 hd5
  have q:=hR.drew.alloc hi0 hn0 (.cells (olds++newd++Builtin.zeroCells z.cells (grownCap w (rows.length + new.length) cp0 e - (rows.length + new.length))) e) (o':=.stk i.size (rows++new) (b :: q))
   (gb':=.arr i.size (.slice (some ⟨w.heap.size,0,none⟩) (rows++new).length (grownCap w (rows.length + new.length) cp0 e))) rfl
   ⟨rfl,hpos,r1,.inr ⟨w.heap.size,_,e,_,rfl,by simpa using hge,hcm,heap_alloc_new w.drew _,r2,r3,fun _ off=>hR.phi_none (Nat.le_refl _),by simp⟩⟩
  exact ⟨_,_,_,hrun,q.1,(Ext.drew H g w).trans q.2,by simp [G3],by simp [slen],rfl,fun j hj h=>by simpa [G3,hj] using h⟩
theorem D1k {k by_:Nat} {d x:Opd} {r:Option Nat} {fz:Bool} (hm:C9 P o.op (.append k by_ d x r fz) = true) (hR:Rel MC P B0 H g w) (hS:D4 g s a.tmps) (hF:Free H g n0 (D7 (.append k by_ d x r fz)))
  (h:prim c n0 s H (.append k by_ d x r fz) = some (v,H')):Does MC P B0 a o ((D7 (.append k by_ d x r fz)).map (n0 + ·)) H g w v H':= by
 simp only [C9] at hm
 split at hm
 ·next args argTypes hop =>
  split at hm
  ·next d' x' t u hargs htys =>
   simp only [Bool.and_eq_true] at hm
   obtain ⟨⟨h1,h2⟩,h3⟩:=hm
   split at h1
   ·next e e2 hsl hsl2 =>
    simp only [Bool.and_eq_true] at h1
    obtain ⟨⟨⟨c1,c2⟩,c3⟩,c4⟩:=h1
    have ht:=P6 hsl
    have hu:=P6 hsl2
    have hk:P.cellsOf e = k:= by simpa using c1
    have hby:P.bytesOf e = by_:= by simpa using c2
    have hpos:0 < k:= by simpa using c3
    split at c4
    ·next z hz0 =>
     have hzs:z.cells.size = k:= by simpa using c4
     cases hi:P.info? e with
     | none=>simp [hi] at hz0
     | some i =>
     have hz:i.zero = some z:= by simpa [hi] using hz0
     have his:i.size = k:= by rw [← hk]; simp [Program.cellsOf,hi]
     have hib:i.bytes = by_:= by rw [← hby]; simp [Program.bytesOf,hi]
     have hargs':args = #[d',x']:= by apply Array.ext'; simpa using hargs
     have htys':argTypes = #[t,u]:= by apply Array.ext'; simpa using htys
     subst hargs' htys'
     have hex:∀y w',(Builtin.append_ #[t,u] o.type #[a.eval d',a.eval x']).run P w = .ok y w'→(execOp a.eval o).run P w = .ok (.value y) w':= by
      intro y w' hy
      unfold execOp
      simp only [hop,resolve,invoke,builtin,Sem.run_bind,Sem.run_pure,Result.andThen_ok,List.map_toArray,List.map_cons,List.map_nil,hy]
     simp only [prim] at h
     split at h
     ·next dv xv hd hx =>
      split at h
      ·next new k' hrow hko =>
       split at h
       ·next hcond =>
        simp only [Bool.and_eq_true] at hcond
        have hkk:k = k':=Nat.eq_of_beq_eq_true hcond.1
        subst hkk
        have hfr:=hcond.2
        obtain ⟨ad,cp,hux,hread⟩:=B2t hR (J2 hS h3 hx) hrow hko hfr hpos
        obtain ⟨news,hn1,hn2,hn3,hn4,hn5⟩:=hread new.length (Nat.le_refl _)
        obtain ⟨ad',cp',hux',hread'⟩:=B2t hR.drew (J2 hS h3 hx) hrow hko hfr hpos
        rw [hux] at hux'; cases hux'
        obtain ⟨newd,hd1,hd2,hd3,hd4,hd5⟩:=hread' new.length (Nat.le_refl _)
        have hn5':∀(i:Nat) (r:List AV) (j:Nat) (x:AV),new[i]? = some r→r[j]? = some x→∃ u,news[i * k + j]? = some u∧Den g.Φ x u :=
         fun i r j x h1 h2=>hn5 i r j x (List.getElem?_eq_some_iff.1 h1).1 h1 h2
        have hd5':∀(i:Nat) (r:List AV) (j:Nat) (x:AV),new[i]? = some r→r[j]? = some x→∃ u,newd[i * k + j]? = some u∧Den g.Φ x u :=
         fun i r j x h1 h2=>hd5 i r j x (List.getElem?_eq_some_iff.1 h1).1 h1 h2
        have hVd:=J2 hS h2 hd
        rw [hux] at hex hn1 hd1
        split at h
        ·
         next kd =>
         have hud:a.eval d' = .slice none 0 0:= by
          generalize a.eval d' = ud at hVd
          cases hVd with
          | den _ _ hd=>cases hd; rfl
         rw [hud] at hex
         split at h
         ·next hbnd =>
          by_cases hm0:new.length = 0
          ·have hnew:new = []:=List.eq_nil_of_length_eq_zero hm0
           subst hnew
           have hrun:=hex _ _ (B49 (ty:=o.type) ht hu hi 0 0 ad cp 0 (by rw [his]; exact hn1) (Nat.le_refl _))
           split at h
           ·simp at h
           ·simp at h; obtain ⟨rfl,rfl⟩:=h
            exact ⟨_,_,g,.inl hrun,.den _ _ (.seq0 _ _ _),hR,Ext.refl _ _ _,rfl,fun i _ h=>h⟩
           ·next r' =>
            simp at h; obtain ⟨rfl,rfl⟩:=h
            obtain ⟨hi0,hnn⟩:=hF r' (by simp [D7])
            have:=hR.bare hi0 hnn (o':=.arr k false []) (gb':=.arr k (.slice none 0 0)) rfl ⟨rfl,hpos,by simp,.inl ⟨rfl,rfl⟩⟩
            refine ⟨_,_,_,.inl hrun,?_,this.1,this.2,by simp [hset],A42 (by simp [D7]) _ _⟩
            exact .asl _ _ k (.slice none 0 0) _ (by simp [G3]) (by simp [slen]) rfl (fun _=>rfl)
           ·cases h
          ·have h63:new.length≤maxLen:= by have:=hbnd.2; simp only [maxLen]; omega
           have hb:=hbnd.1
           have hge:=grownCap_ge w (0 + new.length) 0 e
           have hcm:=grownCap_le_maxLen w (0 + new.length) 0 e (by omega)
           have hrun:=hex _ _ (A7w (ty:=o.type) ht hu hi hz none 0 new.length ad cp 0 (news:=newd) (olds:=#[]) (by rw [his]; exact hd1) (by simp [Builtin.firstCells]) (by omega) (by omega)
            (growslice_fits (by omega) (by rw [hib]; have:(0 + new.length) * by_ = new.length * by_:= by rw [Nat.zero_add]
                                           omega)))
           simp only [Nat.zero_add] at hrun hge hcm
           obtain ⟨r1,r2,r3⟩:=A8l (rows:=[]) (olds:=#[]) (Φ:=g.Φ) (need:=new.length) (by_:=by_) (e:=e) hzs (by simp) hd4 (by simp) hd2 (by simp) hge (by simp) hd5'
           generalize hcur:(#[]++newd++Builtin.zeroCells z.cells (grownCap w new.length 0 e - new.length)) = cur at hrun r2 r3
           generalize grownCap w new.length 0 e = cap at hrun hge hcm r2
           simp only [List.nil_append] at r1 r3
           split at h
           ·next r' =>
            split at h
            ·simp at h; obtain ⟨rfl,rfl⟩:=h
             obtain ⟨hi0,hnn⟩:=hF r' (by simp [D7])
             have:=hR.drew.alloc hi0 hnn (.cells cur e) (o':=.stk k new []) (gb':=.arr k (.slice (some ⟨w.heap.size,0,none⟩) new.length cap)) rfl
              ⟨rfl,hpos,r1,.inr ⟨w.heap.size,cap,e,cur,rfl,hge,hcm,heap_alloc_new w.drew _,r2,r3,fun _ off=>hR.phi_none (Nat.le_refl _),by simp⟩⟩
             refine ⟨_,_,_,.inl hrun,?_,this.1,(Ext.drew H g w).trans this.2,by simp [hset],A42 (by simp [D7]) _ _⟩
             exact .asl _ _ k (.slice (some ⟨w.heap.size,0,none⟩) new.length cap) _ (by simp [G3]) (by simp [slen]) rfl (fun _=>rfl)
            ·cases h
           ·simp at h; obtain ⟨rfl,rfl⟩:=h
            obtain ⟨q1,q2⟩:=hR.drew.frozen cur e
            refine ⟨_,_,_,.inl hrun,?_,q1,(Ext.drew H g w).trans q2,rfl,fun i _ h=>h⟩
            refine .den _ _ ?_
            refine .seq _ _ _ _ (fun i j=>(cur[i * k + j]?).getD undef) rfl hge r1 (fun i r j x hi hj=>?_) (fun i r j x hi hj=>?_)
            all_goals obtain ⟨u,hu,hV⟩:=r3 i r j x hi hj
            ·simp [hu]
            ·simp only [hu,Option.getD_some]
             exact hV.mono q2.le.Φ
           ·next r' =>
            simp at h; obtain ⟨rfl,rfl⟩:=h
            obtain ⟨hi0,hnn⟩:=hF r' (by simp [D7])
            have:=hR.drew.alloc hi0 hnn (.cells cur e) (o':=.arr k false new) (gb':=.arr k (.slice (some ⟨w.heap.size,0,none⟩) new.length cap)) rfl
             ⟨rfl,hpos,r1,.inr ⟨w.heap.size,cap,e,cur,rfl,hge,hcm,heap_alloc_new w.drew _,r2,r3,fun _ off=>hR.phi_none (Nat.le_refl _),by simp⟩⟩
            refine ⟨_,_,_,.inl hrun,?_,this.1,(Ext.drew H g w).trans this.2,by simp [hset],A42 (by simp [D7]) _ _⟩
            exact .asl _ _ k (.slice (some ⟨w.heap.size,0,none⟩) new.length cap) _ (by simp [G3]) (by simp [slen]) rfl (fun _=>rfl)
           ·cases h
         ·cases h
        ·
         next b n =>
         split at h
         ·next kk p rows hc =>
          split at h
          ·next hbnd =>
           simp only [Bool.and_eq_true,decide_eq_true_eq] at hbnd
           obtain ⟨⟨⟨d1,d2⟩,d3⟩,d4⟩:=hbnd
           have d1':rows.length = n:=Nat.eq_of_beq_eq_true d1
           have d2':kk = k:=Nat.eq_of_beq_eq_true d2
           subst d1' d2'
           obtain ⟨v0,hL,hbox⟩:=hR.arrW hc
           have hud:=A13 hVd hL (T4 hbox)
           rw [hud] at hex
           obtain ⟨x,w',g',q1,q2,q3,q4,q5,q6⟩:=D0g (ty:=o.type) hR ht hu hi hz his hpos hzs (Y5 hc) hL hbox hn1 hn2 hn3 hn5' hd1 hd2 hd4 hd5' (by have:rows.length + new.length≤1099511627776:=d4; simp only [maxLen]; omega) (by rw [hib]; have:(rows.length + new.length) * by_≤1099511627776:=d3; exact Nat.le_trans this (by decide))
           have hrun:=hex _ _ q1
           have hbx:=q2.box b _ (by simp [(List.getElem?_eq_some_iff.1 (Y5 hc)).1]:(H.set b (.arr kk p (rows++new)))[b]? = some (.arr kk p (rows++new)))
           rw [q4] at hbx
           split at h
           ·cases h
           ·simp at h; obtain ⟨rfl,rfl⟩:=h
            have done:∀(g2:Ghost) (H2:A1),Rel MC P B0 H2 g2 w'→Ext (H.set b (.arr kk p (rows++new))) g' w' H2 g2 w'→Den g2.Φ (.seq kk (rows++new)) x→g2.L = g'.L→(∃ ob,H2[b]? = some ob∧ob.isV = true)→H2.set b .dead = H.set b .dead →
              Does MC P B0 a o ((D7 (.append kk by_ d ‹Opd› none true)).map (n0 + ·)) H g w (.seq kk (rows++new)) (hset H b .dead):= by
             intro g2 H2 e1 e2 e3 e4 e5 e6
             obtain ⟨f1,f2⟩:=e1.kill e5
             rw [e6] at f1 f2
             exact ⟨x,w',g2,.inl hrun,.den _ _ e3,f1,(q3.trans e2).trans f2,by simp [hset],fun i _ h=>by rw [e4]; exact q6 i h⟩
            have hlt:=(List.getElem?_eq_some_iff.1 (Y5 hc)).1
            cases p with
            | true=>exact done g' _ q2 (Ext.refl _ _ _) (B1g hbx) rfl ⟨.arr kk true (rows++new),by simp [hlt],rfl⟩ (by rw [List.set_set])
            | false =>
             obtain ⟨g2,e1,e2,e3,e4⟩:=q2.publish (by simp [hlt]:(H.set b (.arr kk false (rows++new)))[b]? = some (.arr kk false (rows++new))) q4
             exact done g2 _ e1 e2 e4 e3 ⟨.arr kk true (rows++new),by simp [hlt],rfl⟩ (by rw [List.set_set,List.set_set])
           ·simp at h; obtain ⟨rfl,rfl⟩:=h
            have hs1:=T4 hbx
            refine ⟨x,w',g',.inl hrun,?_,q2,q3,by simp [hset],fun i _ h=>q6 i h⟩
            exact .asl _ _ kk x _ q4 (by rw [hs1]; simp) q5 (fun _=>rfl)
          ·cases h
         ·
          split at h
          ·next r' kk rows qq hc =>
           split at h
           ·next hbnd =>
            simp only [Bool.and_eq_true,decide_eq_true_eq] at hbnd
            obtain ⟨⟨⟨⟨⟨⟨⟨d1,d2⟩,d3⟩,d4⟩,d5⟩,d6⟩,d7⟩,d8⟩:=hbnd
            have d1':rows.length = n:=Nat.eq_of_beq_eq_true d1
            have d2':kk = k:=Nat.eq_of_beq_eq_true d2
            have d6':=Nat.le_of_ble_eq_true d6
            subst d1' d2'
            have hb:=C83 hc
            obtain ⟨v0,hL,hbox⟩:=hR.stk (b:=b) (k:=kk) (rows:=rows) (q:=qq) (by unfold hstk hget; rw [hb])
            have hud:=A13 hVd hL (T4 hbox)
            rw [hud] at hex
            obtain ⟨hi0,hnn⟩:=hF r' (by simp [D7])
            obtain ⟨y,w',g',q1,q2,q3,q4,q5,q6,q7⟩:=C9n (ty:=o.type) hR ht hu hi hz his hpos hzs hb d8 (i0:=n0 + r') (by omega) hi0 hnn d5 hL hbox hn1 hn2 hn3 hn5' hd1 hd2 hd4 hd5' (by have:rows.length + new.length≤1099511627776:=d4; simp only [maxLen]; omega) (by rw [hib]; have:(rows.length + new.length) * by_≤1099511627776:=d3; exact Nat.le_trans this (by decide))
            have hrun:=hex _ _ q1
            simp at h; obtain ⟨rfl,rfl⟩:=h
            refine ⟨y,w',g',.inl hrun,?_,q2,q3,by simp [hset],fun j hj h=>q7 j (fun e=>hj (by rw [e]; simp [D7])) h⟩
            exact .asl _ _ kk y _ q4 (by rw [q5]; exact Nat.le_refl _) q6 (fun _=>rfl)
           ·cases h
          ·cases h
        ·cases h
       ·cases h
      ·cases h
     ·cases h
    ·cases c4
   ·cases h1
  ·cases hm
 ·cases hm
end
section
variable {MC:Nat→Code→ACode→Prop} {P:Program} {B0:Nat} {c:Sc} {n0:Nat} {H H':A1} {g:Ghost} {w:World} {s:B4} {a:Act} {o:Oper} {v:AV}
theorem A3w (w:World) {β:Nat} (ob:Obj) (h:β < w.heap.size):(w.putObj β ob).heap[β]? = some ob:= by
 simp [World.putObj,h]
theorem B2r (w:World) {β γ:Nat} (ob:Obj) (h:γ ≠ β):(w.putObj β ob).heap[γ]? = w.heap[γ]?:= by
 simp [World.putObj,Array.getElem?_setIfInBounds_ne (Ne.symm h)]
theorem Rel.put (hR:Rel MC P B0 H g w) {b:Nat} {ob:AO} (hb:H[b]? = some ob) (hw:ob.isV = true) {β:Nat} (hL:(g.L b).blk = some β) (hno:∀off,w.cell? ⟨β,off,none⟩ = none) (new:Obj) {o':AO}
  (hbox:V2 MC P g (w.putObj β new) o'.rd (g.L b)) :
  Rel MC P B0 (H.set b o') g (w.putObj β new)∧Ext H g w (H.set b o') g (w.putObj β new):= by
 have hi:=(List.getElem?_eq_some_iff.1 hb).1
 have eL:G3 g.L b (g.L b) = g.L:= by funext j; simp only [G3]; split; (next e=>rw [e]); rfl
 have hΦ:∀off u,g.Φ β off = some u→False:=fun off u h=>by have:=hR.phi _ _ _ h; rw [hno] at this; cases this
 have:=hR.upd hi (.inl ⟨ob,hb,hw⟩) (o':=o') (gb':=g.L b) (Φ':=g.Φ) (w':=w.putObj β new) rfl rfl rfl (by simp [World.putObj])
  (fun γ hγ hne=>B2r w _ (fun e=>hne (by rw [hL,e]))) (GB.le_refl _) (fun γ hγ=>⟨.inl hγ,by have:=(hR.base b γ hγ).2; simpa [World.putObj] using this⟩) (fun _ _ _ h=>h) (fun _ _ _ _=>rfl)
  (fun γ off u h=>by
   by_cases e:γ = β
   ·subst e; exact (hΦ _ _ h).elim
   ·have e2:(w.putObj β new).cell? ⟨γ,off,none⟩ = w.cell? ⟨γ,off,none⟩:=World.cell?_of_block (B2r w new e)
    rw [e2]; exact hR.phi γ off u h) (by rw [eL]; exact hbox)
 rw [eL] at this
 exact this
theorem D6a {x:Opd} (hm:C9 P o.op (.next x) = true) (hR:Rel MC P B0 H g w) (hS:D4 g s a.tmps) (h:prim c n0 s H (.next x) = some (v,H')):Does MC P B0 a o [] H g w v H':= by
 simp only [C9] at hm
 split at hm
 ·next x' str hop =>
  simp only [Bool.and_eq_true] at hm
  obtain ⟨rfl,h2⟩:=hm
  simp only [prim] at h
  split at h
  ·next b hp =>
   have hV:=J2 hS h2 hp
   split at h
   ·next t pos hg =>
    have hb:H[b]? = some (.iter t pos):=hg
    generalize hev:a.eval x' = u at hV
    cases hV with
    | den _ _ hd=>cases hd
    | itr _ β hL =>
     have hbox:=hR.box b _ hb
     simp only [AO.rd,hL] at hbox
     have hobj:w.heap[β]? = some (.stringIter t pos):=hbox
     have hlt:β < w.heap.size:=(Array.getElem?_eq_some_iff.1 hobj).1
     split at h
     ·next hpos =>
      simp at h; obtain ⟨rfl,rfl⟩:=h
      have:=hR.put hb rfl (β:=β) (by rw [hL]; rfl) (fun off=>by simp [World.cell?,hobj]) (.stringIter t (pos + (Utf8.decode t pos).2)) (o':=.iter t (pos + (Utf8.decode t pos).2))
       (by rw [hL]; exact A3w w _ hlt)
      refine ⟨.tuple #[.bool true,.int .i64 pos,.int .i32 (Utf8.decode t pos).1],_,g,.inl ?_,?_,this.1,this.2,by simp [hset],fun i _ h=>h⟩
      ·simp [execOp,hop,hev,Instr.next,getObj,setObj,Sem.run,hobj,hpos,World.putObj,goInt]
      ·refine .tup _ _ rfl (fun j x hj=>?_)
       rcases j with _ | _ | _ | j <;> simp at hj <;> subst hj <;> exact J8 rfl
     ·next hpos =>
      simp at h; obtain ⟨rfl,rfl⟩:=h
      refine ⟨.tuple #[.bool false],w,g,.inl ?_,?_,hR,Ext.refl _ _ _,rfl,fun i _ h=>h⟩
      ·simp [execOp,hop,hev,Instr.next,getObj,Sem.run,hobj,hpos]
      ·refine .tup _ _ rfl (fun j x hj=>?_)
       rcases j with _ | j <;> simp at hj
       subst hj; exact J8 rfl
   ·cases h
  ·cases h
 ·cases hm
theorem D3m {en:Array MapEntry} {i:Nat} {m:MapEntry} (h:en[i]? = some m) (hb:∀(i:Nat) (m:MapEntry),en[i]? = some m→m.born = i):en.find? (fun x=>x.born == i) = some m:= by
 rw [← Array.find?_toList,List.find?_eq_some_iff_getElem]
 obtain ⟨hi,e⟩:=Array.getElem?_eq_some_iff.1 h
 refine ⟨by simpa using hb i m h,i,by simpa using hi,by simpa using e,fun j hj=>?_⟩
 have hjl:j < en.size:= by omega
 have:=hb j en[j] (Array.getElem?_eq_getElem hjl)
 simp [this]; omega
theorem D31 {x:Opd} (hm:C9 P o.op (.entry x) = true) (hR:Rel MC P B0 H g w) (hS:D4 g s a.tmps) (h:prim c n0 s H (.entry x) = some (v,H')):Does MC P B0 a o [] H g w v H':= by
 simp only [C9] at hm
 split at hm
 ·next x' hop =>
  simp only [prim] at h
  split at h
  ·next b hp =>
   split at h
   ·next e he =>
    simp at h; obtain ⟨rfl,rfl⟩:=h
    have hV:=J2 hS hm hp
    unfold A74 at he
    split at he
    ·next m n seen hg =>
     split at he
     ·next es hes =>
      split at he
      ·next hn =>
       obtain ⟨i,hi,hie⟩:=Option.bind_eq_some_iff.mp he
       have hb:H[b]? = some (.mit m n seen):=hg
       obtain ⟨βm',hLm,en,clock,q1,q2,q3,q4,q5⟩:=hR.map hes
       generalize hev:a.eval x' = u at hV
       cases hV with
       | den _ _ hd=>cases hd
       | itr _ β hL =>
        have hbox:=hR.box b _ hb
        simp only [AO.rd,hL] at hbox
        obtain ⟨βm,l1,l2⟩:=hbox
        rw [hLm] at l1; cases l1
        obtain ⟨me,m1,m2,m3⟩:=q3 i e hie
        have hback:seen.toArray.back? = some i:= by rw [List.back?_toArray]; exact hi
        have hcl:clock = n:= by omega
        refine ⟨.tuple #[me.key,me.val],w,g,.inl ?_,?_,hR,Ext.refl _ _ _,rfl,fun i _ h=>h⟩
        ·simp [execOp,hop,hev,Instr.entry,getObj,Sem.run,l2,q1,hcl,hback,D3m m1 q5]
        ·refine .tup _ _ rfl (fun j x hj=>?_)
         rcases j with _ | _ | j <;> simp at hj
         ·subst hj; exact m2
         ·subst hj; exact m3
      ·cases he
     ·cases he
    ·cases he
   ·cases h
  ·cases h
 ·cases hm
theorem B6p {x y:AV} {u z:Value} (h:A2i x y = some true) (hx:V g x u) (hy:V g y z) (n:Nat):Instr.sameBits n z u = true:= by
 unfold A2i at h
 split at h
 ·split at h
  ·next hk =>
   subst hk
   have e1:=P2 hx; have e2:=P2 hy
   subst e1 e2
   have:‹Int› = ‹Int›:=rfl
   cases n <;> simp [Instr.sameBits] <;> (simp at h; exact h.symm)
  ·cases h
 ·have e1:=P2 hx; have e2:=P2 hy
  subst e1 e2
  cases n <;> simp [Instr.sameBits] <;> (simp at h; exact h.symm)
 ·have e1:=P2 hx; have e2:=P2 hy
  subst e1 e2
  simp at h
  have:∀(a b:ByteArray),a.data = b.data→a = b:=fun a b h=>by cases a; cases b; simp at h; rw [h]
  have e3:=this _ _ h
  subst e3
  cases n <;> (simp only [Instr.sameBits]; rw [beq_toListBytes]; simp)
 ·cases h
theorem B9w:∀{l m:List AV},F3 l m = some true→l.length = m.length∧∀ (j:Nat) x y,l[j]? = some x→m[j]? = some y→A2i x y = some true
 | [],[],_=>⟨rfl,fun j x y h=>by simp at h⟩
 | [],_ :: _,h=>by simp [F3] at h
 | _ :: _,[],h=>by simp [F3] at h
 | x :: l,y :: m,h=>by
  simp only [F3] at h
  split at h
  ·next h1 =>
   obtain ⟨q1,q2⟩:=B9w h
   refine ⟨by simp [q1],fun j x' y' hx hy=>?_⟩
   cases j with
   | zero=>simp at hx hy; subst hx hy; exact h1
   | succ j=>exact q2 j x' y' (by simpa using hx) (by simpa using hy)
  ·cases h
  ·cases h
theorem B6w {ag:Bool} {ks:List Nat} {cs:List AV}:∀{es:List (AV × AV)} {i j:Nat} {x:AV},findKey ag ks cs es i = some (some (j,x)) →
  i≤j∧∃ e l,es[j - i]? = some e∧e.2 = x∧G9 ag e.1 = some l∧kinds ks l = true∧F3 cs l = some true
 | [],i,j,x,h=>by simp [findKey] at h
 | e :: es,i,j,x,h=>by
  simp only [findKey] at h
  split at h
  ·next l hc =>
   split at h
   ·next hk =>
    split at h
    ·next hq =>
     simp at h; obtain ⟨rfl,rfl⟩:=h
     exact ⟨Nat.le_refl _,e,l,by simp,rfl,hc,hk,hq⟩
    ·obtain ⟨q1,e',l',q2,q3⟩:=B6w h
     refine ⟨by omega,e',l',?_,q3⟩
     rw [show j - i = (j - (i + 1)) + 1 by omega]; simpa using q2
    ·cases h
   ·cases h
  ·cases h
theorem D1c {ag:Bool} {cs l:List AV} {key e:AV} {u z:Value} (hc:G9 ag key = some cs) (he:G9 ag e = some l) (hq:F3 cs l = some true) (hu:V g key u) (hz:V g e z):Instr.sameBits 10000 z u = true:= by
 obtain ⟨hl,hat⟩:=B9w hq
 cases ag with
 | true =>
  cases key <;> simp [G9] at hc
  cases e <;> simp [G9] at he
  subst hc he
  obtain ⟨us,rfl,h1,h2⟩:=A6k hu
  obtain ⟨zs,rfl,h3,h4⟩:=A6k hz
  simp only [Instr.sameBits,Bool.and_eq_true]
  refine ⟨by simp; omega,List.all_eq_true.2 fun p hp=>?_⟩
  obtain ⟨j,hj⟩:=List.getElem?_of_mem hp
  have hjl:=(List.getElem?_eq_some_iff.1 hj).1
  simp at hjl
  have e1:=h2 j _ (List.getElem?_eq_getElem (by omega))
  have e2:=h4 j _ (List.getElem?_eq_getElem (by omega))
  have h5:=hat j _ _ (List.getElem?_eq_getElem (by omega)) (List.getElem?_eq_getElem (by omega))
  have:=B6p h5 e1.2.1 e2.2.1 9999
  have hp':p = (zs[j],us[j]):= by
   have:=(List.getElem?_eq_some_iff.1 hj).2
   rw [← this]; simp
  subst hp'
  have f1:j < zs.size:= by omega
  have f2:j < us.size:= by omega
  simpa [f1,f2] using this
 | false =>
  cases key <;> simp [G9] at hc
  cases e <;> simp [G9] at he
  subst hc he
  exact B6p (hat 0 _ _ rfl rfl) hu hz 10000
theorem D59 {ag:Bool} {ks:List Nat} {x y z:Opd} (hm:C9 P o.op (.mupd ag ks x y z) = true) (hR:Rel MC P B0 H g w) (hS:D4 g s a.tmps) (h:prim c n0 s H (.mupd ag ks x y z) = some (v,H')):Does MC P B0 a o [] H g w v H':= by
 simp only [C9] at hm
 split at hm
 ·next t m' k' v' hop =>
  simp only [Bool.and_eq_true] at hm
  obtain ⟨⟨⟨h1,h2⟩,h3⟩,h4⟩:=hm
  split at h1
  ·next kt et hu =>
   simp only [prim] at h
   split at h
   ·next b key val hp hq hr =>
    split at h
    ·next es cs hes hcs =>
     split at h
     ·next hk =>
      simp only [Bool.and_eq_true] at hk
      obtain ⟨⟨hk,_⟩,_⟩:=hk
      have hVk:=J2 hS h3 hq
      have hVv:=J2 hS h4 hr
      have hK:=D75 h1 hVk hcs hk
      have hVm:=J2 hS h2 hp
      have hb:=C0e hes
      have hbox:=hR.box b _ hb
      simp only [AO.rd] at hbox
      generalize hem:a.eval m' = u at hVm
      cases hVm with
      | den _ _ hd=>cases hd
      | mp _ β hL =>
       rw [hL] at hbox
       obtain ⟨en,clock,q1,q2,q3,hborn⟩:=hbox
       have hlt:β < w.heap.size:=(Array.getElem?_eq_some_iff.1 q1).1
       have hfind:∀r,findKey ag ks cs es 0 = some r→∃ r',(Instr.findKey kt (a.eval k') en.toList).run P w = .ok r' w∧(match r with | none=>r' = none | some (j,x)=>∃ z,r' = some (j,z)∧V g x z∧0≤j∧j < 0 + es.length):= by
        intro r hr
        obtain ⟨r',hr',hm⟩:=A9b hK (A9t h1) w es en.toList 0 r (by simpa using q2) (fun j e hj=>by obtain ⟨m,hm,r⟩:=q3 j e hj; exact ⟨m,by simpa using hm,r⟩) hr
        exact ⟨r',B20 (A9t h1) w hr',hm⟩
       have fin:∀(en':Array MapEntry) (clock':Nat) (es':List (AV × AV)),(Instr.mapUpdate t (.map (some β)) (a.eval k') (a.eval v')).run P w = .ok () (w.putObj β (.map en' clock'))→en'.size = es'.length →
         (∀ (i:Nat) (e:AV × AV),es'[i]? = some e→∃ m:MapEntry,en'[i]? = some m∧V g e.1 m.key∧V g e.2 m.val)→(clock' = en'.size∧∀ (i:Nat) (m:MapEntry),en'[i]? = some m→m.born = i)→Does MC P B0 a o [] H g w (.tup []) (hset H b (.map es')):= by
        intro en' clock' es' hrun h5 h6 h7
        have:=hR.put hb rfl (β:=β) (by rw [hL]; rfl) (fun off=>by simp [World.cell?,q1]) (.map en' clock') (o':=.map es') (by
         rw [hL]; exact ⟨en',clock',A3w w _ hlt,h5,h6,h7⟩)
        refine ⟨undef,_,g,.inr ⟨?_,rfl⟩,B6h _,this.1,this.2,by simp [hset],fun i _ h=>h⟩
        simp [execOp,hop,hem,hrun]
       have hkc:=hK.check false w
       split at h
       ·next j xx hr =>
        simp at h; obtain ⟨rfl,rfl⟩:=h
        obtain ⟨r',e1,zz,rfl,e3,_,e5⟩:=hfind _ hr
        obtain ⟨_,e,l,f1,_,f3,f4,f5⟩:=B6w hr
        simp only [Nat.sub_zero] at f1
        obtain ⟨m,m1,m2,m3⟩:=q3 j e f1
        have hbits:=D1c hcs f3 f5 hVk m2
        refine fin (en.modify j fun e=>{ e with key:=a.eval k',val:=a.eval v' }) clock _ ?_ (by simp [q2]) (fun i e' hi=>?_) ⟨by simpa using hborn.1,fun i m' hi=>?_⟩
        ·simp [Instr.mapUpdate,run_underlying hu,getObj,setObj,Sem.run,q1,hkc,e1,m1,Instr.keyThatStays,hbits,World.putObj]
        ·rw [List.getElem?_set] at hi
         by_cases e6:j = i
         ·subst e6
          rw [if_pos rfl,if_pos (by omega)] at hi
          cases hi
          exact ⟨{ m with key:=a.eval k',val:=a.eval v' },by simp [Array.getElem?_modify,m1],hVk,hVv⟩
         ·rw [if_neg e6] at hi
          obtain ⟨m4,m5,m6⟩:=q3 i e' hi
          exact ⟨m4,by rw [Array.getElem?_modify,if_neg e6]; exact m5,m6⟩
        ·rw [Array.getElem?_modify] at hi
         split at hi
         ·next e6 =>
          subst e6
          rw [m1] at hi
          cases hi
          exact hborn.2 j m m1
         ·exact hborn.2 i m' hi
       ·next hr =>
        simp at h; obtain ⟨rfl,rfl⟩:=h
        obtain ⟨r',e1,e2⟩:=hfind _ hr
        simp only at e2
        subst e2
        refine fin (en.push { key:=a.eval k',val:=a.eval v',born:=clock }) (clock + 1) _ ?_ (by simp [q2]) (fun i e' hi=>?_) ⟨by rw [Array.size_push,hborn.1],fun i m' hi=>?_⟩
        ·simp [Instr.mapUpdate,run_underlying hu,getObj,setObj,Sem.run,q1,hkc,e1,World.putObj]
        ·rw [List.getElem?_append] at hi
         split at hi
         ·next h7 =>
          obtain ⟨m4,m5,m6⟩:=q3 i e' hi
          exact ⟨m4,by rw [Array.getElem?_push]; rw [if_neg (by omega)]; exact m5,m6⟩
         ·next h7 =>
          have hi0:i - es.length = 0:= by
           have:=(List.getElem?_eq_some_iff.1 hi).1
           simpa using this
          rw [hi0] at hi
          simp at hi; subst hi
          exact ⟨{ key:=a.eval k',val:=a.eval v',born:=clock },by rw [Array.getElem?_push]; rw [if_pos (by omega)],hVk,hVv⟩
        ·rw [Array.getElem?_push] at hi
         split at hi
         ·next e6=>cases hi; rw [e6]; exact hborn.1
         ·exact hborn.2 i m' hi
       ·cases h
     ·cases h
    ·cases h
   ·cases h
  ·cases h1
 ·cases hm
theorem B4q {k:Nat}:∀(l:List (List AV)),(∀ r ∈ l,r.length = k)→l.flatten.length = l.length * k
 | [],_=>by simp
 | r :: l,h=>by
  rw [List.flatten_cons,List.length_append,h r (List.mem_cons_self ..),B4q l fun x hx=>h x (List.mem_cons_of_mem _ hx),List.length_cons,Nat.succ_mul,Nat.add_comm]
theorem C7a {k:Nat}:∀(l:List (List AV)),(∀ r ∈ l,r.length = k)→∀ {j:Nat} {x:AV},l.flatten[j]? = some x→∃ i r m,l[i]? = some r∧r[m]? = some x∧m < k∧j = i * k + m
 | [],_,j,x,h=>by simp at h
 | r :: l,hl,j,x,h=>by
  have hr:=hl r (List.mem_cons_self ..)
  rw [List.flatten_cons] at h
  by_cases hj:j < k
  ·rw [List.getElem?_append_left (by omega)] at h
   exact ⟨0,r,j,rfl,h,hj,by omega⟩
  ·rw [List.getElem?_append_right (by omega),hr] at h
   obtain ⟨i,r',m,e1,e2,e3,e4⟩:=C7a l (fun x hx=>hl x (List.mem_cons_of_mem _ hx)) h
   refine ⟨i + 1,r',m,by simpa using e1,e2,e3,?_⟩
   rw [Nat.succ_mul]; omega
theorem D57 {k:Nat} {x y:Opd} (hm:C9 P o.op (.copy k x y) = true) (hR:Rel MC P B0 H g w) (hS:D4 g s a.tmps) (h:prim c n0 s H (.copy k x y) = some (v,H')):Does MC P B0 a o [] H g w v H':= by
 simp only [C9] at hm
 split at hm
 ·next args argTypes hop =>
  split at hm
  ·next d' x' t u hargs htys =>
   simp only [Bool.and_eq_true] at hm
   obtain ⟨⟨h1,h2⟩,h3⟩:=hm
   split at h1
   ·next e hsl =>
    simp only [Bool.and_eq_true] at h1
    obtain ⟨⟨c1,c2⟩,c3⟩:=h1
    have ht:=P6 hsl
    have hk:P.cellsOf e = k:= by simpa using c1
    have hpos:0 < k:= by simpa using c3
    have hargs':args = #[d',x']:= by apply Array.ext'; simpa using hargs
    have htys':argTypes = #[t,u]:= by apply Array.ext'; simpa using htys
    subst hargs' htys'
    have hex:∀y w',(Builtin.copy_ #[t,u] o.type #[a.eval d',a.eval x']).run P w = .ok y w'→(execOp a.eval o).run P w = .ok (.value y) w':= by
     intro y w' hy
     unfold execOp
     simp only [hop,resolve,invoke,builtin,Sem.run_bind,Sem.run_pure,Result.andThen_ok,List.map_toArray,List.map_cons,List.map_nil,hy]
    simp only [prim] at h
    split at h
    ·next b n xv hd hx =>
     split at h
     ·next kk rows src k' hc hrow hko =>
      split at h
      ·next hcond =>
       simp only [Bool.and_eq_true] at hcond
       obtain ⟨⟨⟨d1,d2⟩,d3⟩,hfr⟩:=hcond
       have d1':rows.length = n:=Nat.eq_of_beq_eq_true d1
       have d2':kk = k:=Nat.eq_of_beq_eq_true d2
       have d3':k = k':=Nat.eq_of_beq_eq_true d3
       subst d1' d2' d3'
       simp at h; obtain ⟨rfl,rfl⟩:=h
       obtain ⟨ad,cp,hux,hread⟩:=B2t hR (J2 hS h3 hx) hrow hko hfr hpos
       obtain ⟨news,hn1,hn2,hn3,hn4,hn5⟩:=hread (min src.length rows.length) (Nat.min_le_left _ _)
       obtain ⟨v0,hL,hbox⟩:=hR.arrW hc
       have hsl:=T4 hbox
       have hud:=A13 (J2 hS h2 hd) hL hsl
       rw [hux] at hn1
       rw [hux,hud] at hex
       have hb:=Y5 hc
       simp only at hb
       obtain ⟨_,hk0,hlen,h0⟩:=hbox
       rcases h0 with ⟨rfl,rfl⟩ | ⟨β,cp0,e',cur,rfl,a5,a6,a7,a8,a9,a10,a11⟩
       ·simp at hn1 hn2
        refine ⟨_,w,g,.inl (hex (.int .i64 (min src.length 0:Nat)) w ?_),J8 rfl,?_,?_,by simp [hset],fun i _ h=>h⟩
        ·simp [Builtin.copy_,run_underlying ht,Builtin.lenOf,K3 (K2 c2),hk,hn1,goInt]
        ·simp [hset]; rw [B21 hb]; exact hR
        ·simp [hset]; rw [B21 hb]; exact Ext.refl _ _ _
       ·generalize hq:min src.length rows.length = q at *
        have hql:q≤rows.length:= by omega
        have hqs:q≤src.length:= by omega
        have hsz:q * kk≤cur.size:= by rw [a8]; exact Nat.mul_le_mul_right _ (by omega)
        have hst:=run_storeCells_at P β 0 e' news.toList 0 cur w a7 (by simp [hn2]; omega) hn3
        simp only [Nat.add_zero,Nat.zero_add,List.take_zero,List.nil_append] at hst
        have get:∀j,((news.toList++cur.toList.drop news.toList.length).toArray)[j]? = if j < q * kk then news[j]? else cur[j]?:= by
         intro j
         simp only [List.getElem?_toArray]
         rw [List.getElem?_append]
         simp only [Array.length_toList,hn2]
         split
         ·simp
         ·next h2 =>
          rw [List.getElem?_drop]; simp
          congr 1; omega
        have eL:G3 g.L b (g.L b) = g.L:= by funext j; simp only [G3]; split; (next e=>rw [e]); rfl
        have hW:=hR.write (b:=b) ⟨_,hb,rfl⟩ (by rw [hL]; rfl) a7 (news.toList++cur.toList.drop news.toList.length).toArray
         (o':=.arr kk false (src.take q++rows.drop q)) (gb':=g.L b) (GB.le_refl _) (by rw [hL]; rfl) (fun off hs=>by rw [a10 rfl off] at hs; cases hs)
         (Φ':=g.Φ) (fun _ _ _=>rfl) (fun _ _ h=>h) (fun off u h=>by rw [a10 rfl off] at h; cases h) (by
          have hl2:(src.take q++rows.drop q).length = rows.length:= by simp; omega
          rw [hL]
          refine ⟨rfl,hk0,fun r hr=>?_,.inr ⟨β,cp0,e',_,by rw [hl2],by omega,a6,setRow_heap w _ cur _ e' (0,0) a7,?_,fun i r j x hi hj=>?_,fun _ off=>a10 rfl off,by simp⟩⟩
          ·rcases List.mem_append.1 hr with h | h
           ·exact hn4 r (List.mem_of_mem_take h)
           ·exact hlen r (List.mem_of_mem_drop h)
          ·simp [hn2]; omega
          ·rw [get]
           rw [List.getElem?_append] at hi
           have htl:(src.take q).length = q:= by simp; omega
           rw [htl] at hi
           split at hi
           ·next hiq =>
            rw [List.getElem?_take_of_lt hiq] at hi
            have hjk:j < kk:= by have h1:=(List.getElem?_eq_some_iff.1 hj).1; have h2:=hn4 r (List.mem_of_getElem? hi); omega
            have:=M4 (k:=kk) hiq
            rw [if_pos (by omega)]
            obtain ⟨u,e1,e2⟩:=hn5 i r j x hiq hi hj
            exact ⟨u,e1,e2⟩
           ·next hiq =>
            rw [List.getElem?_drop] at hi
            rw [show q + (i - q) = i by omega] at hi
            have:q * kk≤i * kk:=Nat.mul_le_mul_right _ (by omega)
            rw [if_neg (by omega)]
            obtain ⟨u,e1,e2⟩:=a9 i r j x hi hj
            exact ⟨u,e1,e2⟩)
        rw [eL] at hW
        refine ⟨_,_,g,.inl (hex (.int .i64 (q:Nat)) _ ?_),J8 rfl,hW.1,hW.2,by simp [hset],fun i _ h=>h⟩
        have hmin:Nat.min src.length rows.length = q:=hq
        simp [Builtin.copy_,run_underlying ht,Builtin.lenOf,K3 (K2 c2),hk,hmin,hn1,goInt,hst]
      ·cases h
     ·cases h
    ·next b off kk n xv hd hx =>
     split at h
     ·next cs src k' hc hrow hko =>
      split at h
      ·next hcond =>
       simp only [Bool.and_eq_true] at hcond
       obtain ⟨⟨⟨d1,d2⟩,hfr⟩,d3⟩:=hcond
       have d1':kk = k:=Nat.eq_of_beq_eq_true d1
       have d2':k = k':=Nat.eq_of_beq_eq_true d2
       have d3':=Nat.le_of_ble_eq_true d3
       subst d1' d2'
       simp only [Option.some.injEq,Prod.mk.injEq] at h; obtain ⟨rfl,rfl⟩:=h
       obtain ⟨ad,cp,hux,hread⟩:=B2t hR (J2 hS h3 hx) hrow hko hfr hpos
       obtain ⟨news,hn1,hn2,hn3,hn4,hn5⟩:=hread (min src.length n) (Nat.min_le_left _ _)
       have hV:=J2 hS h2 hd
       generalize hev:a.eval d' = ud at hV
       cases hV with
       | den _ _ hd=>cases hd
       | csa _ _ _ _ _ _ _ _ hL =>
        have hbox:=hR.box b _ (R7 hc)
        simp only [AO.rd] at hbox
        rw [hL] at hbox
        exact hbox.elim
       | csl _ _ _ _ β c e hL hcn =>
        have hbox:=hR.box b _ (R7 hc)
        simp only [AO.rd] at hbox
        rw [hL] at hbox
        obtain ⟨cur,c1,c2',c3',c4⟩:=hbox
        have hC:R9 g cs cur:=⟨c2',c3'⟩
        generalize hq:min src.length n = q at *
        have hqs:q≤src.length:= by omega
        have hlen:∀r ∈ src.take q,r.length = kk:=fun r hr=>hn4 r (List.mem_of_mem_take hr)
        have hfl:(src.take q).flatten.length = q * kk:= by rw [B4q _ hlen,List.length_take,Nat.min_eq_left hqs]
        have hN:R9 g (src.take q).flatten news:=⟨by rw [hn2,hfl],fun j x hj=>by
         obtain ⟨i,r,m,e1,e2,e3,e4⟩:=C7a _ hlen hj
         have hiq:i < q:= by have:=(List.getElem?_eq_some_iff.1 e1).1; rw [List.length_take] at this; omega
         rw [List.getElem?_take_of_lt hiq] at e1
         obtain ⟨z,z1,z2⟩:=hn5 i r m x hiq e1 e2
         subst e4
         exact ⟨z,z1,.den _ _ z2,z2.one⟩⟩
        have hst:=run_storeCells_at P β off e news.toList 0 cur w c1 (by simp [hn2,c2']; omega) hn3
        simp only [Nat.add_zero] at hst
        have hW:=hR.write_cells hc hL (C2l hC hN (off:=off) (by rw [hfl]; exact d3'))
        rw [hux,hev] at hex
        rw [hux] at hn1
        refine ⟨_,_,g,.inl (hex (.int .i64 (q:Nat)) _ ?_),J8 rfl,hW.1,hW.2,by simp [hset],fun i _ h=>h⟩
        have hmin:Nat.min src.length n = q:=hq
        simp [Builtin.copy_,run_underlying ht,Builtin.lenOf,K3 (K2 c2),hk,hmin,hn1,goInt,hst]
      ·cases h
     ·cases h
    ·cases h
   ·cases h1
  ·cases hm
 ·cases hm
end
theorem C9u {H:A1} {v:AV} {k:Nat} {rows:List (List AV)} (h:A5h H v = some (k,rows)):Q9 H v = some (.seq k rows,H):= by
 unfold A5h at h
 split at h
 ·simp only [Option.some.injEq,Prod.mk.injEq] at h; obtain ⟨rfl,rfl⟩:=h; rfl
 ·next b n =>
  split at h
  ·next k' rows' hr =>
   split at h
   ·next hn=>simp only [Option.some.injEq,Prod.mk.injEq] at h; obtain ⟨rfl,rfl⟩:=h; simp only [Q9,frv,hr,hn,if_true]
   ·cases h
  ·cases h
 ·cases h
def D4m:AOp→Bool
 | .load (some 0) _=>false
 | _=>true
section
variable {MC:Nat→Code→ACode→Prop} {P:Program} {B0:Nat} {c:Sc} {n0:Nat} {H H':A1} {g:Ghost} {w:World} {s:B4} {a:Act} {o:Oper} {v:AV}
theorem D1m {k:Nat} {x:Opd} {lo hi:Option Opd} (hm:C9 P o.op (.sliceQ k x lo hi) = true) (hR:Rel MC P B0 H g w) (hS:D4 g s a.tmps) (h:prim c n0 s H (.sliceQ k x lo hi) = some (v,H')):Does MC P B0 a o [] H g w v H':= by
 have hm':C9 P o.op (.sliceL k x lo hi) = true:= by simpa only [C9] using hm
 refine B7e hm' hR hS (c:=c) (n0:=n0) ?_
 simp only [prim] at h ⊢
 cases he:ev s x with
 | none=>rw [he] at h; cases h
 | some u =>
  rw [he,Option.bind_some] at h
  cases hu:A5h H u with
  | none=>rw [hu] at h; cases h
  | some r =>
   obtain ⟨k',rows⟩:=r
   rw [hu] at h
   simp only [C9u hu]
   exact h
theorem Does.mono {X Y:List Nat} (h:Does MC P B0 a o X H g w v H') (hXY:∀i ∈ X,i ∈ Y):Does MC P B0 a o Y H g w v H':= by
 obtain ⟨x,w',g',h1,h2,h3,h4,h5,h6⟩:=h
 exact ⟨x,w',g',h1,h2,h3,h4,h5,fun i hi hn=>h6 i (fun hx=>hi (hXY i hx)) hn⟩
end
def AO.bdP (N:Nat):AO→Prop
 | .loop _ s _ _ _ _ _=>∀ t v,sget s t = some v→v.bd N = true
 | .ro o=>o.bdP N
 | .cells cs=>bdL N cs = true
 | .map es=>bdE N es = true
 | .mit m _ _=>m < N
 | _=>True
structure ScOk (c:Sc) (H:A1):Prop where
 cur:c.cur≤H.length
 out:∀B ∈ c.outer,B≤c.cur
 bd:∀B ∈ c.cur :: c.outer,∀ i,i < B→∀ o,H[i]? = some o→o.bdP B
theorem ScOk.set {c:Sc} {H:A1} (h:ScOk c H) (i:Nat) (o':AO) (hb:∀B ∈ c.cur :: c.outer,i < B→o'.bdP B):ScOk c (hset H i o') where
 cur:= by simpa [hset] using h.cur
 out:=h.out
 bd:=fun B hB j hj o ho=>by
  simp only [hset,List.getElem?_set] at ho
  split at ho
  ·next e =>
   split at ho
   ·cases ho; exact hb B hB (by omega)
   ·cases ho
  ·exact h.bd B hB j hj o ho
theorem ScOk.setNew {c:Sc} {H:A1} (h:ScOk c H) (i:Nat) (hi:c.cur≤i) (o':AO):ScOk c (hset H i o') :=
 h.set i o' (fun B hB hlt=>by
  rcases List.mem_cons.1 hB with rfl | hB
  ·omega
  ·have:=h.out B hB; omega)
theorem ScOk.setTriv {c:Sc} {H:A1} (h:ScOk c H) (i:Nat) (o':AO) (ht:∀B,o'.bdP B):ScOk c (hset H i o'):=h.set i o' (fun B _ _=>ht B)
theorem A0p {N:Nat}:∀{l:List AV},bdL N l = true↔∀ x ∈ l,x.bd N = true
 | []=>by simp [bdL]
 | x :: l=>by simp [bdL,A0p (l:=l)]
theorem C1d {N:Nat}:∀{l:List (List AV)},bdR N l = true↔∀ r ∈ l,∀ x ∈ r,x.bd N = true
 | []=>by simp [bdR]
 | x :: l=>by simp [bdR,A0p,C1d (l:=l)]
theorem B5y {N:Nat}:∀{l:List (AV × AV)},bdE N l = true↔∀ e ∈ l,e.1.bd N = true∧e.2.bd N = true
 | []=>by simp [bdE]
 | x :: l=>by simp [bdE,B5y (l:=l)]
theorem D2n {v:AV} (h:v.plain = true) (N:Nat):v.bd N = true:= by cases v <;> simp [AV.plain] at h <;> simp [AV.bd]
theorem C5z {v:AV} (h:v.frz = true) (N:Nat):v.bd N = true:= by cases v <;> simp [AV.frz] at h <;> simp [AV.bd]
theorem C13 {c:Sc} {b:Nat}:∀{l:List AV},c.okL b l = true↔∀ x ∈ l,c.ok b x = true
 | []=>by simp [Sc.okL]
 | x :: l=>by simp [Sc.okL,C13 (l:=l)]
theorem D5j {c:Sc} {b:Nat} {v:AV} (h:c.ok b v = true) (hout:∀B ∈ c.outer,B≤c.cur) {B:Nat} (hB:B ∈ c.cur :: c.outer) (hb:b < B):v.bd B = true:= by
 simp only [Sc.ok,Bool.or_eq_true,Bool.and_eq_true,Nat.ble_eq,List.all_eq_true] at h
 have hlt:¬ c.cur≤b:= by
  rcases List.mem_cons.1 hB with rfl | hB'
  ·omega
  ·have:=hout B hB'; omega
 rcases h with (h | h) | ⟨h,h2⟩
 ·exact absurd h hlt
 ·exact D2n h B
 ·rcases List.mem_cons.1 hB with rfl | hB'
  ·exact h.resolve_left hlt
  ·exact (h2 B hB').resolve_left (by omega)
theorem B8k {cs:List AV} {o:Nat} {new:List AV} {x:AV} (h:x ∈ splice cs o new):x ∈ cs∨x ∈ new:= by
 simp only [splice,List.mem_append] at h
 rcases h with (h | h) | h
 ·exact .inl (List.mem_of_mem_take h)
 ·exact .inr h
 ·exact .inl (List.mem_of_mem_drop h)
theorem C5y {c:Sc} {H H':A1} {v v':AV} (h:ScOk c H) (hf:frv H v = some (v',H')):ScOk c H':= by
 unfold frv at hf
 repeat' split at hf
 all_goals (try cases hf)
 all_goals first
  | exact h
  | exact h.setTriv _ _ (fun _=>trivial)
theorem B54 {c:Sc}:∀{l l':List AV} {H H':A1},ScOk c H→U6 H l = some (l',H')→ScOk c H'
 | [],l',H,H',h,hf=>by simp only [U6,Option.some.injEq,Prod.mk.injEq] at hf; exact hf.2 ▸ h
 | v :: l,l',H,H',h,hf=>by
  simp only [U6] at hf
  split at hf
  ·cases hf
  ·next v1 H1 e1 =>
   split at hf
   ·cases hf
   ·next l2 H2 e2 =>
    simp only [Option.some.injEq,Prod.mk.injEq] at hf
    exact hf.2 ▸ B54 (C5y h e1) e2
theorem B52 {c:Sc} {H H':A1} {v v':AV} (h:ScOk c H) (hf:Q9 H v = some (v',H')):ScOk c H':= by
 unfold Q9 at hf
 split at hf
 ·next cs =>
  cases hl:U6 H cs with
  | none=>simp [hl] at hf
  | some r=>simp only [hl,Option.map_some,Option.some.injEq,Prod.mk.injEq] at hf; exact hf.2 ▸ B54 h (l':=r.1) (H':=r.2) hl
 ·cases hf; exact h
 ·exact C5y h hf
theorem C3k {c:Sc}:∀{l l':List AV} {H H':A1},ScOk c H→P3 H l = some (l',H')→ScOk c H'
 | [],l',H,H',h,hf=>by simp only [P3,Option.some.injEq,Prod.mk.injEq] at hf; exact hf.2 ▸ h
 | v :: l,l',H,H',h,hf=>by
  simp only [P3] at hf
  split at hf
  ·cases hf
  ·next v1 H1 e1 =>
   split at hf
   ·cases hf
   ·next l2 H2 e2 =>
    simp only [Option.some.injEq,Prod.mk.injEq] at hf
    exact hf.2 ▸ C3k (B52 h e1) e2
theorem D5x {N:Nat} {H H':A1} {v v':AV} (hf:frv H v = some (v',H')) (h:v.bd N = true):v'.bd N = true:= by
 unfold frv at hf
 repeat' split at hf
 all_goals (try cases hf)
 all_goals first
  | exact h
  | simp only [AV.bd]
theorem C7d {N:Nat}:∀{l l':List AV} {H H':A1},U6 H l = some (l',H')→bdL N l = true→bdL N l' = true
 | [],l',H,H',hf,h=>by simp only [U6,Option.some.injEq,Prod.mk.injEq] at hf; exact hf.1 ▸ h
 | v :: l,l',H,H',hf,h=>by
  simp only [U6] at hf
  simp only [bdL,Bool.and_eq_true] at h
  split at hf
  ·cases hf
  ·next v1 H1 e1 =>
   split at hf
   ·cases hf
   ·next l2 H2 e2 =>
    simp only [Option.some.injEq,Prod.mk.injEq] at hf
    rw [← hf.1]
    simp only [bdL,D5x e1 h.1,C7d e2 h.2,Bool.and_self]
theorem C5w {c:Sc} {H H':A1} {v:AV} (h:ScOk c H) (hf:T7 H v = some H'):ScOk c H':= by
 have other:(Q9 H v).map (·.2) = some H'→ScOk c H':= by
  intro h0
  obtain ⟨r,h1,h2⟩:=Option.map_eq_some_iff.1 h0
  subst h2
  exact B52 h (v':=r.1) (H':=r.2) h1
 cases v with
 | ptr b off =>
  simp only [T7] at hf
  split at hf
  ·next cs hc =>
   split at hf
   ·next r e =>
    split at hf
    ·next cs1 hc1 =>
     simp only [Option.some.injEq] at hf
     subst hf
     refine (B54 h (l':=r.1) (H':=r.2) e).set _ _ (fun B hB hb=>?_)
     have:=h.bd B hB b hb _ (R7 hc)
     simp only [AO.bdP] at this ⊢
     exact C7d (l':=r.1) (H':=r.2) e this
    ·cases hf
   ·cases hf
  ·cases hf
 | _=>exact other hf
theorem B75 {c:Sc} {s:B4}:∀{l:List Nat} {H H':A1},ScOk c H→publish s H l = some H'→ScOk c H'
 | [],H,H',h,hf=>by simp only [publish,Option.some.injEq] at hf; exact hf ▸ h
 | t :: l,H,H',h,hf=>by
  simp only [publish] at hf
  split at hf
  ·split at hf
   ·next r e1=>exact B75 (C5w h e1) hf
   ·cases hf
  ·cases hf
theorem B8i {c:Sc} {n0:Nat} (hn:c.cur≤n0):∀{owns:List (Nat × Nat × Nat)} {zs zs':List AV} {H H':A1},ScOk c H→M8 n0 owns zs H = (zs',H')→ScOk c H'
 | [],zs,zs',H,H',h,hf=>by simp only [M8,Prod.mk.injEq] at hf; exact hf.2 ▸ h
 | (j,r,k) :: l,zs,zs',H,H',h,hf=>by simp only [M8] at hf; exact B8i hn (h.setNew _ (by omega) _) hf
theorem A1r {α:Type} {f:α→AV} {x:Option α} {H H':A1} {v:AV} (h:x.map (fun y=>(f y,H)) = some (v,H')):H' = H:= by
 cases x <;> simp at h; exact h.2.symm
theorem D4u {c:Sc} {n0:Nat} {s:B4} {H H':A1} {op:AOp} {v:AV} (h:ScOk c H) (hn:c.cur≤n0) (hp:prim c n0 s H op = some (v,H')):ScOk c H':= by
 have hset1:∀{r:Nat} {o':AO},ScOk c (hset H (n0 + r) o'):=fun {r o'}=>h.setNew _ (by omega) _
 cases op with
 | nil k r=>simp only [prim,Option.some.injEq,Prod.mk.injEq] at hp; exact hp.2 ▸ hset1
 | mkmap r=>simp only [prim,Option.some.injEq,Prod.mk.injEq] at hp; exact hp.2 ▸ hset1
 | alloc zs owns r =>
  simp only [prim,Option.some.injEq,Prod.mk.injEq] at hp
  have:=B8i hn h (zs:=zs) (owns:=owns) (n0:=n0) (zs':=(M8 n0 owns zs H).1) (H':=(M8 n0 owns zs H).2) rfl
  exact hp.2 ▸ this.setNew _ (by omega) _
 | storeN x k r =>
  simp only [prim] at hp
  split at hp
  ·next b o e1 =>
   split at hp
   ·next cs hc =>
    split at hp
    ·next hif =>
     simp only [Option.some.injEq,Prod.mk.injEq] at hp
     simp only [Bool.and_eq_true] at hif
     have h1:ScOk c (hset H (n0 + r) (.arr k false [])):=hset1
     refine hp.2 ▸ h1.set _ _ (fun B hB hb=>?_)
     simp only [AO.bdP,A0p]
     intro x hx
     rcases B8k hx with hx | hx
     ·have hg:=R7 hc
      have:=h1.bd B hB b hb _ hg
      simp only [AO.bdP,A0p] at this
      exact this x hx
     ·exact D5j (C13.1 hif.2 x hx) h1.out hB hb
    ·cases hp
   ·cases hp
  ·cases hp
 | store k x y =>
  simp only [prim] at hp
  split at hp
  ·next b o u e1 e2 =>
   split at hp
   ·next cs hc =>
    split at hp
    ·next hif =>
     simp only [Option.some.injEq,Prod.mk.injEq] at hp
     simp only [Bool.and_eq_true] at hif
     refine hp.2 ▸ h.set _ _ (fun B hB hb=>?_)
     simp only [AO.bdP,A0p]
     intro x hx
     rcases B8k hx with hx | hx
     ·have hg:=R7 hc
      have:=h.bd B hB b hb _ hg
      simp only [AO.bdP,A0p] at this
      exact this x hx
     ·exact D5j (C13.1 hif.2 x hx) h.out hB hb
    ·cases hp
   ·cases hp
  ·next b n i o u e1 e2 =>
   split at hp
   ·cases hp
   ·next cs H1 hf =>
    have h1:=B54 h hf
    repeat' split at hp
    all_goals (try cases hp)
    exact h1.setTriv _ _ (fun _=>trivial)
  ·cases hp
 | mupd ag ks x y z =>
  simp only [prim] at hp
  split at hp
  ·next b key u e1 e2 e3 =>
   split at hp
   ·next es cs hm hk =>
    split at hp
    ·next hif =>
     simp only [Bool.and_eq_true] at hif
     have hkey:∀B,key.bd B = true:= by
      intro B
      have hkk:∀(ks:List Nat) (cs:List AV),kinds ks cs = true→∀ x ∈ cs,x.bd B = true:= by
       intro ks cs
       induction ks,cs using kinds.induct <;> simp_all [kinds,AV.bd]
      have h2:=hkk ks cs hif.1.1
      revert hk
      unfold G9
      split
      ·intro hk; cases hk; simpa only [AV.bd,A0p] using h2
      ·intro hk; cases hk; simp [AV.bd]
      ·intro hk; cases hk
     have hval:∀B,u.bd B = true:= by
      intro B
      have h2:=hif.1.2
      have h3:=hif.2
      rw [List.all_eq_true] at h2
      cases u <;> simp only [AV.cellsOf] at h2 h3 <;> first
       | (rename_i cs'; simp only [AV.bd,A0p]; exact fun x hx=>C5z (h2 x hx) B)
       | (simp at h3; done)
       | exact C5z (h2 _ (by simp)) B
     have hset:∀es',(∀ e ∈ es',e ∈ es∨e = (key,u))→ScOk c (hset H b (.map es')):= by
      intro es' hes
      refine h.set _ _ (fun B hB hb=>?_)
      have hg:=C0e hm
      have:=h.bd B hB b hb _ hg
      simp only [AO.bdP,B5y] at this ⊢
      intro e he
      rcases hes e he with he | rfl
      ·exact this e he
      ·exact ⟨hkey B,hval B⟩
     split at hp
     ·simp only [Option.some.injEq,Prod.mk.injEq] at hp
      exact hp.2 ▸ hset _ (fun e he=>by rcases List.mem_or_eq_of_mem_set he with h | h <;> simp [h])
     ·simp only [Option.some.injEq,Prod.mk.injEq] at hp
      exact hp.2 ▸ hset _ (fun e he=>by simpa using he)
     ·cases hp
    ·cases hp
   ·cases hp
  ·cases hp
 | copy k x y =>
  simp only [prim] at hp
  split at hp
  ·repeat' split at hp
   all_goals first
    | (cases hp; done)
    | (simp only [Option.some.injEq,Prod.mk.injEq] at hp; exact hp.2 ▸ h.setTriv _ _ (fun _=>trivial))
  ·next b o kk n u e1 e2 =>
   split at hp
   ·next cs src k' hc hr hk =>
    split at hp
    ·next hif =>
     simp only [Bool.and_eq_true] at hif
     simp only [Option.some.injEq,Prod.mk.injEq] at hp
     obtain ⟨_,rfl⟩:=hp
     refine h.set _ _ (fun B hB hb=>?_)
     have:=h.bd B hB b hb _ (R7 hc)
     simp only [AO.bdP,A0p] at this ⊢
     intro x hx
     unfold splice at hx
     rcases List.mem_append.1 hx with hx | hx
     ·rcases List.mem_append.1 hx with hx | hx
      ·exact this x (List.mem_of_mem_take hx)
      ·obtain ⟨r,hr1,hr2⟩:=List.mem_flatten.1 hx
       have hf:=hif.1.2
       unfold B10 at hf
       exact C5z (List.all_eq_true.1 (List.all_eq_true.1 hf r (List.mem_of_mem_take hr1)) x hr2) B
     ·exact this x (List.mem_of_mem_drop hx)
    ·cases hp
   ·cases hp
  ·cases hp
 | mvz x =>
  simp only [prim] at hp
  split at hp
  ·exact B52 h hp
  ·cases hp
 | sliceL k x lo hi =>
  simp only [prim] at hp
  split at hp
  ·split at hp
   ·next rows H1 hf =>
    have h1:=B52 h hf
    repeat' split at hp
    all_goals (try cases hp)
    exact h1
   ·cases hp
  ·cases hp
 | load k x =>
  cases k <;> simp only [prim] at hp <;> (repeat' split at hp) <;> first
   | (cases hp; done)
   | (simp only [Option.some.injEq,Prod.mk.injEq] at hp; exact hp.2 ▸ h)
 | cut k x hi r =>
  simp only [prim] at hp
  repeat' split at hp
  all_goals first
   | (cases hp; done)
   | skip
  simp only [Option.some.injEq,Prod.mk.injEq] at hp
  obtain ⟨_,rfl⟩:=hp
  exact (h.setTriv _ .dead (fun _=>trivial)).setNew _ (by omega) _
 | build z parts =>
  simp only [prim,Option.bind_eq_some_iff] at hp
  obtain ⟨ps,_,hp⟩:=hp
  exact A1r hp ▸ h
 | xlits k z n parts =>
  simp only [prim,Option.bind_eq_some_iff] at hp
  obtain ⟨ps,_,hp⟩:=hp
  exact A1r hp ▸ h
 | lits k z n parts own =>
  simp only [prim,Option.bind_eq_some_iff] at hp
  obtain ⟨ps,_,rows,_,hp⟩:=hp
  repeat' split at hp
  all_goals (try cases hp)
  ·exact h
  ·exact hset1
 | _ =>
  simp only [prim] at hp
  first
  | exact A1r hp ▸ h
  | (repeat' split at hp) <;> first
    | (cases hp; done)
    | (simp only [Option.some.injEq,Prod.mk.injEq] at hp; first | exact hp.2 ▸ h | exact hp.2 ▸ hset1 | exact hp.2 ▸ h.setTriv _ _ (fun _=>trivial) | exact hp.2 ▸ (h.setTriv _ _ (fun _=>trivial)).setNew _ (by omega) _)
    | exact A1r hp ▸ h
    | skip
def B04:List Nat→Bool
 | []=>true
 | x :: l=>!l.contains x && B04 l
theorem A43:∀{l:List Nat},B04 l = true→l.Nodup
 | [],_=>.nil
 | x :: l,h=>by
  simp only [B04,Bool.and_eq_true,Bool.not_eq_true',List.contains_eq_mem,decide_eq_false_iff_not] at h
  exact List.nodup_cons.2 ⟨h.1,A43 h.2⟩
def B02 (ops:Array Oper):Option (Nat × Bool)→Option (Nat × Bool)→Bool
 | none,none=>true
 | some (j,want),some (t,want')=>want == want' && (match ops[j]? with | some q=>q.dst == some t | none=>false)
 | _,_=>false
def C1c (l m:List Nat):Bool:=l.all fun x=>!m.contains x
def A4q (P:Program) (ops:Array Oper) (nt:Nat) (ao:AOper):Bool :=
 match ops[ao.src]? with
 | none=>false
 | some o=>C9 P o.op ao.op && D4m ao.op && o.dst == ao.dst && (match ao.dst with | some d=>decide (d < nt) | none=>true) && B02 ops o.guard ao.guard && C1c (D7 ao.op) ao.hid
def masks (ops:List Oper) (acc:List Nat):List Nat :=
 match ops with
 | []=>acc
 | o :: l=>masks l (acc++[o.after.toList.foldl (fun m e=>if Region.binds .any e then m ||| 2 ^ e.on ||| acc.getD e.on 0 else m) 0])
def X2 (op:AOp):Bool:=(L7 op).isSome || (match op with | .call ..=>true | _=>false) || writes op
def isR (op:AOp):Bool:=(L7 op).isSome
def M5:Opd→List Nat
 | .t i=>[i]
 | _=>[]
def B2k:Option Opd→List Nat
 | some x=>M5 x
 | none=>[]
def A02:AOp→List Nat
 | .mv x | .mvz x | .storeN x _ _ | .box _ x _ | .load _ x | .nilck x | .un _ x | .conv _ x | .idc x | .nilq _ x | .fieldAddr _ x | .field _ _ x | .range x _ | .rangeM x _ | .next x | .entry x | .extract x _ | .lenS x | .lenL x | .lenM x | .clear _ _ x=>M5 x
 | .pick x y z | .mupd _ _ x y z=>M5 x++M5 y++M5 z
 | .nil _ _ | .alloc _ _ _ | .mkmap _=>[]
 | .build _ ps=>ps.flatMap fun q=>M5 q.2.2
 | .lits _ _ _ ps _ | .xlits _ _ _ ps=>ps.flatMap fun q=>M5 q.2
 | .store _ x y | .bin _ x y | .beq _ x y | .cmp _ _ x y | .idxS _ x y | .idxA _ _ x y | .idxStr x y | .idxAgg _ _ _ x y | .lookup _ _ _ x y _ | .append _ _ x y _ _ | .copy _ x y | .mkslice _ _ _ x y _=>M5 x++M5 y
 | .mkfn _ x y=>x.flatMap M5++y.flatMap M5
 | .sliceS x l h | .sliceL _ x l h | .sliceQ _ x l h | .sub _ x l h=>M5 x++B2k l++B2k h
 | .mm _ xs=>xs.flatMap M5
 | .cut _ x h _ | .sliceA _ _ x h=>M5 x++B2k h
 | .call f aq _ _=>M5 f++aq.flatMap M5
def A6h (o:AOper):List Nat:=A02 o.op++(match o.guard with | some (t,_)=>[t] | none=>[])++o.hida.map (·.1)
def C6t (l m:List Nat):Bool:=l.all fun x=>m.contains x
def B6o (a x:AOper):Bool :=
 (match a.dst with | some d=>!(A6h x).contains d && !(x.dst == some d) | none=>true) && (match x.dst with | some d=>!(A6h a).contains d | none=>true)
def A6f (a x:AOper) (n:Nat):Bool :=
 B6o a x &&
 (match writes a.op,writes x.op with
  | false,false=>(!X2 a.op || C6t (D7 x.op) a.hid) && (!X2 x.op || C6t (D7 a.op) x.hid)
  | true,false=>if isR x.op then Nat.ble n x.inc else !X2 x.op && C6t (D7 x.op) a.hid
  | false,true=>!X2 a.op && C6t (D7 a.op) x.hid
  | true,true=>false)
def A1s (ms:List Nat) (a:AOper):Nat→List AOper→Bool
 | _,[]=>true
 | n,x :: l=>((ms.getD x.src 0).testBit a.src || A6f a x n) && A1s ms a (if writes x.op then n + 1 else n) l
def A4j (ms:List Nat):List AOper→Bool
 | []=>true
 | a :: l=>A1s ms a (if writes a.op then 1 else 0) l && A4j ms l
def A5s (o:AOper):Bool:=(writes o.op || o.hida.isEmpty) && C1c (D7 o.op) o.hid
def B3e (ops:List Oper):Bool:=ops.zipIdx.all fun x=>x.1.after.toList.all fun e=>!Region.binds .any e || decide (e.on < x.2)
def C5r (ops:Array Oper) (l:List AOper):Bool :=
 B3e ops.toList && A4j (masks ops.toList []) l && l.all A5s && B04 (l.map (·.src)) && l.length == ops.size
def A36:ACode→Bool
 | .seq a b | .cond _ a b=>A36 a && A36 b
 | .block _ a | .loop _ _ a | .scope a | .loopM _ _ _ _ _ _ a=>A36 a
 | .rangeFunc ..=>false
 | _=>true
def A8t (P:Program) (nt:Nat) (ops:Array Oper) (draw draw':Bool) (nres:Nat) (l:List AOper):Bool :=
 draw == draw' && (l.all fun o=>A4q P ops nt o) && ((l.flatMap fun o=>D7 o.op).all fun r=>decide (r < nres)) && B04 (l.flatMap fun o=>D7 o.op) &&
 (if draw then C5r ops l else l.map (·.src) == List.range ops.size) &&
 ((l.flatMap fun o=>o.hid).all fun r=>decide (r < nres)) && ((l.all fun o=>!B3r o.op) || l.all fun o=>o.hid.isEmpty)
def A9x (nt:Nat) (ops:Array Oper) (x:Opd) (nx ok:Nat):Bool:=ops.size == 2 && (match ops[0]?,ops[1]? with
 | some o0,some o1=>o0.guard.isNone && o1.guard.isNone && (match o0.op with | .next y false=>D3 y x | _=>false) && o0.dst == some nx &&
  (match o1.op with | .extract (.tmp t) 0=>t == nx | _=>false) && o1.dst == some ok && decide (nx < nt) && decide (ok < nt)
 | _,_=>false)
def F9 (P:Program) (nt:Nat):Code→ACode→Bool
 | .skip,.skip=>true
 | .label _,.skip=>true
 | .region _ ops d,.region d' nres _ l _=>A8t P nt ops d d' nres l
 | .seq a b,.seq a' b'=>F9 P nt a a' && F9 P nt b b'
 | .cond c a b,.cond c' a' b'=>D3 c c' && F9 P nt a a' && F9 P nt b b'
 | .block id a,.block id' a'=>id == id' && F9 P nt a a'
 | .loop a,.loop _ _ a'=>F9 P nt a a'
 | .loop (.seq (.region _ ops false) c),.loopM x nx ok _ _ _ c'=>A9x nt ops x nx ok && F9 P nt c c'
 | .rangeFunc f ps aq bd,.rangeFunc f' ps' _ as' bd'=>D3 f f' && ps.toList == ps' && (ps'.all fun t=>decide (t < nt)) && A36 as' && A36 bd' && F9 P nt aq as' && F9 P nt bd bd'
 | .scope a,.scope a'=>F9 P nt a a'
 | .exit id,.exit id'=>id == id'
 | .ret,.ret=>true
 | _,_=>false
def A3v (P:Program):ResultVar→ARes→Bool
 | .tmp t,.tmp t'=>t == t'
 | .cell a t,.cell a' k=>a == a' && A3h P t k && (match k with | some 0=>false | _=>true)
 | _,_=>false
def W5 (P:Program):List ResultVar→List ARes→Bool
 | [],[]=>true
 | x :: l,y :: m=>A3v P x y && W5 P l m
 | _,_=>false
def C0 (P:Program) (fn:Func) (af:AFunc):Bool :=
 fn.name != "runtime.NumGoroutine" && (match fn.body with | some c=>F9 P fn.ntmps c af.body | none=>false) && decide ((if Nat.ble 1000 af.nargs then af.nargs - 1000 else af.nargs)≤fn.ntmps) && W5 P fn.results.toList af.results
def B9p (P:Program) (T:Tab):Prop:=∀ i af,T i = some af→∃ fn,P.funcs[i]? = some fn∧C0 P fn af = true
theorem C55 {g:Ghost} {N b:Nat} (hN:∀i,N≤i→g.L i = .none) (h:g.L b ≠ .none):b < N:= by
 rcases Nat.lt_or_ge b N with h1 | h1
 ·exact h1
 ·exact absurd (hN b h1) h
theorem V.bd {g:Ghost} {N:Nat} (hN:∀i,N≤i→g.L i = .none) {x:AV} {v:Value} (h:V g x v):x.bd N = true:= by
 have nlt:∀{b:Nat},g.L b ≠ .none→Nat.blt b N = true:=fun {b} hb=>by
  have:=C55 hN hb
  simpa [Nat.blt_eq] using this
 have lst:∀{l:List AV},(∀ (j:Nat) x,l[j]? = some x→x.bd N = true)→bdL N l = true:=fun {l} hl=>by
  rw [A0p]; intro x hx
  obtain ⟨j,hj,rfl⟩:=List.mem_iff_getElem.1 hx
  exact hl j _ (List.getElem?_eq_getElem hj)
 induction h with
 | den x v h=>cases h <;> simp [AV.bd]
 | ptr b o β e h=>simpa only [AV.bd] using nlt (by rw [h]; simp)
 | itr b β h=>simpa only [AV.bd] using nlt (by rw [h]; simp)
 | eptr b n i o k v p h hle hp=>simpa only [AV.bd] using nlt (by rw [h]; simp)
 | cptr cs a vs hs h1 h2 h3 ih=>simpa only [AV.bd] using lst ih
 | asl b n k v0 v h hle h1 hn=>simpa only [AV.bd] using nlt (by rw [h]; simp)
 | csl b o k n β c e h hc=>simpa only [AV.bd] using nlt (by rw [h]; simp)
 | csa b o k n kk c v x h hc hle hp=>simpa only [AV.bd] using nlt (by rw [h]; simp)
 | mp b β h=>simpa only [AV.bd] using nlt (by rw [h]; simp)
 | fn f f' a c a' c' hf l1 l2 h1 h2 ih1 ih2 =>
  cases f with
  | yield l =>
   obtain ⟨β,hl,_⟩:=hf
   simp only [AV.bd,Bool.and_eq_true]
   exact ⟨⟨nlt (by rw [hl]; simp),lst ih1⟩,lst ih2⟩
  | _=>simp only [AV.bd,Bool.and_eq_true]; exact ⟨lst ih1,lst ih2⟩
 | xseq k rows a c vs hs hcap hlen h1 h2 h3 ih =>
  simp only [AV.bd,C1d]
  intro r hr x hx
  obtain ⟨i,hi,rfl⟩:=List.mem_iff_getElem.1 hr
  obtain ⟨j,hj,rfl⟩:=List.mem_iff_getElem.1 hx
  exact ih i _ j _ (List.getElem?_eq_getElem hi) (List.getElem?_eq_getElem hj)
 | agg cs vs hl h h1 ih=>simpa only [AV.bd] using lst ih
 | tup cs vs hl h ih=>simpa only [AV.bd] using lst ih
def Z4 (N:Nat) (g:Ghost):Ghost:=⟨fun i=>if i < N then g.L i else .none,g.Φ,g.gl⟩
theorem B6m {N:Nat} {g:Ghost} {i:Nat} (h:i < N):(Z4 N g).L i = g.L i:= by simp [Z4,h]
theorem B9u {N:Nat} {g:Ghost} {i:Nat} (h:N≤i):(Z4 N g).L i = .none:= by simp [Z4]; omega
theorem V.cut {g:Ghost} {N:Nat} {x:AV} {v:Value} (h:V g x v) (hb:x.bd N = true):V (Z4 N g) x v:= by
 have cl:∀{b:Nat} {q:GB},Nat.blt b N = true→g.L b = q→(Z4 N g).L b = q:=fun {b q} hlt hq=>by
  rw [Nat.blt_eq] at hlt
  rw [B6m hlt,hq]
 have lst:∀{l:List AV},bdL N l = true→∀ (j:Nat) x,l[j]? = some x→x.bd N = true:=fun {l} hl j x hj=>by
  rw [A0p] at hl
  exact hl x (List.mem_of_getElem? hj)
 induction h with
 | den x v h=>exact .den _ _ h
 | ptr b o β e h=>exact .ptr b o β e (cl (by simpa only [AV.bd] using hb) h)
 | itr b β h=>exact .itr b β (cl (by simpa only [AV.bd] using hb) h)
 | eptr b n i o k v p h hle hp=>exact .eptr b n i o k v p (cl (by simpa only [AV.bd] using hb) h) hle hp
 | cptr cs a vs hs h1 h2 h3 ih=>exact .cptr cs a vs hs h1 (fun j x hj=>ih j x hj (lst (by simpa only [AV.bd] using hb) j x hj)) h3
 | asl b n k v0 v h hle h1 hn=>exact .asl b n k v0 v (cl (by simpa only [AV.bd] using hb) h) hle h1 hn
 | csl b o k n β c e h hc=>exact .csl b o k n β c e (cl (by simpa only [AV.bd] using hb) h) hc
 | csa b o k n kk c v x h hc hle hp=>exact .csa b o k n kk c v x (cl (by simpa only [AV.bd] using hb) h) hc hle hp
 | mp b β h=>exact .mp b β (cl (by simpa only [AV.bd] using hb) h)
 | fn f f' a c a' c' hf l1 l2 h1 h2 ih1 ih2 =>
  have hb':B4n (Z4 N g) f f'∧bdL N a = true∧bdL N c = true:= by
   cases f with
   | yield l =>
    obtain ⟨β,hl,hf'⟩:=hf
    simp only [AV.bd,Bool.and_eq_true] at hb
    exact ⟨⟨β,cl hb.1.1 hl,hf'⟩,hb.1.2,hb.2⟩
   | func i=>simp only [AV.bd,Bool.and_eq_true] at hb; exact ⟨hf,hb.1,hb.2⟩
   | _=>exact hf.elim
  exact .fn f f' a c a' c' hb'.1 l1 l2 (fun j x hj=>ih1 j x hj (lst hb'.2.1 j x hj)) (fun j x hj=>ih2 j x hj (lst hb'.2.2 j x hj))
 | xseq k rows a c vs hs hcap hlen h1 h2 h3 ih =>
  simp only [AV.bd,C1d] at hb
  exact .xseq k rows a c vs hs hcap hlen h1 (fun i r j x hi hj=>ih i r j x hi hj (hb r (List.mem_of_getElem? hi) x (List.mem_of_getElem? hj))) h3
 | agg cs vs hl h h1 ih=>exact .agg cs vs hl (fun j x hj=>ih j x hj (lst (by simpa only [AV.bd] using hb) j x hj)) h1
 | tup cs vs hl h ih=>exact .tup cs vs hl (fun j x hj=>ih j x hj (lst (by simpa only [AV.bd] using hb) j x hj))
section
variable {MC:Nat→Code→ACode→Prop} {P:Program} {B0:Nat}
theorem D4.cut {g:Ghost} {N:Nat} {s:B4} {tmps:Array Value} (h:D4 g s tmps) (hb:∀t v,sget s t = some v→v.bd N = true):D4 (Z4 N g) s tmps :=
 fun t v hv=>let ⟨x,hx,hV⟩:=h t v hv; ⟨x,hx,hV.cut (hb t v hv)⟩
theorem V2.cut {g:Ghost} {w:World} {N:Nat} {o:AO} {gb:GB} (h:V2 MC P g w o gb) (hb:o.bdP N):V2 MC P (Z4 N g) w o gb:= by
 cases o with
 | dead=>exact trivial
 | cells cs =>
  cases gb <;> try exact h.elim
  obtain ⟨c,h1,h2,h3,h4⟩:=h
  simp only [AO.bdP,A0p] at hb
  exact ⟨c,h1,h2,fun j x hj=>let ⟨v,hv,hV,ho⟩:=h3 j x hj; ⟨v,hv,hV.cut (hb x (List.mem_of_getElem? hj)),ho⟩,h4⟩
 | arr k pub rows=>cases gb <;> exact h
 | stk k rows anc=>cases gb <;> exact h
 | map es =>
  cases gb <;> try exact h.elim
  obtain ⟨en,clock,h1,h2,h3,hborn⟩:=h
  simp only [AO.bdP,B5y] at hb
  exact ⟨en,clock,h1,h2,fun i e hi=>let ⟨m,hm,a,b⟩:=h3 i e hi; ⟨m,hm,a.cut (hb e (List.mem_of_getElem? hi)).1,b.cut (hb e (List.mem_of_getElem? hi)).2⟩,hborn⟩
 | iter s pos=>cases gb <;> exact h
 | mit m n seen =>
  cases gb <;> try exact h.elim
  obtain ⟨βm,h1,h2⟩:=h
  have hb:m < N:=hb
  exact ⟨βm,by simp only [Z4,if_pos hb]; exact h1,h2⟩
 | loop f s ps assign body busy pend =>
  cases gb <;> try exact h.elim
  obtain ⟨r,h1,h2,h3,h4,h5,h6⟩:=h
  exact ⟨r,h1,h2,h3,h4,h5.cut hb,h6⟩
 | ro o=>cases gb <;> exact h.elim
theorem V2.bd {g:Ghost} {w:World} {N:Nat} (hN:∀i,N≤i→g.L i = .none) {o:AO} {gb:GB} (h:V2 MC P g w o gb):o.bdP N:= by
 cases o with
 | dead=>exact trivial
 | cells cs =>
  cases gb <;> try exact h.elim
  obtain ⟨c,h1,h2,h3,h4⟩:=h
  simp only [AO.bdP,A0p]
  intro x hx
  obtain ⟨j,hj,rfl⟩:=List.mem_iff_getElem.1 hx
  obtain ⟨v,_,hV,_⟩:=h3 j _ (List.getElem?_eq_getElem hj)
  exact hV.bd hN
 | arr k pub rows=>exact trivial
 | stk k rows anc=>exact trivial
 | map es =>
  cases gb <;> try exact h.elim
  obtain ⟨en,clock,h1,h2,h3,hborn⟩:=h
  simp only [AO.bdP,B5y]
  intro e he
  obtain ⟨j,hj,rfl⟩:=List.mem_iff_getElem.1 he
  obtain ⟨m,_,h4,h5⟩:=h3 j _ (List.getElem?_eq_getElem hj)
  exact ⟨h4.bd hN,h5.bd hN⟩
 | iter s pos=>exact trivial
 | mit m n seen =>
  cases gb <;> try exact h.elim
  obtain ⟨βm,h1,h2⟩:=h
  show m < N
  rcases Nat.lt_or_ge m N with c | c
  ·exact c
  ·rw [hN m c] at h1; cases h1
 | loop f s ps assign body busy pend =>
  cases gb <;> try exact h.elim
  obtain ⟨r,h1,h2,h3,h4,h5,h6⟩:=h
  intro t v hv
  obtain ⟨x,_,hV⟩:=h5 t v hv
  exact hV.bd hN
 | ro o=>cases gb <;> exact h.elim
theorem D0l {o:AO} {N:Nat} (h:o.rd.bdP N):o.bdP N:= by cases o <;> exact h
theorem D2r {o:AO} {N:Nat} (h:o.bdP N):o.rd.bdP N:= by cases o <;> exact h
theorem Rel.bd {H:A1} {g:Ghost} {w:World} (hR:Rel MC P B0 H g w) {i:Nat} {o:AO} (h:H[i]? = some o):o.bdP H.length :=
 D0l ((hR.box i o h).bd hR.nolive)
theorem ScOk.enter {c:Sc} {H:A1} {g:Ghost} {w:World} (h:ScOk c H) (hR:Rel MC P B0 H g w):ScOk ⟨H.length,c.cur :: c.outer⟩ H where
 cur:=Nat.le_refl _
 out:=fun B hB=>by
  rcases List.mem_cons.1 hB with rfl | hB
  ·exact h.cur
  ·exact Nat.le_trans (h.out B hB) h.cur
 bd:=fun B hB i hi o ho=>by
  rcases List.mem_cons.1 hB with rfl | hB
  ·exact hR.bd ho
  ·exact h.bd B hB i hi o ho
theorem ScOk.leave {c:Sc} {B:Nat} {H:A1} (h:ScOk ⟨B,c.cur :: c.outer⟩ H) (hout:∀D ∈ c.outer,D≤c.cur):ScOk c H where
 cur:=Nat.le_trans (h.out c.cur (by simp)) h.cur
 out:=hout
 bd:=fun D hD=>h.bd D (by simp at hD ⊢; exact .inr hD)
theorem ScOk.take {c:Sc} {H:A1} (h:ScOk c H) {N:Nat} (hN:c.cur≤N):ScOk c (H.take N) where
 cur:= by have:=h.cur; simp; omega
 out:=h.out
 bd:=fun B hB i hi o ho=>h.bd B hB i hi o (by
  rw [List.getElem?_take] at ho
  split at ho
  ·exact ho
  ·cases ho)
theorem ScOk.app {c:Sc} {H:A1} (h:ScOk c H) (K:A1):ScOk c (H++K) where
 cur:= by have:=h.cur; simp; omega
 out:=h.out
 bd:=fun B hB i hi o ho=>by
  have h1:B≤c.cur:= by rcases List.mem_cons.1 hB with rfl | hB; exact Nat.le_refl _; exact h.out B hB
  have h2:=h.cur
  rw [List.getElem?_append_left (by omega)] at ho
  exact h.bd B hB i hi o ho
def Unborn (H:A1) (g g':Ghost):Prop:=∀ i,i < H.length→g.L i = .none→g'.L i = .none
theorem Unborn.refl (H:A1) (g:Ghost):Unborn H g g:=fun _ _ h=>h
theorem Unborn.trans {H H1:A1} {g g1 g2:Ghost} (h:Unborn H g g1) (k:Unborn H1 g1 g2) (hl:H.length≤H1.length):Unborn H g g2 :=
 fun i hi hn=>k i (by omega) (h i hi hn)
theorem Rel.back {H H1 H2 H3:A1} {g g2:Ghost} {w w2:World} (hR:Rel MC P B0 H g w) (hl:H1.length = H.length)
  (h1:∀(i:Nat) (o1:AO),H1[i]? = some o1→H[i]? = some o1∨o1.isW = false)
  (hE:Ext H1 g w H2 g2 w2) (hR2:Rel MC P B0 H2 g2 w2) (hN:H.length≤H3.length) (hN2:H3.length≤H2.length)
  (h3:∀(i:Nat) (o3:AO),H3[i]? = some o3→(H2[i]? = some o3∧o3.bdP H3.length∧(H1[i]? = H[i]?∨H.length≤i))∨(H[i]? = some o3∧(∃ o1,H1[i]? = some o1∧o1.isW = false)∧∀ j oj β,H1[j]? = some oj→oj.isW = true→(g.L i).blk = some β→(g.L j).blk = some β→False))
  (hinj:∀i j β,i < H3.length→j < H3.length→(g2.L i).blk = some β→(g2.L j).blk = some β→i = j∨Shr H3 i j∨Shr H3 j i) :
  Rel MC P B0 H3 (Z4 H3.length g2) w2∧Ext H g w H3 (Z4 H3.length g2) w2:= by
 have hsame:∀i o,H[i]? = some o→(∃ o1,H1[i]? = some o1∧o1.isW = false)→(∀ j oj β,H1[j]? = some oj→oj.isW = true→(g.L i).blk = some β→(g.L j).blk = some β→False)→g.L i = .none∨(g2.L i = g.L i∧∀ β,(g.L i).blk = some β→w2.heap[β]? = w.heap[β]?∧∀ off,g2.Φ β off = g.Φ β off):= by
  intro i o ho ⟨o1,ho1,hw1⟩ hno
  by_cases hn:g.L i = .none
  ·exact .inl hn
  ·refine .inr ⟨hE.keep i o1 ho1 hw1 hn,fun β hb=>?_⟩
   obtain ⟨_,hlt⟩:=hR.base i β hb
   refine hE.frame β hlt (fun j oj hj hw hbj=>?_)
   exact hno j oj β hj hw hb hbj
 have hle:g.le g2:=hE.le
 refine ⟨⟨hR2.phi,?_,?_,?_,?_,hR2.b0⟩,⟨hN,hE.os,hE.tape,hE.output,hE.size,⟨?_,hE.le.Φ⟩,?_,?_,?_,?_⟩⟩
 ·intro i β hb
  simp only [Z4] at hb
  split at hb
  ·exact hR2.base i β hb
  ·simp [GB.blk] at hb
 ·intro i j β hi hj
  simp only [Z4] at hi hj
  split at hi <;> split at hj
  ·next e1 e2=>exact hinj i j β e1 e2 hi hj
  all_goals simp [GB.blk] at hi hj
 ·intro i o3 ho
  have hi:=(List.getElem?_eq_some_iff.1 ho).1
  rw [B6m hi]
  rcases h3 i o3 ho with ⟨h4,h5,_⟩ | ⟨h4,h5,h8⟩
  ·exact (hR2.box i o3 h4).cut (D2r h5)
  ·rcases hsame i o3 h4 h5 h8 with h6 | ⟨h6,h7⟩
   ·have hb:=hR.box i o3 h4
    rw [h6] at hb
    generalize hq:o3.rd = q at hb ⊢
    cases q <;> first | exact hb.elim | exact trivial
   ·rw [h6]
    have hb:=(hR.box i o3 h4).mono hle h7
    exact hb.cut (D2r (by
     have:=hR.bd h4
     have hb3:=(hR.box i o3 h4)
     exact D0l (hb3.bd (N:=H3.length) (fun j hj=>hR.nolive j (by omega)))))
 ·intro i hi; exact B9u hi
 ·intro i
  by_cases hi:i < H3.length
  ·rw [B6m hi]; exact hle.L i
  ·rw [B9u (by omega),hR.nolive i (by omega)]; trivial
 ·intro i β hb
  simp only [Z4] at hb
  split at hb
  ·rcases hE.blk i β hb with h4 | h4 | ⟨j,o,hj,hw,hbj⟩
   ·exact .inl h4
   ·exact .inr (.inl h4)
   ·rcases h1 j o hj with h5 | h5
    ·exact .inr (.inr ⟨j,o,h5,hw,hbj⟩)
    ·rw [hw] at h5; cases h5
  ·simp [GB.blk] at hb
 ·intro i o ho hw hn
  have hi:=(List.getElem?_eq_some_iff.1 ho).1
  rw [B6m (by omega)]
  have hi1:i < H1.length:= by omega
  have ho1:=List.getElem?_eq_getElem hi1
  refine hE.keep i _ ho1 ?_ hn
  rcases h1 i _ ho1 with h4 | h4
  ·rw [ho] at h4; cases h4; exact hw
  ·exact h4
 ·intro i o' ho' hw'
  rcases h3 i o' ho' with ⟨h4,h5,h6⟩ | ⟨h4,h5⟩
  ·rcases hE.wit i o' h4 hw' with h7 | ⟨o1,h7,h8⟩
   ·exact .inl h7
   ·rcases h6 with h6 | h6
    ·exact .inr ⟨o1,h6 ▸ h7,h8⟩
    ·have:=(List.getElem?_eq_some_iff.1 h7).1; omega
  ·exact .inr ⟨o',h4,hw'⟩
 ·intro β hβ hn
  refine hE.frame β hβ (fun i o hi hw hb=>?_)
  rcases h1 i o hi with h4 | h4
  ·exact hn i o h4 hw hb
  ·rw [hw] at h4; cases h4
theorem D3k {g:Ghost} {N:Nat} (h:∀i,N≤i→g.L i = .none):Z4 N g = g:= by
 cases g with
 | mk L Φ =>
  simp only [Z4,Ghost.mk.injEq,and_true]
  funext i
  split
  ·rfl
  ·exact (h i (by omega)).symm
theorem A09 (H:A1):∀l,(hide H l).length = H.length
 | []=>rfl
 | b :: l=>by simp [hide,hset,A09 H l]
theorem A08 (H:A1) (i:Nat):∀l,(hide H l)[i]? = if i ∈ l then (H[i]?).map (fun _=>AO.dead) else H[i]?
 | []=>by simp [hide]
 | b :: l=>by
  simp only [hide,hset,List.getElem?_set,A09,A08 H i l,List.mem_cons]
  by_cases e:b = i
  ·subst e
   by_cases hb:b < H.length
   ·simp [hb]
   ·simp only [if_true,hb,if_false]
    have:H[b]? = none:= by simp; omega
    simp [this]
  ·have e':¬ i = b:=fun h=>e h.symm
   simp [e,e']
theorem X6 (G H:A1):∀l,(unhide G H l).length = H.length
 | []=>rfl
 | b :: l=>by
  simp only [unhide]
  split
  ·simp [hset,X6 G H l]
  ·exact X6 G H l
theorem A3j (G H:A1) (hl:G.length≤H.length) (i:Nat):∀l,(unhide G H l)[i]? = if i ∈ l∧i < G.length then G[i]? else H[i]?
 | []=>by simp [unhide]
 | b :: l=>by
  simp only [unhide]
  split
  ·next o ho =>
   have hb:=(List.getElem?_eq_some_iff.1 (show G[b]? = some o from ho)).1
   simp only [hset,List.getElem?_set,X6,A3j G H hl i l,List.mem_cons]
   by_cases e:b = i
   ·subst e
    have:b < H.length:= by omega
    have ho':G[b]? = some o:=ho
    simp only [if_true,this,true_or,hb,and_self,ho']
   ·have e':¬ i = b:=fun h=>e h.symm
    simp [e,e']
  ·next hn =>
   have hb:G.length≤b:= by simpa [hget] using hn
   rw [A3j G H hl i l]
   by_cases e:i = b
   ·subst e
    have:¬ i < G.length:= by omega
    simp [this]
   ·simp [e]
theorem A4z {H K:A1} {b:Nat} (h:K[b]? = H[b]?):hstk K b = hstk H b:= by unfold hstk hget; rw [h]
theorem C7k {H:A1} {b:Nat} {x:Nat × List (List AV) × List Nat} (h:hstk H b = some x):b < H.length:= by
 obtain ⟨o,ho,_⟩:=B65 h
 exact (List.getElem?_eq_some_iff.1 ho).1
theorem B3o {H:A1} {l:List Nat} {b:Nat} (h:b ∉ l):hstk (Am.hide H l) b = hstk H b:=A4z (by rw [A08,if_neg h])
theorem Shr.some {H:A1} {i j:Nat} (h:Shr H i j):(∃ x,hstk H i = some x)∧∃ x,hstk H j = some x:= by
 obtain ⟨_,_,_,_,_,_,h1,_,h3,_⟩:=h
 exact ⟨⟨_,h3⟩,⟨_,h1⟩⟩
theorem Shr.hide {H:A1} {l:List Nat} (hl:∀b ∈ l,hstk H b = none) {i j:Nat} (h:Shr H i j):Shr (Am.hide H l) i j:= by
 obtain ⟨⟨x,hx⟩,⟨y,hy⟩⟩:=h.some
 exact h.get (B3o fun hm=>by rw [hl _ hm] at hx; cases hx) (B3o fun hm=>by rw [hl _ hm] at hy; cases hy)
theorem Shr.app {H K:A1} {i j:Nat} (h:Shr H i j):Shr (H++K) i j:= by
 obtain ⟨⟨x,hx⟩,⟨y,hy⟩⟩:=h.some
 exact h.get (A4z (List.getElem?_append_left (C7k hx))) (A4z (List.getElem?_append_left (C7k hy)))
theorem B56 (H:A1) (b:Nat):hstk (H.map AO.toRo) b = hstk H b:= by
 unfold hstk hget
 rw [List.getElem?_map]
 cases H[b]? with
 | none=>rfl
 | some o=>cases o <;> rfl
theorem Rel.hide {H:A1} {g:Ghost} {w:World} (hR:Rel MC P B0 H g w) (l:List Nat) (hl:∀b ∈ l,hstk H b = none):Rel MC P B0 (Am.hide H l) g w where
 phi:=hR.phi
 base:=hR.base
 inj:=fun i j β hi hj=>(hR.inj i j β hi hj).imp id (Or.imp (Shr.hide hl) (Shr.hide hl))
 box:=fun i o ho=>by
  rw [A08] at ho
  split at ho
  ·cases hq:H[i]? with
   | none=>simp [hq] at ho
   | some o'=>simp [hq] at ho; subst ho; exact trivial
  ·exact hR.box i o ho
 nolive:=fun i hi=>hR.nolive i (by rwa [A09] at hi)
 b0:=hR.b0
theorem ScOk.hide {c:Sc} {H:A1} (h:ScOk c H) (l:List Nat):ScOk c (Am.hide H l) where
 cur:= by rw [A09]; exact h.cur
 out:=h.out
 bd:=fun B hB i hi o ho=>by
  rw [A08] at ho
  split at ho
  ·cases hq:H[i]? with
   | none=>simp [hq] at ho
   | some o'=>simp [hq] at ho; subst ho; exact trivial
  ·exact h.bd B hB i hi o ho
theorem ScOk.unhide {c:Sc} {H H2:A1} (h:ScOk c H) (h2:ScOk c H2) (hl:H.length≤H2.length) (l:List Nat):ScOk c (Am.unhide H H2 l) where
 cur:= by rw [X6]; exact h2.cur
 out:=h.out
 bd:=fun B hB i hi o ho=>by
  rw [A3j _ _ hl] at ho
  split at ho
  ·exact h.bd B hB i hi o ho
  ·exact h2.bd B hB i hi o ho
theorem Rel.unhide {H H2:A1} {g g2:Ghost} {w w2:World} (hR:Rel MC P B0 H g w) (l:List Nat) (hl:∀b ∈ l,hstk H b = none) (hU:∀b ∈ l,b < H.length→g.L b = .none→g2.L b = .none) (hE:Ext (Am.hide H l) g w H2 g2 w2) (hR2:Rel MC P B0 H2 g2 w2) :
  Rel MC P B0 (Am.unhide H H2 l) g2 w2∧Ext H g w (Am.unhide H H2 l) g2 w2:= by
 have hlen:H.length≤H2.length:= by have:=hE.len; rwa [A09] at this
 have e:Z4 (Am.unhide H H2 l).length g2 = g2:= by rw [X6]; exact D3k hR2.nolive
 have:=hR.back (H1:=Am.hide H l) (H3:=Am.unhide H H2 l) (A09 _ _) ?_ hE hR2 (by rw [X6]; exact hlen) (by rw [X6]; exact Nat.le_refl _) ?_ ?_
 ·rw [e] at this; exact this
 ·intro i o1 h1
  rw [A08] at h1
  split at h1
  ·cases hq:H[i]? with
   | none=>simp [hq] at h1
   | some o'=>simp [hq] at h1; subst h1; exact .inr rfl
  ·exact .inl h1
 ·intro i o3 h3
  rw [A3j _ _ hlen] at h3
  split at h3
  ·next hi =>
   right
   refine ⟨h3,⟨.dead,by rw [A08,if_pos hi.1,h3]; rfl,rfl⟩,fun j oj β hj hw hb hbj=>?_⟩
   rcases hR.inj i j β hb hbj with rfl | e | e
   ·rw [A08,if_pos hi.1,h3] at hj
    cases hj; cases hw
   ·obtain ⟨⟨x,hx⟩,_⟩:=e.some
    rw [hl i hi.1] at hx; cases hx
   ·obtain ⟨_,x,hx⟩:=e.some
    rw [hl i hi.1] at hx; cases hx
  ·next hi =>
   left
   refine ⟨h3,?_,?_⟩
   ·rw [X6]; exact hR2.bd h3
   ·by_cases hlt:i < H.length
    ·left; rw [A08,if_neg (fun hm=>hi ⟨hm,hlt⟩)]
    ·right; omega
 ·have out:∀i j β,(i ∈ l∧i < H.length)→(g2.L i).blk = some β→(g2.L j).blk = some β→i = j:= by
   intro i j β ⟨hi,hlt⟩ hb hbj
   have hn:g.L i ≠ .none:=fun hn=>by rw [hU i hi hlt hn] at hb; simp [GB.blk] at hb
   have hd:(Am.hide H l)[i]? = some .dead:= by rw [A08,if_pos hi,List.getElem?_eq_getElem hlt]; rfl
   have hk:=hE.keep i _ hd rfl hn
   rw [hk] at hb
   have hlt2:=(hR.base i β hb).2
   have alone:∀m,(g.L m).blk = some β→m = i:=fun m hm=>by
    rcases hR.inj m i β hm hb with e | e | e
    ·exact e
    ·obtain ⟨_,x,hx⟩:=e.some
     rw [hl i hi] at hx; cases hx
    ·obtain ⟨⟨x,hx⟩,_⟩:=e.some
     rw [hl i hi] at hx; cases hx
   rcases hE.blk j β hbj with h4 | h4 | ⟨m,o,hm,hw,hbm⟩
   ·exact (alone j h4).symm
   ·omega
   ·have:=alone m hbm
    subst this
    rw [hd] at hm; cases hm; cases hw
  intro i j β _ _ hi hj
  by_cases c1:i ∈ l∧i < H.length
  ·exact .inl (out i j β c1 hi hj)
  ·by_cases c2:j ∈ l∧j < H.length
   ·exact .inl (out j i β c2 hj hi).symm
   ·have e1:hstk (Am.unhide H H2 l) i = hstk H2 i:=A4z (by rw [A3j _ _ hlen,if_neg c1])
    have e2:hstk (Am.unhide H H2 l) j = hstk H2 j:=A4z (by rw [A3j _ _ hlen,if_neg c2])
    exact (hR2.inj i j β hi hj).imp id (Or.imp (fun q=>q.get e1 e2) (fun q=>q.get e2 e1))
theorem Rel.reserve {H:A1} {g:Ghost} {w:World} (hR:Rel MC P B0 H g w) (n:Nat):Rel MC P B0 (H++List.replicate n .dead) g w∧Ext H g w (H++List.replicate n .dead) g w:= by
 refine ⟨⟨hR.phi,hR.base,fun i j β hi hj=>(hR.inj i j β hi hj).imp id (Or.imp Shr.app Shr.app),?_,?_,hR.b0⟩,⟨by simp,rfl,rfl,rfl,Nat.le_refl _,Ghost.le_refl g,fun _ _ h=>.inl h,fun _ _ _ _ _=>rfl,?_,fun _ _ _=>⟨rfl,fun _=>rfl⟩⟩⟩
 ·intro i o ho
  rcases Nat.lt_or_ge i H.length with hi | hi
  ·rw [List.getElem?_append_left hi] at ho; exact hR.box i o ho
  ·rw [List.getElem?_append_right hi,List.getElem?_replicate] at ho
   split at ho
   ·cases ho; exact trivial
   ·cases ho
 ·intro i hi; exact hR.nolive i (by simp at hi; omega)
 ·intro i o ho hw
  rcases Nat.lt_or_ge i H.length with hi | hi
  ·rw [List.getElem?_append_left hi] at ho; exact .inr ⟨o,ho,hw⟩
  ·exact .inl (hR.nolive i hi)
theorem Rel.take {H H2:A1} {g g2:Ghost} {w w2:World} (hR:Rel MC P B0 H g w) (hE:Ext H g w H2 g2 w2) (hR2:Rel MC P B0 H2 g2 w2)
  (hbd:∀i,i < H.length→∀ o,H2[i]? = some o→o.bdP H.length) :
  Rel MC P B0 (H2.take H.length) (Z4 H.length g2) w2∧Ext H g w (H2.take H.length) (Z4 H.length g2) w2:= by
 have hlen:(H2.take H.length).length = H.length:= by have:=hE.len; simp; omega
 have:=hR.back (H1:=H) (H3:=H2.take H.length) rfl (fun i o h=>.inl h) hE hR2 (by omega) (by have:=hE.len; omega) ?_ ?_
 ·rw [hlen] at this; exact this
 ·intro i o3 h3
  rw [List.getElem?_take] at h3
  split at h3
  ·next hi=>exact .inl ⟨h3,by rw [hlen]; exact hbd i hi o3 h3,.inl rfl⟩
  ·cases h3
 ·intro i j β h1 h2 hi hj
  have e:∀m,m < (H2.take H.length).length→hstk (H2.take H.length) m = hstk H2 m:=fun m hm=>A4z (by rw [List.getElem?_take,if_pos (by omega)])
  exact (hR2.inj i j β hi hj).imp id (Or.imp (fun q=>q.get (e i h1) (e j h2)) (fun q=>q.get (e j h2) (e i h1)))
theorem B8n (o:AO):o.toRo.isW = false:= by cases o <;> rfl
theorem D44 (o:AO):o.toRo.rd = o.rd:= by cases o <;> rfl
theorem Rel.ro {H:A1} {g:Ghost} {w:World} (hR:Rel MC P B0 H g w):Rel MC P B0 (H.map AO.toRo) g w where
 phi:=hR.phi
 base:=hR.base
 inj:=fun i j β hi hj=>(hR.inj i j β hi hj).imp id (Or.imp (fun q=>q.get (B56 H _) (B56 H _)) (fun q=>q.get (B56 H _) (B56 H _)))
 box:=fun i o ho=>by
  rw [List.getElem?_map] at ho
  cases hq:H[i]? with
  | none=>simp [hq] at ho
  | some o'=>simp [hq] at ho; subst ho; rw [D44]; exact hR.box i o' hq
 nolive:=fun i hi=>hR.nolive i (by simpa using hi)
 b0:=hR.b0
theorem ScOk.ro {c:Sc} {H:A1} (h:ScOk c H):ScOk c (H.map AO.toRo) where
 cur:= by simpa using h.cur
 out:=h.out
 bd:=fun B hB i hi o ho=>by
  rw [List.getElem?_map] at ho
  cases hq:H[i]? with
  | none=>simp [hq] at ho
  | some o' =>
   simp [hq] at ho; subst ho
   have:=h.bd B hB i hi o' hq
   cases o' <;> exact this
theorem Rel.backRo {H H2:A1} {g g2:Ghost} {w w2:World} (hR:Rel MC P B0 H g w) (hE:Ext (H.map AO.toRo) g w H2 g2 w2) (hR2:Rel MC P B0 H2 g2 w2) (hU:∀j,j < H.length→g.L j = .none→g2.L j = .none) :
  Rel MC P B0 H (Z4 H.length g2) w2∧Ext H g w H (Z4 H.length g2) w2:= by
 refine hR.back (H1:=H.map AO.toRo) (by simp) ?_ hE hR2 (Nat.le_refl _) (by have:=hE.len; simpa using this) ?_ ?_
 ·intro i o1 h1
  rw [List.getElem?_map] at h1
  cases hq:H[i]? with
  | none=>simp [hq] at h1
  | some o'=>simp [hq] at h1; subst h1; exact .inr (B8n o')
 ·intro i o3 h3
  refine .inr ⟨h3,⟨o3.toRo,by rw [List.getElem?_map,h3]; rfl,B8n o3⟩,fun j oj β hj hw _ _=>?_⟩
  rw [List.getElem?_map] at hj
  obtain ⟨o,_,rfl⟩:=Option.map_eq_some_iff.mp hj
  rw [B8n] at hw; cases hw
 ·intro i j β h1 h2 hi hj
  have same:∀m,m < H.length→(g2.L m).blk = some β→(g.L m).blk = some β:=fun m hm hb=>by
   have hn:g.L m ≠ .none:=fun hn=>by rw [hU m hm hn] at hb; simp [GB.blk] at hb
   have hd:(H.map AO.toRo)[m]? = some (H[m]).toRo:= by rw [List.getElem?_map,List.getElem?_eq_getElem hm]; rfl
   rw [← hE.keep m _ hd (B8n _) hn]; exact hb
  exact hR.inj i j β (same i h1 hi) (same j h2 hj)
end
abbrev FE:=Nat × List (List AV) × Value
inductive RC (g:Ghost):AV→Value→List FE→Prop
 | fresh (k:Nat) (rows:List (List AV)) (u:Value) (h:u.oneCell' = true):RC g (.fresh k rows) u [(k,rows,u)]
 | val (v:AV) (u:Value) (h:V g v u):RC g v u []
inductive RCs (g:Ghost):List AV→List Value→List FE→Prop
 | nil:RCs g [] [] []
 | cons (v:AV) (u:Value) (f:List FE) (l:List AV) (us:List Value) (fs:List FE) (h:RC g v u f) (k:RCs g l us fs):RCs g (v :: l) (u :: us) (f++fs)
inductive RV (g:Ghost):AV→Value→List FE→Prop
 | agg (cs:List AV) (vs:Array Value) (fs:List FE) (h:RCs g cs vs.toList fs) (h1:∀x ∈ vs.toList,x.oneCell' = true):RV g (.agg cs) (.agg vs) fs
 | one (v:AV) (u:Value) (fs:List FE) (hv:∀cs,v ≠ .agg cs) (h:RC g v u fs):RV g v u fs
inductive RVs (g:Ghost):List AV→List Value→List FE→Prop
 | nil:RVs g [] [] []
 | cons (v:AV) (u:Value) (f:List FE) (l:List AV) (us:List Value) (fs:List FE) (h:RV g v u f) (k:RVs g l us fs):RVs g (v :: l) (u :: us) (f++fs)
theorem RC.mono {g g':Ghost} (hg:g.le g') {v:AV} {u:Value} {fs:List FE} (h:RC g v u fs):RC g' v u fs:= by
 cases h with
 | fresh k rows _ h=>exact .fresh k rows u h
 | val _ _ h=>exact .val v u (h.mono hg)
theorem RCs.mono {g g':Ghost} (hg:g.le g') {v:List AV} {u:List Value} {fs:List FE} (h:RCs g v u fs):RCs g' v u fs:= by
 induction h with
 | nil=>exact .nil
 | cons v u f l us fs h k ih=>exact .cons v u f l us fs (h.mono hg) ih
theorem RV.mono {g g':Ghost} (hg:g.le g') {v:AV} {u:Value} {fs:List FE} (h:RV g v u fs):RV g' v u fs:= by
 cases h with
 | agg cs vs _ h h1=>exact .agg cs vs fs (h.mono hg) h1
 | one _ _ _ hv h=>exact .one v u fs hv (h.mono hg)
theorem RVs.mono {g g':Ghost} (hg:g.le g') {v:List AV} {u:List Value} {fs:List FE} (h:RVs g v u fs):RVs g' v u fs:= by
 induction h with
 | nil=>exact .nil
 | cons v u f l us fs h k ih=>exact .cons v u f l us fs (h.mono hg) ih
theorem RC.cut {g:Ghost} {N:Nat} {v:AV} {u:Value} {fs:List FE} (h:RC g v u fs) (hb:v.bd N = true):RC (Z4 N g) v u fs:= by
 cases h with
 | fresh k rows _ h=>exact .fresh k rows u h
 | val _ _ h=>exact .val v u (h.cut hb)
theorem RCs.cut {g:Ghost} {N:Nat} {v:List AV} {u:List Value} {fs:List FE} (h:RCs g v u fs) (hb:bdL N v = true):RCs (Z4 N g) v u fs:= by
 induction h with
 | nil=>exact .nil
 | cons v u f l us fs h k ih=>simp only [bdL,Bool.and_eq_true] at hb; exact .cons v u f l us fs (h.cut hb.1) (ih hb.2)
theorem RV.cut {g:Ghost} {N:Nat} {v:AV} {u:Value} {fs:List FE} (h:RV g v u fs) (hb:v.bd N = true):RV (Z4 N g) v u fs:= by
 cases h with
 | agg cs vs _ h h1=>exact .agg cs vs fs (h.cut (by simpa only [AV.bd] using hb)) h1
 | one _ _ _ hv h=>exact .one v u fs hv (h.cut hb)
theorem RVs.cut {g:Ghost} {N:Nat} {v:List AV} {u:List Value} {fs:List FE} (h:RVs g v u fs) (hb:bdL N v = true):RVs (Z4 N g) v u fs:= by
 induction h with
 | nil=>exact .nil
 | cons v u f l us fs h k ih=>simp only [bdL,Bool.and_eq_true] at hb; exact .cons v u f l us fs (h.cut hb.1) (ih hb.2)
def FE.blk (e:FE):Option Nat:=(GB.arr e.1 e.2.2).blk
section
variable {MC:Nat→Code→ACode→Prop} {P:Program} {B0:Nat}
def OkB (B0:Nat) (H0:A1) (g0:Ghost) (w0:World) (β:Nat):Prop:=B0≤β∧(w0.heap.size≤β∨Held H0 g0 β)
theorem OkB.back {H H1:A1} {g g1:Ghost} {w w1:World} (hE:Ext H g w H1 g1 w1) {β:Nat} (h:OkB B0 H1 g1 w1 β):OkB B0 H g w β:= by
 refine ⟨h.1,?_⟩
 rcases h.2 with h2 | ⟨j,o,hj,hw,hb⟩
 ·exact .inl (Nat.le_trans hE.size h2)
 ·rcases hE.blk j β hb with h3 | h3 | h3
  ·rcases hE.wit j o hj hw with h4 | ⟨o2,h4,h5⟩
   ·rw [h4] at h3; simp [GB.blk] at h3
   ·exact .inr ⟨j,o2,h4,h5,h3⟩
  ·exact .inl h3
  ·exact .inr h3
theorem OkB.ofRo {H:A1} {g g1:Ghost} {w:World} {β:Nat} (h:OkB B0 (H.map AO.toRo) g1 w β):OkB B0 H g w β:= by
 refine ⟨h.1,?_⟩
 rcases h.2 with h2 | ⟨j,o,hj,hw,hb⟩
 ·exact .inl h2
 ·rw [List.getElem?_map] at hj
  cases hq:H[j]? with
  | none=>simp [hq] at hj
  | some o'=>simp [hq] at hj; subst hj; rw [B8n] at hw; cases hw
structure FOk (MC:Nat→Code→ACode→Prop) (P:Program) (g:Ghost) (w:World) (lo:Nat→Prop) (e:FE):Prop where
 box:V2 MC P g w (.arr e.1 false e.2.1) (.arr e.1 e.2.2)
 own:∀β,e.blk = some β→lo β∧β < w.heap.size∧∀ i,(g.L i).blk ≠ some β
def Apart (e f:FE):Prop:=∀ β,e.blk = some β→f.blk ≠ some β
structure FsOk (MC:Nat→Code→ACode→Prop) (P:Program) (g:Ghost) (w:World) (lo:Nat→Prop) (fs:List FE):Prop where
 ok:∀e ∈ fs,FOk MC P g w lo e
 apart:fs.Pairwise Apart
theorem FsOk.nil {g:Ghost} {w:World} {lo:Nat→Prop}:FsOk MC P g w lo []:=⟨by simp,.nil⟩
theorem FOk.turn {g g':Ghost} {w w':World} {lo:Nat→Prop} {e:FE} (h:FOk MC P g w lo e) (hle:g.le g') (hsize:w.heap.size≤w'.heap.size)
  (hb:∀β,e.blk = some β→w'.heap[β]? = w.heap[β]?∧∀ o,g'.Φ β o = g.Φ β o) (hL:∀i β,e.blk = some β→(g'.L i).blk ≠ some β):FOk MC P g' w' lo e :=
 ⟨h.box.mono hle hb,fun β hβ=>⟨(h.own β hβ).1,Nat.lt_of_lt_of_le (h.own β hβ).2.1 hsize,fun i=>hL i β hβ⟩⟩
theorem FOk.ext {H H':A1} {g g':Ghost} {w w':World} {lo:Nat→Prop} {e:FE} (h:FOk MC P g w lo e) (hE:Ext H g w H' g' w'):FOk MC P g' w' lo e:= by
 refine h.turn hE.le hE.size (fun β hβ=>?_) (fun i β hβ hc=>?_)
 ·obtain ⟨_,h2,h3⟩:=h.own β hβ
  exact hE.frame β h2 (fun i o _ _ hc=>h3 i hc)
 ·obtain ⟨_,h2,h3⟩:=h.own β hβ
  rcases hE.blk i β hc with h4 | h4 | ⟨j,_,_,_,h4⟩
  ·exact h3 i h4
  ·omega
  ·exact h3 j h4
theorem FsOk.ext {H H':A1} {g g':Ghost} {w w':World} {lo:Nat→Prop} {fs:List FE} (h:FsOk MC P g w lo fs) (hE:Ext H g w H' g' w'):FsOk MC P g' w' lo fs :=
 ⟨fun e he=>(h.ok e he).ext hE,h.apart⟩
theorem FOk.cut {g:Ghost} {w:World} {lo:Nat→Prop} {N:Nat} {e:FE} (h:FOk MC P g w lo e):FOk MC P (Z4 N g) w lo e :=
 ⟨h.box.cut trivial,fun β hβ=>⟨(h.own β hβ).1,(h.own β hβ).2.1,fun i hc=>by
  simp only [Z4] at hc
  split at hc
  ·exact (h.own β hβ).2.2 i hc
  ·simp [GB.blk] at hc⟩⟩
theorem FsOk.cut {g:Ghost} {w:World} {lo:Nat→Prop} {N:Nat} {fs:List FE} (h:FsOk MC P g w lo fs):FsOk MC P (Z4 N g) w lo fs :=
 ⟨fun e he=>(h.ok e he).cut,h.apart⟩
theorem FsOk.weaken {g:Ghost} {w:World} {lo lo':Nat→Prop} {fs:List FE} (h:FsOk MC P g w lo fs) (hl:∀β,lo β→lo' β):FsOk MC P g w lo' fs :=
 ⟨fun e he=>⟨(h.ok e he).box,fun β hβ=>⟨hl β ((h.ok e he).own β hβ).1,((h.ok e he).own β hβ).2⟩⟩,h.apart⟩
structure Going (MC:Nat→Code→ACode→Prop) (P:Program) (B0:Nat) (H:A1) (g:Ghost) (w:World) (H':A1) (g':Ghost):Prop where
 rel:Rel MC P B0 H' g' w
 ext:Ext H g w H' g' w
 len:H'.length = H.length
 unb:∀i,g.L i = .none→g'.L i = .none
 blk:∀i β,(g'.L i).blk = some β→(g.L i).blk = some β
theorem Going.refl {H:A1} {g:Ghost} {w:World} (hR:Rel MC P B0 H g w):Going MC P B0 H g w H g:=⟨hR,Ext.refl _ _ _,rfl,fun _ h=>h,fun _ _ h=>h⟩
theorem Going.trans {H H1 H2:A1} {g g1 g2:Ghost} {w:World} (h:Going MC P B0 H g w H1 g1) (k:Going MC P B0 H1 g1 w H2 g2):Going MC P B0 H g w H2 g2 :=
 ⟨k.rel,h.ext.trans k.ext,k.len.trans h.len,fun i hi=>k.unb i (h.unb i hi),fun i β hb=>h.blk i β (k.blk i β hb)⟩
theorem Froze.going {H H':A1} {g g':Ghost} {w:World} (h:Froze MC P B0 H g w H' g'):Going MC P B0 H g w H' g':=⟨h.rel,h.ext,h.len,fun i hi=>by rw [h.L]; exact hi,fun i β hb=>by rw [← h.L]; exact hb⟩
theorem Going.lo {H H':A1} {g g':Ghost} {w:World} {B:Nat} {lo:Nat→Prop} (h:Going MC P B0 H g w H' g') (hlo:∀i,B≤i→∀ β,(g.L i).blk = some β→lo β):∀i,B≤i→∀ β,(g'.L i).blk = some β→lo β :=
 fun i hi β hb=>hlo i hi β (h.blk i β hb)
theorem Rel.letgo {H:A1} {g:Ghost} {w:World} {b k:Nat} {rows:List (List AV)} {u:Value} (hR:Rel MC P B0 H g w) (hg:H[b]? = some (.arr k false rows)) (hL:g.L b = .arr k u) {lo:Nat→Prop} (hlo:∀β,(g.L b).blk = some β→lo β) :
  ∃ g',Going MC P B0 H g w (hset H b .dead) g'∧FOk MC P g' w lo (k,rows,u)∧(∀ β,(GB.arr k u).blk = some β→(g.L b).blk = some β)∧∀ i,i ≠ b→g'.L i = g.L i:= by
 have hb:=(List.getElem?_eq_some_iff.1 hg).1
 have hbox:V2 MC P g w (.arr k false rows) (.arr k u):= by have:=hR.box b _ hg; rw [hL] at this; exact this
 have hup:=hR.upd hb (.inl ⟨_,hg,rfl⟩) (o':=.dead) (gb':=.arr k (.slice none (slen u + 1) 0)) (Φ':=g.Φ) (w':=w) rfl rfl rfl (Nat.le_refl _) (fun _ _ _=>rfl)
  (by rw [hL]; exact .inr ⟨_,rfl,by simp [slen]⟩) (fun β hβ=>by simp [GB.blk] at hβ) (fun _ _ _ h=>h) (fun _ _ _ _=>rfl) (fun β off x h=>hR.phi β off x h) trivial
 refine ⟨_,⟨hup.1,hup.2,by simp [hset],fun i hi=>?_,fun i β hc=>?_⟩,⟨hbox.mono hup.2.le (fun β hβ=>⟨rfl,fun _=>rfl⟩),fun β hβ=>?_⟩,fun β hβ=>by rw [hL]; exact hβ,fun i hi=>by simp [G3,hi]⟩
 ·have:i ≠ b:= by rintro rfl; rw [hL] at hi; cases hi
  simpa [G3,this] using hi
 ·simp only [G3] at hc
  split at hc
  ·simp [GB.blk] at hc
  ·exact hc
 ·have hβ':(g.L b).blk = some β:= by rw [hL]; exact hβ
  refine ⟨hlo β hβ',(hR.base b β hβ').2,fun i hc=>?_⟩
  simp only [G3] at hc
  split at hc
  ·simp [GB.blk] at hc
  ·next hne=>exact hne (hR.alone (fun o ho=>by rw [hg] at ho; cases ho; rfl) hc hβ')
theorem B7z {H H':A1} {g:Ghost} {w:World} {B:Nat} {lo:Nat→Prop} {v v':AV} {u:Value} (hR:Rel MC P B0 H g w) (hlo:∀i,B≤i→∀ β,(g.L i).blk = some β→lo β) (hV:V g v u) (h:Z6 B H v = some (v',H')) :
  ∃ g' fs,Going MC P B0 H g w H' g'∧RC g' v' u fs∧FsOk MC P g' w lo fs∧∀ e,FOk MC P g w lo e→∀ f ∈ fs,Apart e f:= by
 have thaw:frv H v = some (v',H')→∃ g' fs,Going MC P B0 H g w H' g'∧RC g' v' u fs∧FsOk MC P g' w lo fs∧∀ e,FOk MC P g w lo e→∀ f ∈ fs,Apart e f:= by
  intro h
  obtain ⟨g',q,hV'⟩:=B3j hR hV h
  exact ⟨g',[],q.going,.val _ _ hV',.nil,by simp⟩
 cases v with
 | asl b n =>
  simp only [Z6] at h
  split at h
  ·next k rows hw =>
   split at h
   ·next hB =>
    split at h
    ·next hn =>
     simp only [Option.some.injEq,Prod.mk.injEq] at h
     obtain ⟨rfl,rfl⟩:=h
     obtain ⟨v0,hL,hbox⟩:=hR.arrW hw
     have hg:=Y5 hw
     have hb:=(List.getElem?_eq_some_iff.1 hg).1
     have hsl:=T4 hbox
     have e0:=A13 hV hL (by rw [hsl]; exact Nat.eq_of_beq_eq_true hn)
     subst e0
     have hB':B≤b:= by simpa using hB
     obtain ⟨g',q1,q2,q3,_⟩:=hR.letgo hg hL (lo:=lo) (hlo b hB')
     refine ⟨g',[(k,rows,u)],q1,.fresh k rows u ?_,⟨fun e he=>?_,by simp⟩,?_⟩
     ·cases hV with
      | den _ _ hd=>cases hd
      | asl _ _ _ _ _ _ _ h1=>exact h1
     ·simp at he; subst he; exact q2
     ·intro e he f hf β hβ hc
      simp at hf; subst hf
      exact (he.own β hβ).2.2 b (q3 β hc)
    ·cases h
   ·exact thaw h
  ·exact thaw h
 | nils k =>
  simp only [Z6,Option.some.injEq,Prod.mk.injEq] at h
  obtain ⟨rfl,rfl⟩:=h
  cases hV with
  | den _ _ hd =>
   cases hd
   exact ⟨g,[],.refl hR,.val _ _ (.den _ _ (.seq0 k none 0)),.nil,by simp⟩
 | _ =>
  simp only [Z6,Option.some.injEq,Prod.mk.injEq] at h
  obtain ⟨rfl,rfl⟩:=h
  exact ⟨g,[],.refl hR,.val _ _ hV,.nil,by simp⟩
theorem FsOk.app {g:Ghost} {w:World} {lo:Nat→Prop} {fs fs':List FE} (h:FsOk MC P g w lo fs) (k:FsOk MC P g w lo fs') (ha:∀e ∈ fs,∀ f ∈ fs',Apart e f):FsOk MC P g w lo (fs++fs') :=
 ⟨fun e he=>(List.mem_append.1 he).elim (h.ok e) (k.ok e),List.pairwise_append.2 ⟨h.apart,k.apart,ha⟩⟩
theorem B41 {w:World} {B:Nat} {lo:Nat→Prop}:∀{l l':List AV} {H H':A1} {g:Ghost} {us:List Value},Rel MC P B0 H g w→(∀ i,B≤i→∀ β,(g.L i).blk = some β→lo β)→us.length = l.length →
  (∀ (j:Nat) x,l[j]? = some x→V g x (us[j]?.getD undef))→S7 B H l = some (l',H') →
  ∃ g' fs,Going MC P B0 H g w H' g'∧RCs g' l' us fs∧FsOk MC P g' w lo fs∧∀ e,FOk MC P g w lo e→∀ f ∈ fs,Apart e f
 | [],l',H,H',g,us,hR,hlo,hl,hV,h=>by
  simp only [S7,Option.some.injEq,Prod.mk.injEq] at h
  obtain ⟨rfl,rfl⟩:=h
  have:us = []:=List.length_eq_zero_iff.1 (by simpa using hl)
  subst this
  exact ⟨g,[],.refl hR,.nil,.nil,by simp⟩
 | v :: l,l',H,H',g,us,hR,hlo,hl,hV,h=>by
  obtain ⟨u,us,rfl⟩:∃u us',us = u :: us':= by cases us with | nil=>simp at hl | cons u us=>exact ⟨u,us,rfl⟩
  simp only [S7] at h
  split at h
  ·cases h
  ·next v1 H1 e1 =>
   split at h
   ·cases h
   ·next l2 H2 e2 =>
    simp only [Option.some.injEq,Prod.mk.injEq] at h
    obtain ⟨rfl,rfl⟩:=h
    obtain ⟨g1,f1,q1,r1,k1,a1⟩:=B7z hR hlo (hV 0 v rfl) e1
    obtain ⟨g2,f2,q2,r2,k2,a2⟩:=B41 q1.rel (q1.lo hlo) (us:=us) (by simpa using hl) (fun j x hj=>(hV (j + 1) x hj).mono q1.ext.le) e2
    refine ⟨g2,f1++f2,q1.trans q2,.cons _ _ _ _ _ _ ?_ r2,(k1.ext q2.ext).app k2 (fun e he=>a2 e (k1.ok e he)),?_⟩
    ·exact RC.mono q2.ext.le r1
    ·intro e he f hf
     rcases List.mem_append.1 hf with hf | hf
     ·exact a1 e he f hf
     ·exact a2 e (he.ext q1.ext) f hf
theorem C6d {H H':A1} {g:Ghost} {w:World} {B:Nat} {lo:Nat→Prop} {v v':AV} {u:Value} (hR:Rel MC P B0 H g w) (hlo:∀i,B≤i→∀ β,(g.L i).blk = some β→lo β) (hV:V g v u) (h:T3 B H v = some (v',H')) :
  ∃ g' fs,Going MC P B0 H g w H' g'∧RV g' v' u fs∧FsOk MC P g' w lo fs∧∀ e,FOk MC P g w lo e→∀ f ∈ fs,Apart e f:= by
 have one:(∀ cs,v ≠ .agg cs)→Z6 B H v = some (v',H')→(∃ g' fs,Going MC P B0 H g w H' g'∧RV g' v' u fs∧FsOk MC P g' w lo fs∧∀ e,FOk MC P g w lo e→∀ f ∈ fs,Apart e f):= by
  intro hv h
  obtain ⟨g',fs,q,r,k,a⟩:=B7z hR hlo hV h
  refine ⟨g',fs,q,.one _ _ _ ?_ r,k,a⟩
  intro cs hc; subst hc
  revert h
  cases v with
  | agg cs=>exact absurd rfl (hv cs)
  | asl b n =>
   simp only [Z6,frv]
   intro h
   repeat' split at h
   all_goals simp at h
  | nils k=>simp [Z6]
  | _=>simp [Z6]
 cases v with
 | agg cs =>
  simp only [T3] at h
  cases hq:S7 B H cs with
  | none=>simp [hq] at h
  | some r =>
   obtain ⟨cs',H1⟩:=r
   simp only [hq,Option.map_some,Option.some.injEq,Prod.mk.injEq] at h
   obtain ⟨rfl,rfl⟩:=h
   obtain ⟨vs,rfl,hl,hx⟩:=A6k hV
   obtain ⟨g',fs,q,r,k,a⟩:=B41 hR hlo (us:=vs.toList) (by simpa using hl) (fun j x hj=>by simpa using (hx j x hj).2.1) hq
   refine ⟨g',fs,q,.agg _ _ _ r ?_,k,a⟩
   intro x hx'
   obtain ⟨j,hj,rfl⟩:=List.mem_iff_getElem.1 hx'
   have hj':j < cs.length:= by simp at hj; omega
   have:=(hx j _ (List.getElem?_eq_getElem hj')).2.2
   simp at hj
   simpa [hj] using this
 | _=>exact one (by simp) h
theorem B42 {w:World} {B:Nat} {lo:Nat→Prop}:∀{l l':List AV} {H H':A1} {g:Ghost} {us:List Value},Rel MC P B0 H g w→(∀ i,B≤i→∀ β,(g.L i).blk = some β→lo β)→us.length = l.length →
  (∀ (j:Nat) x,l[j]? = some x→V g x (us[j]?.getD undef))→P4 B H l = some (l',H') →
  ∃ g' fs,Going MC P B0 H g w H' g'∧RVs g' l' us fs∧FsOk MC P g' w lo fs∧∀ e,FOk MC P g w lo e→∀ f ∈ fs,Apart e f
 | [],l',H,H',g,us,hR,hlo,hl,hV,h=>by
  simp only [P4,Option.some.injEq,Prod.mk.injEq] at h
  obtain ⟨rfl,rfl⟩:=h
  have:us = []:=List.length_eq_zero_iff.1 (by simpa using hl)
  subst this
  exact ⟨g,[],.refl hR,.nil,.nil,by simp⟩
 | v :: l,l',H,H',g,us,hR,hlo,hl,hV,h=>by
  obtain ⟨u,us,rfl⟩:∃u us',us = u :: us':= by cases us with | nil=>simp at hl | cons u us=>exact ⟨u,us,rfl⟩
  simp only [P4] at h
  split at h
  ·cases h
  ·next v1 H1 e1 =>
   split at h
   ·cases h
   ·next l2 H2 e2 =>
    simp only [Option.some.injEq,Prod.mk.injEq] at h
    obtain ⟨rfl,rfl⟩:=h
    obtain ⟨g1,f1,q1,r1,k1,a1⟩:=C6d hR hlo (hV 0 v rfl) e1
    obtain ⟨g2,f2,q2,r2,k2,a2⟩:=B42 q1.rel (q1.lo hlo) (us:=us) (by simpa using hl) (fun j x hj=>(hV (j + 1) x hj).mono q1.ext.le) e2
    refine ⟨g2,f1++f2,q1.trans q2,.cons _ _ _ _ _ _ ?_ r2,(k1.ext q2.ext).app k2 (fun e he=>a2 e (k1.ok e he)),?_⟩
    ·exact RV.mono q2.ext.le r1
    ·intro e he f hf
     rcases List.mem_append.1 hf with hf | hf
     ·exact a1 e he f hf
     ·exact a2 e (he.ext q1.ext) f hf
theorem C75 {c:Sc} {B:Nat} {H H':A1} {v v':AV} (h:ScOk c H) (hf:Z6 B H v = some (v',H')):ScOk c H':= by
 unfold Z6 at hf
 repeat' split at hf
 all_goals first
  | (cases hf; done)
  | exact C5y h hf
  | (simp only [Option.some.injEq,Prod.mk.injEq] at hf; obtain ⟨_,rfl⟩:=hf; first | exact h | exact h.setTriv _ .dead (fun _=>trivial))
theorem C4d {c:Sc} {B:Nat}:∀{l l':List AV} {H H':A1},ScOk c H→S7 B H l = some (l',H')→ScOk c H'
 | [],l',H,H',h,hf=>by simp only [S7,Option.some.injEq,Prod.mk.injEq] at hf; exact hf.2 ▸ h
 | v :: l,l',H,H',h,hf=>by
  simp only [S7] at hf
  split at hf
  ·cases hf
  ·next v1 H1 e1 =>
   split at hf
   ·cases hf
   ·next l2 H2 e2 =>
    simp only [Option.some.injEq,Prod.mk.injEq] at hf
    exact hf.2 ▸ C4d (C75 h e1) e2
theorem D4o {c:Sc} {B:Nat} {H H':A1} {v v':AV} (h:ScOk c H) (hf:T3 B H v = some (v',H')):ScOk c H':= by
 unfold T3 at hf
 split at hf
 ·next cs =>
  cases hl:S7 B H cs with
  | none=>simp [hl] at hf
  | some r=>simp only [hl,Option.map_some,Option.some.injEq,Prod.mk.injEq] at hf; exact hf.2 ▸ C4d h (l':=r.1) (H':=r.2) hl
 ·exact C75 h hf
theorem C4g {c:Sc} {B:Nat}:∀{l l':List AV} {H H':A1},ScOk c H→P4 B H l = some (l',H')→ScOk c H'
 | [],l',H,H',h,hf=>by simp only [P4,Option.some.injEq,Prod.mk.injEq] at hf; exact hf.2 ▸ h
 | v :: l,l',H,H',h,hf=>by
  simp only [P4] at hf
  split at hf
  ·cases hf
  ·next v1 H1 e1 =>
   split at hf
   ·cases hf
   ·next l2 H2 e2 =>
    simp only [Option.some.injEq,Prod.mk.injEq] at hf
    exact hf.2 ▸ C4g (D4o h e1) e2
theorem A1z {j r:Nat}:∀{own:List (Nat × Nat)},V7 j own = some r→r ∈ own.map (·.2)
 | [],h=>by cases h
 | x :: l,h=>by
  simp only [V7] at h
  cases hb:Nat.beq x.1 j with
  | true=>simp [hb] at h; simp [h]
  | false=>simp only [hb,cond_false] at h; exact List.mem_cons_of_mem _ (A1z h)
theorem B77 {j j' r:Nat}:∀{own:List (Nat × Nat)},(own.map (·.2)).Nodup→V7 j own = some r→V7 j' own = some r→j = j'
 | [],_,h,_=>by cases h
 | x :: l,hn,h,h'=>by
  simp only [List.map_cons,List.nodup_cons] at hn
  simp only [V7] at h h'
  cases hb:Nat.beq x.1 j <;> cases hb':Nat.beq x.1 j' <;> simp only [hb,hb',cond_true,cond_false,Option.some.injEq] at h h'
  ·exact B77 hn.2 h h'
  ·exact absurd (h' ▸ A1z h) hn.1
  ·exact absurd (h ▸ A1z h') hn.1
  ·rw [← Nat.eq_of_beq_eq_true hb,← Nat.eq_of_beq_eq_true hb']
structure Coming (MC:Nat→Code→ACode→Prop) (P:Program) (B0:Nat) (H0:A1) (g0:Ghost) (w0:World) (H:A1) (g:Ghost) (w:World) (H':A1) (g':Ghost) (X:List Nat):Prop where
 rel:Rel MC P B0 H' g' w
 ext:Ext H0 g0 w0 H' g' w
 le:g.le g'
 len:H'.length = H.length
 same:∀i,i ∉ X→g'.L i = g.L i
theorem Rel.take_over {H0 H:A1} {g0 g:Ghost} {w0 w:World} (hE:Ext H0 g0 w0 H g w) (hR:Rel MC P B0 H g w) {i k:Nat} {rows:List (List AV)} {u:Value} (hi:i < H.length) (hn:g.L i = .none)
  (hf:FOk MC P g w (OkB B0 H0 g0 w0) (k,rows,u)):Rel MC P B0 (H.set i (.arr k false rows)) ⟨G3 g.L i (.arr k u),g.Φ,g.gl⟩ w∧Ext H0 g0 w0 (H.set i (.arr k false rows)) ⟨G3 g.L i (.arr k u),g.Φ,g.gl⟩ w:= by
 have hle:g.le ⟨G3 g.L i (.arr k u),g.Φ,g.gl⟩:=⟨fun j=>by
  by_cases e:j = i
  ·subst e; rw [hn]; trivial
  ·simp only [G3,if_neg e]; exact GB.le_refl _,fun _ _ _ h=>h⟩
 have hn0:g0.L i = .none:= by
  have:=hE.le.L i
  cases hg:g0.L i with
  | none=>rfl
  | arr k v =>
   rw [hg,hn] at this
   rcases this with h | ⟨_,h,_⟩ <;> cases h
  | _=>rw [hg,hn] at this; cases this
 refine ⟨⟨hR.phi,?_,?_,?_,?_,hR.b0⟩,⟨by simpa using hE.len,hE.os,hE.tape,hE.output,hE.size,hE.le.trans hle,?_,?_,?_,?_⟩⟩
 ·intro j β hb
  by_cases e:j = i
  ·subst e; simp only [G3,if_true] at hb
   have:=hf.own β hb
   exact ⟨this.1.1,this.2.1⟩
  ·simp only [G3,if_neg e] at hb; exact hR.base j β hb
 ·intro j j' β hj hj'
  simp only [G3] at hj hj'
  split at hj <;> split at hj'
  ·omega
  ·exact absurd hj' ((hf.own β hj).2.2 _)
  ·exact absurd hj ((hf.own β hj').2.2 _)
  ·next e1 e2=>exact (hR.inj j j' β hj hj').imp id (Or.imp (fun q=>q.set e1 e2) (fun q=>q.set e2 e1))
 ·intro j o ho
  rw [List.getElem?_set] at ho
  by_cases e:i = j
  ·subst e
   rw [if_pos rfl,if_pos hi] at ho
   cases ho
   simp only [G3,if_true,AO.rd]
   exact hf.box.mono hle (fun β _=>⟨rfl,fun _=>rfl⟩)
  ·rw [if_neg e] at ho
   have hne:j ≠ i:=fun h=>e h.symm
   simp only [G3,if_neg hne]
   exact (hR.box j o ho).mono hle (fun β _=>⟨rfl,fun _=>rfl⟩)
 ·intro j hj
  have hne:j ≠ i:= by have:H.length≤j:= by simpa using hj
                      omega
  simp only [G3,if_neg hne]
  exact hR.nolive j (by simpa using hj)
 ·intro j β hb
  simp only [G3] at hb
  split at hb
  ·exact .inr (hf.own β hb).1.2
  ·exact hE.blk j β hb
 ·intro j o ho hw hnn
  simp only [G3]
  split
  ·next e=>subst e; exact absurd hn0 hnn
  ·exact hE.keep j o ho hw hnn
 ·intro j o' ho' hw'
  by_cases e:j = i
  ·subst e; exact .inl hn0
  ·rw [List.getElem?_set,if_neg (fun h=>e h.symm)] at ho'
   exact hE.wit j o' ho' hw'
 ·exact hE.frame
theorem A9p {g:Ghost} {β:Nat} (hΦ:∀o,g.Φ β o = none) (cur:Array Value):∀b o v,g.Φ b o = some v→(fun b o=>if b = β then cur[o]? else g.Φ b o) b o = some v:=fun b o v h=>by
  simp only
  split
  ·next e=>subst e; rw [hΦ] at h; cases h
  ·exact h
theorem Rel.freeze {H0 H:A1} {g0 g:Ghost} {w0 w:World} (hE:Ext H0 g0 w0 H g w) (hR:Rel MC P B0 H g w) {β:Nat} (hβ:β < w.heap.size) (hlo:OkB B0 H0 g0 w0 β) (hown:∀i,(g.L i).blk ≠ some β) (hΦ:∀o,g.Φ β o = none)
  {cur:Array Value} {e:TypeId} (hg:w.heap[β]? = some (.cells cur e (0,0))) :
  Rel MC P B0 H ⟨g.L,fun b o=>if b = β then cur[o]? else g.Φ b o,g.gl.mono (A9p hΦ cur)⟩ w∧Ext H0 g0 w0 H ⟨g.L,fun b o=>if b = β then cur[o]? else g.Φ b o,g.gl.mono (A9p hΦ cur)⟩ w:= by
 have hle:g.le ⟨g.L,fun b o=>if b = β then cur[o]? else g.Φ b o,g.gl.mono (A9p hΦ cur)⟩:=⟨fun _=>GB.le_refl _,fun b o v h=>by
  simp only
  split
  ·next e=>subst e; rw [hΦ] at h; cases h
  ·exact h⟩
 refine ⟨⟨?_,hR.base,hR.inj,?_,hR.nolive,hR.b0⟩,⟨hE.len,hE.os,hE.tape,hE.output,hE.size,hE.le.trans hle,hE.blk,hE.keep,hE.wit,?_⟩⟩
 ·intro b o v h
  simp only at h
  split at h
  ·next e=>subst e; simp [World.cell?,hg,h]
  ·exact hR.phi b o v h
 ·intro i o ho
  refine (hR.box i o ho).mono hle (fun b hb=>⟨rfl,fun o=>?_⟩)
  simp only
  rw [if_neg (by rintro rfl; exact hown i hb)]
 ·intro b hb hn
  obtain ⟨h1,h2⟩:=hE.frame b hb hn
  refine ⟨h1,fun o=>?_⟩
  simp only
  rw [if_neg]
  ·exact h2 o
  ·rintro rfl
   rcases hlo.2 with h3 | ⟨j,oj,h3,h4,h5⟩
   ·omega
   ·exact hn j oj h3 h4 h5
theorem C0h {H0 H:A1} {g0 g:Ghost} {w0 w:World} {n0 j:Nat} {own:List (Nat × Nat)} {v:AV} {u:Value} {fs rest:List FE} (hE:Ext H0 g0 w0 H g w) (hR:Rel MC P B0 H g w)
  (hv:RC g v u fs) (hfs:FsOk MC P g w (OkB B0 H0 g0 w0) (fs++rest)) (hr:∀r,V7 j own = some r→n0 + r < H.length∧g.L (n0 + r) = .none) :
  ∃ g',V g' (inC n0 H own j v).1 u∧Coming MC P B0 H0 g0 w0 H g w (inC n0 H own j v).2 g' ((V7 j own).toList.map (n0 + ·))∧FsOk MC P g' w (OkB B0 H0 g0 w0) rest:= by
 cases hv with
 | val _ _ h =>
  have e:inC n0 H own j v = (v,H):= by
   cases v <;> first | rfl | (cases h with | den _ _ hd=>cases hd)
  rw [e]
  exact ⟨g,h,⟨hR,hE,Ghost.le_refl g,rfl,fun _ _=>rfl⟩,by simpa using hfs⟩
 | fresh k rows _ h1 =>
  have hf:=hfs.ok (k,rows,u) (by simp)
  have hap:=hfs.apart
  simp only [List.singleton_append,List.pairwise_cons] at hap
  simp only [inC]
  cases hrk:V7 j own with
  | some r =>
   obtain ⟨hi,hn⟩:=hr r hrk
   obtain ⟨q1,q2⟩:=Rel.take_over hE hR hi hn hf
   have hle:g.le ⟨G3 g.L (n0 + r) (.arr k u),g.Φ,g.gl⟩:=⟨fun i=>by
    by_cases e:i = n0 + r
    ·subst e; rw [hn]; trivial
    ·simp only [G3,if_neg e]; exact GB.le_refl _,fun _ _ _ h=>h⟩
   refine ⟨⟨G3 g.L (n0 + r) (.arr k u),g.Φ,g.gl⟩,?_,⟨q1,q2,hle,by simp [hset],fun i hi=>?_⟩,⟨fun e he=>?_,hap.2⟩⟩
   ·have hsl:=T4 hf.box
    exact .asl _ _ k u _ (by simp [G3]) (by rw [hsl]; exact Nat.le_refl _) h1 (fun _=>rfl)
   ·simp at hi; simp [G3,hi]
   ·refine (hfs.ok e (by simp [he])).turn hle (Nat.le_refl _) (fun _ _=>⟨rfl,fun _=>rfl⟩) (fun i β hβ hc=>?_)
    simp only [G3] at hc
    split at hc
    ·exact hap.1 e he β hc hβ
    ·exact ((hfs.ok e (by simp [he])).own β hβ).2.2 i hc
  | none =>
   obtain ⟨_,hk,hlen,h4⟩:=hf.box
   rcases h4 with ⟨hr0,hu0⟩ | ⟨β,cp,e,cur,hu0,h5,h6,h7,h8,h9,h10,h11⟩
   ·simp only at hr0 hu0
    subst hr0; subst hu0
    exact ⟨g,.den _ _ (.seq0 k none 0),⟨hR,hE,Ghost.le_refl g,rfl,fun _ _=>rfl⟩,⟨fun e he=>hfs.ok e (by simp [he]),hap.2⟩⟩
   ·simp only at hu0 h5 h9 hlen
    subst hu0
    obtain ⟨o1,o2,o3⟩:=hf.own β rfl
    have hΦ:=h10 rfl
    obtain ⟨q1,q2⟩:=Rel.freeze hE hR o2 o1 o3 hΦ h7
    have hle:g.le ⟨g.L,fun b o=>if b = β then cur[o]? else g.Φ b o,g.gl.mono (A9p hΦ cur)⟩:=⟨fun _=>GB.le_refl _,fun b o v h=>by
     simp only
     split
     ·next e=>subst e; rw [hΦ] at h; cases h
     ·exact h⟩
    refine ⟨_,?_,⟨q1,q2,hle,rfl,fun _ _=>rfl⟩,⟨fun e he=>?_,hap.2⟩⟩
    ·refine .den _ _ (.seq k rows ⟨β,0,none⟩ cp (fun i j=>cur[i * k + j]?.getD undef) rfl h5 hlen (fun i r j x hi hj=>?_) (fun i r j x hi hj=>?_))
     ·obtain ⟨x',hx',_⟩:=h9 i r j x hi hj
      simp [hx']
     ·obtain ⟨x',hx',hd⟩:=h9 i r j x hi hj
      simp only [hx',Option.getD_some]
      exact hd.mono hle.Φ
    ·have hfe:=hfs.ok e (by simp [he])
     refine hfe.turn hle (Nat.le_refl _) (fun b hb=>⟨rfl,fun o=>?_⟩) (fun i b hb=>(hfe.own b hb).2.2 i)
     simp only
     rw [if_neg]
     rintro rfl
     exact hap.1 e he b rfl hb
theorem B67 {H0:A1} {g0:Ghost} {w0 w:World} {n0:Nat} {own:List (Nat × Nat)} (hnd:(own.map (·.2)).Nodup):∀{l:List AV} {us:List Value} {fs rest:List FE} {j:Nat} {H:A1} {g:Ghost},Ext H0 g0 w0 H g w→Rel MC P B0 H g w →
  RCs g l us fs→FsOk MC P g w (OkB B0 H0 g0 w0) (fs++rest)→(∀ j' r,j≤j'→V7 j' own = some r→n0 + r < H.length∧g.L (n0 + r) = .none) →
  ∃ g',(∀ (i:Nat) x,(A2k n0 H own j l).1[i]? = some x→V g' x (us[i]?.getD undef))∧(A2k n0 H own j l).1.length = us.length∧Coming MC P B0 H0 g0 w0 H g w (A2k n0 H own j l).2 g' ((own.map (·.2)).map (n0 + ·))∧FsOk MC P g' w (OkB B0 H0 g0 w0) rest
 | [],us,fs,rest,j,H,g,hE,hR,h,hfs,hr=>by
  cases h
  exact ⟨g,by simp [A2k],rfl,⟨hR,hE,Ghost.le_refl g,rfl,fun _ _=>rfl⟩,hfs⟩
 | v :: l,us,fs,rest,j,H,g,hE,hR,h,hfs,hr=>by
  cases h with
  | cons _ u f _ us fs h k =>
  rw [List.append_assoc] at hfs
  obtain ⟨g1,v1,c1,f1⟩:=C0h (own:=own) (j:=j) (n0:=n0) hE hR h hfs (fun r hrk=>hr j r (Nat.le_refl _) hrk)
  obtain ⟨g2,v2,l2,c2,f2⟩:=B67 hnd (l:=l) (j:=j + 1) c1.ext c1.rel (k.mono c1.le) f1 (fun j' r hj hrk=>by
   obtain ⟨q1,q2⟩:=hr j' r (by omega) hrk
   refine ⟨by rw [c1.len]; exact q1,?_⟩
   rw [c1.same _ ?_]; exact q2
   intro hm
   simp only [List.mem_map,Option.mem_toList] at hm
   obtain ⟨r',hr',he⟩:=hm
   have:r' = r:= by omega
   subst this
   have:=B77 hnd hr' hrk
   omega)
  refine ⟨g2,?_,by simp [A2k,l2],⟨c2.rel,c2.ext,c1.le.trans c2.le,c2.len.trans c1.len,fun i hi=>?_⟩,f2⟩
  ·intro i x hx
   simp only [A2k] at hx
   rcases i with _ | i
   ·simp at hx; subst hx; exact v1.mono c2.le
   ·simp at hx; exact v2 i x hx
  ·rw [c2.same i hi,c1.same i ?_]
   intro hm
   simp only [List.mem_map,Option.mem_toList] at hm
   obtain ⟨r',hr',he⟩:=hm
   exact hi (by subst he; exact List.mem_map_of_mem (A1z hr'))
theorem C85 {H0 H:A1} {g0 g:Ghost} {w0 w:World} {n0:Nat} {own:List (Nat × Nat)} (hnd:(own.map (·.2)).Nodup) {v:AV} {u:Value} {fs rest:List FE} (hE:Ext H0 g0 w0 H g w) (hR:Rel MC P B0 H g w)
  (hv:RV g v u fs) (hfs:FsOk MC P g w (OkB B0 H0 g0 w0) (fs++rest)) (hr:∀r ∈ own.map (·.2),n0 + r < H.length∧g.L (n0 + r) = .none) :
  ∃ g',V g' (inV n0 H own v).1 u∧Coming MC P B0 H0 g0 w0 H g w (inV n0 H own v).2 g' ((own.map (·.2)).map (n0 + ·))∧FsOk MC P g' w (OkB B0 H0 g0 w0) rest:= by
 cases hv with
 | agg cs vs _ h h1 =>
  obtain ⟨g',q1,q2,q3,q4⟩:=B67 (n0:=n0) (j:=0) hnd hE hR h hfs (fun j' r _ hrk=>hr r (A1z hrk))
  refine ⟨g',?_,q3,q4⟩
  simp only [inV]
  refine .agg _ vs (by rw [q2]; simp) (fun j x hj=>by simpa using q1 j x hj) (fun j x hj=>?_)
  have hj':j < vs.size:= by have:=(List.getElem?_eq_some_iff.1 hj).1; rw [q2] at this; simpa using this
  simpa [hj'] using h1 vs[j] (by simp)
 | one _ _ _ hv h =>
  have e:inV n0 H own v = inC n0 H own 0 v:= by cases v <;> first | rfl | exact absurd rfl (hv _)
  rw [e]
  obtain ⟨g',q1,q2,q3⟩:=C0h (own:=own) (j:=0) (n0:=n0) hE hR h hfs (fun r hrk=>hr r (A1z hrk))
  refine ⟨g',q1,⟨q2.rel,q2.ext,q2.le,q2.len,fun i hi=>q2.same i (fun hm=>hi ?_)⟩,q3⟩
  simp only [List.mem_map,Option.mem_toList] at hm
  obtain ⟨r',hr',he⟩:=hm
  subst he; exact List.mem_map_of_mem (A1z hr')
theorem B0z {H0:A1} {g0:Ghost} {w0 w:World} {n0:Nat}:∀{l:List AV} {own:List (List (Nat × Nat))} {us:List Value} {fs rest:List FE} {H:A1} {g:Ghost},(own.flatMap fun q=>q.map (·.2)).Nodup→Ext H0 g0 w0 H g w→Rel MC P B0 H g w →
  RVs g l us fs→FsOk MC P g w (OkB B0 H0 g0 w0) (fs++rest)→(∀ r ∈ own.flatMap fun q=>q.map (·.2),n0 + r < H.length∧g.L (n0 + r) = .none) →
  ∃ g',(∀ (i:Nat) x,(U7 n0 H l own).1[i]? = some x→V g' x (us[i]?.getD undef))∧(U7 n0 H l own).1.length = us.length∧Coming MC P B0 H0 g0 w0 H g w (U7 n0 H l own).2 g' ((own.flatMap fun q=>q.map (·.2)).map (n0 + ·))∧FsOk MC P g' w (OkB B0 H0 g0 w0) rest
 | [],own,us,fs,rest,H,g,hnd,hE,hR,h,hfs,hr=>by
  cases h
  exact ⟨g,by simp [U7],rfl,⟨hR,hE,Ghost.le_refl g,rfl,fun _ _=>rfl⟩,hfs⟩
 | v :: l,own,us,fs,rest,H,g,hnd,hE,hR,h,hfs,hr=>by
  cases h with
  | cons _ u f _ us fs h k =>
  rw [List.append_assoc] at hfs
  have split:(own.flatMap fun q=>q.map (·.2)) = (own.headD []).map (·.2)++own.tail.flatMap fun q=>q.map (·.2):= by cases own <;> simp
  rw [split] at hnd hr ⊢
  obtain ⟨n1,n2,n3⟩:=List.nodup_append.1 hnd
  obtain ⟨g1,v1,c1,f1⟩:=C85 (n0:=n0) (own:=own.headD []) n1 hE hR h hfs (fun r hrk=>hr r (List.mem_append_left _ hrk))
  obtain ⟨g2,v2,l2,c2,f2⟩:=B0z (l:=l) (own:=own.tail) n2 c1.ext c1.rel (k.mono c1.le) f1 (fun r hrk=>by
   obtain ⟨q1,q2⟩:=hr r (List.mem_append_right _ hrk)
   refine ⟨by rw [c1.len]; exact q1,?_⟩
   rw [c1.same _ ?_]; exact q2
   intro hm
   obtain ⟨r',hr',he⟩:=List.mem_map.1 hm
   have:r' = r:= by omega
   subst this
   exact n3 r' hr' r' hrk rfl)
  refine ⟨g2,?_,by simp only [U7,List.length_cons,l2],⟨c2.rel,c2.ext,c1.le.trans c2.le,c2.len.trans c1.len,fun i hi=>?_⟩,f2⟩
  ·intro i x hx
   simp only [U7] at hx
   rcases i with _ | i
   ·simp only [List.getElem?_cons_zero,Option.some.injEq] at hx; subst hx; exact v1.mono c2.le
   ·simp only [List.getElem?_cons_succ] at hx; exact v2 i x hx
  ·simp only [List.map_append,List.mem_append,not_or] at hi
   rw [c2.same i hi.2,c1.same i hi.1]
end
theorem D1a {c:Sc} {n0:Nat} (hn:c.cur≤n0) {H:A1} {own:List (Nat × Nat)} {j:Nat} {v:AV} (h:ScOk c H):ScOk c (inC n0 H own j v).2:= by
 unfold inC
 repeat' split
 all_goals first | exact h | exact h.setNew _ (by omega) _
theorem C7p {c:Sc} {n0:Nat} (hn:c.cur≤n0) {own:List (Nat × Nat)}:∀{l:List AV} {j:Nat} {H:A1},ScOk c H→ScOk c (A2k n0 H own j l).2
 | [],j,H,h=>h
 | v :: l,j,H,h=>by simp only [A2k]; exact C7p hn (D1a hn h)
theorem D55 {c:Sc} {n0:Nat} (hn:c.cur≤n0) {H:A1} {own:List (Nat × Nat)} {v:AV} (h:ScOk c H):ScOk c (inV n0 H own v).2:= by
 unfold inV
 split
 ·exact C7p hn h
 ·exact D1a hn h
theorem C1v {c:Sc} {n0:Nat} (hn:c.cur≤n0):∀{l:List AV} {own:List (List (Nat × Nat))} {H:A1},ScOk c H→ScOk c (U7 n0 H l own).2
 | [],own,H,h=>h
 | v :: l,own,H,h=>by simp only [U7]; exact C1v hn (D55 hn h)
section
variable {P:Program} {b:Frame} {a:Act} {k:List Item} {cs:List Frame} {w w':World} {ops:Array Oper}
def Arr (P:Program) (m:Machine) (b:Frame) (k:List Item) (cs:List Frame):Ex→Act→World→Prop
 | .normal,a,w=>Steps P m (lone (b.atR a k) cs w)
 | .exit id,a,w=>∃ k',exitTo id k' = exitTo id k∧Steps P m (lone (b.atR a (.code (.exit id) :: k')) cs w)
 | .ret,a,w=>∃ k',Steps P m (lone (b.atR a (.code .ret :: k')) cs w)
theorem Arr.of_steps {m m1:Machine} {e:Ex} (h:Steps P m m1) (h':Arr P m1 b k cs e a w):Arr P m b k cs e a w:= by
 cases e with
 | normal=>exact h.trans h'
 | exit id=>obtain ⟨k',h1,h2⟩:=h'; exact ⟨k',h1,h.trans h2⟩
 | ret=>obtain ⟨k',h2⟩:=h'; exact ⟨k',h.trans h2⟩
theorem Arr.pass {m:Machine} {e:Ex} {i:Item} (he:e ≠ .normal) (hi:∀id,e = .exit id→exitTo id (i :: k) = exitTo id k) (h:Arr P m b (i :: k) cs e a w):Arr P m b k cs e a w:= by
 cases e with
 | normal=>exact absurd rfl he
 | exit id=>obtain ⟨k',h1,h2⟩:=h; exact ⟨k',h1.trans (hi id rfl),h2⟩
 | ret=>exact h
theorem C9c {o:Op} {ao:AOp} (h:C9 P o ao = true):∀c,o ≠ .defer c:= by
 rintro c rfl
 cases ao <;> simp [C9] at h
theorem B1j {i:Nat} {rest:List Nat} {o:Oper} {x:Value} (ho:ops[i]? = some o) (hw:Region.wanted o (yielded ops a.tmps) = true) (hnd:∀c,o.op ≠ .defer c)
  (h:Gives ((execOp a.eval o).run P w) x w') :
  step P (lone (b.atR a (.inRegion ops (i :: rest) :: k)) cs w) = .next (lone (b.atR (a.put o.dst x) (.inRegion ops rest :: k)) cs w'):= by
 have hf:=Frame.finish_atR b a ops i rest k x
 rw [ho] at hf
 rw [show a.put o.dst x = a.put ((some o).bind (·.dst)) x from rfl,← hf]
 refine step_lone_go ?_
 rw [stepGR_op ho hw,Oper.semAt_eq _ _ _ hnd]
 rcases h with h | ⟨h,rfl⟩ <;> simp [stepG.apply,Sem.runT_eq,h]
theorem B9l {i:Nat} {rest:List Nat} {o:Oper} (ho:ops[i]? = some o) (hw:Region.wanted o (yielded ops a.tmps) = false) :
  step P (lone (b.atR a (.inRegion ops (i :: rest) :: k)) cs w) = .next (lone (b.atR (a.put o.dst undef) (.inRegion ops rest :: k)) cs w):= by
 have:=stepR_op_skip (P:=P) (b:=b) (a:=a) (k:=k) (cs:=cs) (w:=w) (ops:=ops) (i:=i) (rest:=rest) (by simp [ho,hw])
 rw [this]; simp [ho]
def A4m (f:Value) (args:Array Value):Sem Next:=do let d ← Deferred.ofValue f args; invoke d.target d.args
def Begins (P:Program) (w:World) (f:Value) (args:Array Value) (fr:Frame):Prop :=
 (∃ i aq,(A4m f args).run P w = .ok (.enter i aq) w∧fr = Frame.enter P i aq .normal) ∨
 (∃ l i tmps assign body,(A4m f args).run P w = .ok (.round l i tmps assign body) w∧fr = Frame.round l i tmps assign body .normal)
theorem C5i {i:Nat} {fn:Func} (hf:P.funcs[i]? = some fn) (hb:fn.body.isSome = true) (hn:(fn.name != "runtime.NumGoroutine") = true) (fa fc args:Array Value) :
  Begins P w (.func (.func i) fa fc) args (Frame.enter P i (fa++args++fc) .normal):= by
 refine .inl ⟨i,_,?_,rfl⟩
 have hn':¬ fn.name = "runtime.NumGoroutine":= by simpa using hn
 have hb':¬ fn.body = none:= by
  intro h; simp [h] at hb
 simp [A4m,Deferred.ofValue,Sem.run_bind,Result.andThen,invoke,callFunc,program,Sem.run,hf,hn',hb']
theorem C1e {β:Nat} {r:Loop} (h:w.heap[β]? = some (.loop r)) {args:Array Value} (hs:args.size = r.params.size) :
  Begins P w (.func (.yield β) #[] #[]) args (Frame.round β r.fn ((r.params.zip args).foldl (fun tmps (t,a)=>tmps.setIfInBounds t a) r.tmps) r.assign r.body .normal):= by
 refine .inr ⟨β,r.fn,_,r.assign,r.body,?_,rfl⟩
 have:=run_yield (P:=P) h hs
 simp [A4m,Deferred.ofValue,Sem.run_bind,Result.andThen,invoke,this]
theorem B5d {i:Nat} {rest:List Nat} {o:Oper} {f:Operand} {args:Array Operand} {ats:Array TypeId} (ho:ops[i]? = some o) (hw:Region.wanted o (yielded ops a.tmps) = true)
  (hop:o.op = .call { callee:=.value f,args,argTypes:=ats }) {fr:Frame} (h:Begins P w (a.eval f) (args.map a.eval) fr) :
  step P (lone (b.atR a (.inRegion ops (i :: rest) :: k)) cs w) = .next (lone fr (b.atR a (.inRegion ops (i :: rest) :: k) :: cs) w):= by
 have he:execOp a.eval o = A4m (a.eval f) (args.map a.eval):= by
  simp only [execOp,hop,resolve,A4m]
 refine step_lone_go ?_
 rw [stepGR_op ho hw,Oper.semAt_eq _ _ _ (by rw [hop]; simp),he]
 rcases h with ⟨j,aq,h,rfl⟩ | ⟨l,j,tmps,assign,body,h,rfl⟩
 ·simp [stepG.apply,Sem.runT_eq,h,Frame.atR]
 ·simp [stepG.apply,Sem.runT_eq,h,Frame.atR]
theorem B8m {f:Operand} {ps:Array Tmp} {assign body:Code} {l:Nat} {mark:List Deferred} {w1:World} {i:Nat} {aq:Array Value}
  (he:(Instr.enterLoop b.fn a.tmps ps assign body b.roundOf).run P w = .ok (l,mark) w1) (hc:(A4m (a.eval f) #[.func (.yield l) #[] #[]]).run P w1 = .ok (.enter i aq) w1) :
  step P (lone (b.atR a (.code (.rangeFunc f ps assign body) :: k)) cs w) =
   .next (lone (Frame.enter P i aq .normal) (b.atR { a with defers:=mark++a.defers } (.inRangeFunc l :: k) :: cs) w1) :=
 step_lone_go (by
  have hev:=Frame.eval_atR b { a with defers:=mark++a.defers } (.inRangeFunc l :: k)
  simp only [Frame.atR] at hev
  have hc':Sem.run P (resolve ({ tmps:=a.tmps,defers:=mark++a.defers }:Act).eval { callee:=.value f,args:=#[.const (.func (.yield l) #[] #[])],argTypes:=#[] } 0 >>= fun d=>invoke d.target d.args) w1 = .ok (.enter i aq) w1:= by
   have e1:({ tmps:=a.tmps,defers:=mark++a.defers }:Act).eval f = a.eval f:= by cases f <;> rfl
   have e2:({ tmps:=a.tmps,defers:=mark++a.defers }:Act).eval (.const (.func (.yield l) #[] #[])) = .func (.yield l) #[] #[]:=rfl
   simpa [resolve,A4m,e1,e2] using hc
  simp [stepG,stepG.exec,Frame.atR,Sem.runT_eq,he,GStep.bare_after,stepG.apply,hev,hc'])
theorem B22 {l:Nat} {jump:Option Code} (h:(Instr.endLoop l).run P w = .ok jump w') :
  step P (lone (b.atR a (.endRangeFunc l :: k)) cs w) = .next (lone (b.atR a ((jump.map Item.code).toList++k)) cs w') :=
 step_lone_go (by simp [stepG,stepG.exec,Frame.atR,Sem.runT_eq,h,GStep.bare_after])
theorem B0v (l:Nat) (v:Value):(b.atR a (.inRangeFunc l :: k)).finish v = b.atR a (.endRangeFunc l :: k):= by
 simp [Frame.finish,Frame.atR]
def A58 (β:Nat):Deferred:={ target:=.collected β,args:=#[] }
theorem C91 {fr:Frame} {w w':World} {β:Nat} {ds:List Deferred} (hm:fr.mode = .returning) (hd:fr.defers = A58 β :: ds) (hk:(Instr.takeDeferred β).run P w = .ok [] w') :
  step P (lone fr cs w) = .next (lone { fr with defers:=ds } cs w'):= by
 refine step_lone_go ?_
 simp [stepG,unwind,hm,hd,A58,Sem.runT_eq,hk,GStep.bare_after]
theorem B5e:∀(βs:List Nat) (fr:Frame) (w:World),fr.mode = .returning→fr.defers = βs.map A58→βs.Nodup→(∀ β ∈ βs,w.heap[β]? = some (.deferred (some []))) →
  ∃ w',Steps P (lone fr cs w) (lone { fr with defers:=[] } cs w')∧w'.os = w.os∧w'.tape = w.tape∧w'.output = w.output∧w'.heap.size = w.heap.size∧(∀ β,β ∉ βs→w'.heap[β]? = w.heap[β]?)∧∀ β ∈ βs,w'.heap[β]? = some (.deferred none)
 | [],fr,w,hm,hd,hn,hβ=>⟨w,by
   have:({ fr with defers:=[] }:Frame) = fr:= by cases fr; simp at hd; simp [hd]
   rw [this]; exact .refl _ _,rfl,rfl,rfl,rfl,fun _ _=>rfl,by simp⟩
 | β :: βs,fr,w,hm,hd,hn,hβ=>by
  obtain ⟨hn1,hn2⟩:=List.nodup_cons.1 hn
  have hβ0:=hβ β (by simp)
  have hlt:β < w.heap.size:= by
   rcases Nat.lt_or_ge β w.heap.size with h | h
   ·exact h
   ·simp [Array.getElem?_eq_none h] at hβ0
  have h1:=C91 (P:=P) (cs:=cs) (ds:=βs.map A58) hm (by simpa using hd) (run_takeDeferred (P:=P) hβ0)
  obtain ⟨w',q1,q2,q3,q4,q5,q6,q7⟩:=B5e βs { fr with defers:=βs.map A58 } (w.putObj β (.deferred none)) hm rfl hn2 (fun γ hγ=>by
   rw [World.putObj_heap_other (by rintro rfl; exact hn1 hγ)]; exact hβ γ (by simp [hγ]))
  refine ⟨w',.head h1 q1,q2,q3,q4,by simpa using q5,fun γ hγ=>?_,fun γ hγ=>?_⟩
  ·simp at hγ
   rw [q6 γ hγ.2,World.putObj_heap_other hγ.1]
  ·rcases List.mem_cons.1 hγ with rfl | hγ
   ·rw [q6 _ hn1,World.putObj_heap_same hlt]
   ·exact q7 γ hγ
end
section
variable {MC:Nat→Code→ACode→Prop} {P:Program} {B0:Nat} {c:Sc} {n0:Nat} {H H':A1} {g:Ghost} {w:World} {s:B4} {a:Act} {o:Oper} {v:AV}
theorem D8b {k:Nat} {x:Opd} {lo hi:Option Opd} (hm:C9 P o.op (.sub k x lo hi) = true) (hR:Rel MC P B0 H g w) (hS:D4 g s a.tmps) (h:prim c n0 s H (.sub k x lo hi) = some (v,H')):Does MC P B0 a o [] H g w v H':= by
 have hm':C9 P o.op (.sliceL k x lo hi) = true:= by simpa only [C9] using hm
 simp only [prim] at h
 split at h
 ·next k' rows he =>
  refine B7e hm' hR hS (c:=c) (n0:=n0) ?_
  simp only [prim,he,Q9,frv]
  exact h
 ·next b n he =>
  split at h
  ·next k' pb rows hc =>
   split at h
   ·next i u q1 q2 =>
    split at h
    ·next h0 =>
     obtain ⟨h0,h01,h1',rfl,hn⟩:=h0
     simp only [C9] at hm
     split at hm
     ·next t x' lo' hi' hop =>
      simp only [Bool.and_eq_true] at hm
      obtain ⟨⟨⟨h1,h2⟩,h3⟩,h4⟩:=hm
      split at h1
      ·next e hsl =>
       have hu:=P6 hsl
       simp at h1
       obtain ⟨⟨hk,hkn⟩,hpos⟩:=h1
       simp only [Option.some.injEq,Prod.mk.injEq] at h
       obtain ⟨hv,rfl⟩:=h
       have b1:((lo'.map a.eval) = none∧i = 0)∨∃ k,(lo'.map a.eval) = some (.int k i):= by
        rcases A5q h3 hS q1 with ⟨e1,e2⟩ | ⟨x2,k,e1,e2⟩
        ·exact .inl ⟨by simp [e1],e2⟩
        ·exact .inr ⟨k,by simp [e1,e2]⟩
       have b2:((hi'.map a.eval) = none∧u = n)∨∃ k,(hi'.map a.eval) = some (.int k u):= by
        rcases A5q h4 hS q2 with ⟨e1,e2⟩ | ⟨x2,k,e1,e2⟩
        ·exact .inl ⟨by simp [e1],e2⟩
        ·exact .inr ⟨k,by simp [e1,e2]⟩
       obtain ⟨v0,hL,hbox⟩:=hR.arr hc
       have hrun:∀ad cp,n≤cp→a.eval x' = .slice ad n cp →
         (execOp a.eval o).run P w = .ok (.value (.slice (if cp - i.toNat = 0 then ad else ad.map (·.add (i.toNat * k'))) (u.toNat - i.toNat) (cp - i.toNat))) w:= by
        intro ad cp hcp he
        have:=Y2 (P:=P) (isSlice:=true) h0 h01 h1' hcp b1 b2 w
        simp [execOp,hop,Instr.sliceAt,run_underlying hu,he,Instr.slice,this,K3 (K2 hkn),hk]
        split <;> split <;> first | rfl | omega
       have hsl2:slen v0 = n:= by
        obtain ⟨_,_,_,h5⟩:=hbox
        rcases h5 with ⟨e0,e1⟩ | ⟨β,cp,e',cur,e1,_⟩
        ·subst e0 e1; simp at hn; simpa [slen] using hn
        ·subst e1; simpa [slen] using hn
       have hV:=J2 hS h2 he
       have e0:=A13 hV hL hsl2
       obtain ⟨_,hk0,hlen,h5⟩:=hbox
       have fin:∀y,(execOp a.eval o).run P w = .ok (.value y) w→V g v y→Does MC P B0 a o [] H g w v H:=fun y r1 r2=>⟨y,w,g,.inl r1,r2,hR,Ext.refl _ _ _,rfl,fun i _ h=>h⟩
       rcases h5 with ⟨e1,e2⟩ | ⟨β,cp,e',cur,e2,hcp,_⟩
       ·subst e1 e2
        simp at hn
        subst hn
        have hx:=hrun none 0 (Nat.le_refl _) e0
        have hiu:i = u:= by omega
        rw [if_pos hiu] at hv
        subst hiu hv
        refine fin _ hx ?_
        rw [Nat.sub_self]
        exact .den _ _ (.seq0 _ _ _)
       ·subst e2
        rw [hn] at e0 hcp
        have hx:=hrun _ cp hcp e0
        by_cases hiu:i = u
        ·rw [if_pos hiu] at hv
         subst hiu hv
         refine fin _ hx ?_
         rw [Nat.sub_self]
         exact .den _ _ (.seq0 _ _ _)
        ·rw [if_neg hiu] at hv
         subst hv
         rw [if_neg (by omega)] at hx
         refine fin _ hx ?_
         have:(some (⟨β,0,none⟩:Addr)).map (·.add (i.toNat * k')) = some ⟨β,i.toNat * k',none⟩:= by
          simp [Addr.add]
          intro hq; exact hq.symm
         rw [this]
         exact .csa _ _ _ _ _ _ _ _ hL (by omega) (by simp [slen,hn]) (fun _=>⟨β,cp,by rw [hn],rfl,by omega⟩)
      ·cases h1
     ·cases hm
    ·cases h
   ·cases h
  ·cases h
 ·cases h
theorem D30 {k:Nat} {z:List AV} {x:Opd} (hm:C9 P o.op (.clear k z x) = true) (hR:Rel MC P B0 H g w) (hS:D4 g s a.tmps) (h:prim c n0 s H (.clear k z x) = some (v,H')):Does MC P B0 a o [] H g w v H':= by
 simp only [C9] at hm
 split at hm
 ·next args argTypes hop =>
  split at hm
  ·next x' t hargs htys =>
   simp only [Bool.and_eq_true] at hm
   obtain ⟨h1,h3⟩:=hm
   split at h1
   ·next e hsl =>
    simp only [Bool.and_eq_true] at h1
    obtain ⟨⟨c1,c2⟩,c3⟩:=h1
    have ht:=P6 hsl
    have hk:P.cellsOf e = k:= by simpa using c1
    have hpos:0 < k:= by simpa using c3
    obtain ⟨i,zv,hi,hz,hC,hkz⟩:=A33 c2 g
    have hargs':args = #[x']:= by apply Array.ext'; simpa using hargs
    have htys':argTypes = #[t]:= by apply Array.ext'; simpa using htys
    subst hargs' htys'
    have hex:∀y w',(Builtin.clear_ #[t] o.type #[a.eval x']).run P w = .ok y w'→(execOp a.eval o).run P w = .ok (.value y) w':= by
     intro y w' hy
     unfold execOp
     simp only [hop,resolve,invoke,builtin,Sem.run_bind,Sem.run_pure,Result.andThen_ok,List.map_toArray,List.map_cons,List.map_nil,hy]
    simp only [prim] at h
    split at h
    ·next b off m n hd =>
     split at h
     ·next kk rows hc =>
      split at h
      ·next hcond =>
       obtain ⟨d1,d2,d3,d4⟩:=hcond
       subst d1 d2
       simp at h; obtain ⟨rfl,rfl⟩:=h
       obtain ⟨v0,hL,hbox⟩:=hR.arrW hc
       have hsl:=T4 hbox
       have hV:=J2 hS h3 hd
       generalize hev:a.eval x' = u at hV
       have hb:=Y5 hc
       simp only at hb
       cases hV with
       | den _ _ hd=>cases hd
       | csl _ _ _ _ β c e hL'=>rw [hL] at hL'; cases hL'
       | csa _ _ _ _ kk' c v1 x hL' hcn hle hp =>
        rw [hL] at hL'; cases hL'
        obtain ⟨β1,c1',e1,e2,e3⟩:=hp hsl
        subst e1 e2
        obtain ⟨_,hk0,hlen,h0⟩:=hbox
        rcases h0 with ⟨rfl,h0⟩ | ⟨β,cp0,e',cur,hv,a5,a6,a7,a8,a9,a10,a11⟩
        ·cases h0
        ·cases hv
         have hkz':z.length = kk:= by omega
         have hzs:zv.cells.size = kk:= by rw [hC.1]; exact hkz'
         have hrz:=B4c (n:=n) hC hkz' hpos
         obtain ⟨q1,q2,q3⟩:=hrz
         have hfz:=B8x c2
         generalize hnw:(Array.range (n * kk)).map (zv.cells[· % zv.cells.size]!) = news at q1 q3
         have hn2:news.size = n * kk:= by rw [← hnw]; simp
         have hn3:∀u ∈ news.toList,u.oneCell' = true:= by
          intro u hu
          obtain ⟨j,hj⟩:=List.getElem?_of_mem hu
          have hj':news[j]? = some u:= by simpa using hj
          have hjl:j < n * kk:= by have:=(Array.getElem?_eq_some_iff.1 hj').1; omega
          have hm1:j % kk < kk:=Nat.mod_lt _ hpos
          have hd1:j / kk < n:=Nat.div_lt_of_lt_mul (by rw [Nat.mul_comm]; exact hjl)
          obtain ⟨x,hx⟩:∃x,z[j % kk]? = some x:=⟨_,List.getElem?_eq_getElem (by omega)⟩
          obtain ⟨u',hu',_,ho⟩:=q3 (j / kk) z (j % kk) x (by simp [hd1]) hx
          rw [Nat.div_add_mod' j kk,hj'] at hu'
          cases hu'
          exact ho
         have hsz:(off + n) * kk≤cur.size:= by rw [a8]; exact Nat.mul_le_mul_right _ (by omega)
         rw [Nat.add_mul] at hsz
         have hst:=run_storeCells_at P β1 (off * kk) e' news.toList 0 cur w a7 (by simp [hn2]; omega) hn3
         simp only [Nat.add_zero] at hst
         have hok:off * kk≤cur.size:= by omega
         have get:∀j,((cur.toList.take (off * kk)++news.toList++cur.toList.drop (off * kk + news.toList.length)).toArray)[j]? = if j < off * kk then cur[j]? else if j < (off + n) * kk then news[j - off * kk]? else cur[j]?:= by
          intro j
          simp only [List.getElem?_toArray,List.append_assoc]
          rw [List.getElem?_append]
          have hl1:(cur.toList.take (off * kk)).length = off * kk:= by simp; omega
          rw [hl1]
          split
          ·next h1=>rw [List.getElem?_take_of_lt h1]; simp
          ·next h1 =>
           rw [List.getElem?_append]
           simp only [Array.length_toList,hn2]
           rw [Nat.add_mul]
           by_cases h2:j - off * kk < n * kk
           ·rw [if_pos h2,if_pos (by omega)]; simp
           ·rw [if_neg h2,if_neg (by omega),List.getElem?_drop]; simp
            congr 1; omega
         have eL:G3 g.L b (g.L b) = g.L:= by funext j; simp only [G3]; split; (next e=>rw [e]); rfl
         have hl2:(rows.take off++(List.replicate n z++rows.drop (off + n))).length = rows.length:= by simp; omega
         have hW:=hR.write (b:=b) ⟨_,hb,rfl⟩ (by rw [hL]; rfl) a7 (cur.toList.take (off * kk)++news.toList++cur.toList.drop (off * kk + news.toList.length)).toArray
          (o':=.arr kk false (rows.take off++(List.replicate n z++rows.drop (off + n)))) (gb':=g.L b) (GB.le_refl _) (by rw [hL]; rfl) (fun off hs=>by rw [a10 rfl off] at hs; cases hs)
          (Φ':=g.Φ) (fun _ _ _=>rfl) (fun _ _ h=>h) (fun off u h=>by rw [a10 rfl off] at h; cases h) (by
           rw [hL]
           refine ⟨rfl,hk0,fun r hr=>?_,.inr ⟨β1,c1',e',_,by rw [hl2],by omega,a6,setRow_heap w _ cur _ e' (0,0) a7,?_,fun i r j x hi hj=>?_,fun _ off=>a10 rfl off,by simp⟩⟩
           ·rcases List.mem_append.1 hr with h | h
            ·exact hlen r (List.mem_of_mem_take h)
            ·rcases List.mem_append.1 h with h | h
             ·rw [(List.mem_replicate.1 h).2]; exact hkz'
             ·exact hlen r (List.mem_of_mem_drop h)
           ·simp [hn2]; omega
           ·rw [get]
            rw [List.getElem?_append] at hi
            have htl:(rows.take off).length = off:= by simp; omega
            rw [htl] at hi
            split at hi
            ·next hiq =>
             rw [List.getElem?_take_of_lt hiq] at hi
             have hjk:j < kk:= by have h1:=(List.getElem?_eq_some_iff.1 hj).1; have h2:=hlen r (List.mem_of_getElem? hi); omega
             have:=M4 (k:=kk) hiq
             rw [if_pos (by omega)]
             exact a9 i r j x hi hj
            ·next hiq =>
             have h9:off * kk≤i * kk:=Nat.mul_le_mul_right _ (by omega)
             rw [if_neg (by omega)]
             rw [List.getElem?_append,List.length_replicate] at hi
             split at hi
             ·next hi2 =>
              have hr:=(List.mem_replicate.1 (List.mem_of_getElem? hi)).2
              subst hr
              have hjk:j < kk:= by have h1:=(List.getElem?_eq_some_iff.1 hj).1; omega
              have:=M4 (k:=kk) (show i < off + n by omega)
              rw [if_pos (by omega)]
              obtain ⟨u,hu',hV,ho⟩:=q3 (i - off) r j x hi hj
              rw [Nat.sub_mul,show i * kk - off * kk + j = i * kk + j - off * kk by omega] at hu'
              exact ⟨u,hu',show Den g.Φ x u from A9q (List.all_eq_true.1 hfz x (List.mem_of_getElem? hj)) hV⟩
             ·next hi2 =>
              rw [List.getElem?_drop] at hi
              rw [show off + n + (i - off - n) = i by omega] at hi
              have h8:(off + n) * kk≤i * kk:=Nat.mul_le_mul_right _ (by omega)
              rw [if_neg (by omega)]
              exact a9 i r j x hi hj)
         rw [eL] at hW
         have hsize:i.size = kk:= by rw [← hk]; simp [Program.cellsOf,hi]
         rw [hev] at hex
         obtain ⟨n',rfl⟩:∃n',n = n' + 1:=⟨n - 1,by omega⟩
         refine ⟨_,_,g,.inl (hex (.tuple #[]) _ ?_),.tup [] #[] rfl (by simp),hW.1,hW.2,by simp [hset],fun i _ h=>h⟩
         have hzv:(zeroValue e).run P w = .ok zv w:= by simp [zeroValue,typeInfo,hi,hz]
         have hzc:Builtin.zeroCells zv.cells (n' + 1) = news:= by rw [← hnw]; simp [Builtin.zeroCells,hzs]
         simp [Builtin.clear_,run_underlying ht,hzv,hzc,hst]
      ·cases h
     ·cases h
    ·cases h
   ·cases h1
  ·cases hm
 ·cases hm
theorem D78 {k r:Nat} {x:Opd} {hi:Option Opd} (hm:C9 P o.op (.cut k x hi r) = true) (hR:Rel MC P B0 H g w) (hS:D4 g s a.tmps) (hF:Free H g n0 [r]) (h:prim c n0 s H (.cut k x hi r) = some (v,H')):Does MC P B0 a o [n0 + r] H g w v H':= by
 simp only [C9] at hm
 split at hm
 ·next t x' hi' hop =>
  simp only [Bool.and_eq_true] at hm
  obtain ⟨⟨h1,h2⟩,h4⟩:=hm
  split at h1
  ·next e hsl =>
   have hu:=P6 hsl
   simp at h1
   obtain ⟨⟨hk,hkn⟩,hpos⟩:=h1
   simp only [prim] at h
   split at h
   ·next b n hp =>
    split at h
    ·next k2 rows hh hw hr =>
     split at h
     ·next hb =>
      simp only [Option.some.injEq,Prod.mk.injEq] at h
      obtain ⟨rfl,rfl⟩:=h
      simp only [Bool.and_eq_true,decide_eq_true_eq] at hb
      obtain ⟨hn,b2,b3⟩:=hb
      have hn:=Nat.eq_of_beq_eq_true hn
      subst hn
      obtain ⟨v0,hL,hbox⟩:=hR.arrW hw
      have hg:=Y5 hw
      have hVx:=J2 hS h2 hp
      have hsl2:=T4 hbox
      have e0:=A13 hVx hL (by rw [hsl2])
      obtain ⟨hi0,hn0⟩:=hF r (by simp)
      have q2:((hi'.map a.eval) = none∧hh = rows.length)∨∃ k,(hi'.map a.eval) = some (.int k hh):= by
       rcases A5q h4 hS hr with ⟨e1,e2⟩ | ⟨x2,k,e1,e2⟩
       ·exact .inl ⟨by simp [e1],e2⟩
       ·exact .inr ⟨k,by simp [e1,e2]⟩
      have hrun:∀ad cp,rows.length≤cp→a.eval x' = .slice ad rows.length cp →
        (execOp a.eval o).run P w = .ok (.value (.slice (if cp = 0 then ad else ad.map (·.add (0 * k2))) (hh.toNat - 0) (cp - 0))) w:= by
       intro ad cp hcp he
       have:=Y2 (P:=P) (isSlice:=true) (l:=0) (by omega) b2 b3 hcp (.inl ⟨rfl,rfl⟩) q2 w
       obtain ⟨k0,_⟩:=hbox
       simp [execOp,hop,Instr.sliceAt,run_underlying hu,he,Instr.slice,this,K3 (K2 hkn)]
      obtain ⟨g1,q1,q3,q4,q5⟩:=hR.letgo hg hL (lo:=OkB B0 H g w) (fun β hβ=>⟨(hR.base b β hβ).1,.inr ⟨b,_,hg,rfl,hβ⟩⟩)
      have hne:n0 + r ≠ b:= by rintro e; rw [← e,hn0] at hL; cases hL
      have new:∃v1,(execOp a.eval o).run P w = .ok (.value v1) w∧v1.oneCell' = true∧FOk MC P g1 w (OkB B0 H g w) (k2,rows.take hh.toNat,v1):= by
       obtain ⟨k0,hk2,hlen,h5⟩:=q3.box
       rcases h5 with ⟨hr0,hu0⟩ | ⟨β,cp,e',cur,hu0,c1,c2,c3,c4,c5,c6,c7⟩
       ·simp only at hr0 hu0
        subst hr0
        rw [hu0] at e0
        simp only [List.length_nil] at b3
        have e1:hh = 0:= by omega
        subst e1
        have:=hrun none 0 (by simp) (by simpa using e0)
        refine ⟨.slice none 0 0,by simpa using this,rfl,⟨rfl,hk2,by simp,.inl ⟨rfl,rfl⟩⟩,fun β hβ=>by simp [FE.blk,GB.blk] at hβ⟩
       ·simp only at hu0 c1 c5 hlen
        subst hu0
        have:=hrun (some ⟨β,0,none⟩) cp c1 e0
        have e1:(if cp = 0 then (some ⟨β,0,none⟩:Option Addr) else (some ⟨β,0,none⟩:Option Addr).map (·.add (0 * k2))) = some ⟨β,0,none⟩:= by
         split
         ·rfl
         ·simp [Addr.add]
        rw [e1] at this
        have hlt:(rows.take hh.toNat).length = hh.toNat:= by simp; omega
        refine ⟨.slice (some ⟨β,0,none⟩) hh.toNat cp,by simpa using this,rfl,⟨rfl,hk2,fun r hr=>hlen r (List.mem_of_mem_take hr),.inr ⟨β,cp,e',cur,by rw [hlt],by rw [hlt]; omega,c2,c3,c4,fun i r j x hi hj=>?_,c6,by simp⟩⟩,fun β' hβ=>q3.own β' hβ⟩
        rw [List.getElem?_take] at hi
        split at hi
        ·exact c5 i r j x hi hj
        ·cases hi
      obtain ⟨v1,r1,r2,r3⟩:=new
      obtain ⟨t1,t2⟩:=Rel.take_over (i:=n0 + r) q1.ext q1.rel (by rw [q1.len]; exact hi0) (by rw [q5 _ hne]; exact hn0) r3
      refine ⟨v1,w,_,.inl r1,?_,t1,t2,by simp [hset],?_⟩
      ·have hsl3:=T4 r3.box
       have hlt:(rows.take hh.toNat).length = hh.toNat:= by simp; omega
       exact .asl _ _ k2 v1 _ (by simp [G3]) (by rw [hsl3,hlt]; exact Nat.le_refl _) r2 (fun _=>rfl)
      ·intro i hi hn
       simp only [List.mem_singleton] at hi
       simp only [G3,if_neg hi]
       exact q1.unb i hn
     ·cases h
    ·cases h
   ·cases h
  ·cases h1
 ·cases hm
theorem C6j {op:AOp} (hok:D4m op = true) (hm:C9 P o.op op = true) (hR:Rel MC P B0 H g w) (hS:D4 g s a.tmps) (hF:Free H g n0 (D7 op)) (hnd:(D7 op).Nodup)
  (h:prim c n0 s H op = some (v,H')):Does MC P B0 a o ((D7 op).map (n0 + ·)) H g w v H':= by
 cases op with
 | mv x=>exact (E1n hm hS h).does hR _
 | mvz x=>exact (D79 hm hR hS h).mono (by simp)
 | pick x y z=>exact (D6w hm hS h).does hR _
 | nil k r=>exact D8a hm hR hF h
 | alloc zs owns r=>exact D3z hm hR hF hnd h
 | box n x r=>exact D77 hm hR hS hF h
 | build z parts=>exact (D4p hm hS h).does hR _
 | lits k z n parts own=>exact D58 hm hR hS hF h
 | xlits k z n parts=>exact (D35 hm hR hS h).mono (by simp)
 | load k x=>exact (D6t hm hR hS (by rintro rfl; simp [D4m] at hok) h).does hR _
 | storeN x k r=>exact D1n hm hR hS hF h
 | store k x y=>exact (D34 hm hR hS h).mono (by simp)
 | nilck x=>exact (D4r hm hS h).does hR _
 | bin op x y=>exact (D83 hm hS h).does hR _
 | beq neg x y=>exact (D82 hm hS h).does hR _
 | cmp neg ks x y=>exact (D84 hm hS h).does hR _
 | un op x=>exact (E1o hm hS h).does hR _
 | conv k x=>exact (D6n hm hS h).does hR _
 | idc x=>exact (D85 hm hS h).does hR _
 | mkfn f x y=>exact (D6u hm hS h).does hR _
 | mkmap r=>exact D32 hm hR hF h
 | mkslice k b z l cp r=>exact C89 hm hR hS hF h
 | sliceS x lo hi=>exact (D2l hm hS h).does hR _
 | sliceL k x lo hi=>exact (B7e hm hR hS h).mono (by simp)
 | sliceQ k x lo hi=>exact (D1m hm hR hS h).mono (by simp)
 | sliceA k n x hi=>exact (D2k hm hR hS h).does hR _
 | nilq q x=>exact (D6v hm hS h).does hR _
 | fieldAddr off x=>exact (C4h hm hS h).does hR _
 | field k off x=>exact (D4q hm hS h).does hR _
 | idxS k x i=>exact (D6p hm hR hS h).does hR _
 | idxA k n x i=>exact (D6o hm hS h).does hR _
 | idxStr x i=>exact (D2i hm hS h).does hR _
 | idxAgg k sz n x i=>exact (D2h hm hS h).does hR _
 | lookup z ag ks x i ok=>exact (D2j hm hR hS h).does hR _
 | mupd ag ks x y z=>exact (D59 hm hR hS h).mono (by simp)
 | range x r=>exact D33 hm hR hS hF h
 | rangeM x r=>exact D1l hm hR hS hF h
 | next x=>exact (D6a hm hR hS h).mono (by simp)
 | entry x=>exact (D31 hm hR hS h).mono (by simp)
 | extract x i=>exact (C9k hm hS h).does hR _
 | lenS x=>exact (D6s hm hS h).does hR _
 | lenL x=>exact (D6q hm hR hS h).does hR _
 | lenM x=>exact (D6r hm hR hS h).does hR _
 | mm mx xs=>exact (E1m hm hS h).does hR _
 | append k b d x r fz=>exact D1k hm hR hS hF h
 | copy k d x=>exact (D57 hm hR hS h).mono (by simp)
 | cut k x hi r=>exact D78 hm hR hS hF h
 | sub k x lo hi=>exact (D8b hm hR hS h).mono (by simp)
 | clear k z x=>exact (D30 hm hR hS h).mono (by simp)
 | call f aq own p=>simp [prim] at h
end
section
variable {H H':A1} {i:Nat}
theorem D1s {o:AO} (ho:o.isS = false) (hb:H[i]? = some o):hstk H i = none:= by
 unfold hstk hget
 rw [hb]
 cases o <;> first | rfl | (cases ho; done) | skip
 rename_i x; cases x <;> first | rfl | cases ho
theorem S6 {b:Nat} {o:AO} (ho:o.isS = false) (hi:hstk H i = none):hstk (hset H b o) i = none:= by
 by_cases e:b = i
 ·subst e
  by_cases hl:b < H.length
  ·exact D1s ho (by unfold hset; rw [List.getElem?_set,if_pos rfl,if_pos hl])
  ·have:hset H b o = H:= by unfold hset; exact List.set_eq_of_length_le (by omega)
   rw [this]; exact hi
 ·unfold hstk hget hset at *
  rw [List.getElem?_set,if_neg e]; exact hi
theorem C5x {v v':AV} (hi:hstk H i = none) (hf:frv H v = some (v',H')):hstk H' i = none:= by
 unfold frv at hf
 repeat' split at hf
 all_goals (try cases hf)
 all_goals first
  | exact hi
  | exact S6 rfl hi
theorem B53:∀{l l':List AV} {H H':A1},hstk H i = none→U6 H l = some (l',H')→hstk H' i = none
 | [],l',H,H',h,hf=>by simp only [U6,Option.some.injEq,Prod.mk.injEq] at hf; exact hf.2 ▸ h
 | v :: l,l',H,H',h,hf=>by
  simp only [U6] at hf
  split at hf
  ·cases hf
  ·next v1 H1 e1 =>
   split at hf
   ·cases hf
   ·next l2 H2 e2 =>
    simp only [Option.some.injEq,Prod.mk.injEq] at hf
    exact hf.2 ▸ B53 (C5x h e1) e2
theorem B51 {v v':AV} (h:hstk H i = none) (hf:Q9 H v = some (v',H')):hstk H' i = none:= by
 unfold Q9 at hf
 split at hf
 ·next cs =>
  cases hl:U6 H cs with
  | none=>simp [hl] at hf
  | some r=>simp only [hl,Option.map_some,Option.some.injEq,Prod.mk.injEq] at hf; exact hf.2 ▸ B53 h (l':=r.1) (H':=r.2) hl
 ·cases hf; exact h
 ·exact C5x h hf
theorem C3j:∀{l l':List AV} {H H':A1},hstk H i = none→P3 H l = some (l',H')→hstk H' i = none
 | [],l',H,H',h,hf=>by simp only [P3,Option.some.injEq,Prod.mk.injEq] at hf; exact hf.2 ▸ h
 | v :: l,l',H,H',h,hf=>by
  simp only [P3] at hf
  split at hf
  ·cases hf
  ·next v1 H1 e1 =>
   split at hf
   ·cases hf
   ·next l2 H2 e2 =>
    simp only [Option.some.injEq,Prod.mk.injEq] at hf
    exact hf.2 ▸ C3j (B51 h e1) e2
theorem D01 {own:List (List (Nat × Nat))} {l l':List AV} (h:hstk H i = none) (hf:Z0 own H l = some (l',H')):hstk H' i = none:= by
 unfold Z0 at hf
 split at hf
 ·simp only [Option.some.injEq,Prod.mk.injEq] at hf; exact hf.2 ▸ h
 ·exact C3j h hf
theorem C5v {v:AV} (h:hstk H i = none) (hf:T7 H v = some H'):hstk H' i = none:= by
 have other:(Q9 H v).map (·.2) = some H'→hstk H' i = none:= by
  intro h0
  obtain ⟨r,h1,h2⟩:=Option.map_eq_some_iff.1 h0
  subst h2
  exact B51 h (v':=r.1) (H':=r.2) h1
 cases v with
 | ptr b off =>
  simp only [T7] at hf
  split at hf
  ·next cs hc =>
   split at hf
   ·next r e =>
    split at hf
    ·simp only [Option.some.injEq] at hf
     subst hf
     exact S6 rfl (B53 h (l':=r.1) (H':=r.2) e)
    ·cases hf
   ·cases hf
  ·cases hf
 | _=>exact other hf
theorem B74 {s:B4}:∀{l:List Nat} {H H':A1},hstk H i = none→publish s H l = some H'→hstk H' i = none
 | [],H,H',h,hf=>by simp only [publish,Option.some.injEq] at hf; exact hf ▸ h
 | t :: l,H,H',h,hf=>by
  simp only [publish] at hf
  split at hf
  ·split at hf
   ·next r e1=>exact B74 (C5v h e1) hf
   ·cases hf
  ·cases hf
theorem B8h {n0:Nat}:∀{owns:List (Nat × Nat × Nat)} {zs:List AV} {H:A1},hstk H i = none→hstk (M8 n0 owns zs H).2 i = none
 | [],zs,H,h=>h
 | (j,r,k) :: l,zs,H,h=>by simp only [M8]; exact B8h (S6 rfl h)
theorem D4t {c:Sc} {n0:Nat} {s:B4} {op:AOp} {v:AV} (h:hstk H i = none) (ho:B3r op = false∨i < n0) (hp:prim c n0 s H op = some (v,H')):hstk H' i = none:= by
 have ns_new:∀{r:Nat} {o':AO},i < n0→hstk (hset H (n0 + r) o') i = none:=fun {r o'} hi=>by
  unfold hstk hget hset at *
  rw [List.getElem?_set,if_neg (by omega)]; exact h
 cases op with
 | alloc zs owns r =>
  simp only [prim,Option.some.injEq,Prod.mk.injEq] at hp
  exact hp.2 ▸ S6 rfl (B8h h)
 | load k x =>
  cases k <;> simp only [prim] at hp <;> (repeat' split at hp) <;> first
   | (cases hp; done)
   | (simp only [Option.some.injEq,Prod.mk.injEq] at hp; exact hp.2 ▸ h)
 | mvz x =>
  simp only [prim] at hp
  split at hp
  ·exact B51 h hp
  ·cases hp
 | store k x y =>
  simp only [prim] at hp
  repeat' split at hp
  all_goals (try cases hp)
  ·exact S6 rfl h
  ·exact S6 rfl (B53 h (by assumption))
 | sliceL k x lo hi =>
  simp only [prim] at hp
  repeat' split at hp
  all_goals (try cases hp)
  exact B51 h (by assumption)
 | build z parts =>
  simp only [prim] at hp
  obtain ⟨ps,_,hp⟩:=Option.bind_eq_some_iff.mp hp
  exact A1r hp ▸ h
 | xlits k z n parts =>
  simp only [prim] at hp
  obtain ⟨ps,_,hp⟩:=Option.bind_eq_some_iff.mp hp
  exact A1r hp ▸ h
 | lits k z n parts own =>
  simp only [prim] at hp
  obtain ⟨ps,_,hp⟩:=Option.bind_eq_some_iff.mp hp
  obtain ⟨rows,_,hp⟩:=Option.bind_eq_some_iff.mp hp
  repeat' split at hp
  all_goals (try cases hp)
  ·exact h
  ·exact S6 rfl h
 | append k by_ d x r fz =>
  simp only [prim] at hp
  repeat' split at hp
  all_goals (try cases hp)
  all_goals first
   | exact h
   | exact S6 rfl h
   | (rcases ho with ho | ho <;> first | (cases ho; done) | exact ns_new ho)
 | _ =>
  simp only [prim] at hp
  first
   | (exact A1r hp ▸ h)
   | (repeat' split at hp
      all_goals first
      | (cases hp; done)
      | (exact A1r hp ▸ h)
      | (simp only [Option.some.injEq,Prod.mk.injEq] at hp; obtain ⟨_,rfl⟩:=hp; first | exact h | exact S6 rfl h | exact S6 rfl (S6 rfl h)))
   | (simp only [Option.some.injEq,Prod.mk.injEq] at hp; obtain ⟨_,rfl⟩:=hp; first | exact h | exact S6 rfl h | exact S6 rfl (S6 rfl h))
   | skip
theorem D09 {n0:Nat} {own:List (Nat × Nat)} {j:Nat} {v:AV} (h:hstk H i = none):hstk (inC n0 H own j v).2 i = none:= by
 unfold inC
 repeat' split
 all_goals first | exact h | exact S6 rfl h
theorem C7o {n0:Nat} {own:List (Nat × Nat)}:∀{l:List AV} {j:Nat} {H:A1},hstk H i = none→hstk (A2k n0 H own j l).2 i = none
 | [],j,H,h=>h
 | v :: l,j,H,h=>by simp only [A2k]; exact C7o (D09 h)
theorem D54 {n0:Nat} {own:List (Nat × Nat)} {v:AV} (h:hstk H i = none):hstk (inV n0 H own v).2 i = none:= by
 unfold inV
 split
 ·exact C7o h
 ·exact D09 h
theorem C1u {n0:Nat}:∀{l:List AV} {own:List (List (Nat × Nat))} {H:A1},hstk H i = none→hstk (U7 n0 H l own).2 i = none
 | [],own,H,h=>h
 | v :: l,own,H,h=>by simp only [U7]; exact C1u (D54 h)
theorem C74 {B:Nat} {v v':AV} (h:hstk H i = none) (ho:Z6 B H v = some (v',H')):hstk H' i = none:= by
 unfold Z6 at ho
 repeat' split at ho
 all_goals first
  | (cases ho; done)
  | exact C5x h ho
  | (simp only [Option.some.injEq,Prod.mk.injEq] at ho; obtain ⟨_,rfl⟩:=ho; first | exact h | exact S6 rfl h)
theorem C4b {B:Nat}:∀{l l':List AV} {H H':A1},hstk H i = none→S7 B H l = some (l',H')→hstk H' i = none
 | [],l',H,H',h,hf=>by simp only [S7,Option.some.injEq,Prod.mk.injEq] at hf; exact hf.2 ▸ h
 | v :: l,l',H,H',h,hf=>by
  simp only [S7] at hf
  split at hf
  ·cases hf
  ·next v1 H1 e1 =>
   split at hf
   ·cases hf
   ·next l2 H2 e2 =>
    simp only [Option.some.injEq,Prod.mk.injEq] at hf
    exact hf.2 ▸ C4b (C74 h e1) e2
theorem D4n {B:Nat} {v v':AV} (h:hstk H i = none) (ho:T3 B H v = some (v',H')):hstk H' i = none:= by
 unfold T3 at ho
 split at ho
 ·obtain ⟨r,h1,h2⟩:=Option.map_eq_some_iff.1 ho
  simp only [Prod.mk.injEq] at h2
  exact h2.2 ▸ C4b h (l':=r.1) (H':=r.2) h1
 ·exact C74 h ho
theorem C4f {B:Nat}:∀{l l':List AV} {H H':A1},hstk H i = none→P4 B H l = some (l',H')→hstk H' i = none
 | [],l',H,H',h,hf=>by simp only [P4,Option.some.injEq,Prod.mk.injEq] at hf; exact hf.2 ▸ h
 | v :: l,l',H,H',h,hf=>by
  simp only [P4] at hf
  split at hf
  ·cases hf
  ·next v1 H1 e1 =>
   split at hf
   ·cases hf
   ·next l2 H2 e2 =>
    simp only [Option.some.injEq,Prod.mk.injEq] at hf
    exact hf.2 ▸ C4f (D4n h e1) e2
theorem C2m {N:Nat} (h:hstk H i = none):hstk (H.take N) i = none:= by
 unfold hstk hget at *
 rw [List.getElem?_take]
 split
 ·next hq =>
   split at hq
   ·rw [hq] at h; exact h
   ·cases hq
 ·next hq =>
   split at hq
   ·rw [hq] at h; exact h
   ·cases hq
 ·rfl
theorem B8p {N:Nat} {rs:List AV} (h:hstk H i = none):hstk (trunc N rs H) i = none:= by
 unfold trunc
 split
 ·exact C2m h
 ·exact h
theorem D0h {K:A1} (hK:∀o ∈ K,o.isS = false) (h:hstk H i = none):hstk (H++K) i = none:= by
 by_cases c:i < H.length
 ·unfold hstk hget at *
  rw [List.getElem?_append_left c]; exact h
 ·cases hq:(H++K)[i]? with
  | none=>unfold hstk hget; rw [hq]
  | some o =>
   refine D1s (hK o ?_) hq
   rw [List.getElem?_append_right (by omega)] at hq
   exact List.mem_of_getElem? hq
theorem C7i:∀{l:List Nat},hstk H i = none→hstk (hide H l) i = none
 | [],h=>h
 | b :: l,h=>by simp only [hide]; exact S6 rfl (C7i (l:=l) h)
theorem B4l {G:A1} (hG:hstk G i = none):∀{l:List Nat},hstk H i = none→hstk (unhide G H l) i = none
 | [],h=>h
 | b :: l,h=>by
  simp only [unhide]
  split
  ·next o ho =>
   have ih:=B4l hG (l:=l) h
   by_cases e:b = i
   ·subst e
    by_cases hl:b < (unhide G H l).length
    ·have:(hset (unhide G H l) b o)[b]? = some o:= by unfold hset; rw [List.getElem?_set,if_pos rfl,if_pos hl]
     unfold hstk hget at *
     rw [this]
     have ho:G[b]? = some o:=ho
     rw [ho] at hG; exact hG
    ·have:hset (unhide G H l) b o = unhide G H l:= by unfold hset; exact List.set_eq_of_length_le (by omega)
     rw [this]; exact ih
   ·unfold hstk hget hset at *
    rw [List.getElem?_set,if_neg e]; exact ih
  ·exact B4l hG h
end
theorem F4 (H:A1) (b:Nat) (o:AO):(hset H b o).length = H.length:= by simp [hset]
theorem B1z {H:A1} {v:AV} {r:AV × A1} (h:frv H v = some r):r.2.length = H.length:= by
 cases v with
 | asl b n =>
  simp only [frv] at h
  cases e:harr H b with
  | none=>simp [e] at h
  | some x =>
   obtain ⟨k,q,rows⟩:=x
   rw [e] at h
   cases q with
   | true=>simp only at h; split at h <;> simp at h; subst h; rfl
   | false =>
    simp only at h
    split at h
    ·split at h <;> simp at h; subst h; exact F4 ..
    ·cases h
 | _=>simp only [frv,Option.some.injEq] at h; subst h; rfl
theorem A6p:∀{l:List AV} {H:A1} {r:List AV × A1},U6 H l = some r→r.2.length = H.length
 | [],H,r,h=>by simp only [U6,Option.some.injEq] at h; subst h; rfl
 | v :: l,H,r,h=>by
  simp only [U6] at h
  split at h
  ·cases h
  ·next v' H' e1 =>
   split at h
   ·cases h
   ·next l' H'' e2 =>
    simp only [Option.some.injEq] at h; subst h
    have:=B1z e1; have:=A6p e2; simp_all
theorem A8j {H:A1} {v:AV} {r:AV × A1} (h:Q9 H v = some r):r.2.length = H.length:= by
 cases v with
 | agg cs =>
  simp only [Q9,Option.map_eq_some_iff] at h
  obtain ⟨x,h1,rfl⟩:=h; exact A6p h1
 | nils k=>simp only [Q9,Option.some.injEq] at h; subst h; rfl
 | _=>simp only [Q9] at h; exact B1z h
theorem B97:∀{l:List AV} {H:A1} {r:List AV × A1},P3 H l = some r→r.2.length = H.length
 | [],H,r,h=>by simp only [P3,Option.some.injEq] at h; subst h; rfl
 | v :: l,H,r,h=>by
  simp only [P3] at h
  split at h
  ·cases h
  ·next v' H' e1 =>
   split at h
   ·cases h
   ·next l' H'' e2 =>
    simp only [Option.some.injEq] at h; subst h
    have:=A8j e1; have:=B97 e2; simp_all
theorem A9d {n0:Nat}:∀(owns:List (Nat × Nat × Nat)) (zs:List AV) (H:A1),(M8 n0 owns zs H).2.length = H.length
 | [],zs,H=>rfl
 | (j,r,k) :: l,zs,H=>by simp only [M8]; rw [A9d l]; exact F4 ..
theorem B7y {B:Nat} {H:A1} {v:AV} {r:AV × A1} (h:Z6 B H v = some r):r.2.length = H.length:= by
 cases v with
 | asl b n =>
  simp only [Z6] at h
  split at h
  ·split at h
   ·split at h
    ·simp only [Option.some.injEq] at h; subst h; exact F4 ..
    ·cases h
   ·exact B1z h
  ·exact B1z h
 | nils k=>simp only [Z6,Option.some.injEq] at h; subst h; rfl
 | _=>simp only [Z6,Option.some.injEq] at h; subst h; rfl
theorem C0t {B:Nat}:∀{l:List AV} {H:A1} {r:List AV × A1},S7 B H l = some r→r.2.length = H.length
 | [],H,r,h=>by simp only [S7,Option.some.injEq] at h; subst h; rfl
 | v :: l,H,r,h=>by
  simp only [S7] at h
  split at h
  ·cases h
  ·next v' H' e1 =>
   split at h
   ·cases h
   ·next l' H'' e2 =>
    simp only [Option.some.injEq] at h; subst h
    have:=B7y e1; have:=C0t e2; simp_all
theorem C4e {B:Nat} {H:A1} {v:AV} {r:AV × A1} (h:T3 B H v = some r):r.2.length = H.length:= by
 cases v with
 | agg cs =>
  simp only [T3,Option.map_eq_some_iff] at h
  obtain ⟨x,h1,rfl⟩:=h; exact C0t h1
 | _=>simp only [T3] at h; exact B7y h
theorem B31 {B:Nat}:∀{l:List AV} {H:A1} {r:List AV × A1},P4 B H l = some r→r.2.length = H.length
 | [],H,r,h=>by simp only [P4,Option.some.injEq] at h; subst h; rfl
 | v :: l,H,r,h=>by
  simp only [P4] at h
  split at h
  ·cases h
  ·next v' H' e1 =>
   split at h
   ·cases h
   ·next l' H'' e2 =>
    simp only [Option.some.injEq] at h; subst h
    have:=C4e e1; have:=B31 e2; simp_all
theorem C1r {n0:Nat} {H:A1} (own:List (Nat × Nat)) (j:Nat) (v:AV):(inC n0 H own j v).2.length = H.length:= by
 cases v with
 | fresh k rows=>simp only [inC]; cases V7 j own <;> simp [F4]
 | _=>simp [inC]
theorem C3r {n0:Nat} (own:List (Nat × Nat)):∀(l:List AV) (j:Nat) (H:A1),(A2k n0 H own j l).2.length = H.length
 | [],j,H=>rfl
 | v :: l,j,H=>by simp only [A2k]; rw [C3r own l]; exact C1r ..
theorem C7q {n0:Nat} {H:A1} (own:List (Nat × Nat)) (v:AV):(inV n0 H own v).2.length = H.length:= by
 cases v with
 | agg cs=>simp only [inV]; exact C3r ..
 | _=>simp only [inV]; exact C1r ..
theorem A8q {n0:Nat}:∀(l:List AV) (own:List (List (Nat × Nat))) (H:A1),(U7 n0 H l own).2.length = H.length
 | [],own,H=>rfl
 | v :: l,own,H=>by simp only [U7]; rw [A8q l]; exact C7q ..
theorem B4s {H H':A1} {v:AV} (h:T7 H v = some H'):H'.length = H.length:= by
 have other:(Q9 H v).map (·.2) = some H'→H'.length = H.length:= by
  intro h0
  obtain ⟨r,h1,h2⟩:=Option.map_eq_some_iff.1 h0
  subst h2
  exact A8j h1
 cases v with
 | ptr b off =>
  simp only [T7] at h
  split at h
  ·split at h
   ·next e =>
    split at h
    ·simp only [Option.some.injEq] at h
     subst h
     rw [F4]
     exact A6p e
    ·cases h
   ·cases h
  ·cases h
 | _=>exact other h
theorem C4j {c:Sc} {n0:Nat} {s:B4} {H:A1} {op:AOp} {r:AV × A1} (h:prim c n0 s H op = some r):r.2.length = H.length:= by
 cases op
 case alloc zs owns q=>simp only [prim,Option.some.injEq] at h; subst h; simp only [F4,A9d]
 case nil=>simp only [prim,Option.some.injEq] at h; subst h; exact F4 ..
 case mkmap=>simp only [prim,Option.some.injEq] at h; subst h; exact F4 ..
 case call=>cases h
 case mv=>simp only [prim,Option.map_eq_some_iff] at h; obtain ⟨_,_,rfl⟩:=h; rfl
 case build=>simp only [prim,Option.bind_eq_some_iff,Option.map_eq_some_iff] at h; obtain ⟨_,_,_,_,rfl⟩:=h; rfl
 case xlits=>simp only [prim,Option.bind_eq_some_iff,Option.map_eq_some_iff] at h; obtain ⟨_,_,_,_,rfl⟩:=h; rfl
 case lits k z n parts own =>
  simp only [prim,Option.bind_eq_some_iff] at h
  obtain ⟨_,_,_,_,h⟩:=h
  split at h
  ·cases own <;> simp only [Option.some.injEq] at h <;> subst h
   ·rfl
   ·exact F4 ..
  ·cases h
 case load k a =>
  cases k <;> simp only [prim] at h
  ·split at h
   ·split at h
    ·simp only [Option.some.injEq] at h; subst h; rfl
    ·cases h
   ·cases h
  ·split at h
   ·split at h
    ·split at h
     ·simp only [Option.some.injEq] at h; subst h; rfl
     ·cases h
    ·cases h
   ·cases h
 case storeN a k r =>
  simp only [prim] at h
  split at h
  ·split at h
   ·split at h
    ·simp only [Option.some.injEq] at h; subst h; simp only [F4]
    ·cases h
   ·cases h
  ·cases h
 case store k a v =>
  simp only [prim] at h
  split at h
  ·split at h
   ·split at h
    ·simp only [Option.some.injEq] at h; subst h; exact F4 ..
    ·cases h
   ·cases h
  ·split at h
   ·cases h
   ·next e1 =>
    have hl:=A6p e1
    split at h
    ·split at h
     ·split at h
      ·simp only [Option.some.injEq] at h; subst h; simp only [F4]; exact hl
      ·cases h
     ·cases h
    ·cases h
  ·cases h
 case mvz x =>
  simp only [prim] at h
  split at h
  ·exact A8j h
  ·cases h
 case sliceL kk x lo hi =>
  simp only [prim] at h
  split at h
  ·split at h
   ·next e1 =>
    have hl:=A8j e1
    split at h
    ·split at h
     ·simp only [Option.some.injEq] at h; subst h; exact hl
     ·cases h
    ·cases h
   ·cases h
  ·cases h
 all_goals
  simp only [prim] at h
  repeat' split at h
  all_goals first
   | (cases h; done)
   | (simp only [Option.some.injEq] at h; subst h; first | rfl | exact F4 .. | (simp only [F4]; done))
   | (simp only [Option.map_eq_some_iff] at h; obtain ⟨_,_,rfl⟩:=h; first | rfl | exact F4 ..)
theorem B95 {own:List (List (Nat × Nat))} {l l':List AV} {H H':A1} (hf:Z0 own H l = some (l',H')):H'.length = H.length:= by
 unfold Z0 at hf
 split at hf
 ·simp only [Option.some.injEq,Prod.mk.injEq] at hf; rw [hf.2]
 ·exact B97 hf
theorem B2p {s:B4}:∀{l:List Nat} {H H':A1},publish s H l = some H'→H'.length = H.length
 | [],H,H',hf=>by simp only [publish,Option.some.injEq] at hf; rw [hf]
 | t :: l,H,H',hf=>by
  simp only [publish] at hf
  split at hf
  ·split at hf
   ·next r e1=>rw [B2p hf,B4s e1]
   ·cases hf
  ·cases hf
theorem C7h (H:A1):∀l,(hide H l).length = H.length
 | []=>rfl
 | b :: l=>by simp [hide,hset,C7h H l]
theorem B4k (G H:A1):∀l,(unhide G H l).length = H.length
 | []=>rfl
 | b :: l=>by
  simp only [unhide]
  split
  ·simp [hset,B4k G H l]
  ·exact B4k G H l
def Grow (N:Nat) (H H':A1):Prop:=N≤H'.length∧∀ i,i < N→hstk H i = none→hstk H' i = none
structure NoS (M:Mach):Prop where
 call:∀{c H f aq rs H'},M.call c H f aq = some (rs,H')→Grow H.length H H'
 code:∀{a st e st'},M.code a st = some (e,st')→Grow st.H.length st.H st'.H
theorem Grow.trans {N:Nat} {H H1 H2:A1} (h:Grow N H H1) (k:Grow N H1 H2):Grow N H H2:=⟨k.1,fun i hi hn=>k.2 i hi (h.2 i hi hn)⟩
theorem Grow.le {N N':Nat} {H H1:A1} (h:Grow N H H1) (k:N'≤N):Grow N' H H1:=⟨Nat.le_trans k h.1,fun i hi=>h.2 i (Nat.lt_of_lt_of_le hi k)⟩
theorem Grow.refl (H:A1):Grow H.length H H:=⟨Nat.le_refl _,fun _ _ h=>h⟩
section
variable {M:Mach}
theorem D3h (hM:NoS M) {c:Sc} {n0:Nat} {s:B4} {H H':A1} {op:AOp} {v:AV} (hp:core M c n0 s H op = some (v,H')):H.length≤H'.length∧∀ i,i < H.length→(B3r op = false∨i < n0)→hstk H i = none→hstk H' i = none:= by
 cases op with
 | call f args own pure =>
  simp only [core,S0] at hp
  repeat' split at hp
  all_goals first
   | (cases hp; done)
   | (simp only [Option.some.injEq,Prod.mk.injEq] at hp; obtain ⟨_,rfl⟩:=hp; exact ⟨by rw [A8q]; exact Nat.le_refl _,fun i _ _ h=>C1u h⟩)
   | (rename_i e1 _ _ _ e2
      simp only [Option.some.injEq,Prod.mk.injEq] at hp; obtain ⟨_,rfl⟩:=hp
      have q:=hM.call e2
      have ql:=B95 e1
      exact ⟨by rw [A8q,← ql]; exact q.1,fun i hi _ h=>C1u (q.2 i (by rw [ql]; exact hi) (D01 h e1))⟩)
 | _ =>
  simp only [core] at hp
  exact ⟨Nat.le_of_eq (C4j hp).symm,fun i _ ho h=>D4t h ho hp⟩
theorem C73 (hM:NoS M) {c:Sc} {n0:Nat} {s s':B4} {H H':A1} {hc hc':List (Option (List Nat))} {o:AOper} (h:oper M c n0 s H hc o = some (s',H',hc')) :
  H.length≤H'.length∧∀ i,i < H.length→(B3r o.op = false∨i < n0)→hstk H i = none→hstk H' i = none:= by
 unfold oper at h
 split at h
 ·cases h
 ·simp only [Option.some.injEq,Prod.mk.injEq] at h
  obtain ⟨_,rfl,_⟩:=h
  exact ⟨Nat.le_refl _,fun _ _ _ h=>h⟩
 ·split at h
  ·split at h
   ·next r hr =>
    split at h
    ·simp only [Option.some.injEq,Prod.mk.injEq] at h
     obtain ⟨_,rfl,_⟩:=h
     have q:=D3h hM (v:=r.1) (H':=r.2) hr
     rw [C7h] at q
     exact ⟨by rw [B4k]; exact q.1,fun i hi ho hn=>B4l hn (q.2 i hi ho (C7i hn))⟩
    ·cases h
   ·cases h
  ·cases h
theorem C4a (hM:NoS M) {c:Sc} {n0:Nat}:∀{l:List AOper} {s s':B4} {H H':A1} {hc:List (Option (List Nat))},opers M c n0 l s H hc = some (s',H')→n0≤H.length→Grow n0 H H'
 | [],s,s',H,H',hc,h,hn=>by
  simp only [opers,Option.some.injEq,Prod.mk.injEq] at h
  rw [← h.2]; exact ⟨hn,fun _ _ h=>h⟩
 | o :: l,s,s',H,H',hc,h,hn=>by
  simp only [opers] at h
  split at h
  ·cases h
  ·next s1 H1 hc1 h1 =>
   have q:=C73 hM h1
   exact Grow.trans ⟨by omega,fun i hi hs=>q.2 i (by omega) (.inr hi) hs⟩ (C4a hM h (by omega))
theorem B9s {liveX:List Nat} {l:Nat} {c:Sc} {e e':Ex} {st st':St} (h:A2g liveX l c e st = some (e',st')):Grow st.H.length st.H st'.H:= by
 unfold A2g at h
 split at h
 ·simp only [Option.some.injEq,Prod.mk.injEq] at h
  rw [← h.2]
  exact ⟨by rw [F4]; exact Nat.le_refl _,fun i hi hs=>S6 rfl hs⟩
 ·cases h
theorem C3c (hM:NoS M) {a:ACode} {st st':St} {e:Ex} (h:D5 M st a = some (e,st')):Grow st.H.length st.H st'.H:= by
 cases a with
 | skip=>simp only [D5,Option.some.injEq,Prod.mk.injEq] at h; rw [← h.2]; exact .refl _
 | exit id=>simp only [D5,Option.some.injEq,Prod.mk.injEq] at h; rw [← h.2]; exact .refl _
 | ret=>simp only [D5,Option.some.injEq,Prod.mk.injEq] at h; rw [← h.2]; exact .refl _
 | scope a=>exact hM.code h
 | region d nres pre ops live =>
  simp only [D5] at h
  split at h
  ·next H1 hp =>
   split at h
   ·next r hr =>
    simp only [Option.some.injEq,Prod.mk.injEq] at h
    rw [← h.2]
    have hl:=B2p hp
    have q:=C4a hM (s':=r.1) (H':=r.2) hr (by simp)
    rw [hl] at q
    exact Grow.trans ⟨by simp; omega,fun i hi hs=>D0h (fun o ho=>by rw [(List.mem_replicate.mp ho).2]; rfl) (B74 hs hp)⟩ q
   ·cases h
  ·cases h
 | seq a b =>
  simp only [D5] at h
  split at h
  ·next st1 h1=>exact (hM.code h1).trans ((hM.code h).le (hM.code h1).1)
  ·exact hM.code h
 | cond c a b =>
  simp only [D5] at h
  repeat' split at h
  all_goals first | exact hM.code h | cases h
 | block id a =>
  simp only [D5] at h
  split at h
  ·next j st1 h1 =>
   split at h
   all_goals (simp only [Option.some.injEq,Prod.mk.injEq] at h; rw [← h.2]; exact hM.code h1)
  ·exact hM.code h
 | loop tr live body =>
  simp only [D5] at h
  split at h
  ·next st1 h1 =>
   have q:Grow st.H.length st.H st1.H:= by
    have:=hM.code h1
    cases tr <;> exact this
   split at h
   ·split at h
    ·have q2:=hM.code h
     simp only [List.length_take] at q2
     have e:min st.H.length st1.H.length = st.H.length:= by have:=q.1; omega
     rw [e] at q2
     exact q.trans ⟨q2.1,fun i hi hs=>q2.2 i hi (C2m hs)⟩
    ·cases h
   ·exact q.trans ((hM.code h).le q.1)
  ·next st1 _ h1 =>
   simp only [Option.some.injEq,Prod.mk.injEq] at h
   rw [← h.2]
   have:=hM.code h1
   cases tr <;> exact this
  ·cases h
 | loopM x nx ok live0 live liveX rest =>
  simp only [D5] at h
  split at h
  ·next l hl =>
   split at h
   ·next m n seen hg =>
    split at h
    ·next es hes =>
     split at h
     ·split at h
      ·split at h
       ·cases h
       ·next h1 =>
        have q:=hM.code h1
        have q2:=B9s h
        exact Grow.trans q (q2.le q.1)
       ·cases h
      ·next hne =>
       obtain ⟨i,hi⟩:∃i,i ∈ K7 n seen:= by
        cases hq:K7 n seen with
        | nil=>rw [hq] at hne; exact absurd rfl hne
        | cons i l=>exact ⟨i,List.mem_cons_self ..⟩
       have h:=A68 h hi
       have q0:Grow st.H.length st.H (hset st.H l (.mit m n (seen++[i]))):=⟨by rw [F4]; exact Nat.le_refl _,fun j hj hs=>S6 rfl hs⟩
       split at h
       ·next st1 h1 =>
        have q:=hM.code h1
        simp only [F4] at q
        have q1:=q0.trans q
        split at h
        ·have q2:=hM.code h
         simp only [List.length_take] at q2
         have e:min st.H.length st1.H.length = st.H.length:= by have:=q1.1; omega
         rw [e] at q2
         exact q1.trans ⟨q2.1,fun i hi hs=>q2.2 i hi (C2m hs)⟩
        ·cases h
       ·next h1 =>
        have q:=hM.code h1
        simp only [F4] at q
        have q1:=q0.trans q
        exact q1.trans ((B9s h).le q1.1)
       ·cases h
     ·cases h
    ·cases h
   ·cases h
  ·cases h
 | rangeFunc f ps live assign body =>
  simp only [D5] at h
  split at h
  ·split at h
   ·next H1 hc =>
    have q:=hM.call hc
    have q2:Grow st.H.length st.H H1:=Grow.trans ⟨by simp,fun i hi hs=>D0h (fun o ho=>by rw [List.mem_singleton.mp ho]; rfl) hs⟩ (q.le (by simp))
    split at h
    all_goals first
     | (simp only [Option.some.injEq,Prod.mk.injEq] at h; rw [← h.2]; exact ⟨by rw [F4]; exact q2.1,fun i hi hs=>S6 rfl (q2.2 i hi hs)⟩)
     | cases h
   ·cases h
  ·cases h
theorem B8o {N:Nat} {rs:List AV} {H:A1} (h:N≤H.length):N≤(trunc N rs H).length:= by
 unfold trunc
 split
 ·rw [List.length_take]; omega
 ·exact h
theorem D3i {H K H':A1} {s:B4} {res:List ARes} {rs:List AV} (q:Grow H.length H K) (h:(match results s K res with | none=>none | some rs=>match P4 H.length K rs with | none=>none | some (rs,H')=>some (rs,trunc H.length rs H')) = some (rs,H')):Grow H.length H H':= by
 split at h
 ·cases h
 ·split at h
  ·cases h
  ·next H2 ho =>
   simp only [Option.some.injEq,Prod.mk.injEq] at h
   rw [← h.2]
   exact ⟨B8o (by rw [B31 ho]; exact q.1),fun i hi hs=>B8p (C4f (q.2 i hi hs) ho)⟩
theorem D3j {H K H':A1} {s:B4} {res:List ARes} {rs:List AV} (q:Grow H.length H K) (h:(match results s K res with | none=>none | some rs=>some (rs,trunc H.length rs K)) = some (rs,H')):Grow H.length H H':= by
 split at h
 ·cases h
 ·simp only [Option.some.injEq,Prod.mk.injEq] at h
  rw [← h.2]
  exact ⟨B8o q.1,fun i hi hs=>B8p (q.2 i hi hs)⟩
theorem C29 (hM:NoS M) {T:Tab} {c:Sc} {H H':A1} {f:AV} {aq rs:List AV} (h:K9 T M c H f aq = some (rs,H')):Grow H.length H H':= by
 unfold K9 at h
 split at h
 ·split at h
  ·cases h
  ·next af _ =>
   dsimp only at h
   split at h
   ·split at h
    all_goals first
     | (cases h; done)
     | (next st h1=>exact D3i (hM.code h1) h)
   ·split at h
    ·split at h
     all_goals first
      | (cases h; done)
      | (next st h1=>exact D3j (hM.code h1) h)
    ·cases h
 ·split at h
  ·split at h
   ·split at h
    ·next st h1 =>
     have q:=hM.code h1
     split at h
     ·split at h
      ·next e st2 h2 =>
       have q2:=hM.code h2
       simp only [F4] at q2
       split at h
       ·simp only [Option.some.injEq,Prod.mk.injEq] at h
        rw [← h.2]
        have q3:Grow H.length H st2.H:=q.trans ⟨Nat.le_trans q.1 q2.1,fun i hi hs=>q2.2 i (Nat.lt_of_lt_of_le hi q.1) (S6 rfl hs)⟩
        exact ⟨B8o (by rw [F4]; exact q3.1),fun i hi hs=>B8p (S6 rfl (q3.2 i hi hs))⟩
       ·cases h
      ·cases h
     ·cases h
    ·cases h
   ·cases h
  ·cases h
 ·cases h
theorem C1y {T:Tab}:∀n,NoS (mach T n)
 | 0=>{ call:=fun h=>(by cases h),code:=fun h=>(by cases h) }
 | n + 1=>{ call:=fun h=>C29 (C1y n) h,code:=fun h=>C3c (C1y n) h }
end
theorem C9w {s:B4} {d t:Nat} {v:AV}:sget (sput s (some d) v) t = if d = t then some v else sget s t:= by
 simp only [sput,M1,I7]
 cases h:Nat.beq d t with
 | true=>simp [Nat.eq_of_beq_eq_true h]
 | false=>simp [Nat.ne_of_beq_eq_false h]
theorem D4.put {g:Ghost} {s:B4} {a:Act} {dst:Option Nat} {v:AV} {x:Value} (h:D4 g s a.tmps) (hV:V g v x) (hd:∀d,dst = some d→d < a.tmps.size):D4 g (sput s dst v) (a.put dst x).tmps:= by
 cases dst with
 | none=>exact h
 | some d =>
  intro t u hu
  rw [C9w] at hu
  simp only [Act.put]
  split at hu
  ·next e=>subst e; cases hu; exact ⟨x,by simp [hd d rfl],hV⟩
  ·next e =>
   obtain ⟨y,hy,hVy⟩:=h t u hu
   exact ⟨y,by rw [Array.getElem?_setIfInBounds_ne e]; exact hy,hVy⟩
theorem B2s {a:Act} {dst:Option Nat} {x:Value}:(a.put dst x).tmps.size = a.tmps.size:= by cases dst <;> simp [Act.put]
theorem A3f {a:Act} {dst:Option Nat} {x:Value}:(a.put dst x).defers = a.defers:= by cases dst <;> rfl
theorem D4.restrict {g:Ghost} {s:B4} {tmps:Array Value} (h:D4 g s tmps) (l:List Nat):D4 g (restrict s l) tmps:= by
 intro t v hv
 induction l with
 | nil=>simp [Am.restrict,M1,I7] at hv
 | cons x l ih =>
  simp only [Am.restrict] at hv
  split at hv
  ·next u hu =>
   simp only [M1,I7] at hv
   cases hb:Nat.beq x t with
   | true=>simp [hb] at hv; subst hv; exact h t _ (Nat.eq_of_beq_eq_true hb ▸ hu)
   | false=>simp [hb] at hv; exact ih hv
  ·exact ih hv
theorem C8j {g:Ghost} {u:Value} (h:V g (.tup []) u):u = .tuple #[]:= by
 cases h with
 | den _ _ hd=>cases hd
 | tup _ vs hl=>simp at hl; simp [hl]
theorem C06 {g:Ghost} {s:B4} {tmps:Array Value} {ops:Array Oper} {o:Oper} {ao:AOper} {r:Bool} (hm:B02 ops o.guard ao.guard = true) (hS:D4 g s tmps) (h:wanted s ao.guard = some r):Region.wanted o (yielded ops tmps) = r:= by
 unfold B02 at hm
 unfold wanted at h
 unfold Region.wanted
 revert hm h
 cases o.guard <;> cases ao.guard <;> simp only [Bool.false_eq_true,false_implies,imp_self,implies_true]
 ·intro _ h; simpa using h
 ·rename_i x y
  obtain ⟨j,want⟩:=x
  obtain ⟨t,want'⟩:=y
  intro hm h
  simp only [Bool.and_eq_true,beq_iff_eq] at hm
  obtain ⟨rfl,hm⟩:=hm
  split at hm
  ·next q hq =>
   have hd:q.dst = some t:= by simpa using hm
   have hy:yielded ops tmps j = (match tmps[t]? with | some (.bool b)=>some b | _=>none):= by
    simp only [yielded,hq,hd,Option.bind_some]
    rcases tmps[t]? with _ | v
    ·rfl
    ·cases v <;> rfl
   simp only [hy]
   split at h
   ·next b hb =>
    obtain ⟨x,hx,hV⟩:=hS t _ hb
    have:=P2 hV
    subst this
    simp only [hx]
    simp only [Option.some.injEq] at h
    subst h
    cases b <;> cases want <;> rfl
   ·next hb =>
    obtain ⟨x,hx,hV⟩:=hS t _ hb
    have:=C8j hV
    subst this
    simp only [hx]
    simp at h
    simp [h]
   ·cases h
  ·cases hm
section
variable {MC:Nat→Code→ACode→Prop} {P:Program} {B0:Nat}
def B9o (lo:Nat) (ds:List Deferred) (g:Ghost) (w:World):Prop :=
 lo≤w.heap.size∧∃ βs:List Nat,ds = βs.map A58∧βs.Nodup∧∀ β ∈ βs,lo≤β∧β < w.heap.size∧w.heap[β]? = some (.deferred (some []))∧∀ i,(g.L i).blk ≠ some β
theorem B9o.ext {lo:Nat} {ds:List Deferred} {H H':A1} {g g':Ghost} {w w':World} (h:B9o lo ds g w) (hE:Ext H g w H' g' w'):B9o lo ds g' w':= by
 obtain ⟨h0,βs,h1,h2,h3⟩:=h
 refine ⟨Nat.le_trans h0 hE.size,βs,h1,h2,fun β hβ=>?_⟩
 obtain ⟨q1,q2,q3,q4⟩:=h3 β hβ
 refine ⟨q1,Nat.lt_of_lt_of_le q2 hE.size,?_,fun i hc=>?_⟩
 ·rw [(hE.frame β q2 (fun i o _ _=>q4 i)).1]; exact q3
 ·rcases hE.blk i β hc with h | h | ⟨j,_,_,_,h⟩
  ·exact q4 i h
  ·omega
  ·exact q4 j h
theorem B7g:∀{l m:List Nat},l.map A58 = m.map A58→l = m
 | [],[],_=>rfl
 | [],_ :: _,h=>by simp at h
 | _ :: _,[],h=>by simp at h
 | x :: l,y :: m,h=>by
  simp only [List.map_cons,List.cons.injEq] at h
  have h1:x = y:= by have:=h.1; simpa [A58] using this
  rw [h1,B7g h.2]
def A6z:List Value→Value
 | [v]=>v
 | l=>.tuple l.toArray
def B0p (MC:Nat→Code→ACode→Prop) (P:Program) (B0:Nat) (M:Mach):Prop :=
 ∀ c H f args rs H',M.call c H f args = some (rs,H')→∀ g w fv (vs:Array Value),Rel MC P B0 H g w→ScOk c H→V g f fv→vs.size = args.length→(∀ (j:Nat) x,args[j]? = some x→V g x (vs[j]?.getD undef)) →
  ∃ fr0,Begins P w fv vs fr0∧∀ fr cs,∃ us w' g' fs,Steps P (lone fr0 (fr :: cs) w) (lone (fr.finish (A6z us)) cs w')∧RVs g' rs us fs∧FsOk MC P g' w' (OkB B0 H g w) fs∧Rel MC P B0 H' g' w'∧Ext H g w H' g' w'∧ScOk c H'∧Unborn H g g'
theorem C68 {s:B4}:∀{xs:List Opd} {vs:List AV},evs s xs = some vs→vs.length = xs.length
 | [],vs,h=>by simp only [evs,Option.some.injEq] at h; simp [← h]
 | x :: xs,vs,h=>by
  simp only [evs,Option.bind_eq_some_iff,Option.map_eq_some_iff] at h
  obtain ⟨v,_,l,hl,rfl⟩:=h
  simp [C68 hl]
theorem B0f:∀{xs:List Operand} {ys:List Opd},P0 xs ys = true→xs.length = ys.length
 | [],[],_=>rfl
 | [],_ :: _,h=>by simp [P0] at h
 | _ :: _,[],h=>by simp [P0] at h
 | x :: l,y :: m,h=>by simp only [P0,Bool.and_eq_true] at h; simp [B0f h.2]
theorem C7e {H H':A1} {v v':AV} (hp:pubbed H v = true) (h:frv H v = some (v',H')):H' = H:= by
 unfold frv at h
 repeat' split at h
 all_goals first
  | (cases h; done)
  | (simp only [Option.some.injEq,Prod.mk.injEq] at h; exact h.2.symm)
  | (simp_all [pubbed])
theorem C3l:∀{l l':List AV} {H H':A1},l.all (pubbed H) = true→U6 H l = some (l',H')→H' = H
 | [],l',H,H',_,h=>by simp only [U6,Option.some.injEq,Prod.mk.injEq] at h; exact h.2.symm
 | v :: l,l',H,H',hp,h=>by
  simp only [List.all_cons,Bool.and_eq_true] at hp
  simp only [U6] at h
  split at h
  ·cases h
  ·next v1 H1 e1 =>
   have:=C7e hp.1 e1
   subst this
   split at h
   ·cases h
   ·next l2 H2 e2 =>
    simp only [Option.some.injEq,Prod.mk.injEq] at h
    exact h.2 ▸ C3l hp.2 e2
theorem D00 {H H':A1} {v v':AV} (hp:O5 H v = true) (h:Q9 H v = some (v',H')):H' = H:= by
 unfold Q9 at h
 split at h
 ·next cs =>
  cases hl:U6 H cs with
  | none=>simp [hl] at h
  | some r=>simp only [hl,Option.map_some,Option.some.injEq,Prod.mk.injEq] at h; exact h.2 ▸ C3l (by simpa [O5] using hp) (l':=r.1) (H':=r.2) hl
 ·simp only [Option.some.injEq,Prod.mk.injEq] at h; exact h.2.symm
 ·refine C7e ?_ h
  rename_i h1 h2
  cases v <;> first | exact hp | exact absurd rfl (h1 _)
theorem B98:∀{l l':List AV} {H H':A1},l.all (O5 H) = true→P3 H l = some (l',H')→H' = H
 | [],l',H,H',_,h=>by simp only [P3,Option.some.injEq,Prod.mk.injEq] at h; exact h.2.symm
 | v :: l,l',H,H',hp,h=>by
  simp only [List.all_cons,Bool.and_eq_true] at hp
  simp only [P3] at h
  split at h
  ·cases h
  ·next v1 H1 e1 =>
   have:=D00 hp.1 e1
   subst this
   split at h
   ·cases h
   ·next l2 H2 e2 =>
    simp only [Option.some.injEq,Prod.mk.injEq] at h
    exact h.2 ▸ B98 hp.2 e2
theorem C8x {own:List (List (Nat × Nat))} {l l':List AV} {H H':A1} (hp:(lend own || l.all (O5 H)) = true) (h:Z0 own H l = some (l',H')):H' = H:= by
 unfold Z0 at h
 split at h
 ·simp only [Option.some.injEq,Prod.mk.injEq] at h; exact h.2.symm
 ·next hn =>
  rw [Bool.or_eq_true] at hp
  exact B98 (hp.resolve_left hn) h
theorem B4t {MC:Nat→Code→ACode→Prop} {P:Program} {B0:Nat} {w:World} {own:List (List (Nat × Nat))} {l l':List AV} {H H':A1} {g:Ghost} {us:List Value} (hR:Rel MC P B0 H g w) (hl:us.length = l.length) (hV:∀(j:Nat) x,l[j]? = some x→V g x (us[j]?.getD undef)) (h:Z0 own H l = some (l',H')) :
  ∃ g',Froze MC P B0 H g w H' g'∧l'.length = l.length∧∀ (j:Nat) x,l'[j]? = some x→V g' x (us[j]?.getD undef):= by
 unfold Z0 at h
 split at h
 ·simp only [Option.some.injEq,Prod.mk.injEq] at h; obtain ⟨rfl,rfl⟩:=h
  exact ⟨g,.refl hR,rfl,hV⟩
 ·exact B4u hR hl hV h
theorem D02 {c:Sc} {own:List (List (Nat × Nat))} {l l':List AV} {H H':A1} (h:ScOk c H) (hf:Z0 own H l = some (l',H')):ScOk c H':= by
 unfold Z0 at hf
 split at hf
 ·simp only [Option.some.injEq,Prod.mk.injEq] at hf; exact hf.2 ▸ h
 ·exact C3k h hf
theorem D0a {g:Ghost} {v:AV} {u:Value} {b:Nat} (h:V g v u) (hb:v.box? = some b):g.L b ≠ .none:= by
 intro hn
 cases h <;> simp only [AV.box?,Option.some.injEq] at hb <;> try (cases hb; done)
 all_goals first
  | (subst hb; simp_all; done)
  | (rename_i hd; cases hd <;> cases hb)
theorem B4r {MC:Nat→Code→ACode→Prop} {P:Program} {B0:Nat} {w:World} {H K:A1} {g:Ghost} (hR:Rel MC P B0 H g w) (hK:∀b cs,hcells K b = some cs→hcells H b = some cs):∀{l:List Nat} {b b':Nat},g.L b ≠ .none→follow K b l = some b'→g.L b' ≠ .none
 | [],b,b',hb,h=>by simp only [follow,Option.some.injEq] at h; exact h ▸ hb
 | o :: l,b,b',hb,h=>by
  simp only [follow] at h
  split at h
  ·next cs hc =>
   split at h
   ·next b2 h2 =>
    obtain ⟨x,hx,hxb⟩:=Option.bind_eq_some_iff.mp h2
    obtain ⟨β,e,hL,c,c1,c2,c3,c4⟩:=hR.cells (hK b cs hc)
    obtain ⟨v,_,hV,_⟩:=c3 o x hx
    exact B4r hR hK (D0a hV hxb) h
   ·cases h
  ·cases h
theorem C07 {MC:Nat→Code→ACode→Prop} {P:Program} {B0:Nat} {w:World} {H K:A1} {g:Ghost} {s:B4} {tmps:Array Value} (hR:Rel MC P B0 H g w) (hS:D4 g s tmps) (hK:∀b cs,hcells K b = some cs→hcells H b = some cs):∀{l:List (Nat × List Nat)} {bs:List Nat},ways s K l = some bs→∀ b ∈ bs,g.L b ≠ .none
 | [],bs,h,b,hb=>by simp only [ways,Option.some.injEq] at h; subst h; cases hb
 | x :: l,bs,h,b,hb=>by
  simp only [ways] at h
  split at h
  ·next b1 h1 =>
   split at h
   ·next b2 r h2 h3 =>
    simp only [Option.some.injEq] at h
    subst h
    obtain ⟨v,hv,hvb⟩:=Option.bind_eq_some_iff.mp h1
    obtain ⟨u,_,hV⟩:=hS _ _ hv
    rcases List.mem_cons.mp hb with rfl | hb
    ·exact B4r hR hK (D0a hV hvb) h2
    ·exact C07 hR hS hK h3 b hb
   ·cases h
  ·cases h
theorem C3o {H:A1} {l:List Nat} {b:Nat} {cs:List AV} (h:hcells (hide H l) b = some cs):hcells H b = some cs:= by
 unfold hcells hget at h ⊢
 rw [A08] at h
 split at h
 ·next hm =>
  split at hm
  ·cases hq:H[b]? with
   | none=>rw [hq] at hm; cases hm
   | some o=>rw [hq] at hm; cases hm
  ·rw [hm]; exact h
 ·next hm =>
  split at hm
  ·cases hq:H[b]? with
   | none=>rw [hq] at hm; cases hm
   | some o=>rw [hq] at hm; cases hm
  ·rw [hm]; exact h
 ·cases h
theorem C2v {g:Ghost} {xs:List AV} {us:List Value} (hl:xs.length = us.length) (h:∀(i:Nat) x,xs[i]? = some x→V g x (us[i]?.getD undef)):V g (packed xs) (A6z us):= by
 match xs,us,hl with
 | [],[],_=>exact .tup [] #[] rfl (by simp)
 | [x],[u],_=>exact h 0 x rfl
 | x :: y :: l,u :: v :: m,hl =>
  simp only [packed,A6z]
  exact .tup _ _ (by simpa using hl.symm) (fun j z hz=>by simpa using h j z hz)
variable {M:Mach} {b:Frame} {k:List Item} {cs:List Frame} {ops:Array Oper} {nt n0:Nat} {c:Sc}
theorem C5o (hM:B0p MC P B0 M) {a:Act} {s:B4} {H H':A1} {g:Ghost} {w:World} {i:Nat} {rest:List Nat} {o:Oper} {op:AOp} {v:AV} (ho:ops[i]? = some o) (hw:Region.wanted o (yielded ops a.tmps) = true)
  (hok:D4m op = true) (hm:C9 P o.op op = true) (hR:Rel MC P B0 H g w) (hS:D4 g s a.tmps) (hC:ScOk c H) (hn:c.cur≤n0) (hF:Free H g n0 (D7 op)) (hnd:(D7 op).Nodup) (h:core M c n0 s H op = some (v,H')) :
  ∃ x w' g',Steps P (lone (b.atR a (.inRegion ops (i :: rest) :: k)) cs w) (lone (b.atR (a.put o.dst x) (.inRegion ops rest :: k)) cs w')∧V g' v x∧Rel MC P B0 H' g' w'∧Ext H g w H' g' w'∧ScOk c H' ∧
   ∀ i,i < H.length→i ∉ (D7 op).map (n0 + ·)→g.L i = .none→g'.L i = .none:= by
 by_cases hcall:∃f args own pure,op = .call f args own pure
 ·obtain ⟨f,args,own,pure,rfl⟩:=hcall
  simp only [core] at h
  simp only [C9] at hm
  split at hm
  ·next f0 args0 ats hop =>
   simp only [Bool.and_eq_true] at hm
   obtain ⟨hm1,hm2⟩:=hm
   have hB:B0≤w.heap.size:=hR.b0
   simp only [S0] at h
   split at h
   ·next fv aq he1 he2 =>
    have hVf:=J2 hS hm1 he1
    have hVas:=B9y hS hm2 he2
    have hlen:(args0.map a.eval).toList.length = aq.length:= by simp [C68 he2]; simpa using B0f hm2
    have hVas':∀(j:Nat) x,aq[j]? = some x→V g x ((args0.map a.eval).toList[j]?.getD undef):= by
     have:=B9y hS hm2 he2
     first
      | exact this
      | (intro j x hj; have:=this j x hj; simpa using this)
      | (intro j x hj; obtain ⟨q1,q2⟩:=this; have:=q2 j x hj; simpa using this)
    have finish:∀(x:Value),(b.atR a (.inRegion ops (i :: rest) :: k)).finish x = b.atR (a.put o.dst x) (.inRegion ops rest :: k):= by
     intro x
     have hf:=Frame.finish_atR b a ops i rest k x
     rw [ho] at hf; exact hf
    split at h
    ·next hpure =>
     split at h
     ·next hpub =>
      split at h
      ·cases h
      ·next as' H1 hfr =>
       have e1:=C8x hpub hfr
       subst e1
       obtain ⟨g1,hFz,hl1,hV1⟩:=B4t hR hlen hVas' hfr
       split at h
       ·cases h
       ·next rs H2 hcl =>
        split at h
        ·next hbd =>
         simp only [Option.some.injEq,Prod.mk.injEq] at h
         obtain ⟨rfl,rfl⟩:=h
         obtain ⟨fr0,hb,hgo⟩:=hM _ _ _ _ _ _ hcl g1 w (a.eval f0) (args0.map a.eval) hFz.rel.ro hC.ro (hVf.mono hFz.ext.le) (by rw [hl1]; simpa using hlen) (fun j x hj=>by simpa using hV1 j x hj)
         obtain ⟨us,w',g2,fs,hs,hrv,hfs,hR2,hE2,hC2,hU2⟩:=hgo (b.atR a (.inRegion ops (i :: rest) :: k)) cs
         obtain ⟨hR3,hE3⟩:=hFz.rel.backRo hE2 hR2 (fun j hj hn=>hU2 j (by simpa using hj) hn)
         have hE4:=hFz.ext.trans hE3
         have hun:∀j,j < H1.length→g.L j = .none→(Z4 H1.length g2).L j = .none:= by
          intro j hj hjn
          rw [B6m hj]
          exact hU2 j (by simpa using hj) (by rw [hFz.L]; exact hjn)
         obtain ⟨g3,hx,hxl,hc3,_⟩:=B0z (n0:=n0) (own:=own) (l:=rs) hnd hE4 hR3 (hrv.cut hbd) (rest:=[]) (by simpa using (hfs.cut (N:=H1.length)).weaken (fun β hβ=>OkB.back hFz.ext (OkB.ofRo hβ))) (fun r hr=>by
          obtain ⟨q1,q2⟩:=hF r hr
          exact ⟨q1,hun _ q1 q2⟩)
         refine ⟨A6z us,w',g3,?_,C2v hxl hx,hc3.rel,hc3.ext,C1v hn hC,?_⟩
         ·exact .head (B5d ho hw hop hb) (by rw [← finish]; exact hs)
         ·intro j hj hjn hjg
          rw [hc3.same j hjn]; exact hun j hj hjg
        ·cases h
     ·cases h
    ·next hpure =>
     split at h
     ·cases h
     ·next as' H1 hfr =>
      obtain ⟨g1,hFz,hl1,hV1⟩:=B4t hR hlen hVas' hfr
      split at h
      ·cases h
      ·next rs H2 hcl =>
       simp only [Option.some.injEq,Prod.mk.injEq] at h
       obtain ⟨rfl,rfl⟩:=h
       obtain ⟨fr0,hb,hgo⟩:=hM _ _ _ _ _ _ hcl g1 w (a.eval f0) (args0.map a.eval) hFz.rel (D02 hC hfr) (hVf.mono hFz.ext.le) (by rw [hl1]; simpa using hlen) (fun j x hj=>by simpa using hV1 j x hj)
       obtain ⟨us,w',g2,fs,hs,hrv,hfs,hR2,hE2,hC2,hU2⟩:=hgo (b.atR a (.inRegion ops (i :: rest) :: k)) cs
       have hE4:=hFz.ext.trans hE2
       have hun:∀j,j < H.length→g.L j = .none→g2.L j = .none:= by
        intro j hj hjn
        exact hU2 j (by rw [hFz.len]; exact hj) (by rw [hFz.L]; exact hjn)
       obtain ⟨g3,hx,hxl,hc3,_⟩:=B0z (n0:=n0) (own:=own) (l:=rs) hnd hE4 hR2 hrv (rest:=[]) (by simpa using hfs.weaken (fun β hβ=>OkB.back hFz.ext hβ)) (fun r hr=>by
        obtain ⟨q1,q2⟩:=hF r hr
        exact ⟨Nat.lt_of_lt_of_le q1 hE4.len,hun _ q1 q2⟩)
       refine ⟨A6z us,w',g3,?_,C2v hxl hx,hc3.rel,hc3.ext,C1v hn hC2,?_⟩
       ·exact .head (B5d ho hw hop hb) (by rw [← finish]; exact hs)
       ·intro j hj hjn hjg
        rw [hc3.same j hjn]; exact hun j hj hjg
   ·cases h
  ·cases hm
 ·have hp:prim c n0 s H op = some (v,H'):= by
   cases op with
   | call f args own pure=>exact absurd ⟨_,_,_,_,rfl⟩ hcall
   | _=>exact h
  obtain ⟨x,w',g',h1,h2,h3,h4,h5,h6⟩:=C6j (a:=a) hok hm hR hS hF hnd hp
  exact ⟨x,w',g',.one (B1j ho hw (C9c hm) h1),h2,h3,h4,D4u hC hn hp,fun i _ hi hn=>h6 i hi hn⟩
structure RInv (MC:Nat→Code→ACode→Prop) (P:Program) (B0 nt:Nat) (c:Sc) (n0 lo:Nat) (fn:Bool) (hh rem:List Nat) (s:B4) (H:A1) (g:Ghost) (a:Act) (w:World):Prop where
 rel:Rel MC P B0 H g w
 slots:D4 g s a.tmps
 size:a.tmps.size = nt
 sc:ScOk c H
 cn:c.cur≤n0
 free:Free H g n0 rem
 ns:∀r ∈ hh,n0 + r < H.length∧hstk H (n0 + r) = none
 dl:fn = true→B9o lo a.defers g w
theorem C6c (hM:B0p MC P B0 M) (hN:NoS M) {hh:List Nat} {lo:Nat} {fn:Bool} {a:Act} {s s':B4} {H H':A1} {hc hc':List (Option (List Nat))} {g:Ghost} {w:World} {rest:List Nat} {ao:AOper} {rem:List Nat} (hm:A4q P ops nt ao = true) (hhid:∀r ∈ ao.hid,r ∈ hh) (hpush:B3r ao.op = false∨hh = [])
  (hI:RInv MC P B0 nt c n0 lo fn hh (D7 ao.op++rem) s H g a w) (hnd:(D7 ao.op++rem).Nodup) (h:oper M c n0 s H hc ao = some (s',H',hc')) :
  ∃ a' g' w',Steps P (lone (b.atR a (.inRegion ops (ao.src :: rest) :: k)) cs w) (lone (b.atR a' (.inRegion ops rest :: k)) cs w')∧RInv MC P B0 nt c n0 lo fn hh rem s' H' g' a' w'∧Ext H g w H' g' w' ∧
   ∀ i,i < n0→i < H.length→g.L i = .none→g'.L i = .none:= by
 unfold A4q at hm
 split at hm
 ·cases hm
 ·next o ho =>
  simp only [Bool.and_eq_true] at hm
  obtain ⟨⟨⟨⟨⟨m1,m2⟩,m3⟩,m4⟩,m5⟩,m6⟩:=hm
  have hns:∀r ∈ hh,n0 + r < H'.length∧hstk H' (n0 + r) = none:=fun r hr=>by
   obtain ⟨r1,r2⟩:=hI.ns r hr
   have q:=C73 hN h
   exact ⟨Nat.lt_of_lt_of_le r1 q.1,q.2 _ r1 (.inl (hpush.resolve_right (fun e=>by rw [e] at hr; cases hr))) r2⟩
  have hdst:o.dst = ao.dst:= by simpa using m3
  have hd:∀d,ao.dst = some d→d < a.tmps.size:= by
   intro d he; rw [he] at m4; rw [hI.size]; simpa using m4
  obtain ⟨n1,n2,n3⟩:=List.nodup_append.1 hnd
  have hF1:Free H g n0 (D7 ao.op):=fun r hr=>hI.free r (List.mem_append_left _ hr)
  unfold oper at h
  split at h
  ·cases h
  ·next hwt =>
   have hw:=C06 m5 hI.slots hwt
   simp only [Option.some.injEq,Prod.mk.injEq] at h
   obtain ⟨rfl,rfl,rfl⟩:=h
   refine ⟨a.put o.dst undef,g,w,.one (B9l ho hw),⟨hI.rel,?_,by rw [B2s]; exact hI.size,hI.sc,hI.cn,fun r hr=>hI.free r (List.mem_append_right _ hr),hns,by rw [A3f]; exact hI.dl⟩,Ext.refl _ _ _,fun _ _ _ h=>h⟩
   rw [hdst]; exact hI.slots.put (B6h g) hd
  ·next hwt =>
   have hw:=C06 m5 hI.slots hwt
   split at h
   ·next hs heq1 heq2 =>
    split at h
    ·next r hr =>
     split at h
     case isFalse=>cases h
     simp only [Option.some.injEq,Prod.mk.injEq] at h
     obtain ⟨rfl,rfl,rfl⟩:=h
     obtain ⟨v,H2⟩:=r
     have hform:hs = ao.hid.map (n0 + ·)++hs.drop ao.hid.length∧(∀ b ∈ hs.drop ao.hid.length,g.L b ≠ .none)∧∀ b ∈ hs.drop ao.hid.length,hstk (hide H (ao.hid.map (n0 + ·))) b = none:= by
      unfold A2j at heq1
      split at heq1
      ·next bs hbs =>
       dsimp only at heq1
       split at heq1
       ·next hc =>
        simp only [Option.some.injEq] at heq1
        subst heq1
        have hd:(ao.hid.map (n0 + ·)++bs).drop ao.hid.length = bs:= by rw [List.drop_left' (by simp)]
        rw [hd]
        refine ⟨rfl,C07 hI.rel hI.slots (fun b cs h=>C3o h) hbs,fun b hb=>?_⟩
        rw [Bool.and_eq_true,List.all_eq_true] at hc
        simpa using hc.2 b hb
       ·cases heq1
      ·cases heq1
     have hone:∀b ∈ hs,hstk H b = none:=fun b hb=>by
      rw [hform.1,List.mem_append] at hb
      have hid0:b ∈ ao.hid.map (n0 + ·)→hstk H b = none:=fun hb=>by
       obtain ⟨r,hr,rfl⟩:=List.mem_map.1 hb
       exact (hI.ns r (hhid r hr)).2
      rcases hb with hb | hb
      ·exact hid0 hb
      ·by_cases hm:b ∈ ao.hid.map (n0 + ·)
       ·exact hid0 hm
       ·have:=hform.2.2 b hb
        rwa [B3o hm] at this
     obtain ⟨x,w',g',q1,q2,q3,q4,q5,q6⟩:=C5o (b:=b) (k:=k) (cs:=cs) (rest:=rest) hM ho hw m2 m1 (hI.rel.hide hs hone) hI.slots (hI.sc.hide hs) hI.cn (fun r hr=>by rw [A09]; exact hF1 r hr) n1 hr
     obtain ⟨e1,e2⟩:=hI.rel.unhide hs hone (fun b hb hlt hn=>by
      rw [hform.1,List.mem_append] at hb
      rcases hb with hb | hb
      ·refine q6 b (by rw [A09]; exact hlt) (fun hm=>?_) hn
       obtain ⟨r,hr,rfl⟩:=List.mem_map.1 hb
       obtain ⟨r',hr',he⟩:=List.mem_map.1 hm
       have:r' = r:= by omega
       subst this
       simp only [C1c,List.all_eq_true,Bool.not_eq_true',List.contains_eq_mem,decide_eq_false_iff_not] at m6
       exact m6 r' hr' hr
      ·exact absurd hn (hform.2.1 b hb)) q4 q3
     have hlen:H.length≤H2.length:= by have:=q4.len; rwa [A09] at this
     have q6':∀i,i < H.length→i ∉ (D7 ao.op).map (n0 + ·)→g.L i = .none→g'.L i = .none:=fun i hi=>q6 i (by rw [A09]; exact hi)
     refine ⟨a.put o.dst x,g',w',q1,⟨e1,?_,by rw [B2s]; exact hI.size,hI.sc.unhide q5 hlen hs,hI.cn,?_,hns,?_⟩,e2,?_⟩
     ·rw [hdst]; exact (hI.slots.mono e2.le).put q2 hd
     ·intro r hr
      obtain ⟨p1,p2⟩:=hI.free r (List.mem_append_right _ hr)
      refine ⟨by rw [X6]; exact Nat.lt_of_lt_of_le p1 hlen,q6' _ p1 ?_ p2⟩
      intro hmem
      obtain ⟨r',hr',he⟩:=List.mem_map.1 hmem
      have:r' = r:= by omega
      subst this
      exact n3 r' hr' r' hr rfl
     ·intro hfn; rw [A3f]; exact (hI.dl hfn).ext e2
     ·intro i hi hil hn
      refine q6' i hil ?_ hn
      intro hmem
      obtain ⟨r',_,he⟩:=List.mem_map.1 hmem
      omega
    ·cases h
   ·cases h
theorem B40 (hM:B0p MC P B0 M) (hN:NoS M) {hh:List Nat} {lo:Nat} {fn:Bool}:∀{l:List AOper} {a:Act} {s s':B4} {H H':A1} {hc:List (Option (List Nat))} {g:Ghost} {w:World},(l.all fun o=>A4q P ops nt o) = true→(∀ o ∈ l,(∀ r ∈ o.hid,r ∈ hh)∧(B3r o.op = false∨hh = [])) →
  RInv MC P B0 nt c n0 lo fn hh (l.flatMap fun o=>D7 o.op) s H g a w→(l.flatMap fun o=>D7 o.op).Nodup→opers M c n0 l s H hc = some (s',H') →
  ∃ a' g' w',Steps P (lone (b.atR a (.inRegion ops (l.map (·.src)) :: k)) cs w) (lone (b.atR a' (.inRegion ops [] :: k)) cs w')∧RInv MC P B0 nt c n0 lo fn hh [] s' H' g' a' w'∧Ext H g w H' g' w' ∧
   ∀ i,i < n0→i < H.length→g.L i = .none→g'.L i = .none
 | [],a,s,s',H,H',hc,g,w,hm,hq,hI,hnd,h=>by
  simp only [opers,Option.some.injEq,Prod.mk.injEq] at h
  obtain ⟨rfl,rfl⟩:=h
  exact ⟨a,g,w,.refl _ _,hI,Ext.refl _ _ _,fun _ _ _ h=>h⟩
 | o :: l,a,s,s',H,H',hc,g,w,hm,hq,hI,hnd,h=>by
  simp only [List.all_cons,Bool.and_eq_true] at hm
  simp only [opers] at h
  split at h
  ·cases h
  ·next s1 H1 hc1 h1 =>
   simp only [List.flatMap_cons] at hI hnd
   obtain ⟨a1,g1,w1,q1,q2,q3,q4⟩:=C6c (b:=b) (k:=k) (cs:=cs) (rest:=l.map (·.src)) hM hN hm.1 (hq o (List.mem_cons_self ..)).1 (hq o (List.mem_cons_self ..)).2 hI hnd h1
   obtain ⟨a2,g2,w2,p1,p2,p3,p4⟩:=B40 hM hN hm.2 (fun o ho=>hq o (List.mem_cons_of_mem _ ho)) q2 (List.nodup_append.1 hnd).2.1 h
   exact ⟨a2,g2,w2,q1.trans p1,p2,q3.trans p3,fun i hi hl hn=>p4 i hi (Nat.lt_of_lt_of_le hl q3.len) (q4 i hi hl hn)⟩
end
section
variable {s s':B4}
theorem R0 (x:Opd) (h:∀t ∈ M5 x,sget s t = sget s' t):ev s x = ev s' x:= by
 cases x <;> simp [ev]
 exact h _ (by simp [M5])
theorem A6n:∀(l:List Opd) (_:∀t ∈ l.flatMap M5,sget s t = sget s' t),evs s l = evs s' l
 | [],_=>rfl
 | x :: l,h=>by
  simp only [evs,R0 x (fun t ht=>h t (by simp [ht])),A6n l (fun t ht=>h t (by simp at ht ⊢; exact .inr ht))]
theorem B0e:∀(l:List (Nat × Nat × Opd)) (_:∀t ∈ l.flatMap fun q=>M5 q.2.2,sget s t = sget s' t),R2 s l = R2 s' l
 | [],_=>rfl
 | x :: l,h=>by
  obtain ⟨i,n,x⟩:=x
  simp only [R2,R0 x (fun t ht=>h t (by simp [ht])),B0e l (fun t ht=>h t (by simp at ht ⊢; exact .inr ht))]
theorem A4x:∀(l:List (Nat × Opd)) (_:∀t ∈ l.flatMap fun q=>M5 q.2,sget s t = sget s' t),K5 s l = K5 s' l
 | [],_=>rfl
 | x :: l,h=>by
  obtain ⟨i,x⟩:=x
  simp only [K5,R0 x (fun t ht=>h t (by simp [ht])),A4x l (fun t ht=>h t (by simp at ht ⊢; exact .inr ht))]
theorem A9j (d:Int) (x:Option Opd) (h:∀t ∈ B2k x,sget s t = sget s' t):bnd s d x = bnd s' d x:= by
 cases x with
 | none=>rfl
 | some x=>simp only [bnd,A8f,R0 x h]
theorem C6i {c:Sc} {n0:Nat} {H:A1} {op:AOp} (h:∀t ∈ A02 op,sget s t = sget s' t):prim c n0 s H op = prim c n0 s' H op:= by
 cases op with
 | load k x=>cases k <;> simp only [prim,R0 x h]
 | build z ps=>simp only [prim,B0e ps h]
 | lits k z n ps own=>simp only [prim,A4x ps h]
 | xlits k z n ps=>simp only [prim,A4x ps h]
 | mkfn f x y =>
  simp only [A02,List.mem_append] at h
  simp only [prim,A6n x (fun t ht=>h t (.inl ht)),A6n y (fun t ht=>h t (.inr ht))]
 | mm mx xs=>simp only [prim,A6n xs h]
 | pick x y z | mupd _ _ x y z =>
  simp only [A02,List.mem_append] at h
  simp only [prim,R0 x (fun t ht=>h t (.inl (.inl ht))),R0 y (fun t ht=>h t (.inl (.inr ht))),R0 z (fun t ht=>h t (.inr ht))]
 | store _ x y | bin _ x y | beq _ x y | cmp _ _ x y | idxS _ x y | idxA _ _ x y | idxStr x y | idxAgg _ _ _ x y | lookup _ _ _ x y _ | append _ _ x y _ _ | copy _ x y | mkslice _ _ _ x y _ =>
  simp only [A02,List.mem_append] at h
  simp only [prim,R0 x (fun t ht=>h t (.inl ht)),R0 y (fun t ht=>h t (.inr ht))]
 | sliceS x l r | sliceL _ x l r | sliceQ _ x l r | sub _ x l r =>
  simp only [A02,List.mem_append] at h
  have e1:∀d,bnd s d l = bnd s' d l:=fun d=>A9j d l (fun t ht=>h t (.inl (.inr ht)))
  have e2:∀d,bnd s d r = bnd s' d r:=fun d=>A9j d r (fun t ht=>h t (.inr ht))
  simp only [prim,R0 x (fun t ht=>h t (.inl (.inl ht))),e1,e2]
 | sliceA _ _ x r =>
  simp only [A02,List.mem_append] at h
  have e2:∀d,bnd s d r = bnd s' d r:=fun d=>A9j d r (fun t ht=>h t (.inr ht))
  simp only [prim,R0 x (fun t ht=>h t (.inl ht)),e2]
 | cut _ x r _ =>
  simp only [A02,List.mem_append] at h
  have e2:∀d,bnd s d r = bnd s' d r:=fun d=>A9j d r (fun t ht=>h t (.inr ht))
  simp only [prim,R0 x (fun t ht=>h t (.inl ht)),e2]
 | nil | alloc | mkmap | call=>rfl
 | mv x | mvz x | storeN x _ _ | box _ x _ | nilck x | un _ x | conv _ x | idc x | nilq _ x | fieldAddr _ x | field _ _ x | range x _ | rangeM x _ | next x | entry x | extract x _ | lenS x | lenL x | lenM x | clear _ _ x=>simp only [prim,R0 x h]
theorem C5m {M:Mach} {c:Sc} {n0:Nat} {H:A1} {op:AOp} (h:∀t ∈ A02 op,sget s t = sget s' t):core M c n0 s H op = core M c n0 s' H op:= by
 by_cases hc:∃f args own pure,op = .call f args own pure
 ·obtain ⟨f,args,own,pure,rfl⟩:=hc
  simp only [A02,List.mem_append] at h
  simp only [core,S0,R0 f (fun t ht=>h t (.inl ht)),A6n args (fun t ht=>h t (.inr ht))]
 ·have e:∀s,core M c n0 s H op = prim c n0 s H op:= by
   intro s; cases op <;> first | rfl | exact absurd ⟨_,_,_,_,rfl⟩ hc
  rw [e,e]; exact C6i h
theorem B8t {H:A1}:∀(l:List (Nat × List Nat)) (_:∀t ∈ l.map (·.1),sget s t = sget s' t),ways s H l = ways s' H l
 | [],_=>rfl
 | x :: l,h=>by
  simp only [ways,h x.1 (by simp),B8t l (fun t ht=>h t (by simp at ht ⊢; exact .inr ht))]
theorem C2n (x:Option (Nat × Bool)) (h:∀t ∈ (match x with | some (t,_)=>[t] | none=>[]),sget s t = sget s' t):wanted s x = wanted s' x:= by
 cases x with
 | none=>rfl
 | some x=>obtain ⟨t,w⟩:=x; simp only [wanted,h t (by simp)]
end
def look:List (Nat × AO)→Nat→Option AO
 | [],_=>none
 | x :: l,i=>(look l i).or (if x.1 = i then some x.2 else none)
def H7:A1→List (Nat × AO)→A1
 | H,[]=>H
 | H,x :: l=>H7 (hset H x.1 x.2) l
theorem A12:∀(l:List (Nat × AO)) (H:A1) (i:Nat),(H7 H l)[i]? = (H[i]?).map fun o=>(look l i).getD o
 | [],H,i=>by simp [H7,look]
 | x :: l,H,i=>by
  simp only [H7,A12 l,hset,List.getElem?_set,look]
  by_cases e:x.1 = i
  ·subst e
   by_cases hl:x.1 < H.length
   ·simp [hl]
   ·simp [hl]
  ·simp [e]
theorem A7z:∀(l:List (Nat × AO)) (H:A1),(H7 H l).length = H.length
 | [],H=>rfl
 | x :: l,H=>by simp [H7,A7z l,hset]
theorem B3t {l:List (Nat × AO)} {i:Nat} (h:∀x ∈ l,x.1 ≠ i):look l i = none:= by
 induction l with
 | nil=>rfl
 | cons x l ih=>simp [look,ih (fun y hy=>h y (by simp [hy])),h x (by simp)]
theorem C3v {l:List (Nat × AO)} {i:Nat} {o:AO} (h:look l i = some o):∃x ∈ l,x.1 = i:= by
 induction l generalizing o with
 | nil=>cases h
 | cons x l ih =>
  simp only [look] at h
  cases hl:look l i with
  | some o'=>obtain ⟨y,hy,e⟩:=ih hl; exact ⟨y,by simp [hy],e⟩
  | none =>
   rw [hl] at h
   simp only [Option.none_or] at h
   split at h
   ·next e=>exact ⟨x,by simp,e⟩
   ·cases h
theorem B3n (H:A1):∀l,(hide H l).length = H.length
 | []=>rfl
 | b :: l=>by simp [hide,hset,B3n H l]
theorem A9h (G H:A1):∀l,(unhide G H l).length = H.length
 | []=>rfl
 | b :: l=>by
  simp only [unhide]
  split
  ·simp [hset,A9h G H l]
  ·exact A9h G H l
theorem A4o (H:A1) (i:Nat):∀l,(hide H l)[i]? = (H[i]?).map fun o=>if i ∈ l then AO.dead else o
 | []=>by simp [hide]
 | b :: l=>by
  simp only [hide,hset,List.getElem?_set,A4o H i l,List.mem_cons,B3n]
  by_cases e:b = i
  ·subst e
   by_cases hb:b < H.length
   ·simp [hb]
   ·have:H[b]? = none:=List.getElem?_eq_none (by omega)
    simp [hb,this]
  ·have e':¬ i = b:=fun h=>e h.symm
   simp [e,e']
theorem A2e (G H:A1) (i:Nat):∀l,(unhide G H l)[i]? = (H[i]?).map fun o=>if i ∈ l then (G[i]?).getD o else o
 | []=>by simp [unhide]
 | b :: l=>by
  simp only [unhide]
  split
  ·next o ho =>
   have ho':G[b]? = some o:=ho
   simp only [hset,List.getElem?_set,A9h,A2e G H i l,List.mem_cons]
   by_cases e:b = i
   ·subst e
    by_cases hb:b < H.length
    ·simp [hb,ho']
    ·have:H[b]? = none:=List.getElem?_eq_none (by omega)
     simp [hb,this]
   ·have e':¬ i = b:=fun h=>e h.symm
    simp [e,e']
  ·next hn =>
   have hn':G[b]? = none:=hn
   rw [A2e G H i l]
   by_cases e:i = b
   ·subst e; simp [hn']
   ·simp [e]
theorem B13 {H K:A1} (h:∀i:Nat,H[i]? = K[i]?):H = K:=List.ext_getElem? h
theorem A5u {H:A1} {S:List (Nat × AO)} {hs:List Nat} (h:∀x ∈ S,x.1 ∈ hs):hide (H7 H S) hs = hide H hs:= by
 apply B13; intro i
 rw [A4o,A4o,A12,Option.map_map]
 congr 1; funext o
 simp only [Function.comp]
 by_cases hi:i ∈ hs
 ·simp [hi]
 ·simp [hi,B3t (l:=S) (i:=i) (fun x hx e=>hi (by rw [← e]; exact h x hx))]
theorem B9n {H H2:A1} {S:List (Nat × AO)} {hs:List Nat} (h:∀x ∈ S,x.1 ∈ hs) (hb:∀b ∈ hs,b < H.length):unhide (H7 H S) H2 hs = H7 (unhide H H2 hs) S:= by
 apply B13; intro i
 rw [A2e,A12,A12,A2e,Option.map_map]
 congr 1; funext o
 simp only [Function.comp]
 by_cases hi:i ∈ hs
 ·have:=List.getElem?_eq_getElem (hb i hi)
  simp [hi,this]
 ·simp [hi,B3t (l:=S) (i:=i) (fun x hx e=>hi (by rw [← e]; exact h x hx))]
theorem A5l {H:A1} {S:List (Nat × AO)} {hs:List Nat} (h:∀x ∈ S,x.1 ∉ hs):unhide H (H7 (hide H hs) S) hs = H7 H S:= by
 apply B13; intro i
 rw [A2e,A12,A12,A4o,Option.map_map,Option.map_map]
 cases hH:H[i]? with
 | none=>simp
 | some o =>
  simp only [Option.map_some,Option.getD_some,Function.comp,Option.some.injEq]
  by_cases hi:i ∈ hs
  ·simp [hi,B3t (l:=S) (i:=i) (fun x hx e=>h x hx (by rw [e]; exact hi))]
  ·simp [hi]
theorem C4y {H:A1} {S T:List (Nat × AO)} (h:∀x ∈ S,∀ y ∈ T,x.1 ≠ y.1):H7 (H7 H S) T = H7 (H7 H T) S:= by
 apply B13; intro i
 simp only [A12,Option.map_map]
 congr 1; funext o
 simp only [Function.comp]
 cases hS:look S i with
 | none=>simp
 | some oS =>
  cases hT:look T i with
  | none=>simp
  | some oT =>
   obtain ⟨x,hx,e1⟩:=C3v hS
   obtain ⟨y,hy,e2⟩:=C3v hT
   exact absurd (e1.trans e2.symm) (h x hx y hy)
theorem A5i:∀(S T:List (Nat × AO)) (H:A1),H7 H (S++T) = H7 (H7 H S) T
 | [],T,H=>rfl
 | x :: S,T,H=>by simp [H7,A5i S T]
def B6a (n0:Nat) (owns:List (Nat × Nat × Nat)):List (Nat × AO):=owns.map fun x=>(n0 + x.2.1,.arr x.2.2 false [])
theorem A70 {n0:Nat}:∀(owns:List (Nat × Nat × Nat)) (zs:List AV) (H:A1),M8 n0 owns zs H = ((M8 n0 owns zs []).1,H7 H (B6a n0 owns))
 | [],zs,H=>rfl
 | (j,r,k) :: l,zs,H=>by
  simp only [M8,B6a,List.map_cons,H7]
  rw [A70 l _ (hset H (n0 + r) (.arr k false [])),A70 l _ (hset [] (n0 + r) (.arr k false []))]
  rfl
theorem D08 {n0:Nat} {own:List (Nat × Nat)} {j:Nat} (v:AV):∃S,(∀ x ∈ S,∃ r ∈ own.map (·.2),x.1 = n0 + r)∧∀ H,inC n0 H own j v = ((inC n0 [] own j v).1,H7 H S):= by
 have none:(∀ H,inC n0 H own j v = ((inC n0 [] own j v).1,H))→∃ S:List (Nat × AO),(∀ x ∈ S,∃ r ∈ own.map (·.2),x.1 = n0 + r)∧∀ H,inC n0 H own j v = ((inC n0 [] own j v).1,H7 H S):=fun h=>⟨[],by simp,fun H=>by rw [h]; rfl⟩
 cases v with
 | fresh k rows =>
  cases hr:V7 j own with
  | none=>exact none (fun H=>by simp [inC,hr])
  | some r =>
   refine ⟨[(n0 + r,.arr k false rows)],?_,fun H=>by simp [inC,hr,H7]⟩
   intro x hx
   simp at hx; subst hx
   refine ⟨r,?_,rfl⟩
   clear none
   induction own with
   | nil=>cases hr
   | cons y own ih =>
    simp only [V7] at hr
    cases hb:Nat.beq y.1 j with
    | true=>simp [hb] at hr; simp [hr]
    | false=>simp only [hb,cond_false] at hr; exact List.mem_cons_of_mem _ (ih hr)
 | _=>exact none (fun H=>rfl)
theorem C7n {n0:Nat} {own:List (Nat × Nat)}:∀(l:List AV) (j:Nat),∃ S,(∀ x ∈ S,∃ r ∈ own.map (·.2),x.1 = n0 + r)∧∀ H,A2k n0 H own j l = ((A2k n0 [] own j l).1,H7 H S)
 | [],j=>⟨[],by simp,fun H=>rfl⟩
 | v :: l,j=>by
  obtain ⟨S,h1,h2⟩:=D08 (n0:=n0) (own:=own) (j:=j) v
  obtain ⟨T,h3,h4⟩:=C7n (n0:=n0) (own:=own) l (j + 1)
  refine ⟨S++T,fun x hx=>(List.mem_append.1 hx).elim (h1 x) (h3 x),fun H=>?_⟩
  simp only [A2k]
  rw [h2 H,h4 (H7 H S),h2 [],h4 (H7 [] S),A5i]
theorem D53 {n0:Nat} {own:List (Nat × Nat)} (v:AV):∃S,(∀ x ∈ S,∃ r ∈ own.map (·.2),x.1 = n0 + r)∧∀ H,inV n0 H own v = ((inV n0 [] own v).1,H7 H S):= by
 by_cases hv:∃cs,v = .agg cs
 ·obtain ⟨cs,rfl⟩:=hv
  obtain ⟨S,h1,h2⟩:=C7n (n0:=n0) (own:=own) cs 0
  refine ⟨S,h1,fun H=>?_⟩
  simp only [inV]; rw [h2 H,h2 []]
 ·obtain ⟨S,h1,h2⟩:=D08 (n0:=n0) (own:=own) (j:=0) v
  have e:∀H,inV n0 H own v = inC n0 H own 0 v:= by
   intro H; cases v <;> first | rfl | exact absurd ⟨_,rfl⟩ hv
  exact ⟨S,h1,fun H=>by rw [e,e]; exact h2 H⟩
theorem C7r {n0:Nat}:∀(l:List AV) (own:List (List (Nat × Nat))),∃ S,(∀ x ∈ S,∃ r ∈ own.flatMap fun q=>q.map (·.2),x.1 = n0 + r)∧∀ H,U7 n0 H l own = ((U7 n0 [] l own).1,H7 H S)
 | [],own=>⟨[],by simp,fun H=>rfl⟩
 | v :: l,own=>by
  obtain ⟨S,h1,h2⟩:=D53 (n0:=n0) (own:=own.headD []) v
  obtain ⟨T,h3,h4⟩:=C7r (n0:=n0) l own.tail
  refine ⟨S++T,fun x hx=>?_,fun H=>?_⟩
  ·have split:(own.flatMap fun q=>q.map (·.2)) = (own.headD []).map (·.2)++own.tail.flatMap fun q=>q.map (·.2):= by cases own <;> simp
   rw [split]
   rcases List.mem_append.1 hx with hx | hx
   ·obtain ⟨r,hr,e⟩:=h1 x hx; exact ⟨r,List.mem_append_left _ hr,e⟩
   ·obtain ⟨r,hr,e⟩:=h3 x hx; exact ⟨r,List.mem_append_right _ hr,e⟩
  ·simp only [U7]
   rw [h2 H,h4 (H7 H S),h2 [],h4 (H7 [] S),A5i]
def Same (s:B4) (op:AOp) (H K:A1):Prop:=X2 op = false∨H = K∨(isR op = true∧∀ b,rbox s op = some b→hget K b = hget H b)
theorem C0a {H K:A1} {b:Nat} (h:hget K b = hget H b):hcells K b = hcells H b:= by simp [hcells,h]
theorem A7l {H K:A1} {b:Nat} (h:hget K b = hget H b):harr K b = harr H b:= by simp [harr,h]
theorem D3s {H K:A1} {b:Nat} (h:hget K b = hget H b):hstk K b = hstk H b:= by simp [hstk,h]
theorem C7j {H K:A1} {b:Nat} (h:hget K b = hget H b):hmap K b = hmap H b:= by simp [hmap,h]
theorem B47 {H K:A1} {p:AV} (h:∀b,p.box? = some b→hget K b = hget H b):F0 K p = F0 H p:= by
 cases p with
 | ptr b o=>simp [F0,C0a (h b rfl)]
 | eptr b n i o=>simp [F0,A7l (h b rfl)]
 | _=>rfl
theorem D2g {M:Mach} {c:Sc} {n0:Nat} {s:B4} {H H':A1} {op:AOp} {v:AV} (hw:writes op = false) (h:core M c n0 s H op = some (v,H')) :
  ∃ S:List (Nat × AO),(∀ x ∈ S,∃ r ∈ D7 op,x.1 = n0 + r)∧H' = H7 H S∧∀ K,Same s op H K→core M c n0 s K op = some (v,H7 K S):= by
 have still:H' = H→(∀ K,Same s op H K→core M c n0 s K op = some (v,K))→∃ S:List (Nat × AO),(∀ x ∈ S,∃ r ∈ D7 op,x.1 = n0 + r)∧H' = H7 H S∧∀ K,Same s op H K→core M c n0 s K op = some (v,H7 K S) :=
  fun e hK=>⟨[],by simp,e,hK⟩
 cases op with
 | store | storeN | append | copy | next | entry | rangeM | mupd | cut | clear | sliceL | mvz=>simp [writes] at hw
 | call f args own pure =>
  simp only [writes,Bool.not_eq_false'] at hw
  subst hw
  have hH:∀{K},Same s (.call f args own true) H K→H = K:= by
   intro K hK
   rcases hK with hK | hK | ⟨hK,_⟩
   ·simp [X2] at hK
   ·exact hK
   ·simp [isR,L7] at hK
  simp only [core,S0,if_true] at h
  have h0:=h
  repeat' split at h
  all_goals try (cases h; done)
  rename_i rs _ _ hbd
  obtain ⟨S,h1,h2⟩:=C7r (n0:=n0) rs own
  simp only [Option.some.injEq,Prod.mk.injEq] at h
  obtain ⟨rfl,rfl⟩:=h
  refine ⟨S,h1,by rw [h2 H],fun K hK=>?_⟩
  have:=hH hK; subst this
  simp only [core,S0,if_true]
  rw [h0,h2 H]
 | load k x =>
  cases k with
  | none =>
   simp only [core,prim] at h
   split at h
   ·next p hp =>
    split at h
    ·next y l hy =>
     simp only [Option.some.injEq,Prod.mk.injEq] at h
     obtain ⟨rfl,rfl⟩:=h
     refine still rfl (fun K hK=>?_)
     have:F0 K p = F0 H p:= by
      rcases hK with hK | hK | ⟨_,hK⟩
      ·simp [X2,L7] at hK
      ·rw [hK]
      ·exact B47 (fun b hb=>hK b (by simp [rbox,L7,hp,hb]))
     simp [core,prim,hp,this,hy]
    ·cases h
   ·cases h
  | some k =>
   simp only [core,prim] at h
   split at h
   ·next p hp =>
    split at h
    ·next cs hy =>
     split at h
     ·next hle =>
      simp only [Option.some.injEq,Prod.mk.injEq] at h
      obtain ⟨rfl,rfl⟩:=h
      refine still rfl (fun K hK=>?_)
      have:F0 K p = F0 H p:= by
       rcases hK with hK | hK | ⟨_,hK⟩
       ·simp [X2,L7] at hK
       ·rw [hK]
       ·exact B47 (fun b hb=>hK b (by simp [rbox,L7,hp,hb]))
      simp only [core,prim,hp,this,hy,hle,if_true]
     ·cases h
    ·cases h
   ·cases h
 | lookup z ag ks x y ok =>
  simp only [core,prim] at h
  split at h
  ·next m key e1 e2 =>
   have hh:∀K,Same s (.lookup z ag ks x y ok) H K→∀ b,m = .mp b→hmap K b = hmap H b:= by
    intro K hK b hb
    rcases hK with hK | hK | ⟨_,hK⟩
    ·simp [X2,L7] at hK
    ·rw [hK]
    ·exact C7j (hK b (by simp [rbox,L7,e1,hb,AV.box?]))
   cases m with
   | mp b =>
    simp only at h
    split at h
    ·next es cs he hk =>
     split at h
     ·next hif =>
      split at h
      ·next i v' hfd =>
       simp only [Option.some.injEq,Prod.mk.injEq] at h
       obtain ⟨rfl,rfl⟩:=h
       exact still rfl (fun K hK=>by simp only [core,prim,e1,e2,hh K hK b rfl,he,hk,hif,if_true,hfd])
      ·next hfd =>
       simp only [Option.some.injEq,Prod.mk.injEq] at h
       obtain ⟨rfl,rfl⟩:=h
       exact still rfl (fun K hK=>by simp only [core,prim,e1,e2,hh K hK b rfl,he,hk,hif,if_true,hfd])
      ·cases h
     ·cases h
    ·cases h
   | lit u =>
    cases u with
    | map r =>
     cases r with
     | none =>
      simp only at h
      split at h
      ·next es cs he hk =>
       simp only [Option.some.injEq] at he; subst he
       split at h
       ·next hif =>
        simp only [findKey,Option.some.injEq,Prod.mk.injEq] at h
        obtain ⟨rfl,rfl⟩:=h
        exact still rfl (fun K hK=>by simp only [core,prim,e1,e2,hk,hif,if_true,findKey])
       ·cases h
      ·cases h
     | some r=>simp at h
    | _=>simp at h
   | _=>simp at h
  ·cases h
 | lenL x =>
  simp only [core,prim] at h
  split at h
  ·next hx =>
   simp only [Option.some.injEq,Prod.mk.injEq] at h
   obtain ⟨rfl,rfl⟩:=h
   exact still rfl (fun K _=>by simp only [core,prim,hx])
  ·next hx =>
   simp only [Option.some.injEq,Prod.mk.injEq] at h
   obtain ⟨rfl,rfl⟩:=h
   exact still rfl (fun K _=>by simp only [core,prim,hx])
  ·next hx =>
   simp only [Option.some.injEq,Prod.mk.injEq] at h
   obtain ⟨rfl,rfl⟩:=h
   exact still rfl (fun K _=>by simp only [core,prim,hx])
  ·next hx =>
   simp only [Option.some.injEq,Prod.mk.injEq] at h
   obtain ⟨rfl,rfl⟩:=h
   exact still rfl (fun K _=>by simp only [core,prim,hx])
  ·next b n hx =>
   split at h
   ·next k p rows hr =>
    split at h
    ·next hn =>
     simp only [Option.some.injEq,Prod.mk.injEq] at h
     obtain ⟨rfl,rfl⟩:=h
     refine still rfl (fun K hK=>?_)
     have:harr K b = harr H b:= by
      rcases hK with hK | hK | ⟨_,hK⟩
      ·simp [X2,L7] at hK
      ·rw [hK]
      ·exact A7l (hK b (by simp [rbox,L7,hx,AV.box?]))
     simp only [core,prim,hx,this,hr,if_pos hn]
    ·cases h
   ·next hno =>
    split at h
    ·next k rows p hr =>
     split at h
     ·next hn =>
      simp only [Option.some.injEq,Prod.mk.injEq] at h
      obtain ⟨rfl,rfl⟩:=h
      refine still rfl (fun K hK=>?_)
      have:harr K b = harr H b∧hstk K b = hstk H b:= by
       rcases hK with hK | hK | ⟨_,hK⟩
       ·simp [X2,L7] at hK
       ·rw [hK]; exact ⟨rfl,rfl⟩
       ·have e:=hK b (by simp [rbox,L7,hx,AV.box?])
        exact ⟨A7l e,D3s e⟩
      simp only [core,prim,hx,this.1,this.2,hno,hr,if_pos hn]
     ·cases h
    ·cases h
  ·cases h
 | lenM x =>
  simp only [core,prim] at h
  split at h
  ·next b hx =>
   split at h
   ·next es hr =>
    simp only [Option.some.injEq,Prod.mk.injEq] at h
    obtain ⟨rfl,rfl⟩:=h
    refine still rfl (fun K hK=>?_)
    have:hmap K b = hmap H b:= by
     rcases hK with hK | hK | ⟨_,hK⟩
     ·simp [X2,L7] at hK
     ·rw [hK]
     ·exact C7j (hK b (by simp [rbox,L7,hx,AV.box?]))
    simp only [core,prim,hx,this,hr]
   ·cases h
  ·next hx =>
   simp only [Option.some.injEq,Prod.mk.injEq] at h
   obtain ⟨rfl,rfl⟩:=h
   exact still rfl (fun K _=>by simp only [core,prim,hx])
  ·cases h
 | idxS k x y =>
  simp only [core,prim] at h
  split at h
  ·next k' rows m i hx hy =>
   split at h
   ·next hif =>
    split at h
    ·next r hr =>
     simp only [Option.some.injEq,Prod.mk.injEq] at h
     obtain ⟨rfl,rfl⟩:=h
     exact still rfl (fun K _=>by simp only [core,prim,hx,hy,if_pos hif,hr])
    ·cases h
   ·cases h
  ·next k' rows m i hx hy =>
   split at h
   ·next hif =>
    split at h
    ·next r hr =>
     simp only [Option.some.injEq,Prod.mk.injEq] at h
     obtain ⟨rfl,rfl⟩:=h
     exact still rfl (fun K _=>by simp only [core,prim,hx,hy,if_pos hif,hr])
    ·cases h
   ·cases h
  ·next b n m i hx hy =>
   split at h
   ·next k' p rows hr =>
    split at h
    ·next hif =>
     simp only [Option.some.injEq,Prod.mk.injEq] at h
     obtain ⟨rfl,rfl⟩:=h
     refine still rfl (fun K hK=>?_)
     have:harr K b = harr H b:= by
      rcases hK with hK | hK | ⟨_,hK⟩
      ·simp [X2,L7] at hK
      ·rw [hK]
      ·exact A7l (hK b (by simp [rbox,L7,hx,AV.box?]))
     simp only [core,prim,hx,hy,this,hr,if_pos hif]
    ·cases h
   ·cases h
  ·next b o1 m1 n m i hx hy =>
   split at h
   ·next k' p rows hr =>
    split at h
    ·next hif =>
     simp only [Option.some.injEq,Prod.mk.injEq] at h
     obtain ⟨rfl,rfl⟩:=h
     refine still rfl (fun K hK=>?_)
     have:harr K b = harr H b:= by
      rcases hK with hK | hK | ⟨_,hK⟩
      ·simp [X2,L7] at hK
      ·rw [hK]
      ·exact A7l (hK b (by simp [rbox,L7,hx,AV.box?]))
     simp only [core,prim,hx,hy,this,hr,if_pos hif]
    ·cases h
   ·cases h
  ·cases h
 | nilq neg x =>
  simp only [core,prim] at h
  split at h
  ·next hx =>
   simp only [Option.some.injEq,Prod.mk.injEq] at h
   obtain ⟨rfl,rfl⟩:=h
   exact still rfl (fun K _=>by simp only [core,prim,hx])
  ·next hx =>
   simp only [Option.some.injEq,Prod.mk.injEq] at h
   obtain ⟨rfl,rfl⟩:=h
   exact still rfl (fun K _=>by simp only [core,prim,hx])
  ·next hx =>
   simp only [Option.some.injEq,Prod.mk.injEq] at h
   obtain ⟨rfl,rfl⟩:=h
   exact still rfl (fun K _=>by simp only [core,prim,hx])
  ·cases h
 | sliceQ kk x lo hi =>
  simp only [core,prim] at h
  have hs:∀K,Same s (.sliceQ kk x lo hi) H K→(ev s x).bind (A5h K) = (ev s x).bind (A5h H):= by
   intro K hK
   cases hx:ev s x with
   | none=>rfl
   | some u =>
    cases u with
    | asl b n =>
     have:harr K b = harr H b:= by
      rcases hK with hK | hK | ⟨_,hK⟩
      ·simp [X2,L7] at hK
      ·rw [hK]
      ·exact A7l (hK b (by simp [rbox,L7,hx,AV.box?]))
     simp only [Option.bind_some,A5h,this]
    | _=>rfl
  split at h
  ·next k rows hq =>
   split at h
   ·next l u h1 h2 =>
    split at h
    ·next hle =>
     simp only [Option.some.injEq,Prod.mk.injEq] at h
     obtain ⟨rfl,rfl⟩:=h
     refine still rfl (fun K hK=>?_)
     simp only [core,prim,hs K hK,hq,h1,h2,hle,and_self,if_true]
    ·cases h
   ·cases h
  ·cases h
 | sub kk x lo hi =>
  simp only [core,prim] at h
  split at h
  ·next k rows hx =>
   split at h
   ·next l u h1 h2 =>
    split at h
    ·next hle =>
     simp only [Option.some.injEq,Prod.mk.injEq] at h
     obtain ⟨rfl,rfl⟩:=h
     exact still rfl (fun K _=>by simp only [core,prim,hx,h1,h2]; rw [if_pos hle])
    ·cases h
   ·cases h
  ·next b n hx =>
   split at h
   ·next k q rows hr =>
    split at h
    ·next l u h1 h2 =>
     split at h
     ·next hle =>
      simp only [Option.some.injEq,Prod.mk.injEq] at h
      obtain ⟨rfl,rfl⟩:=h
      refine still rfl (fun K hK=>?_)
      have:harr K b = harr H b:= by
       rcases hK with hK | hK | ⟨_,hK⟩
       ·simp [X2,L7] at hK
       ·rw [hK]
       ·exact A7l (hK b (by simp [rbox,L7,hx,AV.box?]))
      simp only [core,prim,hx,this,hr,h1,h2]; rw [if_pos hle]
     ·cases h
    ·cases h
   ·cases h
  ·cases h
 | sliceA k n x hi =>
  simp only [core,prim] at h
  split at h
  ·next b o hb =>
   split at h
   ·next cs hh hcs hbd =>
    split at h
    ·next hle =>
     simp only [Option.some.injEq,Prod.mk.injEq] at h
     obtain ⟨rfl,rfl⟩:=h
     refine still rfl (fun K hK=>?_)
     have:hcells K b = hcells H b:= by
      rcases hK with hK | hK | ⟨_,hK⟩
      ·simp [X2,L7] at hK
      ·rw [hK]
      ·exact C0a (hK b (by simp [rbox,L7,hb,AV.box?]))
     simp only [core,prim,hb,this,hcs,hbd,hle,if_true]
    ·cases h
   ·cases h
  ·cases h
 | nil k r =>
  simp only [core,prim,Option.some.injEq,Prod.mk.injEq] at h
  obtain ⟨rfl,rfl⟩:=h
  exact ⟨[(n0 + r,.arr k false [])],by simp [D7],rfl,fun K _=>rfl⟩
 | mkmap r =>
  simp only [core,prim,Option.some.injEq,Prod.mk.injEq] at h
  obtain ⟨rfl,rfl⟩:=h
  exact ⟨[(n0 + r,.map [])],by simp [D7],rfl,fun K _=>rfl⟩
 | alloc zs owns r =>
  simp only [core,prim,Option.some.injEq,Prod.mk.injEq] at h
  obtain ⟨rfl,rfl⟩:=h
  refine ⟨B6a n0 owns++[(n0 + r,.cells (M8 n0 owns zs []).1)],?_,?_,fun K _=>?_⟩
  ·intro x hx
   simp only [List.mem_append,B6a,List.mem_map,List.mem_singleton] at hx
   rcases hx with ⟨q,hq,rfl⟩ | rfl
   ·exact ⟨q.2.1,by simp only [D7,List.mem_cons,List.mem_map]; exact .inr ⟨q,hq,rfl⟩,rfl⟩
   ·exact ⟨r,by simp [D7],rfl⟩
  ·rw [A70,A5i]; rfl
  ·simp only [core,prim]; rw [A70,A5i]; rfl
 | box n x r =>
  simp only [core,prim] at h
  split at h
  ·next u hu =>
   split at h
   ·next hn =>
    simp only [Option.some.injEq,Prod.mk.injEq] at h
    obtain ⟨rfl,rfl⟩:=h
    exact ⟨[(n0 + r,.cells u.cellsOf)],by simp [D7],rfl,fun K _=>by simp only [core,prim,hu,hn,if_true]; rfl⟩
   ·cases h
  ·cases h
 | range x r =>
  simp only [core,prim] at h
  split at h
  ·next u hu =>
   simp only [Option.some.injEq,Prod.mk.injEq] at h
   obtain ⟨rfl,rfl⟩:=h
   exact ⟨[(n0 + r,.iter u 0)],by simp [D7],rfl,fun K _=>by simp only [core,prim,hu]; rfl⟩
  ·cases h
 | mkslice k b z l cp r =>
  simp only [core,prim] at h
  split at h
  ·next l1 c1 e1 e2 =>
   split at h
   ·next hif =>
    simp only [Option.some.injEq,Prod.mk.injEq] at h
    obtain ⟨rfl,rfl⟩:=h
    exact ⟨[(n0 + r,.arr k false (List.replicate l1.toNat z))],by simp [D7],rfl,fun K _=>by simp only [core,prim,e1,e2,if_pos hif]; rfl⟩
   ·cases h
  ·cases h
 | lits k z n ps own =>
  simp only [core,prim,Option.bind_eq_some_iff] at h
  obtain ⟨qs,e1,rows,e2,h⟩:=h
  split at h
  ·next hfr =>
   cases own with
   | none =>
    simp only [Option.some.injEq,Prod.mk.injEq] at h
    obtain ⟨rfl,rfl⟩:=h
    exact still rfl (fun K _=>by simp [core,prim,e1,e2,hfr])
   | some r =>
    simp only [Option.some.injEq,Prod.mk.injEq] at h
    obtain ⟨rfl,rfl⟩:=h
    exact ⟨[(n0 + r,.arr k false rows)],by simp [D7],rfl,fun K _=>by simp [core,prim,e1,e2,hfr,H7]⟩
  ·cases h
 | build z ps =>
  simp only [core,prim,Option.bind_eq_some_iff] at h
  obtain ⟨qs,e1,h⟩:=h
  have e:=A1r h
  subst e
  refine still rfl (fun K _=>?_)
  simp only [core,prim,e1,Option.bind_some]
  revert h
  cases A72 z qs <;> simp
 | xlits k z n ps =>
  simp only [core,prim,Option.bind_eq_some_iff] at h
  obtain ⟨qs,e1,h⟩:=h
  have e:=A1r h
  subst e
  refine still rfl (fun K _=>?_)
  simp only [core,prim,e1,Option.bind_some]
  revert h
  cases A2w k (List.replicate n z) qs <;> simp
 | _ =>
  simp only [core,prim] at h
  have h0:=h
  have e:H' = H:= by
   first
   | exact A1r h
   | (repeat' split at h) <;> first
     | (cases h; done)
     | (simp only [Option.some.injEq,Prod.mk.injEq] at h; exact h.2.symm)
     | exact A1r h
  subst e
  refine still rfl (fun K _=>?_)
  simp only [core,prim]
  revert h0
  first
  | (cases ev s _ <;> simp <;> done)
  | (repeat' split) <;> first
    | (simp; done)
    | (simp only [Option.map_eq_some_iff,Prod.mk.injEq]; rintro ⟨y,hy,rfl,_⟩; exact ⟨y,hy,rfl,rfl⟩)
end Am
end
