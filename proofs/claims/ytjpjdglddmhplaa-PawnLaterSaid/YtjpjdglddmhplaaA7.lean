/- Texts that the claim stands on, one behind another. -/
import Derived.Test.YtjpjdglddmhplaaA6
set_option linter.unusedVariables false
set_option linter.unusedSimpArgs false
set_option linter.unnecessarySimpa false
section
set_option maxRecDepth 100000
set_option maxHeartbeats 0
namespace Pw
open Go Am Go.Proofs.Ytjpjdglddmhplaa.Cd
def A8h (a0:(List PaUse)) (a1:(List PaUse)) (s2:Int):Option (Int ⊕ (Bool ⊕ Unit)) :=
 if (decide (s2 < (List.length a0:Int))) = true then
  (idx a0 s2).bind fun x5 =>
  (idx a1 s2).bind fun x6 =>
  if (!((x5.Gown == x6.Gown) && ((x5.How == x6.How) && ((x5.Day == x6.Day) && true)))) = true then
  some (.inr (.inl false))
  else
  some (.inl (w64 (s2 + 1)))
 else
  some (.inr (.inr ()))
def A5u (a0:(List PaUse)) (a1:(List PaUse)):Option Bool :=
 if ((List.length a0:Int) != (List.length a1:Int)) = true then
  some false
 else
  (loop (A8h a0 a1) 0).bind fun (o8:(Bool ⊕ Unit)) =>
  match o8 with
  | (.inl vo8_0) =>
  some vo8_0
  | (.inr vo8_1) =>
  some true
theorem A8c {c:Sc} {H:A1} {a0:(List PaUse)} {a1:(List PaUse)} {r:Bool} (h:A5u a0 a1 = some r) :
  E8 tab c H (.fn (.func 15) [] []) [(.seq 3 (List.map B1 a0)),(.seq 3 (List.map B1 a1))] [.b r]:= by
 unfold A5u at h
 refine cE rfl rfl<|s0<|qm rfl<|es (ra2 rfl rfl)<|C6<|s0<|qm rfl<|A0 (G7 (f:=B1) rfl) rfl<|qm rfl<|A0 (G7 (f:=B1) rfl) rfl<|A0 (N5 rfl rfl) rfl<|es (ra3 rfl rfl rfl)<|wi h rfl (fun hc1 h=>?_) fun hc1 h=>?_
 ·refine s0<|qm rfl<|es (ra1 rfl)<|C8 ?_
  obtain rfl:=os h
  exact retq trivial (A6 rfl B9) (A4 rfl B8) (A3 A5 A8)
 ·refine C7<|C6<|s0<|qm rfl<|es (ra3 rfl rfl rfl)<|C9<|oB h fun o8 ho8 h=>wl (fun s2=>[(0,(.seq 3 (List.map B1 a0))),(1,(.seq 3 (List.map B1 a1))),(5,.i s2)]) (fun (q3:Unit) s2=>[]) 0 (fun r e s' H'=>(match r with | (.inl v)=>e = .ret∧RetQ H [.tmp 4] [.b v] e s' H' | (.inr v)=>PX 0 [] (H++[]) e s' H':Prop)) () ho8 rfl rfl (fun _ _=>rfl) (fun _=>rfl) rfl (fun s2=>(bdc M4 (bdc M4 (bdc A5 bdn)))) (fun q3 s2 ys2 hs2=>?_) ?_
  ·unfold A8h at hs2
   refine C6<|s0<|qm rfl<|qm rfl<|A0 (G7 (f:=B1) rfl) rfl<|A0 (L4 rfl rfl) rfl<|es (ra4 rfl rfl rfl rfl)<|wi hs2 rfl (fun hc4 hs2=>?_) fun hc4 hs2=>?_
   ·refine C7<|C6<|C9<|s0<|oB hs2 fun x5 hx5 hs2=>oB hs2 fun x6 hx6 hs2=>qm rfl<|qm rfl<|A0 (G6 (f:=B1) rfl rfl hx5) rfl<|A0 (H6 rfl rfl) rfl<|qm rfl<|qm rfl<|A0 (G6 (f:=B1) rfl rfl hx6) rfl<|A0 (H6 rfl rfl) rfl<|A0 (C7y (a:=B1 x5) (b:=B1 x6) rfl rfl rfl rfl (T4 (T4 (T4 A9j)))) rfl<|es (ra4 rfl rfl rfl rfl)<|wi hs2 rfl (fun hc7 hs2=>?_) fun hc7 hs2=>?_
    ·refine s0<|qm rfl<|es (ra1 rfl)<|C8 ?_
     obtain rfl:=os hs2
     exact lx rfl (And.intro rfl (retq trivial (A6 rfl B9) (A4 rfl B8) (A3 A5 A8))) (Sub.refl _)
    ·refine C7<|r0<|qm rfl<|A0 (G1 rfl rfl) rfl<|qm rfl<|en (ra3 rfl rfl rfl) ?_
     cases hs2
     exact lnT () rfl (su3 rfl rfl rfl)
   ·refine J4 ?_
    obtain rfl:=os hs2
    exact lx rfl px (.nil _)
  ·rcases o8 with vo8_0 | vo8_1
   ·rintro e s' H' - ⟨rfl,hret⟩
    cases h
    exact hret
   ·rintro e s' H' - ⟨rfl,rfl,rfl⟩
    refine s0<|qm rfl<|es (ra1 rfl)<|C8 ?_
    obtain rfl:=os h
    exact retq trivial (A6 rfl B9) (A4 rfl B8) (A3 A5 A8)
end Pw
end
section
set_option maxRecDepth 100000
set_option maxHeartbeats 0
namespace Am
open Go
section
variable {T:Tab} {s:A9} {H0 H:A1} {l:List AO} {c:Sc} {n0 k0:Nat}
theorem C71 {x:Opd} {b r:Nat} {es:List (AV × AV)} (hx:ev s x = some (.mp b)) (hm:hmap (H0++l) b = some es):One T c (H0.length + k0) s (H0++l) (.rangeM x r) (.itr (H0.length + (k0 + r))) (H0++l.set (k0 + r) (.mit b es.length [])) :=
 ⟨0,by simp only [core,prim,hx,hm,Nat.add_assoc,F3]⟩
theorem C5i {H L:A1} {b m n:Nat} {seen:List Nat} {e:AV × AV} {es:List (AV × AV)} (hg:hget H b = some (.mit m n seen)) (hm:hmap H m = some es) (h:A52 H b = some e):A52 (H++L) b = some e:= by
 have h1:hget (H++L) b = some (.mit m n seen):=C5b hg L
 have h2:hmap (H++L) m = some es:= by
  have:m < H.length:= by
   unfold hmap hget at hm
   cases e:H[m]? with
   | none=>rw [e] at hm; cases hm
   | some o=>exact (List.getElem?_eq_some_iff.1 e).1
  unfold hmap hget at hm ⊢
  rw [List.getElem?_append_left this]; exact hm
 unfold A52 at h ⊢
 rw [h1]
 rw [hg] at h
 simp only [h2,hm] at h ⊢
 exact h
theorem C91 {x:Opd} {b:Nat} {e:AV × AV} (hx:ev s x = some (.itr b)) (hm:A52 H b = some e):One T c n0 s H (.entry x) (.tup [e.1,e.2]) H:=⟨0,by simp only [core,prim,hx,hm]⟩
end
end Am
namespace Pw
open Go Am Go.Proofs.Ytjpjdglddmhplaa.Cd
abbrev Had:=Ar3 Int
theorem C37:KeyOk (κ:=Had) true [0,0,0] (fun x=>.agg (B9o cI x)) (fun x=>B9o cI x):=⟨fun _=>rfl,fun _=>rfl,fun a b=>by
 obtain ⟨a1,a2,a3⟩:=a
 obtain ⟨b1,b2,b3⟩:=b
 show E9 [.lit (.int .i64 a1),.lit (.int .i64 a2),.lit (.int .i64 a3)] [.lit (.int .i64 b1),.lit (.int .i64 b2),.lit (.int .i64 b3)] = _
 simp only [C13,Ar3.mk.injEq]
 by_cases h1:a1 = b1 <;> by_cases h2:a2 = b2 <;> by_cases h3:a3 = b3 <;> simp [h1,h2,h3,E9]⟩
abbrev Met:=List (Had × Int)
def C0i (m:Met):List (AV × AV):=m.map (kE (fun x=>.agg (B9o cI x)) (fun n=>.i n))
def C8o (h:Had) (f:Int):Option Bool :=
 if (!((h.x0 == 0) && ((h.x1 == 0) && ((h.x2 == 0) && true)))) = true then (idx h.l f).bind fun v=>some (decide (v > 0)) else some false
def C4i (f:Int):Met→Option (List Bool)
 | []=>some []
 | e :: l=>(C8o e.1 f).bind fun b=>(C4i f l).bind fun r=>some (b :: r)
def cnt (bs:List Bool) (seen:List Nat):Int:=((seen.filter fun i=>bs.getD i false).length:Int)
def C1z (m:Met) (f:Int):Option Int :=
 if m.length < 4611686018427387904 then (C4i f m).bind fun bs=>some ((bs.filter fun b=>b).length:Int) else none
theorem B7n {f:Int}:∀{m:Met} {bs:List Bool},C4i f m = some bs→bs.length = m.length∧∀ (i:Nat) (e:Had × Int),m[i]? = some e→C8o e.1 f = some (bs.getD i false)
 | [],bs,h=>by cases h; exact ⟨rfl,fun i e he=>by simp at he⟩
 | x :: m,bs,h=>by
  unfold C4i at h
  refine oB h fun b hb h=>oB h fun r hr h=>?_
  obtain rfl:=os h
  obtain ⟨h1,h2⟩:=B7n hr
  refine ⟨by simp [h1],fun i e he=>?_⟩
  cases i with
  | zero=>simp at he; subst he; simpa using hb
  | succ i=>simp at he; simpa using h2 i e he
theorem A9l:∀(bs:List Bool),((List.range bs.length).filter fun i=>bs.getD i false).length = (bs.filter fun b=>b).length
 | []=>rfl
 | b :: bs=>by
  rw [List.length_cons,List.range_succ_eq_map,List.filter_cons,List.filter_map,List.filter_cons]
  have ih:=A9l bs
  have e:(fun i=>(b :: bs).getD i false)∘Nat.succ = fun i=>bs.getD i false:= by funext i; simp
  rw [e]
  cases b <;> simp at ih ⊢ <;> exact ih
theorem C88 {bs:List Bool} {seen:List Nat} (hn:seen.Nodup) (hm:∀j,j ∈ seen↔j < bs.length):cnt bs seen = ((bs.filter fun b=>b).length:Int):= by
 have hp:seen.Perm (List.range bs.length):=(List.perm_ext_iff_of_nodup hn List.nodup_range).mpr fun j=>by rw [hm,List.mem_range]
 unfold cnt
 rw [(hp.filter _).length_eq,A9l]
theorem D1f (bs:List Bool) (seen:List Nat):cnt bs seen≤seen.length:= by
 unfold cnt
 have:=List.length_filter_le (fun i=>bs.getD i false) seen
 omega
theorem C6w (bs:List Bool) (seen:List Nat) (i:Nat):cnt bs (seen++[i]) = cnt bs seen + (if bs.getD i false = true then 1 else 0):= by
 unfold cnt
 rw [List.filter_append,List.length_append,List.filter_cons]
 by_cases h:bs.getD i false = true
 ·rw [if_pos h,if_pos h]; rfl
 ·rw [if_neg h,if_neg h]; simp
theorem B7c:∀(n:Nat) (l:List Nat),l.Nodup→(∀ x ∈ l,x < n)→l.length≤n
 | 0,l,_,h=>by
  cases l with
  | nil=>simp
  | cons x l=>exact absurd (h x (List.mem_cons_self ..)) (Nat.not_lt_zero x)
 | n + 1,l,hd,h=>by
  have h1:=B7c n (l.filter fun x=>x != n) (hd.filter _) fun x hx=>by
   have:=List.mem_filter.mp hx
   have h2:=h x this.1
   have h3:x ≠ n:= by simpa using this.2
   omega
  have h2:(l.filter fun x=>!(x != n)).length≤1:= by
   have hn:(l.filter fun x=>!(x != n)).Nodup:=hd.filter _
   cases hl:l.filter fun x=>!(x != n) with
   | nil=>simp
   | cons a t =>
    cases t with
    | nil=>simp
    | cons b t =>
     rw [hl] at hn
     have ha:a ∈ l.filter fun x=>!(x != n):= by rw [hl]; simp
     have hb:b ∈ l.filter fun x=>!(x != n):= by rw [hl]; simp
     have ea:a = n:= by simpa using (List.mem_filter.mp ha).2
     have eb:b = n:= by simpa using (List.mem_filter.mp hb).2
     subst ea; subst eb
     simp at hn
  have h3:l.length = (l.filter fun x=>x != n).length + (l.filter fun x=>!(x != n)).length:= by
   clear h1 h2 hd h
   induction l with
   | nil=>rfl
   | cons x l ih =>
    rw [List.filter_cons,List.filter_cons]
    cases x != n <;> simp [ih] <;> omega
  omega
theorem C8t {n:Nat} {seen:List Nat} (hn:seen.Nodup) (hm:∀j ∈ seen,j < n):seen.length≤n:=B7c n seen hn hm
def C3k:ACode:=(.seq (.cond 69 .skip (.exit 4)) (.block 5 (.s 1 [q 0 70 (.entry 67),EX 1 71 70 0,q 2 14 (.alloc [.lit (.int .i64 0),.lit (.int .i64 0),.lit (.int .i64 0)] [] 0),ST 3 3 14 71] [2,3,8,12,13,14,62,63,67] (.s 0 [LK 0 72 3 14,q 1 73 (.build [.lit (.int .i64 0),.lit (.int .i64 0),.lit (.int .i64 0)] []),q 2 74 (.cmp true [0,0,0] 72 73),M 3 75 74,G 4 76 75 true (.mv 12),G 5 77 75 true (.idxA 1 3 14 76),G 6 78 75 true (.load none 77),G 7 79 75 true (.bin .gtr 78 (.i 0)),q 8 80 (.pick 75 79 (.b false))] [2,3,8,12,13,62,63,67,80] (.cond 80 (.g 0 [M 0 81 13,B 1 82 .add 81 (.i 1),M 2 13 82] [2,3,8,12,13,62,63,67]) .skip)))))
theorem C10 {c:Sc} {Hh:A1} {l m:Nat} {met:Met} {f r:Int} {a2 a3 a8 a62 a63:AV} (hl:hget Hh l = some (.mit m met.length [])) (hm:hmap Hh m = some (C0i met)) (hlm:l ≠ m) (h:C1z met f = some r)
  (hb2:a2.bd Hh.length = true) (hb3:a3.bd Hh.length = true) (hb8:a8.bd Hh.length = true) (hb62:a62.bd Hh.length = true) (hb63:a63.bd Hh.length = true) :
  WP tab (.loopM 67 68 69 [2,3,8,12,13,62,63,67] [2,3,8,12,13,62,63,67] [2,3,8,12,13,62,63] C3k) [(2,a2),(3,a3),(8,a8),(12,.i f),(13,.i 0),(62,a62),(63,a63),(67,.itr l)] Hh c
   (fun e s' H'=>e = .exit 4∧s' = [(2,a2),(3,a3),(8,a8),(12,.i f),(13,.i r),(62,a62),(63,a63)]∧H' = hset Hh l .dead):= by
 unfold C1z at h
 split at h
 ·next hlen =>
  refine oB h fun bs hbs h=>?_
  obtain rfl:=os h
  obtain ⟨hbl,hbg⟩:=B7n hbs
  have hlt:l < Hh.length:= by unfold hget at hl; exact (List.getElem?_eq_some_iff.1 hl).1
  have hset0:hset Hh l (.mit m met.length []) = Hh:= by
   unfold hset
   unfold hget at hl
   obtain ⟨h1,h2⟩:=List.getElem?_eq_some_iff.1 hl
   rw [← h2]; exact List.set_getElem_self h1
  have hmm:∀o,hmap (hset Hh l o) m = some (C0i met):=fun o=>by
   rw [← hm]; unfold hmap hget hset; rw [List.getElem?_set_ne hlm]
  have hss:∀o o',hset (hset Hh l o) l o' = hset Hh l o':=fun o o'=>by unfold hset; rw [List.set_set]
  have hgl:∀o,hget (hset Hh l o) l = some o:=fun o=>by unfold hget hset; rw [List.getElem?_set_self hlt]
  have hle:∀o,(hset Hh l o).length = Hh.length:=fun o=>F1 _ _ _
  have key:=C59 (T:=tab) (c:=c) (x:=67) (nx:=68) (ok:=69) (l:=l) (m:=m) (n:=met.length) (live0:=[2,3,8,12,13,62,63,67]) (live:=[2,3,8,12,13,62,63,67]) (liveX:=[2,3,8,12,13,62,63]) (rest:=C3k) (es:=C0i met) (e0:=.exit 4)
   (fun seen=>[(2,a2),(3,a3),(8,a8),(12,.i f),(13,.i (cnt bs seen)),(62,a62),(63,a63),(67,.itr l)]) (fun seen=>hset Hh l (.mit m met.length seen)) [(2,a2),(3,a3),(8,a8),(12,.i f),(13,.i ((bs.filter fun b=>b).length:Int)),(62,a62),(63,a63)] (hset Hh l .dead)
   (fun _=>rfl) (by decide) rfl (by decide) (fun _=>rfl) (fun _=>hgl _) (fun _=>hmm _) (by rw [C0i,List.length_map,decide_eq_true rfl]; rfl) ?_ ?_ ?_
  ·refine Z9 (B2u hset0.symm key) ?_
   rintro e s' H' ⟨h1,h2,h3⟩
   exact ⟨h1,h2,h3⟩
  ·intro seen i hnd hsl hi hni
   rw [hss,hle]
   obtain ⟨e,he⟩:∃e,met[i]? = some e:=⟨_,List.getElem?_eq_getElem hi⟩
   have hpo:=hbg i e he
   have hent:A52 (hset Hh l (.mit m met.length (seen++[i]))) l = some (.agg (B9o cI e.1),.i e.2):= by
    unfold A52
    simp only [hgl,hmm,C0i,List.length_map,if_true,List.getLast?_append,List.getLast?_singleton,Option.some_or,Option.bind_some,List.getElem?_map,he,Option.map_some,kE]
   have hw:w64 (cnt bs seen + 1) = cnt bs seen + 1:= by
    have h1:=D1f bs seen
    have h2:=C8t hnd hsl
    have h3:0≤cnt bs seen:=Int.natCast_nonneg _
    unfold w64 IntKind.wrap
    simp [IntKind.bits,IntKind.signed]
    omega
   have hsn:=C6w bs seen i
   have htk:∀Y:List AO,(hset Hh l (.mit m met.length (seen++[i]))++Y).take Hh.length = hset Hh l (.mit m met.length (seen++[i])):=fun Y=>by
    rw [← hle (.mit m met.length (seen++[i]))]; exact List.take_left
   unfold C8o at hpo
   refine S5<|C6<|M7 rfl rfl<|C7<|C9<|sg 0 rfl<|N9 (C91 rfl (C5i (hgl _) (hmm _) hent)) rfl<|A0 (A7 rfl rfl) rfl<|A0 H9 rfl<|N0 (E6 (ds:=B9o cI e.1) rfl rfl rfl rfl (E1 rfl) rfl) rfl<|es (ra9 rfl rfl rfl rfl rfl rfl rfl rfl rfl)<|s0<|A0 (E3 rfl rfl rfl) rfl<|A0 (P5 (cs:=[.i 0,.i 0,.i 0]) rfl rfl) rfl<|A0 (C7y (a:=B9o cI e.1) (b:=[.i 0,.i 0,.i 0]) rfl rfl rfl rfl (T4 (T4 (T4 A9j)))) rfl<|qm rfl<|gp 5 80 (.b (bs.getD i false)) 75 rfl rfl (fun hc1=>?_) (fun hc1=>?_) ?_
   ·refine oB (bt hpo hc1) fun v hv hpo=>?_
    have hz:=os hpo
    rw [← hz]
    exact gT rfl hc1<|qm rfl<|gT rfl hc1<|A0 (B8q (e:=Ar3.l e.1) rfl rfl rfl hv) rfl<|gT rfl hc1<|A0 (B4q (f:=cI) (g:=fun n=>.i n) (e:=Ar3.l e.1) (fun _=>rfl) rfl (D4 rfl) rfl hv) rfl<|gT rfl hc1<|A0 (A06 rfl rfl) rfl<|A0 (C4 rfl hc1 rfl) rfl<|ge 5 rfl rfl rfl
   ·have hz:=os (bf hpo hc1)
    rw [← hz]
    exact nT rfl hc1 rfl<|nT rfl hc1 rfl<|nT rfl hc1 rfl<|nT rfl hc1 rfl<|A0 (C3 rfl hc1 rfl) rfl<|ge 5 rfl rfl rfl
   ·refine es (ra9 rfl rfl rfl rfl rfl rfl rfl rfl rfl) ?_
    rw [hsn]
    by_cases hbi:bs.getD i false = true
    ·rw [if_pos hbi,← hw]
     refine M7 rfl hbi<|r0<|qm rfl<|A0 (G1 rfl rfl) rfl<|qm rfl<|en (ra8 rfl rfl rfl rfl rfl rfl rfl rfl) ?_
     exact ⟨rfl,su8 rfl rfl rfl rfl rfl rfl rfl rfl,htk _⟩
    ·rw [if_neg hbi,Int.add_zero]
     refine O7 rfl (by simpa using hbi)<|C7 ?_
     exact ⟨rfl,su8 rfl rfl rfl rfl rfl rfl rfl rfl,htk _⟩
  ·intro seen i
   simp only [hle]
   have hbl':(AV.itr l).bd Hh.length = true:= by simp only [AV.bd]; exact Nat.ble_eq_true_of_le hlt
   exact bdc hb2 (bdc hb3 (bdc hb8 (bdc A5 (bdc A5 (bdc hb62 (bdc hb63 (bdc hbl' bdn)))))))
  ·intro seen hnd hall
   refine C6<|O7 rfl rfl<|J4 ?_
   refine ⟨rfl,rfl,?_,⟨_,_,_,hgl _⟩,hss _ _⟩
   rw [← C88 hnd (by rw [hbl]; exact hall)]
   exact su7 rfl rfl rfl rfl rfl rfl rfl
 ·cases h
end Pw
end
section
set_option maxRecDepth 100000
set_option maxHeartbeats 0
namespace Pw
open Go Am Go.Proofs.Ytjpjdglddmhplaa.Cd
def A6y (a0:pawn_found) (a1:pawn_found):Option Int :=
 some (w64 (a0.without_ - a1.without_))
theorem B4u {c:Sc} {H:A1} {a0:pawn_found} {a1:pawn_found} {r:Int} (h:A6y a0 a1 = some r) :
  E8 tab c H (.fn (.func 37) [] []) [(.agg (B6 a0)),(.agg (B6 a1))] [.i r]:= by
 unfold A6y at h
 refine cE rfl rfl<|sg 0 rfl<|A0 (F7 (cs:=B6 a0) rfl rfl rfl) rfl<|A0 (F7 (cs:=B6 a1) rfl rfl rfl) rfl<|qm rfl<|es (ra2 rfl rfl)<|s0<|A0 (C2 rfl) rfl<|A0 (B4 rfl rfl rfl) rfl<|A0 (C2 rfl) rfl<|A0 (B4 rfl rfl rfl) rfl<|A0 (A0y rfl rfl) rfl<|qm rfl<|es (ra1 rfl)<|C8 ?_
 obtain rfl:=os h
 exact retq trivial (A6 rfl B9) (A4 rfl B8) (A3 A5 A8)
def D3v (few:pawn_found) (x:pawn_found) (m:Met):Option (Met ⊕ Unit) :=
 (if (x.without_ == few.without_) = true then
  (if (!(kget m x.had_).isSome) = true then some true else some (decide (x.cost_ < (kget m x.had_).getD 0))).bind fun w=>some w
 else some false).bind fun g =>
 if g = true then some (.inl (kset m x.had_ x.cost_)) else some (.inl m)
def C6n (figs:List PaFigure) (m:Met) (s:List Int × List Int × Int):Option ((List Int × List Int × Int) ⊕ (List Int × List Int)) :=
 if (decide (s.2.2 < (List.length figs:Int))) = true then
  (C1z m s.2.2).bind fun n =>
  (if (n == 0) = true then (app 8 s.1 [s.2.2]).bind fun l=>some l else some s.1).bind fun l1 =>
  (if (decide (n < (List.length m:Int))) = true then (app 8 s.2.1 [s.2.2]).bind fun l=>some l else some s.2.1).bind fun l2 =>
  some (.inl (l1,l2,w64 (s.2.2 + 1)))
 else some (.inr (s.1,s.2.1))
def B1n (a0:PaShow):Option (List Int × List Int × Int) :=
 (A0s a0).bind fun x1 =>
 if (x1.1 == 0) = true then
  (B9m (B7m a0 x1.2) A6y).bind fun few =>
  (B7m a0 x1.2 Met Unit (D3v few.1) []).bind fun o =>
  match o with
  | .inl m=>(loop (C6n a0.Figures m) ([],[],0)).bind fun y=>some (y.1,y.2,0)
  | .inr _=>none
 else some ([],[],x1.1)
theorem D3c {H:A1} {l:List AO} {j n:Nat} (h:Nat.ble (j + 1) l.length = true):(AV.asl (H.length + j) n).bd (H++l).length = true:= by rw [List.length_append]; exact A2d h
def A2k (H:A1) (t:PaShow) (X:AO) (days:List Int) (few:pawn_found) (l1 l2:List Int) (m:Met):List AO :=
 [.cells (C0 t),.arr 1 false (l1.map cI),.arr 1 false (l2.map cI),.cells (C0 t),X,.cells (A1i t days),.cells (B6 few),.cells [.ptr (H.length + 5) 0],.map (C0i m),.cells [.mp (H.length + 8)],.cells [.ptr (H.length + 5) 0]]
theorem B8w {c:Sc} {H:A1} (hscv:P8 c H = true) {a0:PaShow} {r:List Int × List Int × Int} (h:B1n a0 = some r) :
  E8 tab c H (.fn (.func 21) [] []) [.agg (C0 a0)] [.fresh 1 (r.1.map cI),.fresh 1 (r.2.1.map cI),.i r.2.2]:= by
 unfold B1n at h
 refine oB h fun x1 hx1 h=>?_
 refine cE rfl rfl<|sg 0 rfl<|A0 (F7 (cs:=C0 a0) rfl rfl rfl) rfl<|A0 A53 rfl<|A0 A53 rfl<|qm rfl<|es (ra3 rfl rfl rfl)<|s0<|A0 (E3 rfl rfl rfl) rfl ?_
 by_cases hc2:(x1.1 == 0) = true
 ·rw [if_pos hc2] at h
  refine oB h fun few hfew h=>oB h fun o ho h=>?_
  obtain ⟨X,hX⟩:=A00 hx1 hc2
  refine N9 (A13 hX rfl rfl (A2 (D8 rfl) B3) rfl) rfl<|qm rfl<|A0 (A7 rfl rfl) rfl<|A0 (A7 rfl rfl) rfl<|qm rfl<|qm rfl<|es (ra5 rfl rfl rfl rfl rfl)<|C6<|s0<|qm rfl<|A0 (N5 rfl rfl) rfl<|es (ra6 rfl rfl rfl rfl rfl rfl)<|O7 rfl rfl<|C7<|sg 6 rfl<|qm rfl<|A2z (as2:=[(.ptr (H.length + 5) 0)]) (H1:=H++[.cells (C0 a0),.arr 1 false [],.arr 1 false [],.cells (C0 a0),X,.cells (A1i a0 x1.2),.dead]) rfl rfl (A2 rfl B3) rfl rfl rfl (A7m rfl)<|sg 7 rfl<|A0 (F7 (cs:=[.ptr (H.length + 5) 0]) rfl rfl rfl) rfl<|qm rfl<|es (ra1 rfl)<|s0<|A0 (A1q rfl rfl) rfl<|qm rfl<|es (ra1 rfl)<|C8<|InlQ.mk trivial ⟨_,_,_,[(.fn (.func 55) [] [(.ptr (H.length + 7) 0)])],_,(A6 rfl B9),(A4 rfl B8),(A7k (R7 (B0u (R7 (A3t rfl)))) (A7j rfl B03)),?_⟩
  refine B5 (rs:=[(.agg (B6 few.1)),.b few.2]) rfl rfl (A2 rfl (A2 rfl B3)) (B74 (C2s (t:=a0) (days:=x1.2) (bS:=H.length + 7) (b:=H.length + 5)) (fun h=>(B4u h).frz) (And.intro (D4 rfl) (D4 rfl)) (A7z hscv) hfew)<|qm rfl<|A0 (A7 rfl rfl) rfl<|A0 (A7 rfl rfl) rfl<|A0 H9 rfl<|N0 (E6 (ds:=(B6 few.1)) rfl rfl rfl rfl (E1 rfl) rfl) rfl<|qm rfl<|es (ra5 rfl rfl rfl rfl rfl) ?_
  refine sg 8 rfl<|A0 C97 rfl<|A0 H9 rfl<|N0 (E6 (ds:=[.mp (H.length + 8)]) rfl rfl rfl rfl (Z1 (Nat.le_add_right _ _)) rfl) rfl<|es (ra6 rfl rfl rfl rfl rfl rfl)<|C6<|s0<|qm rfl<|A2z (as2:=[(.ptr (H.length + 5) 0)]) (H1:=H++[.cells (C0 a0),.arr 1 false [],.arr 1 false [],.cells (C0 a0),X,.cells (A1i a0 x1.2),.cells (B6 few.1),.cells [.ptr (H.length + 5) 0],.map [],.cells [.mp (H.length + 8)]]) rfl rfl (A2 rfl B3) rfl rfl rfl (A7m rfl)<|sg 10 rfl<|A0 (F7 (cs:=[.ptr (H.length + 5) 0]) rfl rfl rfl) rfl<|qm rfl<|es (ra1 rfl)<|s0<|A0 (A1q rfl rfl) rfl<|qm rfl<|es (ra1 rfl)<|C8<|InlQ.mk trivial ⟨_,_,_,[(.fn (.func 55) [] [(.ptr (H.length + 10) 0)])],_,(A6 rfl B9),(A4 rfl B8),(A7k (R7 (B0u (R7 (A3t rfl)))) (A7j rfl B03)),?_⟩
  refine es (ra6 rfl rfl rfl rfl rfl rfl)<|C9 ?_
  have hl11:∀m,(H++A2k H a0 X x1.2 few.1 [] [] m).length = H.length + 11:=fun m=>by rw [List.length_append]; rfl
  refine B0n (it:=B7m a0 x1.2) (sh:=shF) (pre:=B1r a0 x1.2 (H.length + 10) (H.length + 5)) C2s (K:=H.length + 11) [(6,.ptr (H.length + 6) 0),(8,.ptr (H.length + 9) 0)] (fun m=>H++A2k H a0 X x1.2 few.1 [] [] m) (fun (_:Unit)=>H++A2k H a0 X x1.2 few.1 [] [] []) (fun _=>.ret) ho (fun _=>rfl) rfl (fun S hS=>M6 (live:=[6,8]) rfl (by decide) (Sub.trans (su2 rfl rfl) hS)) rfl (fun _=>hl11 _) (fun _=>hl11 _) ⟨fun _ _=>B1r.app ⟨D4 rfl,D4 rfl⟩,fun _ _=>B1r.app ⟨D4 rfl,D4 rfl⟩⟩ (A7z hscv) (fun c' x m o' L v hsc hgr hv hbo y0 y1 hy0 hy1=>?_) ?_
  ·obtain rfl:v = .agg (B6 x):=hv
   have hGl:∀m z,(H++A2k H a0 X x1.2 few.1 [] [] m++z :: L).length = H.length + 11 + 1 + L.length:=fun m z=>by rw [List.length_append,hl11]; simp; omega
   refine S5<|rg 0 rfl<|A0 H9 rfl<|N0 (E6 (ds:=B6 x) rfl rfl rfl rfl (Z1 (by rw [hGl]; exact Nat.le_add_right _ _)) rfl) rfl<|en (ra3 rfl rfl rfl) ⟨rfl,L++[.cells (B6 x)],by simp,?_⟩
   refine B2u (show _ = H++(A2k H a0 X x1.2 few.1 [] [] m++(y1 :: (L++[AO.cells (B6 x)]))) by simp) ?_
   rw [show (AV.ptr ((H++A2k H a0 X x1.2 few.1 [] [] m++y0 :: L).length + (0 + 0)) 0) = .ptr (H.length + 11 + 1 + L.length) 0 by rw [hGl]; rfl]
   have q9:∀m,hcells (H++(A2k H a0 X x1.2 few.1 [] [] m++(y1 :: (L++[AO.cells (B6 x)])))) (H.length + 11 + 1 + L.length) = some (B6 x):=fun m=>by
    rw [show H++(A2k H a0 X x1.2 few.1 [] [] m++(y1 :: (L++[AO.cells (B6 x)]))) = (H++A2k H a0 X x1.2 few.1 [] [] m++y1 :: L)++[AO.cells (B6 x)] by simp,← hGl m y1]
    exact D4 (j:=0) rfl
   have htk:∀m,(H++(A2k H a0 X x1.2 few.1 [] [] m++(y1 :: (L++[AO.cells (B6 x)])))).take (H.length + 11 + 1 + L.length) = H++A2k H a0 X x1.2 few.1 [] [] m++y1 :: L:=fun m=>by
    rw [show H++(A2k H a0 X x1.2 few.1 [] [] m++(y1 :: (L++[AO.cells (B6 x)]))) = (H++A2k H a0 X x1.2 few.1 [] [] m++y1 :: L)++[AO.cells (B6 x)] by simp,← hGl m y1]
    exact List.take_left
   unfold D3v at hbo
   refine oB hbo fun g hg hbo=>?_
   refine C9<|s0<|A0 (B4 (x:=.mp (H.length + 8)) rfl rfl rfl) rfl<|A0 (C2 rfl) rfl<|A0 (A4r (ds:=B9o cI x.had_) rfl (q9 m) rfl rfl) rfl<|A0 (C92 (k:=x.had_) (es:=m) (gv:=fun n=>.i n) (z:=0) C37 rfl (A6n rfl) rfl rfl) rfl<|qm rfl<|A0 (A7 rfl rfl) rfl<|A0 (A7 rfl rfl) rfl<|qm rfl<|qm rfl<|es (ra5 rfl rfl rfl rfl rfl)<|s0<|A0 (C2 rfl) rfl<|A0 (A2o (x:=.i x.without_) rfl (q9 m) rfl) rfl<|A0 (C2 rfl) rfl<|A0 (B4 (x:=.i few.1.without_) rfl rfl rfl) rfl<|A0 (F8 rfl rfl) rfl<|qm rfl<|gp 9 54 (.b g) 45 rfl rfl (fun hc1=>?_) (fun hc1=>?_) ?_
   ·refine oB (bt hg hc1) fun w hw hg=>?_
    obtain rfl:=os hg
    refine gT rfl hc1<|qm rfl<|gT rfl hc1<|A0 (C0o rfl rfl) rfl<|gT rfl hc1<|qm rfl<|gq 5 53 (.b w) 48 rfl rfl (fun hc3=>?_) (fun hc3=>?_) ?_
    ·obtain rfl:=os (bt hw hc3)
     exact nF rfl hc3 rfl<|nF rfl hc3 rfl<|nF rfl hc3 rfl<|nF rfl hc3 rfl<|gT rfl hc1<|A0 (C4 rfl hc3 rfl) rfl<|ge 5 rfl rfl rfl
    ·obtain rfl:=os (bf hw hc3)
     exact gF rfl hc3<|A0 (C2 rfl) rfl<|gF rfl hc3<|A0 (A2o (x:=.i x.cost_) rfl (q9 m) rfl) rfl<|gF rfl hc3<|qm rfl<|gF rfl hc3<|A0 (L4 rfl rfl) rfl<|gT rfl hc1<|A0 (C3 rfl hc3 rfl) rfl<|ge 5 rfl rfl rfl
    ·exact A0 (C4 rfl hc1 rfl) rfl<|ge 5 rfl rfl rfl
   ·obtain rfl:=os (bf hg hc1)
    exact nT rfl hc1 rfl<|nT rfl hc1 rfl<|nT rfl hc1 rfl<|nX rfl rfl<|nX rfl rfl<|nX rfl rfl<|nX rfl rfl<|nT rfl hc1 rfl<|A0 (C3 rfl hc1 rfl) rfl<|ge 9 rfl rfl rfl
   ·refine es (ra3 rfl rfl rfl)<|wi hbo rfl (fun hc4 hbo=>?_) fun hc4 hbo=>?_
    ·cases hbo
     refine r0<|A0 (B4 (x:=.mp (H.length + 8)) rfl rfl rfl) rfl<|A0 (C2 rfl) rfl<|A0 (A4r (ds:=B9o cI x.had_) rfl (q9 m) rfl rfl) rfl<|A0 (C2 rfl) rfl<|A0 (A2o (x:=.i x.cost_) rfl (q9 m) rfl) rfl<|N0 (C93 (k:=x.had_) (v:=x.cost_) (es:=m) (gv:=fun n=>.i n) C37 rfl rfl rfl rfl rfl) rfl<|en .n ⟨rfl,htk _⟩
    ·cases hbo
     exact C7 ⟨rfl,htk _⟩
  ·rcases o with m | m
   ·refine oB h fun y hy h=>?_
    obtain rfl:=os h
    refine B2u (show _ = H++(A2k H a0 X x1.2 few.1 [] [] m++[.dead]) by simp) ?_
    refine C6<|s0<|A0 (C2 rfl) rfl<|A0 (B4 rfl rfl rfl) rfl<|A0 (G7 (f:=B2) rfl) rfl<|qm rfl<|es (ra5 rfl rfl rfl rfl rfl)<|C9<|wl (fun s=>[(2,.asl (H.length + 1) s.1.length),(3,.asl (H.length + 2) s.2.1.length),(8,.ptr (H.length + 9) 0),(62,.i a0.Figures.length),(63,.i s.2.2)]) (fun (_:Unit) s=>A2k H a0 X x1.2 few.1 s.1 s.2.1 m++[.dead]) 12 (fun r e s' H'=>PX 2 [(2,.asl (H.length + 1) r.1.length),(3,.asl (H.length + 2) r.2.length)] (H++(A2k H a0 X x1.2 few.1 r.1 r.2 m++[.dead])) e s' H') () hy rfl rfl (fun _ _=>rfl) (fun _=>rfl) rfl (fun _=>bdc (A2d rfl) (bdc (A2d rfl) (bdc (P3 rfl) (bdc A5 (bdc A5 bdn))))) (fun _ s o hs=>?_) ?_
    ·obtain ⟨l1,l2,i⟩:=s
     unfold C6n at hs
     refine s0<|A0 (L4 rfl rfl) rfl<|es (ra6 rfl rfl rfl rfl rfl rfl)<|C6<|wi hs rfl (fun hc hs=>?_) fun hc hs=>?_
     ·refine oB hs fun n hn hs=>oB hs fun k1 hl1 hs=>oB hs fun k2 hl2 hs=>?_
      simp only at hn hl1 hl2 hs
      refine C7<|C6<|C9<|s0<|qm rfl<|qm rfl<|es (ra6 rfl rfl rfl rfl rfl rfl)<|s0<|qm rfl<|es (ra7 rfl rfl rfl rfl rfl rfl rfl)<|C6<|sg 12 rfl<|A0 (B4 (x:=.mp (H.length + 8)) rfl rfl rfl) rfl<|N9 (C71 rfl (A6n rfl)) rfl<|es (ra8 rfl rfl rfl rfl rfl rfl rfl rfl)<|C9<|Z9 (C10 (l:=H.length + 12) (m:=H.length + 8) (met:=m) (f:=i) (r:=n) (by rw [Q6]; show some (AO.mit _ (C0i m).length []) = _; rw [C0i,List.length_map]) (A6n rfl) (by omega) hn (D3c rfl) (D3c rfl) (by rw [List.length_append]; exact P3 rfl) A5 A5) ?_
      rintro e s' H' ⟨rfl,rfl,rfl⟩
      rw [F3]
      refine C6<|s0<|qm rfl<|A0 (F8 rfl rfl) rfl<|es (ra8 rfl rfl rfl rfl rfl rfl rfl rfl)<|wi hl1 rfl (fun hc5 hl1=>?_) fun hc5 hl1=>?_
      ·refine oB hl1 fun l1' hl1' hl1=>?_
       obtain rfl:=os hl1
       refine r0<|qm rfl<|qm rfl<|A0 (I5 (rows:=List.map cI [i]) rfl rfl (E0 (fun _=>rfl) _)) rfl<|N9 (A6t (f:=cI) (j:=1) rfl rfl rfl rfl A64 (fun _=>rfl) hl1') rfl<|qm rfl<|en (ra7 rfl rfl rfl rfl rfl rfl rfl) ?_
       refine s0<|qm rfl<|A0 (B4 (x:=.mp (H.length + 8)) rfl rfl rfl) rfl<|A0 (C7z (es:=m) rfl (A6n rfl)) rfl<|A0 (L4 rfl rfl) rfl<|es (ra7 rfl rfl rfl rfl rfl rfl rfl)<|wi hl2 rfl (fun hc6 hl2=>?_) fun hc6 hl2=>?_
       ·refine oB hl2 fun l2' hl2' hl2=>?_
        obtain rfl:=os hl2
        refine r0<|qm rfl<|qm rfl<|A0 (I5 (rows:=List.map cI [i]) rfl rfl (E0 (fun _=>rfl) _)) rfl<|N9 (A6t (f:=cI) (j:=2) rfl rfl rfl rfl A64 (fun _=>rfl) hl2') rfl<|qm rfl<|en (ra5 rfl rfl rfl rfl rfl) ?_
        obtain rfl:=os hs
        refine r0<|A0 (G1 rfl rfl) rfl<|qm rfl<|en (ra5 rfl rfl rfl rfl rfl) ?_
        exact lnT () rfl (su5 rfl rfl rfl rfl rfl)
       ·obtain rfl:=os hl2
        obtain rfl:=os hs
        refine C7<|r0<|A0 (G1 rfl rfl) rfl<|qm rfl<|en (ra5 rfl rfl rfl rfl rfl) ?_
        exact lnT () rfl (su5 rfl rfl rfl rfl rfl)
      ·obtain rfl:=os hl1
       refine C7 ?_
       refine s0<|qm rfl<|A0 (B4 (x:=.mp (H.length + 8)) rfl rfl rfl) rfl<|A0 (C7z (es:=m) rfl (A6n rfl)) rfl<|A0 (L4 rfl rfl) rfl<|es (ra7 rfl rfl rfl rfl rfl rfl rfl)<|wi hl2 rfl (fun hc6 hl2=>?_) fun hc6 hl2=>?_
       ·refine oB hl2 fun l2' hl2' hl2=>?_
        obtain rfl:=os hl2
        refine r0<|qm rfl<|qm rfl<|A0 (I5 (rows:=List.map cI [i]) rfl rfl (E0 (fun _=>rfl) _)) rfl<|N9 (A6t (f:=cI) (j:=2) rfl rfl rfl rfl A64 (fun _=>rfl) hl2') rfl<|qm rfl<|en (ra5 rfl rfl rfl rfl rfl) ?_
        obtain rfl:=os hs
        refine r0<|A0 (G1 rfl rfl) rfl<|qm rfl<|en (ra5 rfl rfl rfl rfl rfl) ?_
        exact lnT () rfl (su5 rfl rfl rfl rfl rfl)
       ·obtain rfl:=os hl2
        obtain rfl:=os hs
        refine C7<|r0<|A0 (G1 rfl rfl) rfl<|qm rfl<|en (ra5 rfl rfl rfl rfl rfl) ?_
        exact lnT () rfl (su5 rfl rfl rfl rfl rfl)
     ·refine J4 ?_
      obtain rfl:=os hs
      exact lx rfl px (su2 rfl rfl)
    ·rintro e s' H' - ⟨rfl,rfl,rfl⟩
     refine s0<|qm rfl<|qm rfl<|qm rfl<|qm rfl<|qm rfl<|es (ra3 rfl rfl rfl)<|C8 ?_
     exact retq trivial (A6 rfl (A6 rfl (A6 rfl B9))) (A4 (A5l rfl (List.length_map _)) (A4 (A5l rfl (List.length_map _)) (A4 rfl B8))) (A3 A0a (A3 A0a (A3 A5 A8)))
   ·cases h
 ·rw [if_neg hc2] at h
  obtain rfl:=os h
  refine N9 (O6 (rs:=[.lit (.pointer none),.i x1.1]) rfl rfl (A2 (D8 rfl) B3) (A1k hx1 (by simpa using hc2)) rfl) rfl<|qm rfl<|A0 (A7 rfl rfl) rfl<|A0 (A7 rfl rfl) rfl<|qm rfl<|qm rfl<|es (ra5 rfl rfl rfl rfl rfl)<|C6<|s0<|qm rfl<|A0 (N5 rfl rfl) rfl<|es (ra6 rfl rfl rfl rfl rfl rfl)<|M7 rfl (nef hc2)<|sg 3 rfl<|qm rfl<|A0 A53 rfl<|A0 A53 rfl<|qm rfl<|es (ra3 rfl rfl rfl)<|C8 ?_
  exact retq trivial (A6 rfl (A6 rfl (A6 rfl B9))) (A4 (A5l rfl rfl) (A4 (A5l rfl rfl) (A4 rfl B8))) (A3 A0a (A3 A0a (A3 A5 A8)))
def R9 :Option Bool :=
 (A1n false).bind fun x1 =>
 (A1n true).bind fun x2 =>
 (O3 x1 0 10).bind fun x3 =>
 (A18 x1 2 2).bind fun x4 =>
 (A18 x1 2 1).bind fun x5 =>
 (A3g x1 1).bind fun x6 =>
 (Y1).bind fun x7 =>
 (A3f x1 x7 45).bind fun x8 =>
 (Y1).bind fun x9 =>
 (A5m x1 x9).bind fun x10 =>
 (Y1).bind fun x11 =>
 (A5m x2 x11).bind fun x12 =>
 (A4v x1).bind fun x13 =>
 (A4v x2).bind fun x14 =>
 (B1n x2).bind fun x15 =>
 (B1p x2).bind fun x16 =>
 (Y1).bind fun x17 =>
 (B1o x1 x17).bind fun x18 =>
 (if ((((((((((((((x3.2 == 0) && (x4.2 == 0)) && (x6.2 == 0)) && (x8.2 == 0)) && (x12.2 == 0)) && (x13.2.2.2 == 0)) && (x14.2.2.2 == 0)) && (x15.2.2 == 0)) && (x16.2 == 0)) && (x18.2 == 0)) && (x5.2 == 9)) && (x10.2 == 4)) && (x3.1 == 110)) && (x4.1 == 48)) = true then
  (Y5 x6.1 [0,1,2]).bind fun x33 =>
  some x33
 else
  some false).bind fun x34 =>
 (if ((x34 && (x8.1 == 102)) && (x12.1 == 0)) = true then
  (T6 0 2 0).bind fun x38 =>
  (T6 1 0 0).bind fun x39 =>
  (T6 2 2 0).bind fun x40 =>
  (A5u x13.1 [x38,x39,x40]).bind fun x41 =>
  some x41
 else
  some false).bind fun x42 =>
 (if (((x42 && (x13.2.1 == 0)) && (x13.2.2.1 == 78)) && (x14.2.1 == 2)) = true then
  (Y5 x15.1 [0,2]).bind fun x47 =>
  some x47
 else
  some false).bind fun x48 =>
 (if x48 = true then
  (Y5 x15.2.1 [0,2]).bind fun x50 =>
  some x50
 else
  some false).bind fun x51 =>
 (if (x51 && (x16.1 == 58)) = true then
  (Y5 x18.1 [2]).bind fun x54 =>
  some x54
 else
  some false).bind fun x55 =>
 some x55
theorem T7 {c:Sc} {H:A1} (hscv:P8 c H = true)  {r:Bool} (h:R9  = some r) :
  E8 tab c H (.fn (.func 17) [] []) [] [.b r]:= by
 unfold R9 at h
 refine cE rfl rfl<|s0<|qm rfl<|es .n<|sg 0 rfl<|oB h fun x1 hx1 h=>oB h fun x2 hx2 h=>B5 (rs:=[(.agg (C0 x1))]) rfl rfl (A2 rfl B3) ((A12 hx1).frz)<|B5 (rs:=[(.agg (C0 x2))]) rfl rfl (A2 rfl B3) ((A12 hx2).frz)<|A0 H9 rfl<|A0 H9 rfl<|N0 (E6 (ds:=(C0 x1)) rfl rfl rfl rfl (E1 rfl) rfl) rfl<|N0 (E6 (ds:=(C0 x2)) rfl rfl rfl rfl (E1 rfl) rfl) rfl<|es (ra2 rfl rfl)<|s0<|oB h fun x3 hx3 h=>A0 (E3 rfl rfl rfl) rfl<|B5 (rs:=[.i x3.1,.i x3.2]) rfl rfl (A2 (D8 rfl) (A2 rfl (A2 rfl B3))) ((Q9 hx3).frz)<|qm rfl<|A0 (A7 rfl rfl) rfl<|A0 (A7 rfl rfl) rfl<|qm rfl<|qm rfl<|es (ra4 rfl rfl rfl rfl)<|s0<|oB h fun x4 hx4 h=>A0 (E3 rfl rfl rfl) rfl<|B5 (rs:=[.i x4.1,.i x4.2]) rfl rfl (A2 (D8 rfl) (A2 rfl (A2 rfl B3))) ((A3c hx4).frz)<|qm rfl<|A0 (A7 rfl rfl) rfl<|A0 (A7 rfl rfl) rfl<|qm rfl<|qm rfl<|es (ra6 rfl rfl rfl rfl rfl rfl)<|s0<|oB h fun x5 hx5 h=>A0 (E3 rfl rfl rfl) rfl<|B5 (rs:=[.i x5.1,.i x5.2]) rfl rfl (A2 (D8 rfl) (A2 rfl (A2 rfl B3))) ((A3c hx5).frz)<|qm rfl<|A0 (A7 rfl rfl) rfl<|A0 (A7 rfl rfl) rfl<|qm rfl<|qm rfl<|es (ra7 rfl rfl rfl rfl rfl rfl rfl)<|s0<|oB h fun x6 hx6 h=>A0 (E3 rfl rfl rfl) rfl<|B5 (rs:=[(.seq 1 (List.map cI x6.1)),.i x6.2]) rfl rfl (A2 (D8 rfl) (A2 rfl B3)) ((A4c hx6).frz)<|qm rfl<|A0 (A7 rfl rfl) rfl<|A0 (A7 rfl rfl) rfl<|qm rfl<|qm rfl<|es (ra9 rfl rfl rfl rfl rfl rfl rfl rfl rfl)<|s0<|oB h fun x7 hx7 h=>oB h fun x8 hx8 h=>A0 (E3 rfl rfl rfl) rfl<|T9 (rs:=[(.seq 3 (List.map B1 x7))]) rfl rfl A1t B3 ((W2 hx7).frz)<|B5 (rs:=[.i x8.1,.i x8.2]) rfl rfl (A2 (D8 rfl) (A2 rfl (A2 rfl B3))) ((A4b hx8).frz)<|qm rfl ?_
 refine A0 (A7 rfl rfl) rfl<|A0 (A7 rfl rfl) rfl<|qm rfl<|qm rfl<|es (ra11 rfl rfl rfl rfl rfl rfl rfl rfl rfl rfl rfl)<|s0<|oB h fun x9 hx9 h=>oB h fun x10 hx10 h=>A0 (E3 rfl rfl rfl) rfl<|T9 (rs:=[(.seq 3 (List.map B1 x9))]) rfl rfl A1t B3 ((W2 hx9).frz)<|B5 (rs:=[.i x10.1,.i x10.2]) rfl rfl (A2 (D8 rfl) (A2 rfl B3)) ((A8a hx10).frz)<|qm rfl<|A0 (A7 rfl rfl) rfl<|A0 (A7 rfl rfl) rfl<|qm rfl<|qm rfl<|es (ra12 rfl rfl rfl rfl rfl rfl rfl rfl rfl rfl rfl rfl)<|s0<|oB h fun x11 hx11 h=>oB h fun x12 hx12 h=>A0 (E3 rfl rfl rfl) rfl<|T9 (rs:=[(.seq 3 (List.map B1 x11))]) rfl rfl A1t B3 ((W2 hx11).frz)<|B5 (rs:=[.i x12.1,.i x12.2]) rfl rfl (A2 (D8 rfl) (A2 rfl B3)) ((A8a hx12).frz)<|qm rfl<|A0 (A7 rfl rfl) rfl<|A0 (A7 rfl rfl) rfl<|qm rfl<|qm rfl<|es (ra14 rfl rfl rfl rfl rfl rfl rfl rfl rfl rfl rfl rfl rfl rfl)<|s0<|oB h fun x13 hx13 h=>A0 (E3 rfl rfl rfl) rfl<|B5 (rs:=[(.seq 3 (List.map B1 x13.1)),.i x13.2.1,.i x13.2.2.1,.i x13.2.2.2]) rfl rfl (A2 (D8 rfl) B3) ((A5k (A7z hscv) hx13).frz)<|qm rfl<|A0 (A7 rfl rfl) rfl<|A0 (A7 rfl rfl) rfl<|A0 (A7 rfl rfl) rfl<|A0 (A7 rfl rfl) rfl<|qm rfl<|qm rfl<|qm rfl<|qm rfl<|es (.k rfl (.k rfl (.k rfl (.k rfl (.k rfl (.k rfl (.k rfl (.k rfl (.k rfl (.k rfl (.k rfl (.k rfl (.k rfl (.k rfl (.k rfl (.k rfl (.k rfl (.k rfl .n))))))))))))))))))<|s0<|oB h fun x14 hx14 h=>A0 (E3 rfl rfl rfl) rfl<|B5 (rs:=[(.seq 3 (List.map B1 x14.1)),.i x14.2.1,.i x14.2.2.1,.i x14.2.2.2]) rfl rfl (A2 (D8 rfl) B3) ((A5k (A7z hscv) hx14).frz)<|qm rfl<|A0 (A7 rfl rfl) rfl<|A0 (A7 rfl rfl) rfl<|A0 (A7 rfl rfl) rfl<|A0 (A7 rfl rfl) rfl<|qm rfl<|qm rfl<|qm rfl<|qm rfl<|es (.k rfl (.k rfl (.k rfl (.k rfl (.k rfl (.k rfl (.k rfl (.k rfl (.k rfl (.k rfl (.k rfl (.k rfl (.k rfl (.k rfl (.k rfl (.k rfl (.k rfl (.k rfl (.k rfl (.k rfl .n))))))))))))))))))))<|s0<|oB h fun x15 hx15 h=>A0 (E3 rfl rfl rfl) rfl<|B5 (rs:=[(.seq 1 (List.map cI x15.1)),(.seq 1 (List.map cI x15.2.1)),.i x15.2.2]) rfl rfl (A2 (D8 rfl) B3) ((B8w (A7z hscv) hx15).frz) ?_
 refine qm rfl<|A0 (A7 rfl rfl) rfl<|A0 (A7 rfl rfl) rfl<|A0 (A7 rfl rfl) rfl<|qm rfl<|qm rfl<|qm rfl<|es (.k rfl (.k rfl (.k rfl (.k rfl (.k rfl (.k rfl (.k rfl (.k rfl (.k rfl (.k rfl (.k rfl (.k rfl (.k rfl (.k rfl (.k rfl (.k rfl (.k rfl (.k rfl (.k rfl (.k rfl (.k rfl (.k rfl (.k rfl .n)))))))))))))))))))))))<|s0<|oB h fun x16 hx16 h=>A0 (E3 rfl rfl rfl) rfl<|B5 (rs:=[.i x16.1,.i x16.2]) rfl rfl (A2 (D8 rfl) B3) ((B8y (A7z hscv) hx16).frz)<|qm rfl<|A0 (A7 rfl rfl) rfl<|A0 (A7 rfl rfl) rfl<|qm rfl<|qm rfl<|es (.k rfl (.k rfl (.k rfl (.k rfl (.k rfl (.k rfl (.k rfl (.k rfl (.k rfl (.k rfl (.k rfl (.k rfl (.k rfl (.k rfl (.k rfl (.k rfl (.k rfl (.k rfl (.k rfl (.k rfl (.k rfl (.k rfl (.k rfl (.k rfl .n))))))))))))))))))))))))<|s0<|oB h fun x17 hx17 h=>oB h fun x18 hx18 h=>A0 (E3 rfl rfl rfl) rfl<|T9 (rs:=[(.seq 3 (List.map B1 x17))]) rfl rfl A1t B3 ((W2 hx17).frz)<|B5 (rs:=[(.seq 1 (List.map cI x18.1)),.i x18.2]) rfl rfl (A2 (D8 rfl) (A2 rfl B3)) ((B8x hx18).frz)<|qm rfl<|A0 (A7 rfl rfl) rfl<|A0 (A7 rfl rfl) rfl<|qm rfl<|qm rfl<|es (.k rfl (.k rfl (.k rfl (.k rfl (.k rfl (.k rfl (.k rfl (.k rfl (.k rfl (.k rfl (.k rfl (.k rfl (.k rfl (.k rfl (.k rfl (.k rfl (.k rfl (.k rfl (.k rfl (.k rfl (.k rfl (.k rfl (.k rfl (.k rfl (.k rfl .n)))))))))))))))))))))))))<|s0<|oB h fun x34 hx34 h=>oB h fun x42 hx42 h=>oB h fun x48 hx48 h=>oB h fun x51 hx51 h=>oB h fun x55 hx55 h=>qm rfl<|A0 (F8 rfl rfl) rfl<|qm rfl<|gp 3 108 (.b ((x3.2 == 0) && (x4.2 == 0))) 105 rfl rfl (fun hg19=>?_) (fun hg19=>?_) ?_
 ·exact gT rfl hg19<|qm rfl<|gT rfl hg19<|A0 (F8 rfl rfl) rfl<|A0 (C4 rfl hg19 rfl) rfl<|ge 3 (by rw [hg19]; rfl) rfl rfl
 ·exact nT rfl hg19 rfl<|nT rfl hg19 rfl<|A0 (C3 rfl hg19 rfl) rfl<|ge 3 (by rw [hg19]; rfl) rfl rfl
 refine qm rfl<|gp 3 112 (.b (((x3.2 == 0) && (x4.2 == 0)) && (x6.2 == 0))) 109 rfl rfl (fun hg20=>?_) (fun hg20=>?_) ?_
 ·exact gT rfl hg20<|qm rfl<|gT rfl hg20<|A0 (F8 rfl rfl) rfl<|A0 (C4 rfl hg20 rfl) rfl<|ge 3 (by rw [hg20]; rfl) rfl rfl
 ·exact nT rfl hg20 rfl<|nT rfl hg20 rfl<|A0 (C3 rfl hg20 rfl) rfl<|ge 3 (by rw [hg20]; rfl) rfl rfl
 refine qm rfl<|gp 3 116 (.b ((((x3.2 == 0) && (x4.2 == 0)) && (x6.2 == 0)) && (x8.2 == 0))) 113 rfl rfl (fun hg21=>?_) (fun hg21=>?_) ?_
 ·exact gT rfl hg21<|qm rfl<|gT rfl hg21<|A0 (F8 rfl rfl) rfl<|A0 (C4 rfl hg21 rfl) rfl<|ge 3 (by rw [hg21]; rfl) rfl rfl
 ·exact nT rfl hg21 rfl<|nT rfl hg21 rfl<|A0 (C3 rfl hg21 rfl) rfl<|ge 3 (by rw [hg21]; rfl) rfl rfl
 refine qm rfl<|gp 3 120 (.b (((((x3.2 == 0) && (x4.2 == 0)) && (x6.2 == 0)) && (x8.2 == 0)) && (x12.2 == 0))) 117 rfl rfl (fun hg22=>?_) (fun hg22=>?_) ?_
 ·exact gT rfl hg22<|qm rfl<|gT rfl hg22<|A0 (F8 rfl rfl) rfl<|A0 (C4 rfl hg22 rfl) rfl<|ge 3 (by rw [hg22]; rfl) rfl rfl
 ·exact nT rfl hg22 rfl<|nT rfl hg22 rfl<|A0 (C3 rfl hg22 rfl) rfl<|ge 3 (by rw [hg22]; rfl) rfl rfl
 refine qm rfl<|gp 3 124 (.b ((((((x3.2 == 0) && (x4.2 == 0)) && (x6.2 == 0)) && (x8.2 == 0)) && (x12.2 == 0)) && (x13.2.2.2 == 0))) 121 rfl rfl (fun hg23=>?_) (fun hg23=>?_) ?_
 ·exact gT rfl hg23<|qm rfl<|gT rfl hg23<|A0 (F8 rfl rfl) rfl<|A0 (C4 rfl hg23 rfl) rfl<|ge 3 (by rw [hg23]; rfl) rfl rfl
 ·exact nT rfl hg23 rfl<|nT rfl hg23 rfl<|A0 (C3 rfl hg23 rfl) rfl<|ge 3 (by rw [hg23]; rfl) rfl rfl
 refine qm rfl<|gp 3 128 (.b (((((((x3.2 == 0) && (x4.2 == 0)) && (x6.2 == 0)) && (x8.2 == 0)) && (x12.2 == 0)) && (x13.2.2.2 == 0)) && (x14.2.2.2 == 0))) 125 rfl rfl (fun hg24=>?_) (fun hg24=>?_) ?_
 ·exact gT rfl hg24<|qm rfl<|gT rfl hg24<|A0 (F8 rfl rfl) rfl<|A0 (C4 rfl hg24 rfl) rfl<|ge 3 (by rw [hg24]; rfl) rfl rfl
 ·exact nT rfl hg24 rfl<|nT rfl hg24 rfl<|A0 (C3 rfl hg24 rfl) rfl<|ge 3 (by rw [hg24]; rfl) rfl rfl
 refine qm rfl<|gp 3 132 (.b ((((((((x3.2 == 0) && (x4.2 == 0)) && (x6.2 == 0)) && (x8.2 == 0)) && (x12.2 == 0)) && (x13.2.2.2 == 0)) && (x14.2.2.2 == 0)) && (x15.2.2 == 0))) 129 rfl rfl (fun hg25=>?_) (fun hg25=>?_) ?_
 ·exact gT rfl hg25<|qm rfl<|gT rfl hg25<|A0 (F8 rfl rfl) rfl<|A0 (C4 rfl hg25 rfl) rfl<|ge 3 (by rw [hg25]; rfl) rfl rfl
 ·exact nT rfl hg25 rfl<|nT rfl hg25 rfl<|A0 (C3 rfl hg25 rfl) rfl<|ge 3 (by rw [hg25]; rfl) rfl rfl
 refine qm rfl<|gp 3 136 (.b (((((((((x3.2 == 0) && (x4.2 == 0)) && (x6.2 == 0)) && (x8.2 == 0)) && (x12.2 == 0)) && (x13.2.2.2 == 0)) && (x14.2.2.2 == 0)) && (x15.2.2 == 0)) && (x16.2 == 0))) 133 rfl rfl (fun hg26=>?_) (fun hg26=>?_) ?_
 ·exact gT rfl hg26<|qm rfl<|gT rfl hg26<|A0 (F8 rfl rfl) rfl<|A0 (C4 rfl hg26 rfl) rfl<|ge 3 (by rw [hg26]; rfl) rfl rfl
 ·exact nT rfl hg26 rfl<|nT rfl hg26 rfl<|A0 (C3 rfl hg26 rfl) rfl<|ge 3 (by rw [hg26]; rfl) rfl rfl
 refine qm rfl<|gp 3 140 (.b ((((((((((x3.2 == 0) && (x4.2 == 0)) && (x6.2 == 0)) && (x8.2 == 0)) && (x12.2 == 0)) && (x13.2.2.2 == 0)) && (x14.2.2.2 == 0)) && (x15.2.2 == 0)) && (x16.2 == 0)) && (x18.2 == 0))) 137 rfl rfl (fun hg27=>?_) (fun hg27=>?_) ?_
 ·exact gT rfl hg27<|qm rfl<|gT rfl hg27<|A0 (F8 rfl rfl) rfl<|A0 (C4 rfl hg27 rfl) rfl<|ge 3 (by rw [hg27]; rfl) rfl rfl
 ·exact nT rfl hg27 rfl<|nT rfl hg27 rfl<|A0 (C3 rfl hg27 rfl) rfl<|ge 3 (by rw [hg27]; rfl) rfl rfl
 refine qm rfl<|gp 3 144 (.b (((((((((((x3.2 == 0) && (x4.2 == 0)) && (x6.2 == 0)) && (x8.2 == 0)) && (x12.2 == 0)) && (x13.2.2.2 == 0)) && (x14.2.2.2 == 0)) && (x15.2.2 == 0)) && (x16.2 == 0)) && (x18.2 == 0)) && (x5.2 == 9))) 141 rfl rfl (fun hg28=>?_) (fun hg28=>?_) ?_
 ·exact gT rfl hg28<|qm rfl<|gT rfl hg28<|A0 (F8 rfl rfl) rfl<|A0 (C4 rfl hg28 rfl) rfl<|ge 3 (by rw [hg28]; rfl) rfl rfl
 ·exact nT rfl hg28 rfl<|nT rfl hg28 rfl<|A0 (C3 rfl hg28 rfl) rfl<|ge 3 (by rw [hg28]; rfl) rfl rfl
 refine qm rfl<|gp 3 148 (.b ((((((((((((x3.2 == 0) && (x4.2 == 0)) && (x6.2 == 0)) && (x8.2 == 0)) && (x12.2 == 0)) && (x13.2.2.2 == 0)) && (x14.2.2.2 == 0)) && (x15.2.2 == 0)) && (x16.2 == 0)) && (x18.2 == 0)) && (x5.2 == 9)) && (x10.2 == 4))) 145 rfl rfl (fun hg29=>?_) (fun hg29=>?_) ?_
 ·exact gT rfl hg29<|qm rfl<|gT rfl hg29<|A0 (F8 rfl rfl) rfl<|A0 (C4 rfl hg29 rfl) rfl<|ge 3 (by rw [hg29]; rfl) rfl rfl
 ·exact nT rfl hg29 rfl<|nT rfl hg29 rfl<|A0 (C3 rfl hg29 rfl) rfl<|ge 3 (by rw [hg29]; rfl) rfl rfl
 refine qm rfl<|gp 3 152 (.b (((((((((((((x3.2 == 0) && (x4.2 == 0)) && (x6.2 == 0)) && (x8.2 == 0)) && (x12.2 == 0)) && (x13.2.2.2 == 0)) && (x14.2.2.2 == 0)) && (x15.2.2 == 0)) && (x16.2 == 0)) && (x18.2 == 0)) && (x5.2 == 9)) && (x10.2 == 4)) && (x3.1 == 110))) 149 rfl rfl (fun hg30=>?_) (fun hg30=>?_) ?_
 ·exact gT rfl hg30<|qm rfl<|gT rfl hg30<|A0 (F8 rfl rfl) rfl<|A0 (C4 rfl hg30 rfl) rfl<|ge 3 (by rw [hg30]; rfl) rfl rfl
 ·exact nT rfl hg30 rfl<|nT rfl hg30 rfl<|A0 (C3 rfl hg30 rfl) rfl<|ge 3 (by rw [hg30]; rfl) rfl rfl
 refine qm rfl<|gp 3 156 (.b ((((((((((((((x3.2 == 0) && (x4.2 == 0)) && (x6.2 == 0)) && (x8.2 == 0)) && (x12.2 == 0)) && (x13.2.2.2 == 0)) && (x14.2.2.2 == 0)) && (x15.2.2 == 0)) && (x16.2 == 0)) && (x18.2 == 0)) && (x5.2 == 9)) && (x10.2 == 4)) && (x3.1 == 110)) && (x4.1 == 48))) 153 rfl rfl (fun hg31=>?_) (fun hg31=>?_) ?_
 ·exact gT rfl hg31<|qm rfl<|gT rfl hg31<|A0 (F8 rfl rfl) rfl<|A0 (C4 rfl hg31 rfl) rfl<|ge 3 (by rw [hg31]; rfl) rfl rfl
 ·exact nT rfl hg31 rfl<|nT rfl hg31 rfl<|A0 (C3 rfl hg31 rfl) rfl<|ge 3 (by rw [hg31]; rfl) rfl rfl
 refine qm rfl<|gp 4 161 (.b x34) 157 rfl rfl (fun hg32=>?_) (fun hg32=>?_) ?_
 ·refine oB (bt hx34 hg32) fun x33 hx33 hx34=>?_
  obtain rfl:=os hx34
  exact gT rfl hg32<|qm rfl<|gT rfl hg32<|A0 (I5 (rows:=List.map cI [0,1,2]) rfl rfl (E0 (fun _=>rfl) _)) rfl<|gT rfl hg32<|B5 (rs:=[.b x33]) rfl rfl (A2 rfl (A2 rfl B3)) ((W3 hx33).frz)<|A0 (C4 rfl hg32 rfl) rfl<|ge 4 rfl rfl rfl
 ·obtain rfl:=os (bf hx34 hg32)
  exact nT rfl hg32 rfl<|nT rfl hg32 rfl<|H8 (D9 rfl (by rw [hg32]; rfl)) rfl<|A0 (C3 rfl hg32 rfl) rfl<|ge 4 rfl rfl rfl
 refine qm rfl<|gp 3 165 (.b (x34 && (x8.1 == 102))) 162 rfl rfl (fun hg35=>?_) (fun hg35=>?_) ?_
 ·exact gT rfl hg35<|qm rfl<|gT rfl hg35<|A0 (F8 rfl rfl) rfl<|A0 (C4 rfl hg35 rfl) rfl<|ge 3 (by rw [hg35]; rfl) rfl rfl
 ·exact nT rfl hg35 rfl<|nT rfl hg35 rfl<|A0 (C3 rfl hg35 rfl) rfl<|ge 3 (by rw [hg35]; rfl) rfl rfl
 refine qm rfl<|gp 3 169 (.b ((x34 && (x8.1 == 102)) && (x12.1 == 0))) 166 rfl rfl (fun hg36=>?_) (fun hg36=>?_) ?_
 ·exact gT rfl hg36<|qm rfl<|gT rfl hg36<|A0 (F8 rfl rfl) rfl<|A0 (C4 rfl hg36 rfl) rfl<|ge 3 (by rw [hg36]; rfl) rfl rfl
 ·exact nT rfl hg36 rfl<|nT rfl hg36 rfl<|A0 (C3 rfl hg36 rfl) rfl<|ge 3 (by rw [hg36]; rfl) rfl rfl
 refine qm rfl<|gp 7 177 (.b x42) 170 rfl rfl (fun hg37=>?_) (fun hg37=>?_) ?_
 ·refine oB (bt hx42 hg37) fun x38 hx38 hx42=>oB hx42 fun x39 hx39 hx42=>oB hx42 fun x40 hx40 hx42=>oB hx42 fun x41 hx41 hx42=>?_
  obtain rfl:=os hx42
  exact gT rfl hg37<|qm rfl<|gT rfl hg37<|B5 (rs:=[(.agg (B1 x38))]) rfl rfl (A2 rfl (A2 rfl (A2 rfl B3))) ((P6 hx38).frz)<|gT rfl hg37<|B5 (rs:=[(.agg (B1 x39))]) rfl rfl (A2 rfl (A2 rfl (A2 rfl B3))) ((P6 hx39).frz)<|gT rfl hg37<|B5 (rs:=[(.agg (B1 x40))]) rfl rfl (A2 rfl (A2 rfl (A2 rfl B3))) ((P6 hx40).frz)<|gT rfl hg37<|A0 (I5 (rows:=List.map B1 [x38,x39,x40]) rfl rfl (E0 (fun _=>rfl) _)) rfl<|gT rfl hg37<|B5 (rs:=[.b x41]) rfl rfl (A2 rfl (A2 rfl B3)) ((A8c hx41).frz)<|A0 (C4 rfl hg37 rfl) rfl<|ge 7 rfl rfl rfl
 ·obtain rfl:=os (bf hx42 hg37)
  exact nT rfl hg37 rfl<|H8 (D9 rfl (by rw [hg37]; rfl)) rfl<|H8 (D9 rfl (by rw [hg37]; rfl)) rfl<|H8 (D9 rfl (by rw [hg37]; rfl)) rfl<|nT rfl hg37 rfl<|H8 (D9 rfl (by rw [hg37]; rfl)) rfl<|A0 (C3 rfl hg37 rfl) rfl<|ge 7 rfl rfl rfl
 refine qm rfl<|gp 3 181 (.b (x42 && (x13.2.1 == 0))) 178 rfl rfl (fun hg43=>?_) (fun hg43=>?_) ?_
 ·exact gT rfl hg43<|qm rfl<|gT rfl hg43<|A0 (F8 rfl rfl) rfl<|A0 (C4 rfl hg43 rfl) rfl<|ge 3 (by rw [hg43]; rfl) rfl rfl
 ·exact nT rfl hg43 rfl<|nT rfl hg43 rfl<|A0 (C3 rfl hg43 rfl) rfl<|ge 3 (by rw [hg43]; rfl) rfl rfl
 refine qm rfl<|gp 3 185 (.b ((x42 && (x13.2.1 == 0)) && (x13.2.2.1 == 78))) 182 rfl rfl (fun hg44=>?_) (fun hg44=>?_) ?_
 ·exact gT rfl hg44<|qm rfl<|gT rfl hg44<|A0 (F8 rfl rfl) rfl<|A0 (C4 rfl hg44 rfl) rfl<|ge 3 (by rw [hg44]; rfl) rfl rfl
 ·exact nT rfl hg44 rfl<|nT rfl hg44 rfl<|A0 (C3 rfl hg44 rfl) rfl<|ge 3 (by rw [hg44]; rfl) rfl rfl
 refine qm rfl<|gp 3 189 (.b (((x42 && (x13.2.1 == 0)) && (x13.2.2.1 == 78)) && (x14.2.1 == 2))) 186 rfl rfl (fun hg45=>?_) (fun hg45=>?_) ?_
 ·exact gT rfl hg45<|qm rfl<|gT rfl hg45<|A0 (F8 rfl rfl) rfl<|A0 (C4 rfl hg45 rfl) rfl<|ge 3 (by rw [hg45]; rfl) rfl rfl
 ·exact nT rfl hg45 rfl<|nT rfl hg45 rfl<|A0 (C3 rfl hg45 rfl) rfl<|ge 3 (by rw [hg45]; rfl) rfl rfl
 refine qm rfl<|gp 4 194 (.b x48) 190 rfl rfl (fun hg46=>?_) (fun hg46=>?_) ?_
 ·refine oB (bt hx48 hg46) fun x47 hx47 hx48=>?_
  obtain rfl:=os hx48
  exact gT rfl hg46<|qm rfl<|gT rfl hg46<|A0 (I5 (rows:=List.map cI [0,2]) rfl rfl (E0 (fun _=>rfl) _)) rfl<|gT rfl hg46<|B5 (rs:=[.b x47]) rfl rfl (A2 rfl (A2 rfl B3)) ((W3 hx47).frz)<|A0 (C4 rfl hg46 rfl) rfl<|ge 4 rfl rfl rfl
 ·obtain rfl:=os (bf hx48 hg46)
  exact nT rfl hg46 rfl<|nT rfl hg46 rfl<|H8 (D9 rfl (by rw [hg46]; rfl)) rfl<|A0 (C3 rfl hg46 rfl) rfl<|ge 4 rfl rfl rfl
 refine qm rfl<|gp 4 199 (.b x51) 195 rfl rfl (fun hg49=>?_) (fun hg49=>?_) ?_
 ·refine oB (bt hx51 hg49) fun x50 hx50 hx51=>?_
  obtain rfl:=os hx51
  exact gT rfl hg49<|qm rfl<|gT rfl hg49<|A0 (I5 (rows:=List.map cI [0,2]) rfl rfl (E0 (fun _=>rfl) _)) rfl<|gT rfl hg49<|B5 (rs:=[.b x50]) rfl rfl (A2 rfl (A2 rfl B3)) ((W3 hx50).frz)<|A0 (C4 rfl hg49 rfl) rfl<|ge 4 rfl rfl rfl
 ·obtain rfl:=os (bf hx51 hg49)
  exact nT rfl hg49 rfl<|nT rfl hg49 rfl<|H8 (D9 rfl (by rw [hg49]; rfl)) rfl<|A0 (C3 rfl hg49 rfl) rfl<|ge 4 rfl rfl rfl
 refine qm rfl<|gp 3 203 (.b (x51 && (x16.1 == 58))) 200 rfl rfl (fun hg52=>?_) (fun hg52=>?_) ?_
 ·exact gT rfl hg52<|qm rfl<|gT rfl hg52<|A0 (F8 rfl rfl) rfl<|A0 (C4 rfl hg52 rfl) rfl<|ge 3 (by rw [hg52]; rfl) rfl rfl
 ·exact nT rfl hg52 rfl<|nT rfl hg52 rfl<|A0 (C3 rfl hg52 rfl) rfl<|ge 3 (by rw [hg52]; rfl) rfl rfl
 refine qm rfl<|gp 4 208 (.b x55) 204 rfl rfl (fun hg53=>?_) (fun hg53=>?_) ?_
 ·refine oB (bt hx55 hg53) fun x54 hx54 hx55=>?_
  obtain rfl:=os hx55
  exact gT rfl hg53<|qm rfl<|gT rfl hg53<|A0 (I5 (rows:=List.map cI [2]) rfl rfl (E0 (fun _=>rfl) _)) rfl<|gT rfl hg53<|B5 (rs:=[.b x54]) rfl rfl (A2 rfl (A2 rfl B3)) ((W3 hx54).frz)<|A0 (C4 rfl hg53 rfl) rfl<|ge 4 rfl rfl rfl
 ·obtain rfl:=os (bf hx55 hg53)
  exact nT rfl hg53 rfl<|nT rfl hg53 rfl<|H8 (D9 rfl (by rw [hg53]; rfl)) rfl<|A0 (C3 rfl hg53 rfl) rfl<|ge 4 rfl rfl rfl
 refine qm rfl<|es (ra1 rfl)<|C8 ?_
 obtain rfl:=os h
 exact retq trivial (A6 rfl B9) (A4 rfl B8) (A3 A5 A8)
end Pw
end
section
set_option maxRecDepth 100000
namespace Pw
theorem awake:R9 = some true:= by decide +kernel
end Pw
end
section
set_option maxRecDepth 100000
set_option maxHeartbeats 0
namespace Pw
open Go Am Go.Proofs.Ytjpjdglddmhplaa.Cd
def A0o (a0:PaShow) (a1:Int) (a2:(Ar2 Int)):Option Bool :=
 (A16 a0).bind fun x1 =>
 if ((!x1) || ((List.length a0.Gowns:Int) == 0)) = true then
  (O3 a0 0 0).bind fun x4 =>
  (if (x4.2 != 0) = true then
  (R9).bind fun x6 =>
  some x6
  else
  some false).bind fun x7 =>
  some x7
 else
  (C2x (w64 a1) (List.length a0.Gowns:Int)).bind fun x8 =>
  (idx (Ar2.l a2) 0).bind fun x9 =>
  (idx (Ar2.l a2) 1).bind fun x10 =>
  (O3 a0 x8 (A58 (Int.tmod (w64 x9) 365) (Int.tmod (w64 x10) 365))).bind fun x11 =>
  (O3 a0 x8 (A7x (Int.tmod (w64 x9) 365) (Int.tmod (w64 x10) 365))).bind fun x12 =>
  (idx a0.Gowns x8).bind fun x13 =>
  if (!x13.Pawn) = true then
  (if ((x11.2 == 2) && (x12.2 == x11.2)) = true then
   (R9).bind fun x17 =>
   some x17
  else
   some false).bind fun x18 =>
  some x18
  else
  if (x11.2 != 0) = true then
   (if (((x11.2 == 9) && (x12.2 == x11.2)) && (decide ((A58 (Int.tmod (w64 x9) 365) (Int.tmod (w64 x10) 365)) > x13.Last))) = true then
   (R9).bind fun x23 =>
   some x23
   else
   some false).bind fun x24 =>
   some x24
  else
   if (x12.2 != 0) = true then
   (if ((x12.2 == 9) && (decide ((A7x (Int.tmod (w64 x9) 365) (Int.tmod (w64 x10) 365)) > x13.Last))) = true then
    (R9).bind fun x28 =>
    some x28
   else
    some false).bind fun x29 =>
   some x29
   else
   (if (((decide (x11.1≤x12.1)) && (decide (x11.1 ≥ (w64 (x13.Loan + x13.Rate))))) && ((!((w64 (Int.tdiv (w64 (x13.Ago + (Int.tmod (w64 x9) 365))) 30)) == (w64 (Int.tdiv (w64 (x13.Ago + (Int.tmod (w64 x10) 365))) 30)))) || (x11.1 == x12.1))) = true then
    (R9).bind fun x34 =>
    some x34
   else
    some false).bind fun x35 =>
   some x35
theorem A8v {c:Sc} {H:A1} (hscv:P8 c H = true) {a0:PaShow} {a1:Int} {a2:(Ar2 Int)} {r:Bool} (h:A0o a0 a1 a2 = some r) :
  E8 tab c H (.fn (.func 4) [] []) [(.agg (C0 a0)),(.lit (.int .u8 a1)),(.agg ((C4w B6g) a2))] [.b r]:= by
 unfold A0o at h
 refine cE rfl rfl<|sg 0 rfl<|A0 (F7 (cs:=C0 a0) rfl rfl rfl) rfl<|A0 (F7 (cs:=(C4w B6g) a2) rfl rfl rfl) rfl<|qm rfl<|es (ra3 rfl rfl rfl)<|C6<|s0<|oB h fun x1 hx1 h=>A0 (E3 rfl rfl rfl) rfl<|B5 (rs:=[.b x1]) rfl rfl (A2 (D8 rfl) B3) ((B4t hx1).frz)<|A0 (U5 rfl) rfl<|qm rfl<|gp 5 26 (.b ((!x1) || ((List.length a0.Gowns:Int) == 0))) 21 rfl rfl (fun hg2=>?_) (fun hg2=>?_) ?_
 ·exact nF rfl hg2 rfl<|nF rfl hg2 rfl<|nF rfl hg2 rfl<|nF rfl hg2 rfl<|A0 (C4 rfl hg2 rfl) rfl<|ge 5 (by rw [hg2]; rfl) rfl rfl
 ·exact gF rfl hg2<|A0 (C2 rfl) rfl<|gF rfl hg2<|A0 (B4 rfl rfl rfl) rfl<|gF rfl hg2<|A0 (G7 (f:=C1) rfl) rfl<|gF rfl hg2<|A0 (F8 rfl rfl) rfl<|A0 (C3 rfl hg2 rfl) rfl<|ge 5 (by rw [hg2]; rfl) rfl rfl
 refine es (ra4 rfl rfl rfl rfl)<|wi h rfl (fun hc3 h=>?_) fun hc3 h=>?_
 ·refine s0<|oB h fun x4 hx4 h=>A0 (E3 rfl rfl rfl) rfl<|B5 (rs:=[.i x4.1,.i x4.2]) rfl rfl (A2 (D8 rfl) (A2 rfl (A2 rfl B3))) ((Q9 hx4).frz)<|qm rfl<|A0 (A7 rfl rfl) rfl<|A0 (A7 rfl rfl) rfl<|qm rfl<|qm rfl<|es (ra1 rfl)<|s0<|oB h fun x7 hx7 h=>qm rfl<|A0 (N5 rfl rfl) rfl<|qm rfl<|gp 2 36 (.b x7) 34 rfl rfl (fun hg5=>?_) (fun hg5=>?_) ?_
  ·refine oB (bt hx7 hg5) fun x6 hx6 hx7=>?_
   obtain rfl:=os hx7
   exact gT rfl hg5<|B5 (rs:=[.b x6]) rfl rfl B3 ((T7 (A7z hscv) hx6).frz)<|A0 (C4 rfl hg5 rfl) rfl<|ge 2 rfl rfl rfl
  ·obtain rfl:=os (bf hx7 hg5)
   exact H8 (D9 rfl (by rw [hg5]; rfl)) rfl<|A0 (C3 rfl hg5 rfl) rfl<|ge 2 rfl rfl rfl
  refine qm rfl<|es (ra1 rfl)<|C8 ?_
  obtain rfl:=os h
  exact retq trivial (A6 rfl B9) (A4 rfl B8) (A3 A5 A8)
 ·refine C7<|s0<|oB h fun x8 hx8 h=>qm rfl<|A0 (A39 rfl) rfl<|A0 (C2 rfl) rfl<|A0 (B4 rfl rfl rfl) rfl<|A0 (G7 (f:=C1) rfl) rfl<|A0 (C72 rfl rfl hx8) rfl<|qm rfl<|es (ra3 rfl rfl rfl)<|s0<|oB h fun x9 hx9 h=>oB h fun x10 hx10 h=>A0 (B8q (e:=Ar2.l a2) rfl rfl rfl hx9) rfl<|A0 (B4q (f:=B6g) (g:=fun n=>(.lit (.int .u16 n))) (e:=Ar2.l a2) (fun _=>rfl) rfl (D4 rfl) rfl hx9) rfl<|A0 (A39 rfl) rfl<|A0 (O5 (v:=(.i (Int.tmod (w64 x9) 365))) rfl rfl rfl) rfl<|A0 (B8q (e:=Ar2.l a2) rfl rfl rfl hx10) rfl<|A0 (B4q (f:=B6g) (g:=fun n=>(.lit (.int .u16 n))) (e:=Ar2.l a2) (fun _=>rfl) rfl (D4 rfl) rfl hx10) rfl<|A0 (A39 rfl) rfl<|A0 (O5 (v:=(.i (Int.tmod (w64 x10) 365))) rfl rfl rfl) rfl<|qm rfl<|qm rfl<|es (ra4 rfl rfl rfl rfl)<|s0<|oB h fun x11 hx11 h=>A0 (E3 rfl rfl rfl) rfl<|qm rfl<|qm rfl<|qm rfl<|A0 (B8t rfl rfl) rfl<|B5 (rs:=[.i x11.1,.i x11.2]) rfl rfl (A2 (D8 rfl) (A2 rfl (A2 rfl B3))) ((Q9 hx11).frz)<|qm rfl<|A0 (A7 rfl rfl) rfl<|A0 (A7 rfl rfl) rfl<|qm rfl<|qm rfl<|es (ra6 rfl rfl rfl rfl rfl rfl)<|s0<|oB h fun x12 hx12 h=>A0 (E3 rfl rfl rfl) rfl<|qm rfl<|qm rfl<|qm rfl<|A0 (B8t rfl rfl) rfl<|B5 (rs:=[.i x12.1,.i x12.2]) rfl rfl (A2 (D8 rfl) (A2 rfl (A2 rfl B3))) ((Q9 hx12).frz)<|qm rfl<|A0 (A7 rfl rfl) rfl<|A0 (A7 rfl rfl) rfl<|qm rfl<|qm rfl<|es (ra8 rfl rfl rfl rfl rfl rfl rfl rfl)<|sg 2 rfl<|oB h fun x13 hx13 h=>A0 (C2 rfl) rfl<|A0 (B4 rfl rfl rfl) rfl<|qm rfl<|A0 (G6 (f:=C1) rfl rfl hx13) rfl<|A0 (H6 rfl rfl) rfl<|A0 H9 rfl ?_
  refine N0 (E6 (ds:=(C1 x13)) rfl rfl rfl rfl (E1 rfl) rfl) rfl<|es (ra7 rfl rfl rfl rfl rfl rfl rfl)<|C6<|s0<|A0 (C2 rfl) rfl<|A0 (B4 rfl rfl rfl) rfl<|A0 (U5 rfl) rfl<|es (ra8 rfl rfl rfl rfl rfl rfl rfl rfl)<|wi h rfl (fun hc14 h=>?_) fun hc14 h=>?_
  ·refine s0<|oB h fun x18 hx18 h=>qm rfl<|A0 (F8 rfl rfl) rfl<|qm rfl<|gp 4 83 (.b ((x11.2 == 2) && (x12.2 == x11.2))) 79 rfl rfl (fun hg15=>?_) (fun hg15=>?_) ?_
   ·exact gT rfl hg15<|qm rfl<|gT rfl hg15<|qm rfl<|gT rfl hg15<|A0 (F8 rfl rfl) rfl<|A0 (C4 rfl hg15 rfl) rfl<|ge 4 (by rw [hg15]; rfl) rfl rfl
   ·exact nT rfl hg15 rfl<|nT rfl hg15 rfl<|nT rfl hg15 rfl<|A0 (C3 rfl hg15 rfl) rfl<|ge 4 (by rw [hg15]; rfl) rfl rfl
   refine qm rfl<|gp 2 86 (.b x18) 84 rfl rfl (fun hg16=>?_) (fun hg16=>?_) ?_
   ·refine oB (bt hx18 hg16) fun x17 hx17 hx18=>?_
    obtain rfl:=os hx18
    exact gT rfl hg16<|B5 (rs:=[.b x17]) rfl rfl B3 ((T7 (A7z hscv) hx17).frz)<|A0 (C4 rfl hg16 rfl) rfl<|ge 2 rfl rfl rfl
   ·obtain rfl:=os (bf hx18 hg16)
    exact H8 (D9 rfl (by rw [hg16]; rfl)) rfl<|A0 (C3 rfl hg16 rfl) rfl<|ge 2 rfl rfl rfl
   refine qm rfl<|es (ra1 rfl)<|C8 ?_
   obtain rfl:=os h
   exact retq trivial (A6 rfl B9) (A4 rfl B8) (A3 A5 A8)
  ·refine C7<|C6<|s0<|qm rfl<|A0 (N5 rfl rfl) rfl<|es (ra8 rfl rfl rfl rfl rfl rfl rfl rfl)<|wi h rfl (fun hc19 h=>?_) fun hc19 h=>?_
   ·refine s0<|oB h fun x24 hx24 h=>qm rfl<|A0 (F8 rfl rfl) rfl<|qm rfl<|gp 4 95 (.b ((x11.2 == 9) && (x12.2 == x11.2))) 91 rfl rfl (fun hg20=>?_) (fun hg20=>?_) ?_
    ·exact gT rfl hg20<|qm rfl<|gT rfl hg20<|qm rfl<|gT rfl hg20<|A0 (F8 rfl rfl) rfl<|A0 (C4 rfl hg20 rfl) rfl<|ge 4 (by rw [hg20]; rfl) rfl rfl
    ·exact nT rfl hg20 rfl<|nT rfl hg20 rfl<|nT rfl hg20 rfl<|A0 (C3 rfl hg20 rfl) rfl<|ge 4 (by rw [hg20]; rfl) rfl rfl
    refine qm rfl<|gp 7 103 (.b (((x11.2 == 9) && (x12.2 == x11.2)) && (decide ((A58 (Int.tmod (w64 x9) 365) (Int.tmod (w64 x10) 365)) > x13.Last)))) 96 rfl rfl (fun hg21=>?_) (fun hg21=>?_) ?_
    ·exact gT rfl hg21<|qm rfl<|gT rfl hg21<|qm rfl<|gT rfl hg21<|A0 (B8t rfl rfl) rfl<|gT rfl hg21<|A0 (C2 rfl) rfl<|gT rfl hg21<|A0 (B4 rfl rfl rfl) rfl<|gT rfl hg21<|A0 (A06 rfl rfl) rfl<|A0 (C4 rfl hg21 rfl) rfl<|ge 7 (by rw [hg21]; rfl) rfl rfl
    ·exact nT rfl hg21 rfl<|nT rfl hg21 rfl<|nT rfl hg21 rfl<|nT rfl hg21 rfl<|nT rfl hg21 rfl<|nT rfl hg21 rfl<|A0 (C3 rfl hg21 rfl) rfl<|ge 7 (by rw [hg21]; rfl) rfl rfl
    refine qm rfl<|gp 2 106 (.b x24) 104 rfl rfl (fun hg22=>?_) (fun hg22=>?_) ?_
    ·refine oB (bt hx24 hg22) fun x23 hx23 hx24=>?_
     obtain rfl:=os hx24
     exact gT rfl hg22<|B5 (rs:=[.b x23]) rfl rfl B3 ((T7 (A7z hscv) hx23).frz)<|A0 (C4 rfl hg22 rfl) rfl<|ge 2 rfl rfl rfl
    ·obtain rfl:=os (bf hx24 hg22)
     exact H8 (D9 rfl (by rw [hg22]; rfl)) rfl<|A0 (C3 rfl hg22 rfl) rfl<|ge 2 rfl rfl rfl
    refine qm rfl<|es (ra1 rfl)<|C8 ?_
    obtain rfl:=os h
    exact retq trivial (A6 rfl B9) (A4 rfl B8) (A3 A5 A8)
   ·refine C7<|C6<|s0<|qm rfl<|A0 (N5 rfl rfl) rfl<|es (ra7 rfl rfl rfl rfl rfl rfl rfl)<|wi h rfl (fun hc25 h=>?_) fun hc25 h=>?_
    ·refine s0<|oB h fun x29 hx29 h=>qm rfl<|A0 (F8 rfl rfl) rfl<|qm rfl<|gp 7 118 (.b ((x12.2 == 9) && (decide ((A7x (Int.tmod (w64 x9) 365) (Int.tmod (w64 x10) 365)) > x13.Last)))) 111 rfl rfl (fun hg26=>?_) (fun hg26=>?_) ?_
     ·exact gT rfl hg26<|qm rfl<|gT rfl hg26<|qm rfl<|gT rfl hg26<|A0 (B8t rfl rfl) rfl<|gT rfl hg26<|A0 (C2 rfl) rfl<|gT rfl hg26<|A0 (B4 rfl rfl rfl) rfl<|gT rfl hg26<|A0 (A06 rfl rfl) rfl<|A0 (C4 rfl hg26 rfl) rfl<|ge 7 (by rw [hg26]; rfl) rfl rfl
     ·exact nT rfl hg26 rfl<|nT rfl hg26 rfl<|nT rfl hg26 rfl<|nT rfl hg26 rfl<|nT rfl hg26 rfl<|nT rfl hg26 rfl<|A0 (C3 rfl hg26 rfl) rfl<|ge 7 (by rw [hg26]; rfl) rfl rfl
     refine qm rfl<|gp 2 121 (.b x29) 119 rfl rfl (fun hg27=>?_) (fun hg27=>?_) ?_
     ·refine oB (bt hx29 hg27) fun x28 hx28 hx29=>?_
      obtain rfl:=os hx29
      exact gT rfl hg27<|B5 (rs:=[.b x28]) rfl rfl B3 ((T7 (A7z hscv) hx28).frz)<|A0 (C4 rfl hg27 rfl) rfl<|ge 2 rfl rfl rfl
     ·obtain rfl:=os (bf hx29 hg27)
      exact H8 (D9 rfl (by rw [hg27]; rfl)) rfl<|A0 (C3 rfl hg27 rfl) rfl<|ge 2 rfl rfl rfl
     refine qm rfl<|es (ra1 rfl)<|C8 ?_
     obtain rfl:=os h
     exact retq trivial (A6 rfl B9) (A4 rfl B8) (A3 A5 A8)
    ·refine C7<|s0<|A0 (C2 rfl) rfl<|A0 (B4 rfl rfl rfl) rfl<|qm rfl<|A0 (G1 rfl rfl) rfl<|A0 (O5 (v:=(.i (w64 (Int.tdiv (w64 (x13.Ago + (Int.tmod (w64 x9) 365))) 30)))) rfl rfl rfl) rfl<|A0 (C2 rfl) rfl<|A0 (B4 rfl rfl rfl) rfl<|qm rfl<|A0 (G1 rfl rfl) rfl<|A0 (O5 (v:=(.i (w64 (Int.tdiv (w64 (x13.Ago + (Int.tmod (w64 x10) 365))) 30)))) rfl rfl rfl) rfl<|A0 (F8 rfl rfl) rfl<|qm rfl<|es (ra4 rfl rfl rfl rfl)<|s0<|oB h fun x35 hx35 h=>qm rfl<|qm rfl<|A0 (A4j rfl rfl) rfl<|qm rfl<|gp 8 144 (.b ((decide (x11.1≤x12.1)) && (decide (x11.1 ≥ (w64 (x13.Loan + x13.Rate)))))) 136 rfl rfl (fun hg30=>?_) (fun hg30=>?_) ?_
     ·exact gT rfl hg30<|qm rfl<|gT rfl hg30<|A0 (C2 rfl) rfl<|gT rfl hg30<|A0 (B4 rfl rfl rfl) rfl<|gT rfl hg30<|A0 (C2 rfl) rfl<|gT rfl hg30<|A0 (B4 rfl rfl rfl) rfl<|gT rfl hg30<|A0 (G1 rfl rfl) rfl<|gT rfl hg30<|A0 (A50 rfl rfl) rfl<|A0 (C4 rfl hg30 rfl) rfl<|ge 8 (by rw [hg30]; rfl) rfl rfl
     ·exact nT rfl hg30 rfl<|nT rfl hg30 rfl<|nT rfl hg30 rfl<|nT rfl hg30 rfl<|nT rfl hg30 rfl<|nT rfl hg30 rfl<|nT rfl hg30 rfl<|A0 (C3 rfl hg30 rfl) rfl<|ge 8 (by rw [hg30]; rfl) rfl rfl
     refine qm rfl<|gp 8 153 (.b (((decide (x11.1≤x12.1)) && (decide (x11.1 ≥ (w64 (x13.Loan + x13.Rate))))) && ((!((w64 (Int.tdiv (w64 (x13.Ago + (Int.tmod (w64 x9) 365))) 30)) == (w64 (Int.tdiv (w64 (x13.Ago + (Int.tmod (w64 x10) 365))) 30)))) || (x11.1 == x12.1)))) 145 rfl rfl (fun hg31=>?_) (fun hg31=>?_) ?_
     ·refine gT rfl hg31<|qm rfl<|gT rfl hg31<|A0 (U5 rfl) rfl<|gT rfl hg31<|qm rfl<|gq 4 152 (.b ((!((w64 (Int.tdiv (w64 (x13.Ago + (Int.tmod (w64 x9) 365))) 30)) == (w64 (Int.tdiv (w64 (x13.Ago + (Int.tmod (w64 x10) 365))) 30)))) || (x11.1 == x12.1))) 148 rfl rfl (fun hg32=>?_) (fun hg32=>?_) ?_
      ·exact nF rfl hg32 rfl<|nF rfl hg32 rfl<|nF rfl hg32 rfl<|gT rfl hg31<|A0 (C4 rfl hg32 rfl) rfl<|ge 4 (by rw [hg32]; rfl) rfl rfl
      ·exact gF rfl hg32<|qm rfl<|gF rfl hg32<|qm rfl<|gF rfl hg32<|A0 (F8 rfl rfl) rfl<|gT rfl hg31<|A0 (C3 rfl hg32 rfl) rfl<|ge 4 (by rw [hg32]; rfl) rfl rfl
      exact A0 (C4 rfl hg31 rfl) rfl<|ge 5 (by rw [hg31]; rfl) rfl rfl
     ·exact nT rfl hg31 rfl<|nT rfl hg31 rfl<|nT rfl hg31 rfl<|nX rfl rfl<|nX rfl rfl<|nX rfl rfl<|nT rfl hg31 rfl<|A0 (C3 rfl hg31 rfl) rfl<|ge 8 (by rw [hg31]; rfl) rfl rfl
     refine qm rfl<|gp 2 156 (.b x35) 154 rfl rfl (fun hg33=>?_) (fun hg33=>?_) ?_
     ·refine oB (bt hx35 hg33) fun x34 hx34 hx35=>?_
      obtain rfl:=os hx35
      exact gT rfl hg33<|B5 (rs:=[.b x34]) rfl rfl B3 ((T7 (A7z hscv) hx34).frz)<|A0 (C4 rfl hg33 rfl) rfl<|ge 2 rfl rfl rfl
     ·obtain rfl:=os (bf hx35 hg33)
      exact H8 (D9 rfl (by rw [hg33]; rfl)) rfl<|A0 (C3 rfl hg33 rfl) rfl<|ge 2 rfl rfl rfl
     refine qm rfl<|es (ra1 rfl)<|C8 ?_
     obtain rfl:=os h
     exact retq trivial (A6 rfl B9) (A4 rfl B8) (A3 A5 A8)
end Pw
end
section
namespace Pw
open Go Am
def price (g:PaGown) (day:Int):Int:=g.Loan + g.Rate * (1 + (g.Ago + day) / 30)
theorem C8p {g:PaGown} (h:GwOk g) {day:Int} (hd:0≤day∧day≤364):0≤price g day∧price g day≤20000∧0≤g.Rate * (1 + (g.Ago + day) / 30)∧g.Rate * (1 + (g.Ago + day) / 30)≤500 * 26:= by
 have h1:=h.loan
 have h2:=h.rate
 have h3:=h.ago
 have h4:0≤(g.Ago + day) / 30∧(g.Ago + day) / 30≤24:= by omega
 have h5:0≤g.Rate * (1 + (g.Ago + day) / 30):=Int.mul_nonneg h2.1 (by omega)
 have h6:g.Rate * (1 + (g.Ago + day) / 30)≤500 * 26:=Int.mul_le_mul h2.2 (by omega) (by omega) (by omega)
 unfold price
 omega
theorem C2j {g:PaGown} (h:GwOk g) (f:PaFigure) {day:Int} (hd:0≤day∧day≤364):Z4 g f day = some (price g day):= by
 have h1:=h.loan
 have h3:=h.ago
 have h7:=C8p h hd
 have hq:Int.tdiv (g.Ago + day) 30 = (g.Ago + day) / 30:=Int.tdiv_eq_ediv_of_nonneg (by omega)
 unfold Z4
 unfold price at h7 ⊢
 rw [O9 (n:=g.Ago + day) (by omega),hq,O9 (n:=(g.Ago + day) / 30) (by omega),O9 (n:=1 + (g.Ago + day) / 30) (by omega),O9 (n:=g.Rate * (1 + (g.Ago + day) / 30)) (by omega),O9 (by omega)]
def A2t (s:PaShow) (g d:Int):Int :=
 if (chk s).2.2 ≠ 0 then (chk s).2.2 else if out 0 ((s.Gowns.length:Int) - 1) g then 4 else
 if s.Gowns[g.toNat]!.Pawn = false then 2 else if out 0 364 d then 7 else if d > s.Gowns[g.toNat]!.Last then 9 else 0
theorem A7r (s:PaShow) (hb:NB s) (g d:Int):O3 s g d = some (if A2t s g d = 0 then price s.Gowns[g.toNat]! d else 0,A2t s g d):= by
 unfold O3
 rw [C6y s hb]
 simp only [Option.bind_some]
 unfold A2t
 by_cases h:(chk s).2.2 = 0
 ·have hs:=(B76 s).mp h
  have hle:=hs.gowns
  simp only [h,if_true,ne_eq,not_true,if_false,BEq.rfl]
  rw [O9 (by omega),out1]
  simp only [Option.bind_some]
  cases ho:out 0 ((s.Gowns.length:Int) - 1) g with
  | true=>rfl
  | false =>
   have hg:=W5.mp ho
   simp only [Bool.false_eq_true,if_false]
   have hi:=C3z (l:=s.Gowns) hg.1 (by omega)
   have hok:=hs.gown _ (A3w (l:=s.Gowns) (i:=g.toNat) (by omega))
   rw [hi]
   simp only [Option.bind_some]
   generalize s.Gowns[g.toNat]! = y at hok
   cases hp:y.Pawn with
   | false=>rfl
   | true =>
    simp only [Bool.not_true,Bool.false_eq_true,if_false,out1,Option.bind_some,Bool.true_eq_false]
    cases hd:out 0 364 d with
    | true=>rfl
    | false =>
     simp only [Bool.false_eq_true,if_false]
     by_cases hl:d > y.Last
     ·simp [hl]
     ·rw [if_neg (by simpa using hl),if_neg hl,C2j hok _ (W5.mp hd)]
      rfl
 ·rw [if_neg h,if_neg (by simpa using h),if_pos h,if_neg h]
theorem B45 {s:PaShow} {w:Int} {x:Ar2 Int} (hb:NB s) (hw:0≤w∧w < 256) (hx:(0≤x.x0∧x.x0 < 65536)∧(0≤x.x1∧x.x1 < 65536)):A0o s w x = some true:= by
 unfold A0o
 rw [C8y,awake]
 simp only [Option.bind_some]
 by_cases hv:(chk s).2.2 = 0
 ·have hs:=(B76 s).mp hv
  have hle:=hs.gowns
  by_cases hn:s.Gowns.length = 0
  ·rw [if_pos (by simp [hn]),A7r s hb]
   simp only [Option.bind_some]
   have:A2t s 0 0 = 4:= by
    unfold A2t
    rw [if_neg (by simp [hv])]
    have:out 0 ((s.Gowns.length:Int) - 1) 0 = true:= by unfold out; rw [hn]; rfl
    rw [if_pos this]
   rw [this]; rfl
  ·rw [if_neg (by rw [decide_eq_true hv,Bool.not_true,Bool.false_or,beq_iff_eq]; omega)]
   have hr:C2x (w64 w) (s.Gowns.length:Int) = some (w % (s.Gowns.length:Int)):= by
    unfold C2x
    rw [if_neg (by omega),O9 (by omega),Int.tmod_eq_emod_of_nonneg hw.1]
   have hr1:0≤w % (s.Gowns.length:Int)∧w % (s.Gowns.length:Int) < s.Gowns.length:=⟨Int.emod_nonneg _ (by omega),Int.emod_lt_of_pos _ (by omega)⟩
   rw [hr]
   have e0:idx (Ar2.l x) 0 = some x.x0:=rfl
   have e1:idx (Ar2.l x) 1 = some x.x1:=rfl
   rw [e0,e1]
   simp only [Option.bind_some]
   rw [O9 (n:=x.x0) (by omega),O9 (n:=x.x1) (by omega),Int.tmod_eq_emod_of_nonneg hx.1.1,Int.tmod_eq_emod_of_nonneg hx.2.1]
   have ha:0≤x.x0 % 365∧x.x0 % 365≤364:= by omega
   have hc:0≤x.x1 % 365∧x.x1 % 365≤364:= by omega
   generalize x.x0 % 365 = a at ha
   generalize x.x1 % 365 = b at hc
   have hmn:0≤A58 a b∧A58 a b≤364:= by unfold A58; split <;> omega
   have hmx:0≤A7x a b∧A7x a b≤364:= by unfold A7x; split <;> omega
   have hmm:A58 a b≤A7x a b:= by unfold A58 A7x; split <;> split <;> omega
   generalize w % (s.Gowns.length:Int) = g at hr1
   have hi:=C3z (l:=s.Gowns) hr1.1 hr1.2
   have hok:=hs.gown _ (A3w (l:=s.Gowns) (i:=g.toNat) (by omega))
   rw [A7r s hb,A7r s hb,hi]
   simp only [Option.bind_some]
   have hE:∀d,0≤d∧d≤364→A2t s g d = if s.Gowns[g.toNat]!.Pawn = false then 2 else if d > s.Gowns[g.toNat]!.Last then 9 else 0:=fun d hd=>by
    unfold A2t
    rw [if_neg (by simp [hv]),W5.mpr ⟨hr1.1,by omega⟩,W5.mpr hd]
    simp
   rw [hE _ hmn,hE _ hmx]
   generalize s.Gowns[g.toNat]! = y at hok
   cases hp:y.Pawn with
   | false=>rfl
   | true =>
    simp only [Bool.not_true,Bool.false_eq_true,if_false,Bool.true_eq_false]
    by_cases h1:A58 a b > y.Last
    ·have h2:A7x a b > y.Last:= by omega
     simp [h1,h2]
    ·by_cases h2:A7x a b > y.Last
     ·simp [h1,h2]
     ·simp only [h1,h2,if_false]
      have hq:∀z,Int.tdiv (w64 (y.Ago + z)) 30 = (y.Ago + z) / 30∨¬ (0≤z∧z≤364):=fun z=>by
       by_cases hz:0≤z∧z≤364
       ·left
        have:=hok.ago
        rw [O9 (by omega),Int.tdiv_eq_ediv_of_nonneg (by omega)]
       ·exact .inr hz
      have qa:Int.tdiv (w64 (y.Ago + a)) 30 = (y.Ago + a) / 30:=(hq a).resolve_right (by omega)
      have qb:Int.tdiv (w64 (y.Ago + b)) 30 = (y.Ago + b) / 30:=(hq b).resolve_right (by omega)
      have hago:=hok.ago
      have hlo:=hok.loan
      have hra:=hok.rate
      rw [qa,qb,O9 (n:=(y.Ago + a) / 30) (by omega),O9 (n:=(y.Ago + b) / 30) (by omega),O9 (n:=y.Loan + y.Rate) (by omega)]
      have hle1:price y (A58 a b)≤price y (A7x a b):= by
       unfold price
       have:y.Rate * (1 + (y.Ago + A58 a b) / 30)≤y.Rate * (1 + (y.Ago + A7x a b) / 30):=Int.mul_le_mul_of_nonneg_left (by omega) hra.1
       omega
      have hle2:y.Loan + y.Rate≤price y (A58 a b):= by
       unfold price
       have:y.Rate * 1≤y.Rate * (1 + (y.Ago + A58 a b) / 30):=Int.mul_le_mul_of_nonneg_left (by omega) hra.1
       omega
      have heq:(y.Ago + a) / 30 = (y.Ago + b) / 30→price y (A58 a b) = price y (A7x a b):=fun h=>by
       have:(y.Ago + A58 a b) / 30 = (y.Ago + A7x a b) / 30:= by unfold A58 A7x; split <;> split <;> omega
       unfold price; rw [this]
      by_cases hm:(y.Ago + a) / 30 = (y.Ago + b) / 30
      ·simp [hle1,hle2,hm,heq hm]
       omega
      ·simp [hle1,hle2,hm]
 ·rw [if_pos (by simp [hv]),A7r s hb]
  simp only [Option.bind_some]
  have:A2t s 0 0 = (chk s).2.2:= by unfold A2t; rw [if_pos hv]
  rw [this,if_pos (by simpa using hv)]
  rfl
end Pw
end
