/- Texts that the claim stands on, one behind another. -/
import Derived.Test.YtjpjdglddmhplaaGreatA1
import Derived.RangeFuncRecord
import Derived.AtR
import Derived.Orders
import Derived.Maps.RangeRun
set_option linter.unusedVariables false
set_option linter.unusedSimpArgs false
set_option linter.unnecessarySimpa false
open Array renaming all_eq_true→Z58,ext'→Z2v,getD→Z4t,getElem?_eq_none→Z4k,getElem?_eq_some_iff→Z0d,getElem?_modify→Z2f,getElem?_push→Z3n,getElem?_setIfInBounds_ne→Z11,length_toList→Z0i,replicate→Z4g
open Bool renaming and_eq_true→Zc,false_eq_true→Zj,false_or→Z30,not_eq_true'→Z05,not_true→Z0y,or_eq_true→Z14
open List renaming all_cons→ZS,all_eq_true→Zq,append_assoc→ZB,cons_append→Z0g,contains_eq_mem→Z3g,contains_iff_mem→Z2g,flatMap_append→Z13,flatMap_cons→Z0l,flatten_cons→Z1b,getD_eq_getElem?_getD→Z3v,getElem?_append_left→ZF,getElem?_append_right→ZI,getElem?_append→ZP,getElem?_cons_zero→Z2x,getElem?_drop→ZV,getElem?_eq_getElem→Zm,getElem?_eq_none→Z39,getElem?_eq_some_iff→Ze,getElem?_map→ZN,getElem?_of_mem→Z1l,getElem?_replicate→Z4a,getElem?_set→ZJ,getElem?_take_of_lt→ZO,getElem?_take→Z1v,getElem?_toArray→Z0r,length_cons→ZT,length_eq_zero_iff→Z0w,length_take→ZD,map_append→Z00,map_cons→Zt,map_nil→Z0z,map_toArray→Z45,mem_append_left→Z1n,mem_append_right→Z0k,mem_append→ZA,mem_cons_of_mem→Zx,mem_cons_self→Zy,mem_cons→Zu,mem_filter→Z0a,mem_flatMap→Z2k,mem_iff_getElem→ZX,mem_map_of_mem→Z1r,mem_map→ZK,mem_of_getElem?→Zw,mem_of_mem_drop→Z1z,mem_of_mem_take→ZZ,mem_range→Z1s,mem_replicate→Z1i,mem_singleton→Z16,nil_append→Z06,nodup_append→Z0o,nodup_cons→Z1c,replicate→Zv,set_eq_of_length_le→Z1o
open Nat renaming add_mul→Z21,add_zero→Z1e,beq→ZC,ble_eq→Z3f,ble→ZH,blt_eq→Z4s,eq_of_beq_eq_true→Zk,le_refl→Zn,le_trans→Z01,lt_of_lt_of_le→Z0m,lt_or_ge→Z23,min_le_left→Z5j,mul_le_mul_right→ZQ,ne_of_beq_eq_false→Z4l,sub_self→Z3h,succ_mul→Z1m
open Option renaming bind_eq_some_iff→Zs,bind_some→Zd,getD_some→ZW,map_eq_some_iff→Zz,map_map→Z2w,map_some→Zb,mem_toList→Z3y
open Option.some renaming injEq→Za
open Or renaming imp→Z43
open Prod.mk renaming injEq→Zf
section
namespace Am
open Go
section
variable {MC:Nat→Code→ACode→Prop} {P:Program} {B0:Nat} {c:Sc} {n0:Nat} {H H':A2} {g:Ghost} {w:World} {s:C2} {a:Act} {o:Oper} {v:AV}
theorem A6o (w:World) {β:Nat} (ob:Obj) (h:β<w.heap.size):(w.putObj β ob).heap[β]? = some ob:= by
 simp[World.putObj,h]
theorem B6m (w:World) {β γ:Nat} (ob:Obj) (h:γ≠β):(w.putObj β ob).heap[γ]? = w.heap[γ]?:= by
 simp[World.putObj,Z11 (Ne.symm h)]
theorem Rel.put (hR:Rel MC P B0 H g w) {b:Nat} {ob:AO} (hb:H[b]? = some ob) (hw:ob.isV=true) {β:Nat} (hL:(g.L b).blk=some β) (hno:∀off,w.cell? ⟨β,off,none⟩=none) (new:Obj) {o':AO}
  (hbox:A0c MC P g (w.putObj β new) o'.rd (g.L b)) :
  Rel MC P B0 (H.set b o') g (w.putObj β new)∧Ext H g w (H.set b o') g (w.putObj β new):= by
 have hi:=(Ze.1 hb).1
 have eL:J0 g.L b (g.L b)=g.L:= by funext j;simp only[J0];split;(next e=>rw[e]);rfl
 have hΦ:∀off u,g.Φ β off=some u→False:=fun off u h=>by have:=hR.phi _ _ _ h;rw[hno]at this;cases this
 have:=hR.upd hi (.inl ⟨ob,hb,hw⟩) (o':=o') (gb':=g.L b) (Φ':=g.Φ) (w':=w.putObj β new) Z Z Z (by simp[World.putObj])
  (fun γ hγ hne=>B6m w _ (fun e=>hne (by rw[hL,e]))) (GB.le_refl _) (fun γ hγ=>⟨.inl hγ,by have:=(hR.base b γ hγ).2;simpa [World.putObj] using this⟩) (fun _ _ _ h=>h) (fun _ _ _ _=>rfl)
  (fun γ off u h=>by
   by_cases e:γ=β
   ·subst e;exact(hΦ _ _ h).elim
   ·have e2:(w.putObj β new).cell? ⟨γ,off,none⟩=w.cell? ⟨γ,off,none⟩:=World.cell?_of_block (B6m w new e)
    rw[e2];exact hR.phi γ off u h) (by rw[eL];exact hbox)
 rw[eL]at this
 exact this
theorem E24 {x:Opd} (hm:D1 P o.op (.next x)=true) (hR:Rel MC P B0 H g w) (hS:D7 g s a.tmps) (h:prim c n0 s H (.next x)=some (v,H')):Does MC P B0 a o [] H g w v H':= by
 simp only[D1]at hm
 split at hm
 ·next x' str hop =>
  simp only[Zc]at hm
  obtain⟨rfl,h2⟩:=hm
  simp only[prim]at h
  split at h
  ·next b hp =>
   have hV:=L6 hS h2 hp
   split at h
   ·next t pos hg =>
    have hb:H[b]? = some (.iter t pos):=hg
    generalize hev:a.eval x'=u at hV
    cases hV with
    | den _ _ hd=>cases hd
    | itr _ β hL =>
     have hbox:=hR.box b _ hb
     simp only[AO.rd,hL]at hbox
     have hobj:w.heap[β]? = some (.stringIter t pos):=hbox
     have hlt:β<w.heap.size:=(Z0d.1 hobj).1
     split at h
     ·next hpos =>
      simp at h;obtain⟨rfl,rfl⟩:=h
      have:=hR.put hb Z (β:=β) (by rw[hL];rfl) (fun off=>by simp[World.cell?,hobj]) (.stringIter t (pos+(Utf8.decode t pos).2)) (o':=.iter t (pos+(Utf8.decode t pos).2))
       (by rw[hL];exact A6o w _ hlt)
      refine⟨.tuple #[.bool true,.int .i64 pos,.int .i32 (Utf8.decode t pos).1],_,g,.inl ?_,?_,this.1,this.2,by simp[hset],fun i _ h=>h⟩
      ·simp[execOp,hop,hev,Instr.next,getObj,setObj,Sem.run,hobj,hpos,World.putObj,goInt]
      ·refine .tup _ _ Z (fun j x hj=>?_)
       rcases j with _|_|_|j <;> simp at hj <;> subst hj <;> exact M1 Z
     ·next hpos =>
      simp at h;obtain⟨rfl,rfl⟩:=h
      refine⟨.tuple #[.bool false],w,g,.inl ?_,?_,hR,Ext.refl _ _ _,Z,fun i _ h=>h⟩
      ·simp[execOp,hop,hev,Instr.next,getObj,Sem.run,hobj,hpos]
      ·refine .tup _ _ Z (fun j x hj=>?_)
       rcases j with _|j <;> simp at hj
       subst hj;exact M1 Z
   ·cases h
  ·cases h
 ·cases hm
theorem E0b {en:Array MapEntry} {i:Nat} {m:MapEntry} (h:en[i]? = some m) (hb:∀(i:Nat) (m:MapEntry),en[i]? = some m→m.born=i):en.find? (fun x=>x.born==i)=some m:= by
 rw[← Array.find?_toList,List.find?_eq_some_iff_getElem]
 obtain⟨hi,e⟩:=Z0d.1 h
 refine⟨by simpa using hb i m h,i,by simpa using hi,by simpa using e,fun j hj=>?_⟩
 have hjl:j<en.size:= by omega
 have:=hb j en[j] (Array.getElem?_eq_getElem hjl)
 simp[this];omega
theorem E0s {x:Opd} (hm:D1 P o.op (.entry x)=true) (hR:Rel MC P B0 H g w) (hS:D7 g s a.tmps) (h:prim c n0 s H (.entry x)=some (v,H')):Does MC P B0 a o [] H g w v H':= by
 simp only[D1]at hm
 split at hm
 ·next x' hop =>
  simp only[prim]at h
  split at h
  ·next b hp =>
   split at h
   ·next e he =>
    simp at h;obtain⟨rfl,rfl⟩:=h
    have hV:=L6 hS hm hp
    unfold B1m at he
    split at he
    ·next m n seen hg =>
     split at he
     ·next es hes =>
      split at he
      ·next hn =>
       obtain⟨i,hi,hie⟩:=Zs.mp he
       have hb:H[b]? = some (.mit m n seen):=hg
       obtain⟨βm',hLm,en,clock,q1,q2,q3,q4,q5⟩:=hR.map hes
       generalize hev:a.eval x'=u at hV
       cases hV with
       | den _ _ hd=>cases hd
       | itr _ β hL =>
        have hbox:=hR.box b _ hb
        simp only[AO.rd,hL]at hbox
        obtain⟨βm,l1,l2⟩:=hbox
        rw[hLm]at l1;cases l1
        obtain⟨me,m1,m2,m3⟩:=q3 i e hie
        have hback:seen.toArray.back? = some i:= by rw[List.back?_toArray];exact hi
        have hcl:clock=n:= by omega
        refine⟨.tuple #[me.key,me.val],w,g,.inl ?_,?_,hR,Ext.refl _ _ _,Z,fun i _ h=>h⟩
        ·simp[execOp,hop,hev,Instr.entry,getObj,Sem.run,l2,q1,hcl,hback,E0b m1 q5]
        ·refine .tup _ _ Z (fun j x hj=>?_)
         rcases j with _|_|j <;> simp at hj
         ·subst hj;exact m2
         ·subst hj;exact m3
      ·cases he
     ·cases he
    ·cases he
   ·cases h
  ·cases h
 ·cases hm
theorem C1c {x y:AV} {u z:Value} (h:A4s x y=some true) (hx:V g x u) (hy:V g y z) (n:Nat):Instr.sameBits n z u=true:= by
 unfold A4s at h
 split at h
 ·split at h
  ·next hk =>
   subst hk
   have e1:=S5 hx;have e2:=S5 hy
   subst e1 e2
   have:‹Int› = ‹Int›:=rfl
   cases n <;> simp[Instr.sameBits] <;> (simp at h;exact h.symm)
  ·cases h
 ·have e1:=S5 hx;have e2:=S5 hy
  subst e1 e2
  cases n <;> simp[Instr.sameBits] <;> (simp at h;exact h.symm)
 ·have e1:=S5 hx;have e2:=S5 hy
  subst e1 e2
  simp at h
  have:∀(a b:ByteArray),a.data=b.data→a=b:=fun a b h=>by cases a;cases b;simp at h;rw[h]
  have e3:=this _ _ h
  subst e3
  cases n <;> (simp only[Instr.sameBits];rw[beq_toListBytes];simp)
 ·cases h
theorem C4r:∀{l m:List AV},I4 l m=some true→l.length=m.length∧∀ (j:Nat) x y,l[j]? = some x→m[j]? = some y→A4s x y=some true
 | [],[],_=>⟨Z,fun j x y h=>by simp at h⟩
 | [],_::_,h=>by simp[I4]at h
 | _::_,[],h=>by simp[I4]at h
 | x::l,y::m,h=>by
  simp only[I4]at h
  split at h
  ·next h1 =>
   obtain⟨q1,q2⟩:=C4r h
   refine⟨by simp[q1],fun j x' y' hx hy=>?_⟩
   cases j with
   | zero=>simp at hx hy;subst hx hy;exact h1
   | succ j=>exact q2 j x' y' (by simpa using hx) (by simpa using hy)
  ·cases h
  ·cases h
theorem C1j {ag:Bool} {ks:List Nat} {cs:List AV}:∀{es:List (AV×AV)} {i j:Nat} {x:AV},findKey ag ks cs es i=some (some (j,x)) →
  i≤j∧∃ e l,es[j-i]? = some e∧e.2=x∧J9 ag e.1=some l∧kinds ks l=true∧I4 cs l=some true
 | [],i,j,x,h=>by simp[findKey]at h
 | e::es,i,j,x,h=>by
  simp only[findKey]at h
  split at h
  ·next l hc =>
   split at h
   ·next hk =>
    split at h
    ·next hq =>
     simp at h;obtain⟨rfl,rfl⟩:=h
     exact⟨Zn _,e,l,by simp,Z,hc,hk,hq⟩
    ·obtain⟨q1,e',l',q2,q3⟩:=C1j h
     refine⟨by omega,e',l',?_,q3⟩
     rw[show j-i=(j-(i+1))+1 by omega];simpa using q2
    ·cases h
   ·cases h
  ·cases h
theorem D7o {ag:Bool} {cs l:List AV} {key e:AV} {u z:Value} (hc:J9 ag key=some cs) (he:J9 ag e=some l) (hq:I4 cs l=some true) (hu:V g key u) (hz:V g e z):Instr.sameBits 10000 z u=true:= by
 obtain⟨hl,hat⟩:=C4r hq
 cases ag with
 | true =>
  cases key <;> simp[J9]at hc
  cases e <;> simp[J9]at he
  subst hc he
  obtain⟨us,rfl,h1,h2⟩:=A9u hu
  obtain⟨zs,rfl,h3,h4⟩:=A9u hz
  simp only[Instr.sameBits,Zc]
  refine⟨by simp;omega,Zq.2 fun p hp=>?_⟩
  obtain⟨j,hj⟩:=Z1l hp
  have hjl:=(Ze.1 hj).1
  simp at hjl
  have e1:=h2 j _ (Zm (by omega))
  have e2:=h4 j _ (Zm (by omega))
  have h5:=hat j _ _ (Zm (by omega)) (Zm (by omega))
  have:=C1c h5 e1.2.1 e2.2.1 9999
  have hp':p=(zs[j],us[j]):= by
   have:=(Ze.1 hj).2
   rw[← this];simp
  subst hp'
  have f1:j<zs.size:= by omega
  have f2:j<us.size:= by omega
  simpa [f1,f2] using this
 | false =>
  cases key <;> simp[J9]at hc
  cases e <;> simp[J9]at he
  subst hc he
  exact C1c (hat 0 _ _ Z Z) hu hz 10000
theorem E23 {ag:Bool} {ks:List Nat} {x y z:Opd} (hm:D1 P o.op (.mupd ag ks x y z)=true) (hR:Rel MC P B0 H g w) (hS:D7 g s a.tmps) (h:prim c n0 s H (.mupd ag ks x y z)=some (v,H')):Does MC P B0 a o [] H g w v H':= by
 simp only[D1]at hm
 split at hm
 ·next t m' k' v' hop =>
  simp only[Zc]at hm
  obtain⟨⟨⟨h1,h2⟩,h3⟩,h4⟩:=hm
  split at h1
  ·next kt et hu =>
   simp only[prim]at h
   split at h
   ·next b key val hp hq hr =>
    split at h
    ·next es cs hes hcs =>
     split at h
     ·next hk =>
      simp only[Zc]at hk
      obtain⟨⟨hk,_⟩,_⟩:=hk
      have hVk:=L6 hS h3 hq
      have hVv:=L6 hS h4 hr
      have hK:=E46 h1 hVk hcs hk
      have hVm:=L6 hS h2 hp
      have hb:=C5d hes
      have hbox:=hR.box b _ hb
      simp only[AO.rd]at hbox
      generalize hem:a.eval m'=u at hVm
      cases hVm with
      | den _ _ hd=>cases hd
      | mp _ β hL =>
       rw[hL]at hbox
       obtain⟨en,clock,q1,q2,q3,hborn⟩:=hbox
       have hlt:β<w.heap.size:=(Z0d.1 q1).1
       have hfind:∀r,findKey ag ks cs es 0=some r→∃ r',(Instr.findKey kt (a.eval k') en.toList).run P w=.ok r' w∧(match r with|none=>r'=none|some (j,x)=>∃ z,r'=some (j,z)∧V g x z∧0≤j∧j<0+es.length):= by
        intro r hr
        obtain⟨r',hr',hm⟩:=B2y hK (B3j h1) w es en.toList 0 r (by simpa using q2) (fun j e hj=>by obtain⟨m,hm,r⟩:=q3 j e hj;exact⟨m,by simpa using hm,r⟩) hr
        exact⟨r',B6w (B3j h1) w hr',hm⟩
       have fin:∀(en':Array MapEntry) (clock':Nat) (es':List (AV×AV)),(Instr.mapUpdate t (.map (some β)) (a.eval k') (a.eval v')).run P w=.ok () (w.putObj β (.map en' clock'))→en'.size=es'.length →
         (∀ (i:Nat) (e:AV×AV),es'[i]? = some e→∃ m:MapEntry,en'[i]? = some m∧V g e.1 m.key∧V g e.2 m.val)→(clock'=en'.size∧∀ (i:Nat) (m:MapEntry),en'[i]? = some m→m.born=i)→Does MC P B0 a o [] H g w (.tup []) (hset H b (.map es')):= by
        intro en' clock' es' hrun h5 h6 h7
        have:=hR.put hb Z (β:=β) (by rw[hL];rfl) (fun off=>by simp[World.cell?,q1]) (.map en' clock') (o':=.map es') (by
         rw[hL];exact⟨en',clock',A6o w _ hlt,h5,h6,h7⟩)
        refine⟨undef,_,g,.inr ⟨?_,Z⟩,C0y _,this.1,this.2,by simp[hset],fun i _ h=>h⟩
        simp[execOp,hop,hem,hrun]
       have hkc:=hK.check false w
       split at h
       ·next j xx hr =>
        simp at h;obtain⟨rfl,rfl⟩:=h
        obtain⟨r',e1,zz,rfl,e3,_,e5⟩:=hfind _ hr
        obtain⟨_,e,l,f1,_,f3,f4,f5⟩:=C1j hr
        simp only[Nat.sub_zero]at f1
        obtain⟨m,m1,m2,m3⟩:=q3 j e f1
        have hbits:=D7o hcs f3 f5 hVk m2
        refine fin (en.modify j fun e=>{ e with key:=a.eval k',val:=a.eval v' }) clock _ ?_ (by simp[q2]) (fun i e' hi=>?_) ⟨by simpa using hborn.1,fun i m' hi=>?_⟩
        ·simp[Instr.mapUpdate,run_underlying hu,getObj,setObj,Sem.run,q1,hkc,e1,m1,Instr.keyThatStays,hbits,World.putObj]
        ·rw[ZJ]at hi
         by_cases e6:j=i
         ·subst e6
          rw[if_pos Z,if_pos (by omega)]at hi
          cases hi
          exact⟨{ m with key:=a.eval k',val:=a.eval v' },by simp[Z2f,m1],hVk,hVv⟩
         ·rw[if_neg e6]at hi
          obtain⟨m4,m5,m6⟩:=q3 i e' hi
          exact⟨m4,by rw[Z2f,if_neg e6];exact m5,m6⟩
        ·rw[Z2f]at hi
         split at hi
         ·next e6 =>
          subst e6
          rw[m1]at hi
          cases hi
          exact hborn.2 j m m1
         ·exact hborn.2 i m' hi
       ·next hr =>
        simp at h;obtain⟨rfl,rfl⟩:=h
        obtain⟨r',e1,e2⟩:=hfind _ hr
        simp only at e2
        subst e2
        refine fin (en.push { key:=a.eval k',val:=a.eval v',born:=clock }) (clock+1) _ ?_ (by simp[q2]) (fun i e' hi=>?_) ⟨by rw[Array.size_push,hborn.1],fun i m' hi=>?_⟩
        ·simp[Instr.mapUpdate,run_underlying hu,getObj,setObj,Sem.run,q1,hkc,e1,World.putObj]
        ·rw[ZP]at hi
         split at hi
         ·next h7 =>
          obtain⟨m4,m5,m6⟩:=q3 i e' hi
          exact⟨m4,by rw[Z3n];rw[if_neg (by omega)];exact m5,m6⟩
         ·next h7 =>
          have hi0:i-es.length=0:= by
           have:=(Ze.1 hi).1
           simpa using this
          rw[hi0]at hi
          simp at hi;subst hi
          exact⟨{ key:=a.eval k',val:=a.eval v',born:=clock },by rw[Z3n];rw[if_pos (by omega)],hVk,hVv⟩
        ·rw[Z3n]at hi
         split at hi
         ·next e6=>cases hi;rw[e6];exact hborn.1
         ·exact hborn.2 i m' hi
       ·cases h
     ·cases h
    ·cases h
   ·cases h
  ·cases h1
 ·cases hm
theorem B8u {k:Nat}:∀(l:List (List AV)),(∀ r∈l,r.length=k)→l.flatten.length=l.length*k
 | [],_=>by simp
 | r::l,h=>by
  rw[Z1b,List.length_append,h r (Zy ..),B8u l fun x hx=>h x (Zx _ hx),ZT,Z1m,Nat.add_comm]
theorem D24 {k:Nat}:∀(l:List (List AV)),(∀ r∈l,r.length=k)→∀ {j:Nat} {x:AV},l.flatten[j]? = some x→∃ i r m,l[i]? = some r∧r[m]? = some x∧m<k∧j=i*k+m
 | [],_,j,x,h=>by simp at h
 | r::l,hl,j,x,h=>by
  have hr:=hl r (Zy ..)
  rw[Z1b]at h
  by_cases hj:j<k
  ·rw[ZF (by omega)]at h
   exact⟨0,r,j,Z,h,hj,by omega⟩
  ·rw[ZI (by omega),hr]at h
   obtain⟨i,r',m,e1,e2,e3,e4⟩:=D24 l (fun x hx=>hl x (Zx _ hx)) h
   refine⟨i+1,r',m,by simpa using e1,e2,e3,?_⟩
   rw[Z1m];omega
theorem E21 {k:Nat} {x y:Opd} (hm:D1 P o.op (.copy k x y)=true) (hR:Rel MC P B0 H g w) (hS:D7 g s a.tmps) (h:prim c n0 s H (.copy k x y)=some (v,H')):Does MC P B0 a o [] H g w v H':= by
 simp only[D1]at hm
 split at hm
 ·next args argTypes hop =>
  split at hm
  ·next d' x' t u hargs htys =>
   simp only[Zc]at hm
   obtain⟨⟨h1,h2⟩,h3⟩:=hm
   split at h1
   ·next e hsl =>
    simp only[Zc]at h1
    obtain⟨⟨c1,c2⟩,c3⟩:=h1
    have ht:=S9 hsl
    have hk:P.cellsOf e=k:= by simpa using c1
    have hpos:0<k:= by simpa using c3
    have hargs':args = #[d',x']:= by apply Z2v; simpa using hargs
    have htys':argTypes = #[t,u]:= by apply Z2v; simpa using htys
    subst hargs' htys'
    have hex:∀y w',(Builtin.copy_ #[t,u] o.type #[a.eval d',a.eval x']).run P w=.ok y w'→(execOp a.eval o).run P w=.ok (.value y) w':= by
     intro y w' hy
     unfold execOp
     simp only[hop,resolve,invoke,builtin,Sem.run_bind,Sem.run_pure,Result.andThen_ok,Z45,Zt,Z0z,hy]
    simp only[prim]at h
    split at h
    ·next b n xv hd hx =>
     split at h
     ·next kk rows src k' hc hrow hko =>
      split at h
      ·next hcond =>
       simp only[Zc]at hcond
       obtain⟨⟨⟨d1,d2⟩,d3⟩,hfr⟩:=hcond
       have d1':rows.length=n:=Zk d1
       have d2':kk=k:=Zk d2
       have d3':k=k':=Zk d3
       subst d1' d2' d3'
       simp at h;obtain⟨rfl,rfl⟩:=h
       obtain⟨ad,cp,hux,hread⟩:=B6o hR (L6 hS h3 hx) hrow hko hfr hpos
       obtain⟨news,hn1,hn2,hn3,hn4,hn5⟩:=hread (min src.length rows.length) (Z5j _ _)
       obtain⟨v0,hL,hbox⟩:=hR.arrW hc
       have hsl:=Y1 hbox
       have hud:=A4e (L6 hS h2 hd) hL hsl
       rw[hux]at hn1
       rw[hux,hud]at hex
       have hb:=A1a hc
       simp only at hb
       obtain⟨_,hk0,hlen,h0⟩:=hbox
       rcases h0 with⟨rfl,rfl⟩|⟨β,cp0,e',cur,rfl,a5,a6,a7,a8,a9,a10,a11⟩
       ·simp at hn1 hn2
        refine⟨_,w,g,.inl (hex (.int .i64 (min src.length 0:Nat)) w ?_),M1 Z,?_,?_,by simp[hset],fun i _ h=>h⟩
        ·simp[Builtin.copy_,run_underlying ht,Builtin.lenOf,M4 (M3 c2),hk,hn1,goInt]
        ·simp[hset];rw[B6y hb];exact hR
        ·simp[hset];rw[B6y hb];exact Ext.refl _ _ _
       ·generalize hq:min src.length rows.length=q at *
        have hql:q≤rows.length:= by omega
        have hqs:q≤src.length:= by omega
        have hsz:q*kk≤cur.size:= by rw[a8];exact ZQ _ (by omega)
        have hst:=run_storeCells_at P β 0 e' news.toList 0 cur w a7 (by simp[hn2];omega) hn3
        simp only[Z1e,Nat.zero_add,List.take_zero,Z06]at hst
        have get:∀j,((news.toList++cur.toList.drop news.toList.length).toArray)[j]? = if j<q*kk then news[j]? else cur[j]?:= by
         intro j
         simp only[Z0r]
         rw[ZP]
         simp only[Z0i,hn2]
         split
         ·simp
         ·next h2 =>
          rw[ZV];simp
          congr 1;omega
        have eL:J0 g.L b (g.L b)=g.L:= by funext j;simp only[J0];split;(next e=>rw[e]);rfl
        have hW:=hR.write (b:=b) ⟨_,hb,Z⟩ (by rw[hL];rfl) a7 (news.toList++cur.toList.drop news.toList.length).toArray
         (o':=.arr kk false (src.take q++rows.drop q)) (gb':=g.L b) (GB.le_refl _) (by rw[hL];rfl) (fun off hs=>by rw[a10 Z off]at hs;cases hs)
         (Φ':=g.Φ) (fun _ _ _=>rfl) (fun _ _ h=>h) (fun off u h=>by rw[a10 Z off]at h;cases h) (by
          have hl2:(src.take q++rows.drop q).length=rows.length:= by simp;omega
          rw[hL]
          refine⟨Z,hk0,fun r hr=>?_,.inr ⟨β,cp0,e',_,by rw[hl2],by omega,a6,setRow_heap w _ cur _ e' (0,0) a7,?_,fun i r j x hi hj=>?_,fun _ off=>a10 Z off,by simp⟩⟩
          ·rcases ZA.1 hr with h|h
           ·exact hn4 r (ZZ h)
           ·exact hlen r (Z1z h)
          ·simp[hn2];omega
          ·rw[get]
           rw[ZP]at hi
           have htl:(src.take q).length=q:= by simp;omega
           rw[htl]at hi
           split at hi
           ·next hiq =>
            rw[ZO hiq]at hi
            have hjk:j<kk:= by have h1:=(Ze.1 hj).1;have h2:=hn4 r (Zw hi);omega
            have:=O3 (k:=kk) hiq
            rw[if_pos (by omega)]
            obtain⟨u,e1,e2⟩:=hn5 i r j x hiq hi hj
            exact⟨u,e1,e2⟩
           ·next hiq =>
            rw[ZV]at hi
            rw[show q+(i-q)=i by omega]at hi
            have:q*kk≤i*kk:=ZQ _ (by omega)
            rw[if_neg (by omega)]
            obtain⟨u,e1,e2⟩:=a9 i r j x hi hj
            exact⟨u,e1,e2⟩)
        rw[eL]at hW
        refine⟨_,_,g,.inl (hex (.int .i64 (q:Nat)) _ ?_),M1 Z,hW.1,hW.2,by simp[hset],fun i _ h=>h⟩
        have hmin:Nat.min src.length rows.length=q:=hq
        simp[Builtin.copy_,run_underlying ht,Builtin.lenOf,M4 (M3 c2),hk,hmin,hn1,goInt,hst]
      ·cases h
     ·cases h
    ·next b off kk n xv hd hx =>
     split at h
     ·next cs src k' hc hrow hko =>
      split at h
      ·next hcond =>
       simp only[Zc]at hcond
       obtain⟨⟨⟨d1,d2⟩,hfr⟩,d3⟩:=hcond
       have d1':kk=k:=Zk d1
       have d2':k=k':=Zk d2
       have d3':=Nat.le_of_ble_eq_true d3
       subst d1' d2'
       simp only[Za,Zf]at h;obtain⟨rfl,rfl⟩:=h
       obtain⟨ad,cp,hux,hread⟩:=B6o hR (L6 hS h3 hx) hrow hko hfr hpos
       obtain⟨news,hn1,hn2,hn3,hn4,hn5⟩:=hread (min src.length n) (Z5j _ _)
       have hV:=L6 hS h2 hd
       generalize hev:a.eval d'=ud at hV
       cases hV with
       | den _ _ hd=>cases hd
       | csa _ _ _ _ _ _ _ _ hL =>
        have hbox:=hR.box b _ (V6 hc)
        simp only[AO.rd]at hbox
        rw[hL]at hbox
        exact hbox.elim
       | csl _ _ _ _ β c e hL hcn =>
        have hbox:=hR.box b _ (V6 hc)
        simp only[AO.rd]at hbox
        rw[hL]at hbox
        obtain⟨cur,c1,c2',c3',c4⟩:=hbox
        have hC:V9 g cs cur:=⟨c2',c3'⟩
        generalize hq:min src.length n=q at *
        have hqs:q≤src.length:= by omega
        have hlen:∀r∈src.take q,r.length=kk:=fun r hr=>hn4 r (ZZ hr)
        have hfl:(src.take q).flatten.length=q*kk:= by rw[B8u _ hlen,ZD,Nat.min_eq_left hqs]
        have hN:V9 g (src.take q).flatten news:=⟨by rw[hn2,hfl],fun j x hj=>by
         obtain⟨i,r,m,e1,e2,e3,e4⟩:=D24 _ hlen hj
         have hiq:i<q:= by have:=(Ze.1 e1).1;rw[ZD]at this;omega
         rw[ZO hiq]at e1
         obtain⟨z,z1,z2⟩:=hn5 i r m x hiq e1 e2
         subst e4
         exact⟨z,z1,.den _ _ z2,z2.one⟩⟩
        have hst:=run_storeCells_at P β off e news.toList 0 cur w c1 (by simp[hn2,c2'];omega) hn3
        simp only[Z1e]at hst
        have hW:=hR.write_cells hc hL (C7r hC hN (off:=off) (by rw[hfl];exact d3'))
        rw[hux,hev]at hex
        rw[hux]at hn1
        refine⟨_,_,g,.inl (hex (.int .i64 (q:Nat)) _ ?_),M1 Z,hW.1,hW.2,by simp[hset],fun i _ h=>h⟩
        have hmin:Nat.min src.length n=q:=hq
        simp[Builtin.copy_,run_underlying ht,Builtin.lenOf,M4 (M3 c2),hk,hmin,hn1,goInt,hst]
      ·cases h
     ·cases h
    ·cases h
   ·cases h1
  ·cases hm
 ·cases hm
end
theorem D50 {H:A2} {v:AV} {k:Nat} {rows:List (List AV)} (h:A8e H v=some (k,rows)):U4 H v=some (.seq k rows,H):= by
 unfold A8e at h
 split at h
 ·simp only[Za,Zf]at h;obtain⟨rfl,rfl⟩:=h;rfl
 ·next b n =>
  split at h
  ·next k' rows' hr =>
   split at h
   ·next hn=>simp only[Za,Zf]at h;obtain⟨rfl,rfl⟩:=h;simp only[U4,frv,hr,hn,if_true]
   ·cases h
  ·cases h
 ·cases h
def E1e:AOp→Bool
 | .load (some 0) _=>false
 | _=>true
section
variable {MC:Nat→Code→ACode→Prop} {P:Program} {B0:Nat} {c:Sc} {n0:Nat} {H H':A2} {g:Ghost} {w:World} {s:C2} {a:Act} {o:Oper} {v:AV}
theorem D71 {k:Nat} {x:Opd} {lo hi:Option Opd} (hm:D1 P o.op (.sliceQ k x lo hi)=true) (hR:Rel MC P B0 H g w) (hS:D7 g s a.tmps) (h:prim c n0 s H (.sliceQ k x lo hi)=some (v,H')):Does MC P B0 a o [] H g w v H':= by
 have hm':D1 P o.op (.sliceL k x lo hi)=true:= by simpa only[D1] using hm
 refine C15 hm' hR hS (c:=c) (n0:=n0) ?_
 simp only[prim]at h ⊢
 cases he:ev s x with
 | none=>rw[he]at h;cases h
 | some u =>
  rw[he,Zd]at h
  cases hu:A8e H u with
  | none=>rw[hu]at h;cases h
  | some r =>
   obtain⟨k',rows⟩:=r
   rw[hu]at h
   simp only[D50 hu]
   exact h
theorem Does.mono {X Y:List Nat} (h:Does MC P B0 a o X H g w v H') (hXY:∀i∈X,i∈Y):Does MC P B0 a o Y H g w v H':= by
 obtain⟨x,w',g',h1,h2,h3,h4,h5,h6⟩:=h
 exact⟨x,w',g',h1,h2,h3,h4,h5,fun i hi hn=>h6 i (fun hx=>hi (hXY i hx)) hn⟩
end
def AO.bdP (N:Nat):AO→Prop
 | .loop _ s _ _ _ _ _=>∀ t v,sget s t=some v→v.bd N=true
 | .ro o=>o.bdP N
 | .cells cs=>bdL N cs=true
 | .map es=>bdE N es=true
 | .mit m _ _=>m<N
 | _=>True
structure ScOk (c:Sc) (H:A2):Prop where
 cur:c.cur≤H.length
 out:∀B∈c.outer,B≤c.cur
 bd:∀B∈c.cur::c.outer,∀ i,i<B→∀ o,H[i]? = some o→o.bdP B
theorem ScOk.set {c:Sc} {H:A2} (h:ScOk c H) (i:Nat) (o':AO) (hb:∀B∈c.cur::c.outer,i<B→o'.bdP B):ScOk c (hset H i o') where
 cur:= by simpa [hset] using h.cur
 out:=h.out
 bd:=fun B hB j hj o ho=>by
  simp only[hset,ZJ]at ho
  split at ho
  ·next e =>
   split at ho
   ·cases ho;exact hb B hB (by omega)
   ·cases ho
  ·exact h.bd B hB j hj o ho
theorem ScOk.setNew {c:Sc} {H:A2} (h:ScOk c H) (i:Nat) (hi:c.cur≤i) (o':AO):ScOk c (hset H i o') :=
 h.set i o' (fun B hB hlt=>by
  rcases Zu.1 hB with rfl|hB
  ·omega
  ·have:=h.out B hB;omega)
theorem ScOk.setTriv {c:Sc} {H:A2} (h:ScOk c H) (i:Nat) (o':AO) (ht:∀B,o'.bdP B):ScOk c (hset H i o'):=h.set i o' (fun B _ _=>ht B)
theorem A2l {N:Nat}:∀{l:List AV},bdL N l=true↔∀ x∈l,x.bd N=true
 | []=>by simp[bdL]
 | x::l=>by simp[bdL,A2l (l:=l)]
theorem C6g {N:Nat}:∀{l:List (List AV)},bdR N l=true↔∀ r∈l,∀ x∈r,x.bd N=true
 | []=>by simp[bdR]
 | x::l=>by simp[bdR,A2l,C6g (l:=l)]
theorem B98 {N:Nat}:∀{l:List (AV×AV)},bdE N l=true↔∀ e∈l,e.1.bd N=true∧e.2.bd N=true
 | []=>by simp[bdE]
 | x::l=>by simp[bdE,B98 (l:=l)]
theorem D87 {v:AV} (h:v.plain=true) (N:Nat):v.bd N=true:= by cases v <;> simp[AV.plain]at h <;> simp[AV.bd]
theorem D1m {v:AV} (h:v.frz=true) (N:Nat):v.bd N=true:= by cases v <;> simp[AV.frz]at h <;> simp[AV.bd]
theorem C7f {c:Sc} {b:Nat}:∀{l:List AV},c.okL b l=true↔∀ x∈l,c.ok b x=true
 | []=>by simp[Sc.okL]
 | x::l=>by simp[Sc.okL,C7f (l:=l)]
theorem E2a {c:Sc} {b:Nat} {v:AV} (h:c.ok b v=true) (hout:∀B∈c.outer,B≤c.cur) {B:Nat} (hB:B∈c.cur::c.outer) (hb:b<B):v.bd B=true:= by
 simp only[Sc.ok,Z14,Zc,Z3f,Zq]at h
 have hlt:¬ c.cur≤b:= by
  rcases Zu.1 hB with rfl|hB'
  ·omega
  ·have:=hout B hB'; omega
 rcases h with (h|h)|⟨h,h2⟩
 ·exact absurd h hlt
 ·exact D87 h B
 ·rcases Zu.1 hB with rfl|hB'
  ·exact h.resolve_left hlt
  ·exact(h2 B hB').resolve_left (by omega)
theorem C3b {cs:List AV} {o:Nat} {new:List AV} {x:AV} (h:x∈splice cs o new):x∈cs∨x∈new:= by
 simp only[splice,ZA]at h
 rcases h with (h|h)|h
 ·exact .inl (ZZ h)
 ·exact .inr h
 ·exact .inl (Z1z h)
theorem D1l {c:Sc} {H H':A2} {v v':AV} (h:ScOk c H) (hf:frv H v=some (v',H')):ScOk c H':= by
 unfold frv at hf
 repeat' split at hf
 all_goals (try cases hf)
 all_goals first
  | exact h
  | exact h.setTriv _ _ (fun _=>trivial)
theorem C0g {c:Sc}:∀{l l':List AV} {H H':A2},ScOk c H→Z4 H l=some (l',H')→ScOk c H'
 | [],l',H,H',h,hf=>by simp only[Z4,Za,Zf]at hf;exact hf.2▸h
 | v::l,l',H,H',h,hf=>by
  simp only[Z4]at hf
  split at hf
  ·cases hf
  ·next v1 H1 e1 =>
   split at hf
   ·cases hf
   ·next l2 H2 e2 =>
    simp only[Za,Zf]at hf
    exact hf.2▸C0g (D1l h e1) e2
theorem C0e {c:Sc} {H H':A2} {v v':AV} (h:ScOk c H) (hf:U4 H v=some (v',H')):ScOk c H':= by
 unfold U4 at hf
 split at hf
 ·next cs =>
  cases hl:Z4 H cs with
  | none=>simp[hl]at hf
  | some r=>simp only[hl,Zb,Za,Zf]at hf;exact hf.2▸C0g h (l':=r.1) (H':=r.2) hl
 ·cases hf;exact h
 ·exact D1l h hf
theorem C8t {c:Sc}:∀{l l':List AV} {H H':A2},ScOk c H→S6 H l=some (l',H')→ScOk c H'
 | [],l',H,H',h,hf=>by simp only[S6,Za,Zf]at hf;exact hf.2▸h
 | v::l,l',H,H',h,hf=>by
  simp only[S6]at hf
  split at hf
  ·cases hf
  ·next v1 H1 e1 =>
   split at hf
   ·cases hf
   ·next l2 H2 e2 =>
    simp only[Za,Zf]at hf
    exact hf.2▸C8t (C0e h e1) e2
theorem E2q {N:Nat} {H H':A2} {v v':AV} (hf:frv H v=some (v',H')) (h:v.bd N=true):v'.bd N=true:= by
 unfold frv at hf
 repeat' split at hf
 all_goals (try cases hf)
 all_goals first
  | exact h
  | simp only[AV.bd]
theorem D29 {N:Nat}:∀{l l':List AV} {H H':A2},Z4 H l=some (l',H')→bdL N l=true→bdL N l'=true
 | [],l',H,H',hf,h=>by simp only[Z4,Za,Zf]at hf;exact hf.1▸h
 | v::l,l',H,H',hf,h=>by
  simp only[Z4]at hf
  simp only[bdL,Zc]at h
  split at hf
  ·cases hf
  ·next v1 H1 e1 =>
   split at hf
   ·cases hf
   ·next l2 H2 e2 =>
    simp only[Za,Zf]at hf
    rw[← hf.1]
    simp only[bdL,E2q e1 h.1,D29 e2 h.2,Bool.and_self]
theorem D1j {c:Sc} {H H':A2} {v:AV} (h:ScOk c H) (hf:Y4 H v=some H'):ScOk c H':= by
 have other:(U4 H v).map (·.2)=some H'→ScOk c H':= by
  intro h0
  obtain⟨r,h1,h2⟩:=Zz.1 h0
  subst h2
  exact C0e h (v':=r.1) (H':=r.2) h1
 cases v with
 | ptr b off =>
  simp only[Y4]at hf
  split at hf
  ·next cs hc =>
   split at hf
   ·next r e =>
    split at hf
    ·next cs1 hc1 =>
     simp only[Za]at hf
     subst hf
     refine(C0g h (l':=r.1) (H':=r.2) e).set _ _ (fun B hB hb=>?_)
     have:=h.bd B hB b hb _ (V6 hc)
     simp only[AO.bdP]at this ⊢
     exact D29 (l':=r.1) (H':=r.2) e this
    ·cases hf
   ·cases hf
  ·cases hf
 | _=>exact other hf
theorem C2w {c:Sc} {s:C2}:∀{l:List Nat} {H H':A2},ScOk c H→publish s H l=some H'→ScOk c H'
 | [],H,H',h,hf=>by simp only[publish,Za]at hf;exact hf▸h
 | t::l,H,H',h,hf=>by
  simp only[publish]at hf
  split at hf
  ·split at hf
   ·next r e1=>exact C2w (D1j h e1) hf
   ·cases hf
  ·cases hf
theorem C29 {c:Sc} {n0:Nat} (hn:c.cur≤n0):∀{owns:List (Nat×Nat×Nat)} {zs zs':List AV} {H H':A2},ScOk c H→P3 n0 owns zs H=(zs',H')→ScOk c H'
 | [],zs,zs',H,H',h,hf=>by simp only[P3,Zf]at hf;exact hf.2▸h
 | (j,r,k)::l,zs,zs',H,H',h,hf=>by simp only[P3]at hf;exact C29 hn (h.setNew _ (by omega) _) hf
theorem A3y {α:Type} {f:α→AV} {x:Option α} {H H':A2} {v:AV} (h:x.map (fun y=>(f y,H))=some (v,H')):H'=H:= by
 cases x <;> simp at h;exact h.2.symm
theorem E1n {c:Sc} {n0:Nat} {s:C2} {H H':A2} {op:AOp} {v:AV} (h:ScOk c H) (hn:c.cur≤n0) (hp:prim c n0 s H op=some (v,H')):ScOk c H':= by
 have hset1:∀{r:Nat} {o':AO},ScOk c (hset H (n0+r) o'):=fun {r o'}=>h.setNew _ (by omega) _
 cases op with
 | nil k r=>simp only[prim,Za,Zf]at hp;exact hp.2▸hset1
 | mkmap r=>simp only[prim,Za,Zf]at hp;exact hp.2▸hset1
 | alloc zs owns r =>
  simp only[prim,Za,Zf]at hp
  have:=C29 hn h (zs:=zs) (owns:=owns) (n0:=n0) (zs':=(P3 n0 owns zs H).1) (H':=(P3 n0 owns zs H).2) Z
  exact hp.2▸this.setNew _ (by omega) _
 | storeN x k r =>
  simp only[prim]at hp
  split at hp
  ·next b o e1 =>
   split at hp
   ·next cs hc =>
    split at hp
    ·next hif =>
     simp only[Za,Zf]at hp
     simp only[Zc]at hif
     have h1:ScOk c (hset H (n0+r) (.arr k false [])):=hset1
     refine hp.2▸h1.set _ _ (fun B hB hb=>?_)
     simp only[AO.bdP,A2l]
     intro x hx
     rcases C3b hx with hx|hx
     ·have hg:=V6 hc
      have:=h1.bd B hB b hb _ hg
      simp only[AO.bdP,A2l]at this
      exact this x hx
     ·exact E2a (C7f.1 hif.2 x hx) h1.out hB hb
    ·cases hp
   ·cases hp
  ·cases hp
 | store k x y =>
  simp only[prim]at hp
  split at hp
  ·next b o u e1 e2 =>
   split at hp
   ·next cs hc =>
    split at hp
    ·next hif =>
     simp only[Za,Zf]at hp
     simp only[Zc]at hif
     refine hp.2▸h.set _ _ (fun B hB hb=>?_)
     simp only[AO.bdP,A2l]
     intro x hx
     rcases C3b hx with hx|hx
     ·have hg:=V6 hc
      have:=h.bd B hB b hb _ hg
      simp only[AO.bdP,A2l]at this
      exact this x hx
     ·exact E2a (C7f.1 hif.2 x hx) h.out hB hb
    ·cases hp
   ·cases hp
  ·next b n i o u e1 e2 =>
   split at hp
   ·cases hp
   ·next cs H1 hf =>
    have h1:=C0g h hf
    repeat' split at hp
    all_goals (try cases hp)
    exact h1.setTriv _ _ (fun _=>trivial)
  ·cases hp
 | mupd ag ks x y z =>
  simp only[prim]at hp
  split at hp
  ·next b key u e1 e2 e3 =>
   split at hp
   ·next es cs hm hk =>
    split at hp
    ·next hif =>
     simp only[Zc]at hif
     have hkey:∀B,key.bd B=true:= by
      intro B
      have hkk:∀(ks:List Nat) (cs:List AV),kinds ks cs=true→∀ x∈cs,x.bd B=true:= by
       intro ks cs
       induction ks,cs using kinds.induct <;> simp_all [kinds,AV.bd]
      have h2:=hkk ks cs hif.1.1
      revert hk
      unfold J9
      split
      ·intro hk;cases hk;simpa only[AV.bd,A2l] using h2
      ·intro hk;cases hk;simp[AV.bd]
      ·intro hk;cases hk
     have hval:∀B,u.bd B=true:= by
      intro B
      have h2:=hif.1.2
      have h3:=hif.2
      rw[Zq]at h2
      cases u <;> simp only[AV.cellsOf]at h2 h3 <;> first
       | (rename_i cs'; simp only[AV.bd,A2l];exact fun x hx=>D1m (h2 x hx) B)
       | (simp at h3;done)
       | exact D1m (h2 _ (by simp)) B
     have hset:∀es',(∀ e∈es',e∈es∨e=(key,u))→ScOk c (hset H b (.map es')):= by
      intro es' hes
      refine h.set _ _ (fun B hB hb=>?_)
      have hg:=C5d hm
      have:=h.bd B hB b hb _ hg
      simp only[AO.bdP,B98]at this ⊢
      intro e he
      rcases hes e he with he|rfl
      ·exact this e he
      ·exact⟨hkey B,hval B⟩
     split at hp
     ·simp only[Za,Zf]at hp
      exact hp.2▸hset _ (fun e he=>by rcases List.mem_or_eq_of_mem_set he with h|h <;> simp[h])
     ·simp only[Za,Zf]at hp
      exact hp.2▸hset _ (fun e he=>by simpa using he)
     ·cases hp
    ·cases hp
   ·cases hp
  ·cases hp
 | copy k x y =>
  simp only[prim]at hp
  split at hp
  ·repeat' split at hp
   all_goals first
    | (cases hp;done)
    | (simp only[Za,Zf]at hp;exact hp.2▸h.setTriv _ _ (fun _=>trivial))
  ·next b o kk n u e1 e2 =>
   split at hp
   ·next cs src k' hc hr hk =>
    split at hp
    ·next hif =>
     simp only[Zc]at hif
     simp only[Za,Zf]at hp
     obtain⟨_,rfl⟩:=hp
     refine h.set _ _ (fun B hB hb=>?_)
     have:=h.bd B hB b hb _ (V6 hc)
     simp only[AO.bdP,A2l]at this ⊢
     intro x hx
     unfold splice at hx
     rcases ZA.1 hx with hx|hx
     ·rcases ZA.1 hx with hx|hx
      ·exact this x (ZZ hx)
      ·obtain⟨r,hr1,hr2⟩:=List.mem_flatten.1 hx
       have hf:=hif.1.2
       unfold B5y at hf
       exact D1m (Zq.1 (Zq.1 hf r (ZZ hr1)) x hr2) B
     ·exact this x (Z1z hx)
    ·cases hp
   ·cases hp
  ·cases hp
 | mvz x =>
  simp only[prim]at hp
  split at hp
  ·exact C0e h hp
  ·cases hp
 | sliceL k x lo hi =>
  simp only[prim]at hp
  split at hp
  ·split at hp
   ·next rows H1 hf =>
    have h1:=C0e h hf
    repeat' split at hp
    all_goals (try cases hp)
    exact h1
   ·cases hp
  ·cases hp
 | load k x =>
  cases k <;> simp only[prim]at hp <;> (repeat' split at hp) <;> first
   | (cases hp;done)
   | (simp only[Za,Zf]at hp;exact hp.2▸h)
 | cut k x hi r =>
  simp only[prim]at hp
  repeat' split at hp
  all_goals first
   | (cases hp;done)
   | skip
  simp only[Za,Zf]at hp
  obtain⟨_,rfl⟩:=hp
  exact(h.setTriv _ .dead (fun _=>trivial)).setNew _ (by omega) _
 | build z parts =>
  simp only[prim,Zs]at hp
  obtain⟨ps,_,hp⟩:=hp
  exact A3y hp▸h
 | xlits k z n parts =>
  simp only[prim,Zs]at hp
  obtain⟨ps,_,hp⟩:=hp
  exact A3y hp▸h
 | lits k z n parts own =>
  simp only[prim,Zs]at hp
  obtain⟨ps,_,rows,_,hp⟩:=hp
  repeat' split at hp
  all_goals (try cases hp)
  ·exact h
  ·exact hset1
 | _ =>
  simp only[prim]at hp
  first
  | exact A3y hp▸h
  | (repeat' split at hp) <;> first
    | (cases hp;done)
    | (simp only[Za,Zf]at hp;first|exact hp.2▸h|exact hp.2▸hset1|exact hp.2▸h.setTriv _ _ (fun _=>trivial)|exact hp.2▸(h.setTriv _ _ (fun _=>trivial)).setNew _ (by omega) _)
    | exact A3y hp▸h
    | skip
def B4z:List Nat→Bool
 | []=>true
 | x::l=>!l.contains x&&B4z l
theorem A7z:∀{l:List Nat},B4z l=true→l.Nodup
 | [],_=>.nil
 | x::l,h=>by
  simp only[B4z,Zc,Z05,Z3g,decide_eq_false_iff_not]at h
  exact Z1c.2 ⟨h.1,A7z h.2⟩
def B4x (ops:Array Oper):Option (Nat×Bool)→Option (Nat×Bool)→Bool
 | none,none=>true
 | some (j,want),some (t,want')=>want==want' && (match ops[j]? with|some q=>q.dst==some t|none=>false)
 | _,_=>false
def C6f (l m:List Nat):Bool:=l.all fun x=>!m.contains x
def A7l (P:Program) (ops:Array Oper) (nt:Nat) (ao:AOper):Bool :=
 match ops[ao.src]? with
 | none=>false
 | some o=>D1 P o.op ao.op&&E1e ao.op&&o.dst==ao.dst&&(match ao.dst with|some d=>decide (d<nt)|none=>true)&&B4x ops o.guard ao.guard&&C6f (F6 ao.op) ao.hid
def masks (ops:List Oper) (acc:List Nat):List Nat :=
 match ops with
 | []=>acc
 | o::l=>masks l (acc++[o.after.toList.foldl (fun m e=>if Region.binds .any e then m ||| 2 ^ e.on ||| acc.getD e.on 0 else m) 0])
def A00 (op:AOp):Bool:=(N4 op).isSome||(match op with|.call ..=>true|_=>false)||writes op
def isR (op:AOp):Bool:=(N4 op).isSome
def O5:Opd→List Nat
 | .t i=>[i]
 | _=>[]
def B6f:Option Opd→List Nat
 | some x=>O5 x
 | none=>[]
def A20:AOp→List Nat
 | .mv x|.mvz x|.storeN x _ _|.box _ x _|.load _ x|.nilck x|.un _ x|.conv _ x|.idc x|.nilq _ x|.fieldAddr _ x|.field _ _ x|.range x _|.rangeM x _|.next x|.entry x|.extract x _|.lenS x|.lenL x|.lenM x|.clear _ _ x=>O5 x
 | .pick x y z|.mupd _ _ x y z=>O5 x++O5 y++O5 z
 | .nil _ _|.alloc _ _ _|.mkmap _=>[]
 | .build _ ps=>ps.flatMap fun q=>O5 q.2.2
 | .lits _ _ _ ps _|.xlits _ _ _ ps=>ps.flatMap fun q=>O5 q.2
 | .store _ x y|.bin _ x y|.beq _ x y|.cmp _ _ x y|.idxS _ x y|.idxA _ _ x y|.idxStr x y|.idxAgg _ _ _ x y|.lookup _ _ _ x y _|.append _ _ x y _ _|.copy _ x y|.mkslice _ _ _ x y _=>O5 x++O5 y
 | .mkfn _ x y=>x.flatMap O5++y.flatMap O5
 | .sliceS x l h|.sliceL _ x l h|.sliceQ _ x l h|.sub _ x l h=>O5 x++B6f l++B6f h
 | .mm _ xs=>xs.flatMap O5
 | .cut _ x h _|.sliceA _ _ x h=>O5 x++B6f h
 | .call f aq _ _=>O5 f++aq.flatMap O5
def A9r (o:AOper):List Nat:=A20 o.op++(match o.guard with|some (t,_)=>[t]|none=>[])++o.hida.map (·.1)
def D2j (l m:List Nat):Bool:=l.all fun x=>m.contains x
def C1b (a x:AOper):Bool :=
 (match a.dst with|some d=>!(A9r x).contains d&&!(x.dst==some d)|none=>true)&&(match x.dst with|some d=>!(A9r a).contains d|none=>true)
def A9p (a x:AOper) (n:Nat):Bool :=
 C1b a x &&
 (match writes a.op,writes x.op with
  | false,false=>(!A00 a.op||D2j (F6 x.op) a.hid)&&(!A00 x.op||D2j (F6 a.op) x.hid)
  | true,false=>if isR x.op then ZH n x.inc else !A00 x.op&&D2j (F6 x.op) a.hid
  | false,true=>!A00 a.op&&D2j (F6 a.op) x.hid
  | true,true=>false)
def A3z (ms:List Nat) (a:AOper):Nat→List AOper→Bool
 | _,[]=>true
 | n,x::l=>((ms.getD x.src 0).testBit a.src||A9p a x n)&&A3z ms a (if writes x.op then n+1 else n) l
def A7c (ms:List Nat):List AOper→Bool
 | []=>true
 | a::l=>A3z ms a (if writes a.op then 1 else 0) l&&A7c ms l
def A8t (o:AOper):Bool:=(writes o.op||o.hida.isEmpty)&&C6f (F6 o.op) o.hid
def B7e (ops:List Oper):Bool:=ops.zipIdx.all fun x=>x.1.after.toList.all fun e=>!Region.binds .any e||decide (e.on<x.2)
def D1d (ops:Array Oper) (l:List AOper):Bool :=
 B7e ops.toList&&A7c (masks ops.toList []) l&&l.all A8t&&B4z (l.map (·.src))&&l.length==ops.size
def A6x:ACode→Bool
 | .seq a b|.cond _ a b=>A6x a&&A6x b
 | .block _ a|.loop _ _ a|.scope a|.loopM _ _ _ _ _ _ a=>A6x a
 | .rangeFunc ..=>false
 | _=>true
def B2g (P:Program) (nt:Nat) (ops:Array Oper) (draw draw':Bool) (nres:Nat) (l:List AOper):Bool :=
 draw==draw' && (l.all fun o=>A7l P ops nt o)&&((l.flatMap fun o=>F6 o.op).all fun r=>decide (r<nres))&&B4z (l.flatMap fun o=>F6 o.op) &&
 (if draw then D1d ops l else l.map (·.src)==List.range ops.size) &&
 ((l.flatMap fun o=>o.hid).all fun r=>decide (r<nres))&&((l.all fun o=>!B7s o.op)||l.all fun o=>o.hid.isEmpty)
def B3n (nt:Nat) (ops:Array Oper) (x:Opd) (nx ok:Nat):Bool:=ops.size==2&&(match ops[0]?,ops[1]? with
 | some o0,some o1=>o0.guard.isNone&&o1.guard.isNone&&(match o0.op with|.next y false=>D5 y x|_=>false)&&o0.dst==some nx &&
  (match o1.op with|.extract (.tmp t) 0=>t==nx|_=>false)&&o1.dst==some ok&&decide (nx<nt)&&decide (ok<nt)
 | _,_=>false)
def I8 (P:Program) (nt:Nat):Code→ACode→Bool
 | .skip,.skip=>true
 | .label _,.skip=>true
 | .region _ ops d,.region d' nres _ l _=>B2g P nt ops d d' nres l
 | .seq a b,.seq a' b'=>I8 P nt a a' && I8 P nt b b'
 | .cond c a b,.cond c' a' b'=>D5 c c' && I8 P nt a a' && I8 P nt b b'
 | .block id a,.block id' a'=>id==id' && I8 P nt a a'
 | .loop a,.loop _ _ a'=>I8 P nt a a'
 | .loop (.seq (.region _ ops false) c),.loopM x nx ok _ _ _ c'=>B3n nt ops x nx ok&&I8 P nt c c'
 | .rangeFunc f ps aq bd,.rangeFunc f' ps' _ as' bd'=>D5 f f' && ps.toList==ps' && (ps'.all fun t=>decide (t<nt))&&A6x as' && A6x bd' && I8 P nt aq as' && I8 P nt bd bd'
 | .scope a,.scope a'=>I8 P nt a a'
 | .exit id,.exit id'=>id==id'
 | .ret,.ret=>true
 | _,_=>false
def A6m (P:Program):ResultVar→ARes→Bool
 | .tmp t,.tmp t'=>t==t'
 | .cell a t,.cell a' k=>a==a' && A55 P t k&&(match k with|some 0=>false|_=>true)
 | _,_=>false
def A0t (P:Program):List ResultVar→List ARes→Bool
 | [],[]=>true
 | x::l,y::m=>A6m P x y&&A0t P l m
 | _,_=>false
def C4 (P:Program) (fn:Func) (af:AFunc):Bool :=
 fn.name != "runtime.NumGoroutine" && (match fn.body with|some c=>I8 P fn.ntmps c af.body|none=>false)&&decide ((if ZH 1000 af.nargs then af.nargs-1000 else af.nargs)≤fn.ntmps)&&A0t P fn.results.toList af.results
def C4j (P:Program) (T:Tab):Prop:=∀ i af,T i=some af→∃ fn,P.funcs[i]? = some fn∧C4 P fn af=true
theorem D1s {g:Ghost} {N b:Nat} (hN:∀i,N≤i→g.L i=.none) (h:g.L b≠.none):b<N:= by
 rcases Z23 b N with h1|h1
 ·exact h1
 ·exact absurd (hN b h1) h
theorem V.bd {g:Ghost} {N:Nat} (hN:∀i,N≤i→g.L i=.none) {x:AV} {v:Value} (h:V g x v):x.bd N=true:= by
 have nlt:∀{b:Nat},g.L b≠.none→Nat.blt b N=true:=fun {b} hb=>by
  have:=D1s hN hb
  simpa [Z4s] using this
 have lst:∀{l:List AV},(∀ (j:Nat) x,l[j]? = some x→x.bd N=true)→bdL N l=true:=fun {l} hl=>by
  rw[A2l];intro x hx
  obtain⟨j,hj,rfl⟩:=ZX.1 hx
  exact hl j _ (Zm hj)
 induction h with
 | den x v h=>cases h <;> simp[AV.bd]
 | ptr b o β e h=>simpa only[AV.bd] using nlt (by rw[h];simp)
 | itr b β h=>simpa only[AV.bd] using nlt (by rw[h];simp)
 | eptr b n i o k v p h hle hp=>simpa only[AV.bd] using nlt (by rw[h];simp)
 | cptr cs a vs hs h1 h2 h3 ih=>simpa only[AV.bd] using lst ih
 | asl b n k v0 v h hle h1 hn=>simpa only[AV.bd] using nlt (by rw[h];simp)
 | csl b o k n β c e h hc=>simpa only[AV.bd] using nlt (by rw[h];simp)
 | csa b o k n kk c v x h hc hle hp=>simpa only[AV.bd] using nlt (by rw[h];simp)
 | mp b β h=>simpa only[AV.bd] using nlt (by rw[h];simp)
 | fn f f' a c a' c' hf l1 l2 h1 h2 ih1 ih2 =>
  cases f with
  | yield l =>
   obtain⟨β,hl,_⟩:=hf
   simp only[AV.bd,Zc]
   exact⟨⟨nlt (by rw[hl];simp),lst ih1⟩,lst ih2⟩
  | _=>simp only[AV.bd,Zc];exact⟨lst ih1,lst ih2⟩
 | xseq k rows a c vs hs hcap hlen h1 h2 h3 ih =>
  simp only[AV.bd,C6g]
  intro r hr x hx
  obtain⟨i,hi,rfl⟩:=ZX.1 hr
  obtain⟨j,hj,rfl⟩:=ZX.1 hx
  exact ih i _ j _ (Zm hi) (Zm hj)
 | agg cs vs hl h h1 ih=>simpa only[AV.bd] using lst ih
 | tup cs vs hl h ih=>simpa only[AV.bd] using lst ih
def A1s (N:Nat) (g:Ghost):Ghost:=⟨fun i=>if i<N then g.L i else .none,g.Φ,g.gl⟩
theorem C09 {N:Nat} {g:Ghost} {i:Nat} (h:i<N):(A1s N g).L i=g.L i:= by simp[A1s,h]
theorem C4p {N:Nat} {g:Ghost} {i:Nat} (h:N≤i):(A1s N g).L i=.none:= by simp[A1s];omega
theorem V.cut {g:Ghost} {N:Nat} {x:AV} {v:Value} (h:V g x v) (hb:x.bd N=true):V (A1s N g) x v:= by
 have cl:∀{b:Nat} {q:GB},Nat.blt b N=true→g.L b=q→(A1s N g).L b=q:=fun {b q} hlt hq=>by
  rw[Z4s]at hlt
  rw[C09 hlt,hq]
 have lst:∀{l:List AV},bdL N l=true→∀ (j:Nat) x,l[j]? = some x→x.bd N=true:=fun {l} hl j x hj=>by
  rw[A2l]at hl
  exact hl x (Zw hj)
 induction h with
 | den x v h=>exact .den _ _ h
 | ptr b o β e h=>exact .ptr b o β e (cl (by simpa only[AV.bd] using hb) h)
 | itr b β h=>exact .itr b β (cl (by simpa only[AV.bd] using hb) h)
 | eptr b n i o k v p h hle hp=>exact .eptr b n i o k v p (cl (by simpa only[AV.bd] using hb) h) hle hp
 | cptr cs a vs hs h1 h2 h3 ih=>exact .cptr cs a vs hs h1 (fun j x hj=>ih j x hj (lst (by simpa only[AV.bd] using hb) j x hj)) h3
 | asl b n k v0 v h hle h1 hn=>exact .asl b n k v0 v (cl (by simpa only[AV.bd] using hb) h) hle h1 hn
 | csl b o k n β c e h hc=>exact .csl b o k n β c e (cl (by simpa only[AV.bd] using hb) h) hc
 | csa b o k n kk c v x h hc hle hp=>exact .csa b o k n kk c v x (cl (by simpa only[AV.bd] using hb) h) hc hle hp
 | mp b β h=>exact .mp b β (cl (by simpa only[AV.bd] using hb) h)
 | fn f f' a c a' c' hf l1 l2 h1 h2 ih1 ih2 =>
  have hb':B8r (A1s N g) f f'∧bdL N a=true∧bdL N c=true:= by
   cases f with
   | yield l =>
    obtain⟨β,hl,hf'⟩:=hf
    simp only[AV.bd,Zc]at hb
    exact⟨⟨β,cl hb.1.1 hl,hf'⟩,hb.1.2,hb.2⟩
   | func i=>simp only[AV.bd,Zc]at hb;exact⟨hf,hb.1,hb.2⟩
   | _=>exact hf.elim
  exact .fn f f' a c a' c' hb'.1 l1 l2 (fun j x hj=>ih1 j x hj (lst hb'.2.1 j x hj)) (fun j x hj=>ih2 j x hj (lst hb'.2.2 j x hj))
 | xseq k rows a c vs hs hcap hlen h1 h2 h3 ih =>
  simp only[AV.bd,C6g]at hb
  exact .xseq k rows a c vs hs hcap hlen h1 (fun i r j x hi hj=>ih i r j x hi hj (hb r (Zw hi) x (Zw hj))) h3
 | agg cs vs hl h h1 ih=>exact .agg cs vs hl (fun j x hj=>ih j x hj (lst (by simpa only[AV.bd] using hb) j x hj)) h1
 | tup cs vs hl h ih=>exact .tup cs vs hl (fun j x hj=>ih j x hj (lst (by simpa only[AV.bd] using hb) j x hj))
section
variable {MC:Nat→Code→ACode→Prop} {P:Program} {B0:Nat}
theorem D7.cut {g:Ghost} {N:Nat} {s:C2} {tmps:Array Value} (h:D7 g s tmps) (hb:∀t v,sget s t=some v→v.bd N=true):D7 (A1s N g) s tmps :=
 fun t v hv=>let ⟨x,hx,hV⟩:=h t v hv;⟨x,hx,hV.cut (hb t v hv)⟩
theorem A0c.cut {g:Ghost} {w:World} {N:Nat} {o:AO} {gb:GB} (h:A0c MC P g w o gb) (hb:o.bdP N):A0c MC P (A1s N g) w o gb:= by
 cases o with
 | dead=>exact trivial
 | cells cs =>
  cases gb <;> try exact h.elim
  obtain⟨c,h1,h2,h3,h4⟩:=h
  simp only[AO.bdP,A2l]at hb
  exact⟨c,h1,h2,fun j x hj=>let ⟨v,hv,hV,ho⟩:=h3 j x hj;⟨v,hv,hV.cut (hb x (Zw hj)),ho⟩,h4⟩
 | arr k pub rows=>cases gb <;> exact h
 | stk k rows anc=>cases gb <;> exact h
 | map es =>
  cases gb <;> try exact h.elim
  obtain⟨en,clock,h1,h2,h3,hborn⟩:=h
  simp only[AO.bdP,B98]at hb
  exact⟨en,clock,h1,h2,fun i e hi=>let ⟨m,hm,a,b⟩:=h3 i e hi;⟨m,hm,a.cut (hb e (Zw hi)).1,b.cut (hb e (Zw hi)).2⟩,hborn⟩
 | iter s pos=>cases gb <;> exact h
 | mit m n seen =>
  cases gb <;> try exact h.elim
  obtain⟨βm,h1,h2⟩:=h
  have hb:m<N:=hb
  exact⟨βm,by simp only[A1s,if_pos hb];exact h1,h2⟩
 | loop f s ps assign body busy pend =>
  cases gb <;> try exact h.elim
  obtain⟨r,h1,h2,h3,h4,h5,h6⟩:=h
  exact⟨r,h1,h2,h3,h4,h5.cut hb,h6⟩
 | ro o=>cases gb <;> exact h.elim
theorem A0c.bd {g:Ghost} {w:World} {N:Nat} (hN:∀i,N≤i→g.L i=.none) {o:AO} {gb:GB} (h:A0c MC P g w o gb):o.bdP N:= by
 cases o with
 | dead=>exact trivial
 | cells cs =>
  cases gb <;> try exact h.elim
  obtain⟨c,h1,h2,h3,h4⟩:=h
  simp only[AO.bdP,A2l]
  intro x hx
  obtain⟨j,hj,rfl⟩:=ZX.1 hx
  obtain⟨v,_,hV,_⟩:=h3 j _ (Zm hj)
  exact hV.bd hN
 | arr k pub rows=>exact trivial
 | stk k rows anc=>exact trivial
 | map es =>
  cases gb <;> try exact h.elim
  obtain⟨en,clock,h1,h2,h3,hborn⟩:=h
  simp only[AO.bdP,B98]
  intro e he
  obtain⟨j,hj,rfl⟩:=ZX.1 he
  obtain⟨m,_,h4,h5⟩:=h3 j _ (Zm hj)
  exact⟨h4.bd hN,h5.bd hN⟩
 | iter s pos=>exact trivial
 | mit m n seen =>
  cases gb <;> try exact h.elim
  obtain⟨βm,h1,h2⟩:=h
  show m<N
  rcases Z23 m N with c|c
  ·exact c
  ·rw[hN m c]at h1;cases h1
 | loop f s ps assign body busy pend =>
  cases gb <;> try exact h.elim
  obtain⟨r,h1,h2,h3,h4,h5,h6⟩:=h
  intro t v hv
  obtain⟨x,_,hV⟩:=h5 t v hv
  exact hV.bd hN
 | ro o=>cases gb <;> exact h.elim
theorem D6p {o:AO} {N:Nat} (h:o.rd.bdP N):o.bdP N:= by cases o <;> exact h
theorem D9c {o:AO} {N:Nat} (h:o.bdP N):o.rd.bdP N:= by cases o <;> exact h
theorem Rel.bd {H:A2} {g:Ghost} {w:World} (hR:Rel MC P B0 H g w) {i:Nat} {o:AO} (h:H[i]? = some o):o.bdP H.length :=
 D6p ((hR.box i o h).bd hR.nolive)
theorem ScOk.enter {c:Sc} {H:A2} {g:Ghost} {w:World} (h:ScOk c H) (hR:Rel MC P B0 H g w):ScOk ⟨H.length,c.cur::c.outer⟩ H where
 cur:=Zn _
 out:=fun B hB=>by
  rcases Zu.1 hB with rfl|hB
  ·exact h.cur
  ·exact Z01 (h.out B hB) h.cur
 bd:=fun B hB i hi o ho=>by
  rcases Zu.1 hB with rfl|hB
  ·exact hR.bd ho
  ·exact h.bd B hB i hi o ho
theorem ScOk.leave {c:Sc} {B:Nat} {H:A2} (h:ScOk ⟨B,c.cur::c.outer⟩ H) (hout:∀D∈c.outer,D≤c.cur):ScOk c H where
 cur:=Z01 (h.out c.cur (by simp)) h.cur
 out:=hout
 bd:=fun D hD=>h.bd D (by simp at hD ⊢; exact .inr hD)
theorem ScOk.take {c:Sc} {H:A2} (h:ScOk c H) {N:Nat} (hN:c.cur≤N):ScOk c (H.take N) where
 cur:= by have:=h.cur;simp;omega
 out:=h.out
 bd:=fun B hB i hi o ho=>h.bd B hB i hi o (by
  rw[Z1v]at ho
  split at ho
  ·exact ho
  ·cases ho)
theorem ScOk.app {c:Sc} {H:A2} (h:ScOk c H) (K:A2):ScOk c (H++K) where
 cur:= by have:=h.cur;simp;omega
 out:=h.out
 bd:=fun B hB i hi o ho=>by
  have h1:B≤c.cur:= by rcases Zu.1 hB with rfl|hB;exact Zn _;exact h.out B hB
  have h2:=h.cur
  rw[ZF (by omega)]at ho
  exact h.bd B hB i hi o ho
def Unborn (H:A2) (g g':Ghost):Prop:=∀ i,i<H.length→g.L i=.none→g'.L i=.none
theorem Unborn.refl (H:A2) (g:Ghost):Unborn H g g:=fun _ _ h=>h
theorem Unborn.trans {H H1:A2} {g g1 g2:Ghost} (h:Unborn H g g1) (k:Unborn H1 g1 g2) (hl:H.length≤H1.length):Unborn H g g2 :=
 fun i hi hn=>k i (by omega) (h i hi hn)
theorem Rel.back {H H1 H2 H3:A2} {g g2:Ghost} {w w2:World} (hR:Rel MC P B0 H g w) (hl:H1.length=H.length)
  (h1:∀(i:Nat) (o1:AO),H1[i]? = some o1→H[i]? = some o1∨o1.isW=false)
  (hE:Ext H1 g w H2 g2 w2) (hR2:Rel MC P B0 H2 g2 w2) (hN:H.length≤H3.length) (hN2:H3.length≤H2.length)
  (h3:∀(i:Nat) (o3:AO),H3[i]? = some o3→(H2[i]? = some o3∧o3.bdP H3.length∧(H1[i]? = H[i]?∨H.length≤i))∨(H[i]? = some o3∧(∃ o1,H1[i]? = some o1∧o1.isW=false)∧∀ j oj β,H1[j]? = some oj→oj.isW=true→(g.L i).blk=some β→(g.L j).blk=some β→False))
  (hinj:∀i j β,i<H3.length→j<H3.length→(g2.L i).blk=some β→(g2.L j).blk=some β→i=j∨Shr H3 i j∨Shr H3 j i) :
  Rel MC P B0 H3 (A1s H3.length g2) w2∧Ext H g w H3 (A1s H3.length g2) w2:= by
 have hsame:∀i o,H[i]? = some o→(∃ o1,H1[i]? = some o1∧o1.isW=false)→(∀ j oj β,H1[j]? = some oj→oj.isW=true→(g.L i).blk=some β→(g.L j).blk=some β→False)→g.L i=.none∨(g2.L i=g.L i∧∀ β,(g.L i).blk=some β→w2.heap[β]? = w.heap[β]?∧∀ off,g2.Φ β off=g.Φ β off):= by
  intro i o ho ⟨o1,ho1,hw1⟩ hno
  by_cases hn:g.L i=.none
  ·exact .inl hn
  ·refine .inr ⟨hE.keep i o1 ho1 hw1 hn,fun β hb=>?_⟩
   obtain⟨_,hlt⟩:=hR.base i β hb
   refine hE.frame β hlt (fun j oj hj hw hbj=>?_)
   exact hno j oj β hj hw hb hbj
 have hle:g.le g2:=hE.le
 refine⟨⟨hR2.phi,?_,?_,?_,?_,hR2.b0⟩,⟨hN,hE.os,hE.tape,hE.output,hE.size,⟨?_,hE.le.Φ⟩,?_,?_,?_,?_⟩⟩
 ·intro i β hb
  simp only[A1s]at hb
  split at hb
  ·exact hR2.base i β hb
  ·simp[GB.blk]at hb
 ·intro i j β hi hj
  simp only[A1s]at hi hj
  split at hi <;> split at hj
  ·next e1 e2=>exact hinj i j β e1 e2 hi hj
  all_goals simp[GB.blk]at hi hj
 ·intro i o3 ho
  have hi:=(Ze.1 ho).1
  rw[C09 hi]
  rcases h3 i o3 ho with⟨h4,h5,_⟩|⟨h4,h5,h8⟩
  ·exact(hR2.box i o3 h4).cut (D9c h5)
  ·rcases hsame i o3 h4 h5 h8 with h6|⟨h6,h7⟩
   ·have hb:=hR.box i o3 h4
    rw[h6]at hb
    generalize hq:o3.rd=q at hb ⊢
    cases q <;> first|exact hb.elim|exact trivial
   ·rw[h6]
    have hb:=(hR.box i o3 h4).mono hle h7
    exact hb.cut (D9c (by
     have:=hR.bd h4
     have hb3:=(hR.box i o3 h4)
     exact D6p (hb3.bd (N:=H3.length) (fun j hj=>hR.nolive j (by omega)))))
 ·intro i hi;exact C4p hi
 ·intro i
  by_cases hi:i<H3.length
  ·rw[C09 hi];exact hle.L i
  ·rw[C4p (by omega),hR.nolive i (by omega)];trivial
 ·intro i β hb
  simp only[A1s]at hb
  split at hb
  ·rcases hE.blk i β hb with h4|h4|⟨j,o,hj,hw,hbj⟩
   ·exact .inl h4
   ·exact .inr (.inl h4)
   ·rcases h1 j o hj with h5|h5
    ·exact .inr (.inr ⟨j,o,h5,hw,hbj⟩)
    ·rw[hw]at h5;cases h5
  ·simp[GB.blk]at hb
 ·intro i o ho hw hn
  have hi:=(Ze.1 ho).1
  rw[C09 (by omega)]
  have hi1:i<H1.length:= by omega
  have ho1:=Zm hi1
  refine hE.keep i _ ho1 ?_ hn
  rcases h1 i _ ho1 with h4|h4
  ·rw[ho]at h4;cases h4;exact hw
  ·exact h4
 ·intro i o' ho' hw'
  rcases h3 i o' ho' with⟨h4,h5,h6⟩|⟨h4,h5⟩
  ·rcases hE.wit i o' h4 hw' with h7|⟨o1,h7,h8⟩
   ·exact .inl h7
   ·rcases h6 with h6|h6
    ·exact .inr ⟨o1,h6▸h7,h8⟩
    ·have:=(Ze.1 h7).1;omega
  ·exact .inr ⟨o',h4,hw'⟩
 ·intro β hβ hn
  refine hE.frame β hβ (fun i o hi hw hb=>?_)
  rcases h1 i o hi with h4|h4
  ·exact hn i o h4 hw hb
  ·rw[hw]at h4;cases h4
theorem D98 {g:Ghost} {N:Nat} (h:∀i,N≤i→g.L i=.none):A1s N g=g:= by
 cases g with
 | mk L Φ =>
  simp only[A1s,Ghost.mk.injEq,and_true]
  funext i
  split
  ·rfl
  ·exact(h i (by omega)).symm
theorem A3a (H:A2):∀l,(hide H l).length=H.length
 | []=>rfl
 | b::l=>by simp[hide,hset,A3a H l]
theorem A29 (H:A2) (i:Nat):∀l,(hide H l)[i]? = if i∈l then (H[i]?).map (fun _=>AO.dead) else H[i]?
 | []=>by simp[hide]
 | b::l=>by
  simp only[hide,hset,ZJ,A3a,A29 H i l,Zu]
  by_cases e:b=i
  ·subst e
   by_cases hb:b<H.length
   ·simp[hb]
   ·simp only[if_true,hb,if_false]
    have:H[b]? = none:= by simp;omega
    simp[this]
  ·have e':¬ i=b:=fun h=>e h.symm
   simp[e,e']
theorem A03 (G H:A2):∀l,(unhide G H l).length=H.length
 | []=>rfl
 | b::l=>by
  simp only[unhide]
  split
  ·simp[hset,A03 G H l]
  ·exact A03 G H l
theorem A58 (G H:A2) (hl:G.length≤H.length) (i:Nat):∀l,(unhide G H l)[i]? = if i∈l∧i<G.length then G[i]? else H[i]?
 | []=>by simp[unhide]
 | b::l=>by
  simp only[unhide]
  split
  ·next o ho =>
   have hb:=(Ze.1 (show G[b]? = some o from ho)).1
   simp only[hset,ZJ,A03,A58 G H hl i l,Zu]
   by_cases e:b=i
   ·subst e
    have:b<H.length:= by omega
    have ho':G[b]? = some o:=ho
    simp only[if_true,this,true_or,hb,and_self,ho']
   ·have e':¬ i=b:=fun h=>e h.symm
    simp[e,e']
  ·next hn =>
   have hb:G.length≤b:= by simpa [hget] using hn
   rw[A58 G H hl i l]
   by_cases e:i=b
   ·subst e
    have:¬ i<G.length:= by omega
    simp[this]
   ·simp[e]
theorem A7v {H K:A2} {b:Nat} (h:K[b]? = H[b]?):hstk K b=hstk H b:= by unfold hstk hget;rw[h]
theorem D3g {H:A2} {b:Nat} {x:Nat×List (List AV)×List Nat} (h:hstk H b=some x):b<H.length:= by
 obtain⟨o,ho,_⟩:=C1t h
 exact(Ze.1 ho).1
theorem B7p {H:A2} {l:List Nat} {b:Nat} (h:b ∉ l):hstk (Am.hide H l) b=hstk H b:=A7v (by rw[A29,if_neg h])
theorem Shr.some {H:A2} {i j:Nat} (h:Shr H i j):(∃ x,hstk H i=some x)∧∃ x,hstk H j=some x:= by
 obtain⟨_,_,_,_,_,_,h1,_,h3,_⟩:=h
 exact⟨⟨_,h3⟩,⟨_,h1⟩⟩
theorem Shr.hide {H:A2} {l:List Nat} (hl:∀b∈l,hstk H b=none) {i j:Nat} (h:Shr H i j):Shr (Am.hide H l) i j:= by
 obtain⟨⟨x,hx⟩,⟨y,hy⟩⟩:=h.some
 exact h.get (B7p fun hm=>by rw[hl _ hm]at hx;cases hx) (B7p fun hm=>by rw[hl _ hm]at hy;cases hy)
theorem Shr.app {H K:A2} {i j:Nat} (h:Shr H i j):Shr (H++K) i j:= by
 obtain⟨⟨x,hx⟩,⟨y,hy⟩⟩:=h.some
 exact h.get (A7v (ZF (D3g hx))) (A7v (ZF (D3g hy)))
theorem C0j (H:A2) (b:Nat):hstk (H.map AO.toRo) b=hstk H b:= by
 unfold hstk hget
 rw[ZN]
 cases H[b]? with
 | none=>rfl
 | some o=>cases o <;> rfl
theorem Rel.hide {H:A2} {g:Ghost} {w:World} (hR:Rel MC P B0 H g w) (l:List Nat) (hl:∀b∈l,hstk H b=none):Rel MC P B0 (Am.hide H l) g w where
 phi:=hR.phi
 base:=hR.base
 inj:=fun i j β hi hj=>(hR.inj i j β hi hj).imp id (Z43 (Shr.hide hl) (Shr.hide hl))
 box:=fun i o ho=>by
  rw[A29]at ho
  split at ho
  ·cases hq:H[i]? with
   | none=>simp[hq]at ho
   | some o'=>simp[hq]at ho;subst ho;exact trivial
  ·exact hR.box i o ho
 nolive:=fun i hi=>hR.nolive i (by rwa [A3a]at hi)
 b0:=hR.b0
theorem ScOk.hide {c:Sc} {H:A2} (h:ScOk c H) (l:List Nat):ScOk c (Am.hide H l) where
 cur:= by rw[A3a];exact h.cur
 out:=h.out
 bd:=fun B hB i hi o ho=>by
  rw[A29]at ho
  split at ho
  ·cases hq:H[i]? with
   | none=>simp[hq]at ho
   | some o'=>simp[hq]at ho;subst ho;exact trivial
  ·exact h.bd B hB i hi o ho
theorem ScOk.unhide {c:Sc} {H H2:A2} (h:ScOk c H) (h2:ScOk c H2) (hl:H.length≤H2.length) (l:List Nat):ScOk c (Am.unhide H H2 l) where
 cur:= by rw[A03];exact h2.cur
 out:=h.out
 bd:=fun B hB i hi o ho=>by
  rw[A58 _ _ hl]at ho
  split at ho
  ·exact h.bd B hB i hi o ho
  ·exact h2.bd B hB i hi o ho
theorem Rel.unhide {H H2:A2} {g g2:Ghost} {w w2:World} (hR:Rel MC P B0 H g w) (l:List Nat) (hl:∀b∈l,hstk H b=none) (hU:∀b∈l,b<H.length→g.L b=.none→g2.L b=.none) (hE:Ext (Am.hide H l) g w H2 g2 w2) (hR2:Rel MC P B0 H2 g2 w2) :
  Rel MC P B0 (Am.unhide H H2 l) g2 w2∧Ext H g w (Am.unhide H H2 l) g2 w2:= by
 have hlen:H.length≤H2.length:= by have:=hE.len;rwa [A3a]at this
 have e:A1s (Am.unhide H H2 l).length g2=g2:= by rw[A03];exact D98 hR2.nolive
 have:=hR.back (H1:=Am.hide H l) (H3:=Am.unhide H H2 l) (A3a _ _) ?_ hE hR2 (by rw[A03];exact hlen) (by rw[A03];exact Zn _) ?_ ?_
 ·rw[e]at this;exact this
 ·intro i o1 h1
  rw[A29]at h1
  split at h1
  ·cases hq:H[i]? with
   | none=>simp[hq]at h1
   | some o'=>simp[hq]at h1;subst h1;exact .inr Z
  ·exact .inl h1
 ·intro i o3 h3
  rw[A58 _ _ hlen]at h3
  split at h3
  ·next hi =>
   right
   refine⟨h3,⟨.dead,by rw[A29,if_pos hi.1,h3];rfl,Z⟩,fun j oj β hj hw hb hbj=>?_⟩
   rcases hR.inj i j β hb hbj with rfl|e|e
   ·rw[A29,if_pos hi.1,h3]at hj
    cases hj;cases hw
   ·obtain⟨⟨x,hx⟩,_⟩:=e.some
    rw[hl i hi.1]at hx;cases hx
   ·obtain⟨_,x,hx⟩:=e.some
    rw[hl i hi.1]at hx;cases hx
  ·next hi =>
   left
   refine⟨h3,?_,?_⟩
   ·rw[A03];exact hR2.bd h3
   ·by_cases hlt:i<H.length
    ·left;rw[A29,if_neg (fun hm=>hi ⟨hm,hlt⟩)]
    ·right;omega
 ·have out:∀i j β,(i∈l∧i<H.length)→(g2.L i).blk=some β→(g2.L j).blk=some β→i=j:= by
   intro i j β ⟨hi,hlt⟩ hb hbj
   have hn:g.L i≠.none:=fun hn=>by rw[hU i hi hlt hn]at hb;simp[GB.blk]at hb
   have hd:(Am.hide H l)[i]? = some .dead:= by rw[A29,if_pos hi,Zm hlt];rfl
   have hk:=hE.keep i _ hd Z hn
   rw[hk]at hb
   have hlt2:=(hR.base i β hb).2
   have alone:∀m,(g.L m).blk=some β→m=i:=fun m hm=>by
    rcases hR.inj m i β hm hb with e|e|e
    ·exact e
    ·obtain⟨_,x,hx⟩:=e.some
     rw[hl i hi]at hx;cases hx
    ·obtain⟨⟨x,hx⟩,_⟩:=e.some
     rw[hl i hi]at hx;cases hx
   rcases hE.blk j β hbj with h4|h4|⟨m,o,hm,hw,hbm⟩
   ·exact(alone j h4).symm
   ·omega
   ·have:=alone m hbm
    subst this
    rw[hd]at hm;cases hm;cases hw
  intro i j β _ _ hi hj
  by_cases c1:i∈l∧i<H.length
  ·exact .inl (out i j β c1 hi hj)
  ·by_cases c2:j∈l∧j<H.length
   ·exact .inl (out j i β c2 hj hi).symm
   ·have e1:hstk (Am.unhide H H2 l) i=hstk H2 i:=A7v (by rw[A58 _ _ hlen,if_neg c1])
    have e2:hstk (Am.unhide H H2 l) j=hstk H2 j:=A7v (by rw[A58 _ _ hlen,if_neg c2])
    exact(hR2.inj i j β hi hj).imp id (Z43 (fun q=>q.get e1 e2) (fun q=>q.get e2 e1))
theorem Rel.reserve {H:A2} {g:Ghost} {w:World} (hR:Rel MC P B0 H g w) (n:Nat):Rel MC P B0 (H++Zv n .dead) g w∧Ext H g w (H++Zv n .dead) g w:= by
 refine⟨⟨hR.phi,hR.base,fun i j β hi hj=>(hR.inj i j β hi hj).imp id (Z43 Shr.app Shr.app),?_,?_,hR.b0⟩,⟨by simp,Z,Z,Z,Zn _,Ghost.le_refl g,fun _ _ h=>.inl h,fun _ _ _ _ _=>rfl,?_,fun _ _ _=>⟨Z,fun _=>rfl⟩⟩⟩
 ·intro i o ho
  rcases Z23 i H.length with hi|hi
  ·rw[ZF hi]at ho;exact hR.box i o ho
  ·rw[ZI hi,Z4a]at ho
   split at ho
   ·cases ho;exact trivial
   ·cases ho
 ·intro i hi;exact hR.nolive i (by simp at hi;omega)
 ·intro i o ho hw
  rcases Z23 i H.length with hi|hi
  ·rw[ZF hi]at ho;exact .inr ⟨o,ho,hw⟩
  ·exact .inl (hR.nolive i hi)
theorem Rel.take {H H2:A2} {g g2:Ghost} {w w2:World} (hR:Rel MC P B0 H g w) (hE:Ext H g w H2 g2 w2) (hR2:Rel MC P B0 H2 g2 w2)
  (hbd:∀i,i<H.length→∀ o,H2[i]? = some o→o.bdP H.length) :
  Rel MC P B0 (H2.take H.length) (A1s H.length g2) w2∧Ext H g w (H2.take H.length) (A1s H.length g2) w2:= by
 have hlen:(H2.take H.length).length=H.length:= by have:=hE.len;simp;omega
 have:=hR.back (H1:=H) (H3:=H2.take H.length) Z (fun i o h=>.inl h) hE hR2 (by omega) (by have:=hE.len;omega) ?_ ?_
 ·rw[hlen]at this;exact this
 ·intro i o3 h3
  rw[Z1v]at h3
  split at h3
  ·next hi=>exact .inl ⟨h3,by rw[hlen];exact hbd i hi o3 h3,.inl Z⟩
  ·cases h3
 ·intro i j β h1 h2 hi hj
  have e:∀m,m<(H2.take H.length).length→hstk (H2.take H.length) m=hstk H2 m:=fun m hm=>A7v (by rw[Z1v,if_pos (by omega)])
  exact(hR2.inj i j β hi hj).imp id (Z43 (fun q=>q.get (e i h1) (e j h2)) (fun q=>q.get (e j h2) (e i h1)))
theorem C3f (o:AO):o.toRo.isW=false:= by cases o <;> rfl
theorem E1w (o:AO):o.toRo.rd=o.rd:= by cases o <;> rfl
theorem Rel.ro {H:A2} {g:Ghost} {w:World} (hR:Rel MC P B0 H g w):Rel MC P B0 (H.map AO.toRo) g w where
 phi:=hR.phi
 base:=hR.base
 inj:=fun i j β hi hj=>(hR.inj i j β hi hj).imp id (Z43 (fun q=>q.get (C0j H _) (C0j H _)) (fun q=>q.get (C0j H _) (C0j H _)))
 box:=fun i o ho=>by
  rw[ZN]at ho
  cases hq:H[i]? with
  | none=>simp[hq]at ho
  | some o'=>simp[hq]at ho;subst ho;rw[E1w];exact hR.box i o' hq
 nolive:=fun i hi=>hR.nolive i (by simpa using hi)
 b0:=hR.b0
theorem ScOk.ro {c:Sc} {H:A2} (h:ScOk c H):ScOk c (H.map AO.toRo) where
 cur:= by simpa using h.cur
 out:=h.out
 bd:=fun B hB i hi o ho=>by
  rw[ZN]at ho
  cases hq:H[i]? with
  | none=>simp[hq]at ho
  | some o' =>
   simp[hq]at ho;subst ho
   have:=h.bd B hB i hi o' hq
   cases o' <;> exact this
theorem Rel.backRo {H H2:A2} {g g2:Ghost} {w w2:World} (hR:Rel MC P B0 H g w) (hE:Ext (H.map AO.toRo) g w H2 g2 w2) (hR2:Rel MC P B0 H2 g2 w2) (hU:∀j,j<H.length→g.L j=.none→g2.L j=.none) :
  Rel MC P B0 H (A1s H.length g2) w2∧Ext H g w H (A1s H.length g2) w2:= by
 refine hR.back (H1:=H.map AO.toRo) (by simp) ?_ hE hR2 (Zn _) (by have:=hE.len;simpa using this) ?_ ?_
 ·intro i o1 h1
  rw[ZN]at h1
  cases hq:H[i]? with
  | none=>simp[hq]at h1
  | some o'=>simp[hq]at h1;subst h1;exact .inr (C3f o')
 ·intro i o3 h3
  refine .inr ⟨h3,⟨o3.toRo,by rw[ZN,h3];rfl,C3f o3⟩,fun j oj β hj hw _ _=>?_⟩
  rw[ZN]at hj
  obtain⟨o,_,rfl⟩:=Zz.mp hj
  rw[C3f]at hw;cases hw
 ·intro i j β h1 h2 hi hj
  have same:∀m,m<H.length→(g2.L m).blk=some β→(g.L m).blk=some β:=fun m hm hb=>by
   have hn:g.L m≠.none:=fun hn=>by rw[hU m hm hn]at hb;simp[GB.blk]at hb
   have hd:(H.map AO.toRo)[m]? = some (H[m]).toRo:= by rw[ZN,Zm hm];rfl
   rw[← hE.keep m _ hd (C3f _) hn];exact hb
  exact hR.inj i j β (same i h1 hi) (same j h2 hj)
end
abbrev FE:=Nat×List (List AV)×Value
inductive RC (g:Ghost):AV→Value→List FE→Prop
 | fresh (k:Nat) (rows:List (List AV)) (u:Value) (h:u.oneCell'=true):RC g (.fresh k rows) u [(k,rows,u)]
 | val (v:AV) (u:Value) (h:V g v u):RC g v u []
inductive RCs (g:Ghost):List AV→List Value→List FE→Prop
 | nil:RCs g [] [] []
 | cons (v:AV) (u:Value) (f:List FE) (l:List AV) (us:List Value) (fs:List FE) (h:RC g v u f) (k:RCs g l us fs):RCs g (v::l) (u::us) (f++fs)
inductive RV (g:Ghost):AV→Value→List FE→Prop
 | agg (cs:List AV) (vs:Array Value) (fs:List FE) (h:RCs g cs vs.toList fs) (h1:∀x∈vs.toList,x.oneCell'=true):RV g (.agg cs) (.agg vs) fs
 | one (v:AV) (u:Value) (fs:List FE) (hv:∀cs,v≠.agg cs) (h:RC g v u fs):RV g v u fs
inductive RVs (g:Ghost):List AV→List Value→List FE→Prop
 | nil:RVs g [] [] []
 | cons (v:AV) (u:Value) (f:List FE) (l:List AV) (us:List Value) (fs:List FE) (h:RV g v u f) (k:RVs g l us fs):RVs g (v::l) (u::us) (f++fs)
theorem RC.mono {g g':Ghost} (hg:g.le g') {v:AV} {u:Value} {fs:List FE} (h:RC g v u fs):RC g' v u fs:= by
 cases h with
 | fresh k rows _ h=>exact .fresh k rows u h
 | val _ _ h=>exact .val v u (h.mono hg)
theorem RCs.mono {g g':Ghost} (hg:g.le g') {v:List AV} {u:List Value} {fs:List FE} (h:RCs g v u fs):RCs g' v u fs:= by
 induction h with
 | nil=>exact .nil
 | cons v u f l us fs h k ih=>exact .cons v u f l us fs (h.mono hg) ih
theorem RV.mono {g g':Ghost} (hg:g.le g') {v:AV} {u:Value} {fs:List FE} (h:RV g v u fs):RV g' v u fs:= by
 cases h with
 | agg cs vs _ h h1=>exact .agg cs vs fs (h.mono hg) h1
 | one _ _ _ hv h=>exact .one v u fs hv (h.mono hg)
theorem RVs.mono {g g':Ghost} (hg:g.le g') {v:List AV} {u:List Value} {fs:List FE} (h:RVs g v u fs):RVs g' v u fs:= by
 induction h with
 | nil=>exact .nil
 | cons v u f l us fs h k ih=>exact .cons v u f l us fs (h.mono hg) ih
theorem RC.cut {g:Ghost} {N:Nat} {v:AV} {u:Value} {fs:List FE} (h:RC g v u fs) (hb:v.bd N=true):RC (A1s N g) v u fs:= by
 cases h with
 | fresh k rows _ h=>exact .fresh k rows u h
 | val _ _ h=>exact .val v u (h.cut hb)
theorem RCs.cut {g:Ghost} {N:Nat} {v:List AV} {u:List Value} {fs:List FE} (h:RCs g v u fs) (hb:bdL N v=true):RCs (A1s N g) v u fs:= by
 induction h with
 | nil=>exact .nil
 | cons v u f l us fs h k ih=>simp only[bdL,Zc]at hb;exact .cons v u f l us fs (h.cut hb.1) (ih hb.2)
theorem RV.cut {g:Ghost} {N:Nat} {v:AV} {u:Value} {fs:List FE} (h:RV g v u fs) (hb:v.bd N=true):RV (A1s N g) v u fs:= by
 cases h with
 | agg cs vs _ h h1=>exact .agg cs vs fs (h.cut (by simpa only[AV.bd] using hb)) h1
 | one _ _ _ hv h=>exact .one v u fs hv (h.cut hb)
theorem RVs.cut {g:Ghost} {N:Nat} {v:List AV} {u:List Value} {fs:List FE} (h:RVs g v u fs) (hb:bdL N v=true):RVs (A1s N g) v u fs:= by
 induction h with
 | nil=>exact .nil
 | cons v u f l us fs h k ih=>simp only[bdL,Zc]at hb;exact .cons v u f l us fs (h.cut hb.1) (ih hb.2)
def FE.blk (e:FE):Option Nat:=(GB.arr e.1 e.2.2).blk
section
variable {MC:Nat→Code→ACode→Prop} {P:Program} {B0:Nat}
def OkB (B0:Nat) (H0:A2) (g0:Ghost) (w0:World) (β:Nat):Prop:=B0≤β∧(w0.heap.size≤β∨Held H0 g0 β)
theorem OkB.back {H H1:A2} {g g1:Ghost} {w w1:World} (hE:Ext H g w H1 g1 w1) {β:Nat} (h:OkB B0 H1 g1 w1 β):OkB B0 H g w β:= by
 refine⟨h.1,?_⟩
 rcases h.2 with h2|⟨j,o,hj,hw,hb⟩
 ·exact .inl (Z01 hE.size h2)
 ·rcases hE.blk j β hb with h3|h3|h3
  ·rcases hE.wit j o hj hw with h4|⟨o2,h4,h5⟩
   ·rw[h4]at h3;simp[GB.blk]at h3
   ·exact .inr ⟨j,o2,h4,h5,h3⟩
  ·exact .inl h3
  ·exact .inr h3
theorem OkB.ofRo {H:A2} {g g1:Ghost} {w:World} {β:Nat} (h:OkB B0 (H.map AO.toRo) g1 w β):OkB B0 H g w β:= by
 refine⟨h.1,?_⟩
 rcases h.2 with h2|⟨j,o,hj,hw,hb⟩
 ·exact .inl h2
 ·rw[ZN]at hj
  cases hq:H[j]? with
  | none=>simp[hq]at hj
  | some o'=>simp[hq]at hj;subst hj;rw[C3f]at hw;cases hw
structure FOk (MC:Nat→Code→ACode→Prop) (P:Program) (g:Ghost) (w:World) (lo:Nat→Prop) (e:FE):Prop where
 box:A0c MC P g w (.arr e.1 false e.2.1) (.arr e.1 e.2.2)
 own:∀β,e.blk=some β→lo β∧β<w.heap.size∧∀ i,(g.L i).blk≠some β
def Apart (e f:FE):Prop:=∀ β,e.blk=some β→f.blk≠some β
structure FsOk (MC:Nat→Code→ACode→Prop) (P:Program) (g:Ghost) (w:World) (lo:Nat→Prop) (fs:List FE):Prop where
 ok:∀e∈fs,FOk MC P g w lo e
 apart:fs.Pairwise Apart
theorem FsOk.nil {g:Ghost} {w:World} {lo:Nat→Prop}:FsOk MC P g w lo []:=⟨by simp,.nil⟩
theorem FOk.turn {g g':Ghost} {w w':World} {lo:Nat→Prop} {e:FE} (h:FOk MC P g w lo e) (hle:g.le g') (hsize:w.heap.size≤w'.heap.size)
  (hb:∀β,e.blk=some β→w'.heap[β]? = w.heap[β]?∧∀ o,g'.Φ β o=g.Φ β o) (hL:∀i β,e.blk=some β→(g'.L i).blk≠some β):FOk MC P g' w' lo e :=
 ⟨h.box.mono hle hb,fun β hβ=>⟨(h.own β hβ).1,Z0m (h.own β hβ).2.1 hsize,fun i=>hL i β hβ⟩⟩
theorem FOk.ext {H H':A2} {g g':Ghost} {w w':World} {lo:Nat→Prop} {e:FE} (h:FOk MC P g w lo e) (hE:Ext H g w H' g' w'):FOk MC P g' w' lo e:= by
 refine h.turn hE.le hE.size (fun β hβ=>?_) (fun i β hβ hc=>?_)
 ·obtain⟨_,h2,h3⟩:=h.own β hβ
  exact hE.frame β h2 (fun i o _ _ hc=>h3 i hc)
 ·obtain⟨_,h2,h3⟩:=h.own β hβ
  rcases hE.blk i β hc with h4|h4|⟨j,_,_,_,h4⟩
  ·exact h3 i h4
  ·omega
  ·exact h3 j h4
theorem FsOk.ext {H H':A2} {g g':Ghost} {w w':World} {lo:Nat→Prop} {fs:List FE} (h:FsOk MC P g w lo fs) (hE:Ext H g w H' g' w'):FsOk MC P g' w' lo fs :=
 ⟨fun e he=>(h.ok e he).ext hE,h.apart⟩
theorem FOk.cut {g:Ghost} {w:World} {lo:Nat→Prop} {N:Nat} {e:FE} (h:FOk MC P g w lo e):FOk MC P (A1s N g) w lo e :=
 ⟨h.box.cut trivial,fun β hβ=>⟨(h.own β hβ).1,(h.own β hβ).2.1,fun i hc=>by
  simp only[A1s]at hc
  split at hc
  ·exact(h.own β hβ).2.2 i hc
  ·simp[GB.blk]at hc⟩⟩
theorem FsOk.cut {g:Ghost} {w:World} {lo:Nat→Prop} {N:Nat} {fs:List FE} (h:FsOk MC P g w lo fs):FsOk MC P (A1s N g) w lo fs :=
 ⟨fun e he=>(h.ok e he).cut,h.apart⟩
theorem FsOk.weaken {g:Ghost} {w:World} {lo lo':Nat→Prop} {fs:List FE} (h:FsOk MC P g w lo fs) (hl:∀β,lo β→lo' β):FsOk MC P g w lo' fs :=
 ⟨fun e he=>⟨(h.ok e he).box,fun β hβ=>⟨hl β ((h.ok e he).own β hβ).1,((h.ok e he).own β hβ).2⟩⟩,h.apart⟩
structure Going (MC:Nat→Code→ACode→Prop) (P:Program) (B0:Nat) (H:A2) (g:Ghost) (w:World) (H':A2) (g':Ghost):Prop where
 rel:Rel MC P B0 H' g' w
 ext:Ext H g w H' g' w
 len:H'.length=H.length
 unb:∀i,g.L i=.none→g'.L i=.none
 blk:∀i β,(g'.L i).blk=some β→(g.L i).blk=some β
theorem Going.refl {H:A2} {g:Ghost} {w:World} (hR:Rel MC P B0 H g w):Going MC P B0 H g w H g:=⟨hR,Ext.refl _ _ _,Z,fun _ h=>h,fun _ _ h=>h⟩
theorem Going.trans {H H1 H2:A2} {g g1 g2:Ghost} {w:World} (h:Going MC P B0 H g w H1 g1) (k:Going MC P B0 H1 g1 w H2 g2):Going MC P B0 H g w H2 g2 :=
 ⟨k.rel,h.ext.trans k.ext,k.len.trans h.len,fun i hi=>k.unb i (h.unb i hi),fun i β hb=>h.blk i β (k.blk i β hb)⟩
theorem Froze.going {H H':A2} {g g':Ghost} {w:World} (h:Froze MC P B0 H g w H' g'):Going MC P B0 H g w H' g':=⟨h.rel,h.ext,h.len,fun i hi=>by rw[h.L];exact hi,fun i β hb=>by rw[← h.L];exact hb⟩
theorem Going.lo {H H':A2} {g g':Ghost} {w:World} {B:Nat} {lo:Nat→Prop} (h:Going MC P B0 H g w H' g') (hlo:∀i,B≤i→∀ β,(g.L i).blk=some β→lo β):∀i,B≤i→∀ β,(g'.L i).blk=some β→lo β :=
 fun i hi β hb=>hlo i hi β (h.blk i β hb)
theorem Rel.letgo {H:A2} {g:Ghost} {w:World} {b k:Nat} {rows:List (List AV)} {u:Value} (hR:Rel MC P B0 H g w) (hg:H[b]? = some (.arr k false rows)) (hL:g.L b=.arr k u) {lo:Nat→Prop} (hlo:∀β,(g.L b).blk=some β→lo β) :
  ∃ g',Going MC P B0 H g w (hset H b .dead) g'∧FOk MC P g' w lo (k,rows,u)∧(∀ β,(GB.arr k u).blk=some β→(g.L b).blk=some β)∧∀ i,i≠b→g'.L i=g.L i:= by
 have hb:=(Ze.1 hg).1
 have hbox:A0c MC P g w (.arr k false rows) (.arr k u):= by have:=hR.box b _ hg;rw[hL]at this;exact this
 have hup:=hR.upd hb (.inl ⟨_,hg,Z⟩) (o':=.dead) (gb':=.arr k (.slice none (slen u+1) 0)) (Φ':=g.Φ) (w':=w) Z Z Z (Zn _) (fun _ _ _=>rfl)
  (by rw[hL];exact .inr ⟨_,Z,by simp[slen]⟩) (fun β hβ=>by simp[GB.blk]at hβ) (fun _ _ _ h=>h) (fun _ _ _ _=>rfl) (fun β off x h=>hR.phi β off x h) trivial
 refine⟨_,⟨hup.1,hup.2,by simp[hset],fun i hi=>?_,fun i β hc=>?_⟩,⟨hbox.mono hup.2.le (fun β hβ=>⟨Z,fun _=>rfl⟩),fun β hβ=>?_⟩,fun β hβ=>by rw[hL];exact hβ,fun i hi=>by simp[J0,hi]⟩
 ·have:i≠b:= by rintro rfl;rw[hL]at hi;cases hi
  simpa [J0,this] using hi
 ·simp only[J0]at hc
  split at hc
  ·simp[GB.blk]at hc
  ·exact hc
 ·have hβ':(g.L b).blk=some β:= by rw[hL];exact hβ
  refine⟨hlo β hβ',(hR.base b β hβ').2,fun i hc=>?_⟩
  simp only[J0]at hc
  split at hc
  ·simp[GB.blk]at hc
  ·next hne=>exact hne (hR.alone (fun o ho=>by rw[hg]at ho;cases ho;rfl) hc hβ')
theorem C2p {H H':A2} {g:Ghost} {w:World} {B:Nat} {lo:Nat→Prop} {v v':AV} {u:Value} (hR:Rel MC P B0 H g w) (hlo:∀i,B≤i→∀ β,(g.L i).blk=some β→lo β) (hV:V g v u) (h:A1u B H v=some (v',H')) :
  ∃ g' fs,Going MC P B0 H g w H' g'∧RC g' v' u fs∧FsOk MC P g' w lo fs∧∀ e,FOk MC P g w lo e→∀ f∈fs,Apart e f:= by
 have thaw:frv H v=some (v',H')→∃ g' fs,Going MC P B0 H g w H' g'∧RC g' v' u fs∧FsOk MC P g' w lo fs∧∀ e,FOk MC P g w lo e→∀ f∈fs,Apart e f:= by
  intro h
  obtain⟨g',q,hV'⟩:=B7j hR hV h
  exact⟨g',[],q.going,.val _ _ hV',.nil,by simp⟩
 cases v with
 | asl b n =>
  simp only[A1u]at h
  split at h
  ·next k rows hw =>
   split at h
   ·next hB =>
    split at h
    ·next hn =>
     simp only[Za,Zf]at h
     obtain⟨rfl,rfl⟩:=h
     obtain⟨v0,hL,hbox⟩:=hR.arrW hw
     have hg:=A1a hw
     have hb:=(Ze.1 hg).1
     have hsl:=Y1 hbox
     have e0:=A4e hV hL (by rw[hsl];exact Zk hn)
     subst e0
     have hB':B≤b:= by simpa using hB
     obtain⟨g',q1,q2,q3,_⟩:=hR.letgo hg hL (lo:=lo) (hlo b hB')
     refine⟨g',[(k,rows,u)],q1,.fresh k rows u ?_,⟨fun e he=>?_,by simp⟩,?_⟩
     ·cases hV with
      | den _ _ hd=>cases hd
      | asl _ _ _ _ _ _ _ h1=>exact h1
     ·simp at he;subst he;exact q2
     ·intro e he f hf β hβ hc
      simp at hf;subst hf
      exact(he.own β hβ).2.2 b (q3 β hc)
    ·cases h
   ·exact thaw h
  ·exact thaw h
 | nils k =>
  simp only[A1u,Za,Zf]at h
  obtain⟨rfl,rfl⟩:=h
  cases hV with
  | den _ _ hd =>
   cases hd
   exact⟨g,[],.refl hR,.val _ _ (.den _ _ (.seq0 k none 0)),.nil,by simp⟩
 | _ =>
  simp only[A1u,Za,Zf]at h
  obtain⟨rfl,rfl⟩:=h
  exact⟨g,[],.refl hR,.val _ _ hV,.nil,by simp⟩
theorem FsOk.app {g:Ghost} {w:World} {lo:Nat→Prop} {fs fs':List FE} (h:FsOk MC P g w lo fs) (k:FsOk MC P g w lo fs') (ha:∀e∈fs,∀ f∈fs',Apart e f):FsOk MC P g w lo (fs++fs') :=
 ⟨fun e he=>(ZA.1 he).elim (h.ok e) (k.ok e),List.pairwise_append.2 ⟨h.apart,k.apart,ha⟩⟩
theorem B85 {w:World} {B:Nat} {lo:Nat→Prop}:∀{l l':List AV} {H H':A2} {g:Ghost} {us:List Value},Rel MC P B0 H g w→(∀ i,B≤i→∀ β,(g.L i).blk=some β→lo β)→us.length=l.length →
  (∀ (j:Nat) x,l[j]? = some x→V g x (us[j]?.getD undef))→W8 B H l=some (l',H') →
  ∃ g' fs,Going MC P B0 H g w H' g'∧RCs g' l' us fs∧FsOk MC P g' w lo fs∧∀ e,FOk MC P g w lo e→∀ f∈fs,Apart e f
 | [],l',H,H',g,us,hR,hlo,hl,hV,h=>by
  simp only[W8,Za,Zf]at h
  obtain⟨rfl,rfl⟩:=h
  have:us=[]:=Z0w.1 (by simpa using hl)
  subst this
  exact⟨g,[],.refl hR,.nil,.nil,by simp⟩
 | v::l,l',H,H',g,us,hR,hlo,hl,hV,h=>by
  obtain⟨u,us,rfl⟩:∃u us',us=u::us':= by cases us with|nil=>simp at hl|cons u us=>exact⟨u,us,Z⟩
  simp only[W8]at h
  split at h
  ·cases h
  ·next v1 H1 e1 =>
   split at h
   ·cases h
   ·next l2 H2 e2 =>
    simp only[Za,Zf]at h
    obtain⟨rfl,rfl⟩:=h
    obtain⟨g1,f1,q1,r1,k1,a1⟩:=C2p hR hlo (hV 0 v Z) e1
    obtain⟨g2,f2,q2,r2,k2,a2⟩:=B85 q1.rel (q1.lo hlo) (us:=us) (by simpa using hl) (fun j x hj=>(hV (j+1) x hj).mono q1.ext.le) e2
    refine⟨g2,f1++f2,q1.trans q2,.cons _ _ _ _ _ _ ?_ r2,(k1.ext q2.ext).app k2 (fun e he=>a2 e (k1.ok e he)),?_⟩
    ·exact RC.mono q2.ext.le r1
    ·intro e he f hf
     rcases ZA.1 hf with hf|hf
     ·exact a1 e he f hf
     ·exact a2 e (he.ext q1.ext) f hf
theorem D10 {H H':A2} {g:Ghost} {w:World} {B:Nat} {lo:Nat→Prop} {v v':AV} {u:Value} (hR:Rel MC P B0 H g w) (hlo:∀i,B≤i→∀ β,(g.L i).blk=some β→lo β) (hV:V g v u) (h:X7 B H v=some (v',H')) :
  ∃ g' fs,Going MC P B0 H g w H' g'∧RV g' v' u fs∧FsOk MC P g' w lo fs∧∀ e,FOk MC P g w lo e→∀ f∈fs,Apart e f:= by
 have one:(∀ cs,v≠.agg cs)→A1u B H v=some (v',H')→(∃ g' fs,Going MC P B0 H g w H' g'∧RV g' v' u fs∧FsOk MC P g' w lo fs∧∀ e,FOk MC P g w lo e→∀ f∈fs,Apart e f):= by
  intro hv h
  obtain⟨g',fs,q,r,k,a⟩:=C2p hR hlo hV h
  refine⟨g',fs,q,.one _ _ _ ?_ r,k,a⟩
  intro cs hc;subst hc
  revert h
  cases v with
  | agg cs=>exact absurd Z (hv cs)
  | asl b n =>
   simp only[A1u,frv]
   intro h
   repeat' split at h
   all_goals simp at h
  | nils k=>simp[A1u]
  | _=>simp[A1u]
 cases v with
 | agg cs =>
  simp only[X7]at h
  cases hq:W8 B H cs with
  | none=>simp[hq]at h
  | some r =>
   obtain⟨cs',H1⟩:=r
   simp only[hq,Zb,Za,Zf]at h
   obtain⟨rfl,rfl⟩:=h
   obtain⟨vs,rfl,hl,hx⟩:=A9u hV
   obtain⟨g',fs,q,r,k,a⟩:=B85 hR hlo (us:=vs.toList) (by simpa using hl) (fun j x hj=>by simpa using (hx j x hj).2.1) hq
   refine⟨g',fs,q,.agg _ _ _ r ?_,k,a⟩
   intro x hx'
   obtain⟨j,hj,rfl⟩:=ZX.1 hx'
   have hj':j<cs.length:= by simp at hj;omega
   have:=(hx j _ (Zm hj')).2.2
   simp at hj
   simpa [hj] using this
 | _=>exact one (by simp) h
theorem B86 {w:World} {B:Nat} {lo:Nat→Prop}:∀{l l':List AV} {H H':A2} {g:Ghost} {us:List Value},Rel MC P B0 H g w→(∀ i,B≤i→∀ β,(g.L i).blk=some β→lo β)→us.length=l.length →
  (∀ (j:Nat) x,l[j]? = some x→V g x (us[j]?.getD undef))→S7 B H l=some (l',H') →
  ∃ g' fs,Going MC P B0 H g w H' g'∧RVs g' l' us fs∧FsOk MC P g' w lo fs∧∀ e,FOk MC P g w lo e→∀ f∈fs,Apart e f
 | [],l',H,H',g,us,hR,hlo,hl,hV,h=>by
  simp only[S7,Za,Zf]at h
  obtain⟨rfl,rfl⟩:=h
  have:us=[]:=Z0w.1 (by simpa using hl)
  subst this
  exact⟨g,[],.refl hR,.nil,.nil,by simp⟩
 | v::l,l',H,H',g,us,hR,hlo,hl,hV,h=>by
  obtain⟨u,us,rfl⟩:∃u us',us=u::us':= by cases us with|nil=>simp at hl|cons u us=>exact⟨u,us,Z⟩
  simp only[S7]at h
  split at h
  ·cases h
  ·next v1 H1 e1 =>
   split at h
   ·cases h
   ·next l2 H2 e2 =>
    simp only[Za,Zf]at h
    obtain⟨rfl,rfl⟩:=h
    obtain⟨g1,f1,q1,r1,k1,a1⟩:=D10 hR hlo (hV 0 v Z) e1
    obtain⟨g2,f2,q2,r2,k2,a2⟩:=B86 q1.rel (q1.lo hlo) (us:=us) (by simpa using hl) (fun j x hj=>(hV (j+1) x hj).mono q1.ext.le) e2
    refine⟨g2,f1++f2,q1.trans q2,.cons _ _ _ _ _ _ ?_ r2,(k1.ext q2.ext).app k2 (fun e he=>a2 e (k1.ok e he)),?_⟩
    ·exact RV.mono q2.ext.le r1
    ·intro e he f hf
     rcases ZA.1 hf with hf|hf
     ·exact a1 e he f hf
     ·exact a2 e (he.ext q1.ext) f hf
theorem D36 {c:Sc} {B:Nat} {H H':A2} {v v':AV} (h:ScOk c H) (hf:A1u B H v=some (v',H')):ScOk c H':= by
 unfold A1u at hf
 repeat' split at hf
 all_goals first
  | (cases hf;done)
  | exact D1l h hf
  | (simp only[Za,Zf]at hf;obtain⟨_,rfl⟩:=hf;first|exact h|exact h.setTriv _ .dead (fun _=>trivial))
theorem C9o {c:Sc} {B:Nat}:∀{l l':List AV} {H H':A2},ScOk c H→W8 B H l=some (l',H')→ScOk c H'
 | [],l',H,H',h,hf=>by simp only[W8,Za,Zf]at hf;exact hf.2▸h
 | v::l,l',H,H',h,hf=>by
  simp only[W8]at hf
  split at hf
  ·cases hf
  ·next v1 H1 e1 =>
   split at hf
   ·cases hf
   ·next l2 H2 e2 =>
    simp only[Za,Zf]at hf
    exact hf.2▸C9o (D36 h e1) e2
theorem E1g {c:Sc} {B:Nat} {H H':A2} {v v':AV} (h:ScOk c H) (hf:X7 B H v=some (v',H')):ScOk c H':= by
 unfold X7 at hf
 split at hf
 ·next cs =>
  cases hl:W8 B H cs with
  | none=>simp[hl]at hf
  | some r=>simp only[hl,Zb,Za,Zf]at hf;exact hf.2▸C9o h (l':=r.1) (H':=r.2) hl
 ·exact D36 h hf
theorem C9r {c:Sc} {B:Nat}:∀{l l':List AV} {H H':A2},ScOk c H→S7 B H l=some (l',H')→ScOk c H'
 | [],l',H,H',h,hf=>by simp only[S7,Za,Zf]at hf;exact hf.2▸h
 | v::l,l',H,H',h,hf=>by
  simp only[S7]at hf
  split at hf
  ·cases hf
  ·next v1 H1 e1 =>
   split at hf
   ·cases hf
   ·next l2 H2 e2 =>
    simp only[Za,Zf]at hf
    exact hf.2▸C9r (E1g h e1) e2
theorem A37 {j r:Nat}:∀{own:List (Nat×Nat)},A0k j own=some r→r∈own.map (·.2)
 | [],h=>by cases h
 | x::l,h=>by
  simp only[A0k]at h
  cases hb:ZC x.1 j with
  | true=>simp[hb]at h;simp[h]
  | false=>simp only[hb,cond_false]at h;exact Zx _ (A37 h)
theorem C20 {j j' r:Nat}:∀{own:List (Nat×Nat)},(own.map (·.2)).Nodup→A0k j own=some r→A0k j' own=some r→j=j'
 | [],_,h,_=>by cases h
 | x::l,hn,h,h'=>by
  simp only[Zt,Z1c]at hn
  simp only[A0k]at h h'
  cases hb:ZC x.1 j <;> cases hb':ZC x.1 j' <;> simp only[hb,hb',cond_true,cond_false,Za]at h h'
  ·exact C20 hn.2 h h'
  ·exact absurd (h' ▸ A37 h) hn.1
  ·exact absurd (h▸A37 h') hn.1
  ·rw[← Zk hb,← Zk hb']
structure Coming (MC:Nat→Code→ACode→Prop) (P:Program) (B0:Nat) (H0:A2) (g0:Ghost) (w0:World) (H:A2) (g:Ghost) (w:World) (H':A2) (g':Ghost) (X:List Nat):Prop where
 rel:Rel MC P B0 H' g' w
 ext:Ext H0 g0 w0 H' g' w
 le:g.le g'
 len:H'.length=H.length
 same:∀i,i ∉ X→g'.L i=g.L i
theorem Rel.take_over {H0 H:A2} {g0 g:Ghost} {w0 w:World} (hE:Ext H0 g0 w0 H g w) (hR:Rel MC P B0 H g w) {i k:Nat} {rows:List (List AV)} {u:Value} (hi:i<H.length) (hn:g.L i=.none)
  (hf:FOk MC P g w (OkB B0 H0 g0 w0) (k,rows,u)):Rel MC P B0 (H.set i (.arr k false rows)) ⟨J0 g.L i (.arr k u),g.Φ,g.gl⟩ w∧Ext H0 g0 w0 (H.set i (.arr k false rows)) ⟨J0 g.L i (.arr k u),g.Φ,g.gl⟩ w:= by
 have hle:g.le ⟨J0 g.L i (.arr k u),g.Φ,g.gl⟩:=⟨fun j=>by
  by_cases e:j=i
  ·subst e;rw[hn];trivial
  ·simp only[J0,if_neg e];exact GB.le_refl _,fun _ _ _ h=>h⟩
 have hn0:g0.L i=.none:= by
  have:=hE.le.L i
  cases hg:g0.L i with
  | none=>rfl
  | arr k v =>
   rw[hg,hn]at this
   rcases this with h|⟨_,h,_⟩ <;> cases h
  | _=>rw[hg,hn]at this;cases this
 refine⟨⟨hR.phi,?_,?_,?_,?_,hR.b0⟩,⟨by simpa using hE.len,hE.os,hE.tape,hE.output,hE.size,hE.le.trans hle,?_,?_,?_,?_⟩⟩
 ·intro j β hb
  by_cases e:j=i
  ·subst e;simp only[J0,if_true]at hb
   have:=hf.own β hb
   exact⟨this.1.1,this.2.1⟩
  ·simp only[J0,if_neg e]at hb;exact hR.base j β hb
 ·intro j j' β hj hj'
  simp only[J0]at hj hj'
  split at hj <;> split at hj'
  ·omega
  ·exact absurd hj' ((hf.own β hj).2.2 _)
  ·exact absurd hj ((hf.own β hj').2.2 _)
  ·next e1 e2=>exact(hR.inj j j' β hj hj').imp id (Z43 (fun q=>q.set e1 e2) (fun q=>q.set e2 e1))
 ·intro j o ho
  rw[ZJ]at ho
  by_cases e:i=j
  ·subst e
   rw[if_pos Z,if_pos hi]at ho
   cases ho
   simp only[J0,if_true,AO.rd]
   exact hf.box.mono hle (fun β _=>⟨Z,fun _=>rfl⟩)
  ·rw[if_neg e]at ho
   have hne:j≠i:=fun h=>e h.symm
   simp only[J0,if_neg hne]
   exact(hR.box j o ho).mono hle (fun β _=>⟨Z,fun _=>rfl⟩)
 ·intro j hj
  have hne:j≠i:= by have:H.length≤j:= by simpa using hj
                    omega
  simp only[J0,if_neg hne]
  exact hR.nolive j (by simpa using hj)
 ·intro j β hb
  simp only[J0]at hb
  split at hb
  ·exact .inr (hf.own β hb).1.2
  ·exact hE.blk j β hb
 ·intro j o ho hw hnn
  simp only[J0]
  split
  ·next e=>subst e;exact absurd hn0 hnn
  ·exact hE.keep j o ho hw hnn
 ·intro j o' ho' hw'
  by_cases e:j=i
  ·subst e;exact .inl hn0
  ·rw[ZJ,if_neg (fun h=>e h.symm)]at ho'
   exact hE.wit j o' ho' hw'
 ·exact hE.frame
theorem B3e {g:Ghost} {β:Nat} (hΦ:∀o,g.Φ β o=none) (cur:Array Value):∀b o v,g.Φ b o=some v→(fun b o=>if b=β then cur[o]? else g.Φ b o) b o=some v:=fun b o v h=>by
  simp only
  split
  ·next e=>subst e;rw[hΦ]at h;cases h
  ·exact h
theorem Rel.freeze {H0 H:A2} {g0 g:Ghost} {w0 w:World} (hE:Ext H0 g0 w0 H g w) (hR:Rel MC P B0 H g w) {β:Nat} (hβ:β<w.heap.size) (hlo:OkB B0 H0 g0 w0 β) (hown:∀i,(g.L i).blk≠some β) (hΦ:∀o,g.Φ β o=none)
  {cur:Array Value} {e:TypeId} (hg:w.heap[β]? = some (.cells cur e (0,0))) :
  Rel MC P B0 H ⟨g.L,fun b o=>if b=β then cur[o]? else g.Φ b o,g.gl.mono (B3e hΦ cur)⟩ w∧Ext H0 g0 w0 H ⟨g.L,fun b o=>if b=β then cur[o]? else g.Φ b o,g.gl.mono (B3e hΦ cur)⟩ w:= by
 have hle:g.le ⟨g.L,fun b o=>if b=β then cur[o]? else g.Φ b o,g.gl.mono (B3e hΦ cur)⟩:=⟨fun _=>GB.le_refl _,fun b o v h=>by
  simp only
  split
  ·next e=>subst e;rw[hΦ]at h;cases h
  ·exact h⟩
 refine⟨⟨?_,hR.base,hR.inj,?_,hR.nolive,hR.b0⟩,⟨hE.len,hE.os,hE.tape,hE.output,hE.size,hE.le.trans hle,hE.blk,hE.keep,hE.wit,?_⟩⟩
 ·intro b o v h
  simp only at h
  split at h
  ·next e=>subst e;simp[World.cell?,hg,h]
  ·exact hR.phi b o v h
 ·intro i o ho
  refine(hR.box i o ho).mono hle (fun b hb=>⟨Z,fun o=>?_⟩)
  simp only
  rw[if_neg (by rintro rfl;exact hown i hb)]
 ·intro b hb hn
  obtain⟨h1,h2⟩:=hE.frame b hb hn
  refine⟨h1,fun o=>?_⟩
  simp only
  rw[if_neg]
  ·exact h2 o
  ·rintro rfl
   rcases hlo.2 with h3|⟨j,oj,h3,h4,h5⟩
   ·omega
   ·exact hn j oj h3 h4 h5
theorem C5g {H0 H:A2} {g0 g:Ghost} {w0 w:World} {n0 j:Nat} {own:List (Nat×Nat)} {v:AV} {u:Value} {fs rest:List FE} (hE:Ext H0 g0 w0 H g w) (hR:Rel MC P B0 H g w)
  (hv:RC g v u fs) (hfs:FsOk MC P g w (OkB B0 H0 g0 w0) (fs++rest)) (hr:∀r,A0k j own=some r→n0+r<H.length∧g.L (n0+r)=.none) :
  ∃ g',V g' (inC n0 H own j v).1 u∧Coming MC P B0 H0 g0 w0 H g w (inC n0 H own j v).2 g' ((A0k j own).toList.map (n0 + ·))∧FsOk MC P g' w (OkB B0 H0 g0 w0) rest:= by
 cases hv with
 | val _ _ h =>
  have e:inC n0 H own j v=(v,H):= by
   cases v <;> first|rfl|(cases h with|den _ _ hd=>cases hd)
  rw[e]
  exact⟨g,h,⟨hR,hE,Ghost.le_refl g,Z,fun _ _=>rfl⟩,by simpa using hfs⟩
 | fresh k rows _ h1 =>
  have hf:=hfs.ok (k,rows,u) (by simp)
  have hap:=hfs.apart
  simp only[List.singleton_append,List.pairwise_cons]at hap
  simp only[inC]
  cases hrk:A0k j own with
  | some r =>
   obtain⟨hi,hn⟩:=hr r hrk
   obtain⟨q1,q2⟩:=Rel.take_over hE hR hi hn hf
   have hle:g.le ⟨J0 g.L (n0+r) (.arr k u),g.Φ,g.gl⟩:=⟨fun i=>by
    by_cases e:i=n0+r
    ·subst e;rw[hn];trivial
    ·simp only[J0,if_neg e];exact GB.le_refl _,fun _ _ _ h=>h⟩
   refine⟨⟨J0 g.L (n0+r) (.arr k u),g.Φ,g.gl⟩,?_,⟨q1,q2,hle,by simp[hset],fun i hi=>?_⟩,⟨fun e he=>?_,hap.2⟩⟩
   ·have hsl:=Y1 hf.box
    exact .asl _ _ k u _ (by simp[J0]) (by rw[hsl];exact Zn _) h1 (fun _=>rfl)
   ·simp at hi;simp[J0,hi]
   ·refine(hfs.ok e (by simp[he])).turn hle (Zn _) (fun _ _=>⟨Z,fun _=>rfl⟩) (fun i β hβ hc=>?_)
    simp only[J0]at hc
    split at hc
    ·exact hap.1 e he β hc hβ
    ·exact((hfs.ok e (by simp[he])).own β hβ).2.2 i hc
  | none =>
   obtain⟨_,hk,hlen,h4⟩:=hf.box
   rcases h4 with⟨hr0,hu0⟩|⟨β,cp,e,cur,hu0,h5,h6,h7,h8,h9,h10,h11⟩
   ·simp only at hr0 hu0
    subst hr0;subst hu0
    exact⟨g,.den _ _ (.seq0 k none 0),⟨hR,hE,Ghost.le_refl g,Z,fun _ _=>rfl⟩,⟨fun e he=>hfs.ok e (by simp[he]),hap.2⟩⟩
   ·simp only at hu0 h5 h9 hlen
    subst hu0
    obtain⟨o1,o2,o3⟩:=hf.own β Z
    have hΦ:=h10 Z
    obtain⟨q1,q2⟩:=Rel.freeze hE hR o2 o1 o3 hΦ h7
    have hle:g.le ⟨g.L,fun b o=>if b=β then cur[o]? else g.Φ b o,g.gl.mono (B3e hΦ cur)⟩:=⟨fun _=>GB.le_refl _,fun b o v h=>by
     simp only
     split
     ·next e=>subst e;rw[hΦ]at h;cases h
     ·exact h⟩
    refine⟨_,?_,⟨q1,q2,hle,Z,fun _ _=>rfl⟩,⟨fun e he=>?_,hap.2⟩⟩
    ·refine .den _ _ (.seq k rows ⟨β,0,none⟩ cp (fun i j=>cur[i*k+j]?.getD undef) Z h5 hlen (fun i r j x hi hj=>?_) (fun i r j x hi hj=>?_))
     ·obtain⟨x',hx',_⟩:=h9 i r j x hi hj
      simp[hx']
     ·obtain⟨x',hx',hd⟩:=h9 i r j x hi hj
      simp only[hx',ZW]
      exact hd.mono hle.Φ
    ·have hfe:=hfs.ok e (by simp[he])
     refine hfe.turn hle (Zn _) (fun b hb=>⟨Z,fun o=>?_⟩) (fun i b hb=>(hfe.own b hb).2.2 i)
     simp only
     rw[if_neg]
     rintro rfl
     exact hap.1 e he b Z hb
theorem C1v {H0:A2} {g0:Ghost} {w0 w:World} {n0:Nat} {own:List (Nat×Nat)} (hnd:(own.map (·.2)).Nodup):∀{l:List AV} {us:List Value} {fs rest:List FE} {j:Nat} {H:A2} {g:Ghost},Ext H0 g0 w0 H g w→Rel MC P B0 H g w →
  RCs g l us fs→FsOk MC P g w (OkB B0 H0 g0 w0) (fs++rest)→(∀ j' r,j≤j'→A0k j' own=some r→n0+r<H.length∧g.L (n0+r)=.none) →
  ∃ g',(∀ (i:Nat) x,(A4u n0 H own j l).1[i]? = some x→V g' x (us[i]?.getD undef))∧(A4u n0 H own j l).1.length=us.length∧Coming MC P B0 H0 g0 w0 H g w (A4u n0 H own j l).2 g' ((own.map (·.2)).map (n0 + ·))∧FsOk MC P g' w (OkB B0 H0 g0 w0) rest
 | [],us,fs,rest,j,H,g,hE,hR,h,hfs,hr=>by
  cases h
  exact⟨g,by simp[A4u],Z,⟨hR,hE,Ghost.le_refl g,Z,fun _ _=>rfl⟩,hfs⟩
 | v::l,us,fs,rest,j,H,g,hE,hR,h,hfs,hr=>by
  cases h with
  | cons _ u f _ us fs h k =>
  rw[ZB]at hfs
  obtain⟨g1,v1,c1,f1⟩:=C5g (own:=own) (j:=j) (n0:=n0) hE hR h hfs (fun r hrk=>hr j r (Zn _) hrk)
  obtain⟨g2,v2,l2,c2,f2⟩:=C1v hnd (l:=l) (j:=j+1) c1.ext c1.rel (k.mono c1.le) f1 (fun j' r hj hrk=>by
   obtain⟨q1,q2⟩:=hr j' r (by omega) hrk
   refine⟨by rw[c1.len];exact q1,?_⟩
   rw[c1.same _ ?_];exact q2
   intro hm
   simp only[ZK,Z3y]at hm
   obtain⟨r',hr',he⟩:=hm
   have:r'=r:= by omega
   subst this
   have:=C20 hnd hr' hrk
   omega)
  refine⟨g2,?_,by simp[A4u,l2],⟨c2.rel,c2.ext,c1.le.trans c2.le,c2.len.trans c1.len,fun i hi=>?_⟩,f2⟩
  ·intro i x hx
   simp only[A4u]at hx
   rcases i with _|i
   ·simp at hx;subst hx;exact v1.mono c2.le
   ·simp at hx;exact v2 i x hx
  ·rw[c2.same i hi,c1.same i ?_]
   intro hm
   simp only[ZK,Z3y]at hm
   obtain⟨r',hr',he⟩:=hm
   exact hi (by subst he;exact Z1r (A37 hr'))
theorem D49 {H0 H:A2} {g0 g:Ghost} {w0 w:World} {n0:Nat} {own:List (Nat×Nat)} (hnd:(own.map (·.2)).Nodup) {v:AV} {u:Value} {fs rest:List FE} (hE:Ext H0 g0 w0 H g w) (hR:Rel MC P B0 H g w)
  (hv:RV g v u fs) (hfs:FsOk MC P g w (OkB B0 H0 g0 w0) (fs++rest)) (hr:∀r∈own.map (·.2),n0+r<H.length∧g.L (n0+r)=.none) :
  ∃ g',V g' (inV n0 H own v).1 u∧Coming MC P B0 H0 g0 w0 H g w (inV n0 H own v).2 g' ((own.map (·.2)).map (n0 + ·))∧FsOk MC P g' w (OkB B0 H0 g0 w0) rest:= by
 cases hv with
 | agg cs vs _ h h1 =>
  obtain⟨g',q1,q2,q3,q4⟩:=C1v (n0:=n0) (j:=0) hnd hE hR h hfs (fun j' r _ hrk=>hr r (A37 hrk))
  refine⟨g',?_,q3,q4⟩
  simp only[inV]
  refine .agg _ vs (by rw[q2];simp) (fun j x hj=>by simpa using q1 j x hj) (fun j x hj=>?_)
  have hj':j<vs.size:= by have:=(Ze.1 hj).1;rw[q2]at this;simpa using this
  simpa [hj'] using h1 vs[j] (by simp)
 | one _ _ _ hv h =>
  have e:inV n0 H own v=inC n0 H own 0 v:= by cases v <;> first|rfl|exact absurd Z (hv _)
  rw[e]
  obtain⟨g',q1,q2,q3⟩:=C5g (own:=own) (j:=0) (n0:=n0) hE hR h hfs (fun r hrk=>hr r (A37 hrk))
  refine⟨g',q1,⟨q2.rel,q2.ext,q2.le,q2.len,fun i hi=>q2.same i (fun hm=>hi ?_)⟩,q3⟩
  simp only[ZK,Z3y]at hm
  obtain⟨r',hr',he⟩:=hm
  subst he;exact Z1r (A37 hr')
theorem B4u {H0:A2} {g0:Ghost} {w0 w:World} {n0:Nat}:∀{l:List AV} {own:List (List (Nat×Nat))} {us:List Value} {fs rest:List FE} {H:A2} {g:Ghost},(own.flatMap fun q=>q.map (·.2)).Nodup→Ext H0 g0 w0 H g w→Rel MC P B0 H g w →
  RVs g l us fs→FsOk MC P g w (OkB B0 H0 g0 w0) (fs++rest)→(∀ r∈own.flatMap fun q=>q.map (·.2),n0+r<H.length∧g.L (n0+r)=.none) →
  ∃ g',(∀ (i:Nat) x,(Z5 n0 H l own).1[i]? = some x→V g' x (us[i]?.getD undef))∧(Z5 n0 H l own).1.length=us.length∧Coming MC P B0 H0 g0 w0 H g w (Z5 n0 H l own).2 g' ((own.flatMap fun q=>q.map (·.2)).map (n0 + ·))∧FsOk MC P g' w (OkB B0 H0 g0 w0) rest
 | [],own,us,fs,rest,H,g,hnd,hE,hR,h,hfs,hr=>by
  cases h
  exact⟨g,by simp[Z5],Z,⟨hR,hE,Ghost.le_refl g,Z,fun _ _=>rfl⟩,hfs⟩
 | v::l,own,us,fs,rest,H,g,hnd,hE,hR,h,hfs,hr=>by
  cases h with
  | cons _ u f _ us fs h k =>
  rw[ZB]at hfs
  have split:(own.flatMap fun q=>q.map (·.2))=(own.headD []).map (·.2)++own.tail.flatMap fun q=>q.map (·.2):= by cases own <;> simp
  rw[split]at hnd hr ⊢
  obtain⟨n1,n2,n3⟩:=Z0o.1 hnd
  obtain⟨g1,v1,c1,f1⟩:=D49 (n0:=n0) (own:=own.headD []) n1 hE hR h hfs (fun r hrk=>hr r (Z1n _ hrk))
  obtain⟨g2,v2,l2,c2,f2⟩:=B4u (l:=l) (own:=own.tail) n2 c1.ext c1.rel (k.mono c1.le) f1 (fun r hrk=>by
   obtain⟨q1,q2⟩:=hr r (Z0k _ hrk)
   refine⟨by rw[c1.len];exact q1,?_⟩
   rw[c1.same _ ?_];exact q2
   intro hm
   obtain⟨r',hr',he⟩:=ZK.1 hm
   have:r'=r:= by omega
   subst this
   exact n3 r' hr' r' hrk Z)
  refine⟨g2,?_,by simp only[Z5,ZT,l2],⟨c2.rel,c2.ext,c1.le.trans c2.le,c2.len.trans c1.len,fun i hi=>?_⟩,f2⟩
  ·intro i x hx
   simp only[Z5]at hx
   rcases i with _|i
   ·simp only[Z2x,Za]at hx;subst hx;exact v1.mono c2.le
   ·simp only[List.getElem?_cons_succ]at hx;exact v2 i x hx
  ·simp only[Z00,ZA,not_or]at hi
   rw[c2.same i hi.2,c1.same i hi.1]
end
theorem D7m {c:Sc} {n0:Nat} (hn:c.cur≤n0) {H:A2} {own:List (Nat×Nat)} {j:Nat} {v:AV} (h:ScOk c H):ScOk c (inC n0 H own j v).2:= by
 unfold inC
 repeat' split
 all_goals first|exact h|exact h.setNew _ (by omega) _
theorem D3l {c:Sc} {n0:Nat} (hn:c.cur≤n0) {own:List (Nat×Nat)}:∀{l:List AV} {j:Nat} {H:A2},ScOk c H→ScOk c (A4u n0 H own j l).2
 | [],j,H,h=>h
 | v::l,j,H,h=>by simp only[A4u];exact D3l hn (D7m hn h)
theorem E2z {c:Sc} {n0:Nat} (hn:c.cur≤n0) {H:A2} {own:List (Nat×Nat)} {v:AV} (h:ScOk c H):ScOk c (inV n0 H own v).2:= by
 unfold inV
 split
 ·exact D3l hn h
 ·exact D7m hn h
theorem C63 {c:Sc} {n0:Nat} (hn:c.cur≤n0):∀{l:List AV} {own:List (List (Nat×Nat))} {H:A2},ScOk c H→ScOk c (Z5 n0 H l own).2
 | [],own,H,h=>h
 | v::l,own,H,h=>by simp only[Z5];exact C63 hn (E2z hn h)
section
variable {P:Program} {b:Frame} {a:Act} {k:List Item} {cs:List Frame} {w w':World} {ops:Array Oper}
def Arr (P:Program) (m:Machine) (b:Frame) (k:List Item) (cs:List Frame):Ex→Act→World→Prop
 | .normal,a,w=>Steps P m (lone (b.atR a k) cs w)
 | .exit id,a,w=>∃ k',exitTo id k'=exitTo id k∧Steps P m (lone (b.atR a (.code (.exit id)::k')) cs w)
 | .ret,a,w=>∃ k',Steps P m (lone (b.atR a (.code .ret::k')) cs w)
theorem Arr.of_steps {m m1:Machine} {e:Ex} (h:Steps P m m1) (h':Arr P m1 b k cs e a w):Arr P m b k cs e a w:= by
 cases e with
 | normal=>exact h.trans h'
 | exit id=>obtain⟨k',h1,h2⟩:=h'; exact⟨k',h1,h.trans h2⟩
 | ret=>obtain⟨k',h2⟩:=h'; exact⟨k',h.trans h2⟩
theorem Arr.pass {m:Machine} {e:Ex} {i:Item} (he:e≠.normal) (hi:∀id,e=.exit id→exitTo id (i::k)=exitTo id k) (h:Arr P m b (i::k) cs e a w):Arr P m b k cs e a w:= by
 cases e with
 | normal=>exact absurd Z he
 | exit id=>obtain⟨k',h1,h2⟩:=h;exact⟨k',h1.trans (hi id Z),h2⟩
 | ret=>exact h
theorem D5k {o:Op} {ao:AOp} (h:D1 P o ao=true):∀c,o≠.defer c:= by
 rintro c rfl
 cases ao <;> simp[D1]at h
theorem B5d {i:Nat} {rest:List Nat} {o:Oper} {x:Value} (ho:ops[i]? = some o) (hw:Region.wanted o (yielded ops a.tmps)=true) (hnd:∀c,o.op≠.defer c)
  (h:Gives ((execOp a.eval o).run P w) x w') :
  step P (lone (b.atR a (.inRegion ops (i::rest)::k)) cs w)=.next (lone (b.atR (a.put o.dst x) (.inRegion ops rest::k)) cs w'):= by
 have hf:=Frame.finish_atR b a ops i rest k x
 rw[ho]at hf
 rw[show a.put o.dst x=a.put ((some o).bind (·.dst)) x from Z,← hf]
 refine step_lone_go ?_
 rw[stepGR_op ho hw,Oper.semAt_eq _ _ _ hnd]
 rcases h with h|⟨h,rfl⟩ <;> simp[stepG.apply,Sem.runT_eq,h]
theorem C4f {i:Nat} {rest:List Nat} {o:Oper} (ho:ops[i]? = some o) (hw:Region.wanted o (yielded ops a.tmps)=false) :
  step P (lone (b.atR a (.inRegion ops (i::rest)::k)) cs w)=.next (lone (b.atR (a.put o.dst undef) (.inRegion ops rest::k)) cs w):= by
 have:=stepR_op_skip (P:=P) (b:=b) (a:=a) (k:=k) (cs:=cs) (w:=w) (ops:=ops) (i:=i) (rest:=rest) (by simp[ho,hw])
 rw[this];simp[ho]
def A7f (f:Value) (args:Array Value):Sem Next:=do let d ← Deferred.ofValue f args;invoke d.target d.args
def Begins (P:Program) (w:World) (f:Value) (args:Array Value) (fr:Frame):Prop :=
 (∃ i aq,(A7f f args).run P w=.ok (.enter i aq) w∧fr=Frame.enter P i aq .normal) ∨
 (∃ l i tmps assign body,(A7f f args).run P w=.ok (.round l i tmps assign body) w∧fr=Frame.round l i tmps assign body .normal)
theorem D04 {i:Nat} {fn:Func} (hf:P.funcs[i]? = some fn) (hb:fn.body.isSome=true) (hn:(fn.name != "runtime.NumGoroutine")=true) (fa fc args:Array Value) :
  Begins P w (.func (.func i) fa fc) args (Frame.enter P i (fa++args++fc) .normal):= by
 refine .inl ⟨i,_,?_,Z⟩
 have hn':¬ fn.name = "runtime.NumGoroutine":= by simpa using hn
 have hb':¬ fn.body=none:= by
  intro h;simp[h]at hb
 simp[A7f,Deferred.ofValue,Sem.run_bind,Result.andThen,invoke,callFunc,program,Sem.run,hf,hn',hb']
theorem C6h {β:Nat} {r:Loop} (h:w.heap[β]? = some (.loop r)) {args:Array Value} (hs:args.size=r.params.size) :
  Begins P w (.func (.yield β) #[] #[]) args (Frame.round β r.fn ((r.params.zip args).foldl (fun tmps (t,a)=>tmps.setIfInBounds t a) r.tmps) r.assign r.body .normal):= by
 refine .inr ⟨β,r.fn,_,r.assign,r.body,?_,Z⟩
 have:=run_yield (P:=P) h hs
 simp[A7f,Deferred.ofValue,Sem.run_bind,Result.andThen,invoke,this]
theorem B9j {i:Nat} {rest:List Nat} {o:Oper} {f:Operand} {args:Array Operand} {ats:Array TypeId} (ho:ops[i]? = some o) (hw:Region.wanted o (yielded ops a.tmps)=true)
  (hop:o.op=.call { callee:=.value f,args,argTypes:=ats }) {fr:Frame} (h:Begins P w (a.eval f) (args.map a.eval) fr) :
  step P (lone (b.atR a (.inRegion ops (i::rest)::k)) cs w)=.next (lone fr (b.atR a (.inRegion ops (i::rest)::k)::cs) w):= by
 have he:execOp a.eval o=A7f (a.eval f) (args.map a.eval):= by
  simp only[execOp,hop,resolve,A7f]
 refine step_lone_go ?_
 rw[stepGR_op ho hw,Oper.semAt_eq _ _ _ (by rw[hop];simp),he]
 rcases h with⟨j,aq,h,rfl⟩|⟨l,j,tmps,assign,body,h,rfl⟩
 ·simp[stepG.apply,Sem.runT_eq,h,Frame.atR]
 ·simp[stepG.apply,Sem.runT_eq,h,Frame.atR]
theorem C3e {f:Operand} {ps:Array Tmp} {assign body:Code} {l:Nat} {mark:List Deferred} {w1:World} {i:Nat} {aq:Array Value}
  (he:(Instr.enterLoop b.fn a.tmps ps assign body b.roundOf).run P w=.ok (l,mark) w1) (hc:(A7f (a.eval f) #[.func (.yield l) #[] #[]]).run P w1=.ok (.enter i aq) w1) :
  step P (lone (b.atR a (.code (.rangeFunc f ps assign body)::k)) cs w) =
   .next (lone (Frame.enter P i aq .normal) (b.atR { a with defers:=mark++a.defers } (.inRangeFunc l::k)::cs) w1) :=
 step_lone_go (by
  have hev:=Frame.eval_atR b { a with defers:=mark++a.defers } (.inRangeFunc l::k)
  simp only[Frame.atR]at hev
  have hc':Sem.run P (resolve ({ tmps:=a.tmps,defers:=mark++a.defers }:Act).eval { callee:=.value f,args:=#[.const (.func (.yield l) #[] #[])],argTypes:=#[] } 0 >>= fun d=>invoke d.target d.args) w1=.ok (.enter i aq) w1:= by
   have e1:({ tmps:=a.tmps,defers:=mark++a.defers }:Act).eval f=a.eval f:= by cases f <;> rfl
   have e2:({ tmps:=a.tmps,defers:=mark++a.defers }:Act).eval (.const (.func (.yield l) #[] #[]))=.func (.yield l) #[] #[]:=rfl
   simpa [resolve,A7f,e1,e2] using hc
  simp[stepG,stepG.exec,Frame.atR,Sem.runT_eq,he,GStep.bare_after,stepG.apply,hev,hc'])
theorem B60 {l:Nat} {jump:Option Code} (h:(Instr.endLoop l).run P w=.ok jump w') :
  step P (lone (b.atR a (.endRangeFunc l::k)) cs w)=.next (lone (b.atR a ((jump.map Item.code).toList++k)) cs w') :=
 step_lone_go (by simp[stepG,stepG.exec,Frame.atR,Sem.runT_eq,h,GStep.bare_after])
theorem B4q (l:Nat) (v:Value):(b.atR a (.inRangeFunc l::k)).finish v=b.atR a (.endRangeFunc l::k):= by
 simp[Frame.finish,Frame.atR]
def A9g (β:Nat):Deferred:={ target:=.collected β,args:=#[] }
theorem D58 {fr:Frame} {w w':World} {β:Nat} {ds:List Deferred} (hm:fr.mode=.returning) (hd:fr.defers=A9g β::ds) (hk:(Instr.takeDeferred β).run P w=.ok [] w') :
  step P (lone fr cs w)=.next (lone { fr with defers:=ds } cs w'):= by
 refine step_lone_go ?_
 simp[stepG,unwind,hm,hd,A9g,Sem.runT_eq,hk,GStep.bare_after]
theorem B9k:∀(βs:List Nat) (fr:Frame) (w:World),fr.mode=.returning→fr.defers=βs.map A9g→βs.Nodup→(∀ β∈βs,w.heap[β]? = some (.deferred (some []))) →
  ∃ w',Steps P (lone fr cs w) (lone { fr with defers:=[] } cs w')∧w'.os=w.os∧w'.tape=w.tape∧w'.output=w.output∧w'.heap.size=w.heap.size∧(∀ β,β ∉ βs→w'.heap[β]? = w.heap[β]?)∧∀ β∈βs,w'.heap[β]? = some (.deferred none)
 | [],fr,w,hm,hd,hn,hβ=>⟨w,by
   have:({ fr with defers:=[] }:Frame)=fr:= by cases fr;simp at hd;simp[hd]
   rw[this];exact .refl _ _,rfl,rfl,rfl,rfl,fun _ _=>rfl,by simp⟩
 | β::βs,fr,w,hm,hd,hn,hβ=>by
  obtain⟨hn1,hn2⟩:=Z1c.1 hn
  have hβ0:=hβ β (by simp)
  have hlt:β<w.heap.size:= by
   rcases Z23 β w.heap.size with h|h
   ·exact h
   ·simp[Z4k h]at hβ0
  have h1:=D58 (P:=P) (cs:=cs) (ds:=βs.map A9g) hm (by simpa using hd) (run_takeDeferred (P:=P) hβ0)
  obtain⟨w',q1,q2,q3,q4,q5,q6,q7⟩:=B9k βs { fr with defers:=βs.map A9g } (w.putObj β (.deferred none)) hm Z hn2 (fun γ hγ=>by
   rw[World.putObj_heap_other (by rintro rfl;exact hn1 hγ)];exact hβ γ (by simp[hγ]))
  refine⟨w',.head h1 q1,q2,q3,q4,by simpa using q5,fun γ hγ=>?_,fun γ hγ=>?_⟩
  ·simp at hγ
   rw[q6 γ hγ.2,World.putObj_heap_other hγ.1]
  ·rcases Zu.1 hγ with rfl|hγ
   ·rw[q6 _ hn1,World.putObj_heap_same hlt]
   ·exact q7 γ hγ
end
section
variable {MC:Nat→Code→ACode→Prop} {P:Program} {B0:Nat} {c:Sc} {n0:Nat} {H H':A2} {g:Ghost} {w:World} {s:C2} {a:Act} {o:Oper} {v:AV}
theorem E5d {k:Nat} {x:Opd} {lo hi:Option Opd} (hm:D1 P o.op (.sub k x lo hi)=true) (hR:Rel MC P B0 H g w) (hS:D7 g s a.tmps) (h:prim c n0 s H (.sub k x lo hi)=some (v,H')):Does MC P B0 a o [] H g w v H':= by
 have hm':D1 P o.op (.sliceL k x lo hi)=true:= by simpa only[D1] using hm
 simp only[prim]at h
 split at h
 ·next k' rows he =>
  refine C15 hm' hR hS (c:=c) (n0:=n0) ?_
  simp only[prim,he,U4,frv]
  exact h
 ·next b n he =>
  split at h
  ·next k' pb rows hc =>
   split at h
   ·next i u q1 q2 =>
    split at h
    ·next h0 =>
     obtain⟨h0,h01,h1',rfl,hn⟩:=h0
     simp only[D1]at hm
     split at hm
     ·next t x' lo' hi' hop =>
      simp only[Zc]at hm
      obtain⟨⟨⟨h1,h2⟩,h3⟩,h4⟩:=hm
      split at h1
      ·next e hsl =>
       have hu:=S9 hsl
       simp at h1
       obtain⟨⟨hk,hkn⟩,hpos⟩:=h1
       simp only[Za,Zf]at h
       obtain⟨hv,rfl⟩:=h
       have b1:((lo'.map a.eval)=none∧i=0)∨∃ k,(lo'.map a.eval)=some (.int k i):= by
        rcases A8s h3 hS q1 with⟨e1,e2⟩|⟨x2,k,e1,e2⟩
        ·exact .inl ⟨by simp[e1],e2⟩
        ·exact .inr ⟨k,by simp[e1,e2]⟩
       have b2:((hi'.map a.eval)=none∧u=n)∨∃ k,(hi'.map a.eval)=some (.int k u):= by
        rcases A8s h4 hS q2 with⟨e1,e2⟩|⟨x2,k,e1,e2⟩
        ·exact .inl ⟨by simp[e1],e2⟩
        ·exact .inr ⟨k,by simp[e1,e2]⟩
       obtain⟨v0,hL,hbox⟩:=hR.arr hc
       have hrun:∀ad cp,n≤cp→a.eval x'=.slice ad n cp →
         (execOp a.eval o).run P w=.ok (.value (.slice (if cp-i.toNat=0 then ad else ad.map (·.add (i.toNat*k'))) (u.toNat-i.toNat) (cp-i.toNat))) w:= by
        intro ad cp hcp he
        have:=A08 (P:=P) (isSlice:=true) h0 h01 h1' hcp b1 b2 w
        simp[execOp,hop,Instr.sliceAt,run_underlying hu,he,Instr.slice,this,M4 (M3 hkn),hk]
        split <;> split <;> first|rfl|omega
       have hsl2:slen v0=n:= by
        obtain⟨_,_,_,h5⟩:=hbox
        rcases h5 with⟨e0,e1⟩|⟨β,cp,e',cur,e1,_⟩
        ·subst e0 e1;simp at hn;simpa [slen] using hn
        ·subst e1;simpa [slen] using hn
       have hV:=L6 hS h2 he
       have e0:=A4e hV hL hsl2
       obtain⟨_,hk0,hlen,h5⟩:=hbox
       have fin:∀y,(execOp a.eval o).run P w=.ok (.value y) w→V g v y→Does MC P B0 a o [] H g w v H:=fun y r1 r2=>⟨y,w,g,.inl r1,r2,hR,Ext.refl _ _ _,Z,fun i _ h=>h⟩
       rcases h5 with⟨e1,e2⟩|⟨β,cp,e',cur,e2,hcp,_⟩
       ·subst e1 e2
        simp at hn
        subst hn
        have hx:=hrun none 0 (Zn _) e0
        have hiu:i=u:= by omega
        rw[if_pos hiu]at hv
        subst hiu hv
        refine fin _ hx ?_
        rw[Z3h]
        exact .den _ _ (.seq0 _ _ _)
       ·subst e2
        rw[hn]at e0 hcp
        have hx:=hrun _ cp hcp e0
        by_cases hiu:i=u
        ·rw[if_pos hiu]at hv
         subst hiu hv
         refine fin _ hx ?_
         rw[Z3h]
         exact .den _ _ (.seq0 _ _ _)
        ·rw[if_neg hiu]at hv
         subst hv
         rw[if_neg (by omega)]at hx
         refine fin _ hx ?_
         have:(some (⟨β,0,none⟩:Addr)).map (·.add (i.toNat*k'))=some ⟨β,i.toNat*k',none⟩:= by
          simp[Addr.add]
          intro hq;exact hq.symm
         rw[this]
         exact .csa _ _ _ _ _ _ _ _ hL (by omega) (by simp[slen,hn]) (fun _=>⟨β,cp,by rw[hn],Z,by omega⟩)
      ·cases h1
     ·cases hm
    ·cases h
   ·cases h
  ·cases h
 ·cases h
theorem E0r {k:Nat} {z:List AV} {x:Opd} (hm:D1 P o.op (.clear k z x)=true) (hR:Rel MC P B0 H g w) (hS:D7 g s a.tmps) (h:prim c n0 s H (.clear k z x)=some (v,H')):Does MC P B0 a o [] H g w v H':= by
 simp only[D1]at hm
 split at hm
 ·next args argTypes hop =>
  split at hm
  ·next x' t hargs htys =>
   simp only[Zc]at hm
   obtain⟨h1,h3⟩:=hm
   split at h1
   ·next e hsl =>
    simp only[Zc]at h1
    obtain⟨⟨c1,c2⟩,c3⟩:=h1
    have ht:=S9 hsl
    have hk:P.cellsOf e=k:= by simpa using c1
    have hpos:0<k:= by simpa using c3
    obtain⟨i,zv,hi,hz,hC,hkz⟩:=A6t c2 g
    have hargs':args = #[x']:= by apply Z2v; simpa using hargs
    have htys':argTypes = #[t]:= by apply Z2v; simpa using htys
    subst hargs' htys'
    have hex:∀y w',(Builtin.clear_ #[t] o.type #[a.eval x']).run P w=.ok y w'→(execOp a.eval o).run P w=.ok (.value y) w':= by
     intro y w' hy
     unfold execOp
     simp only[hop,resolve,invoke,builtin,Sem.run_bind,Sem.run_pure,Result.andThen_ok,Z45,Zt,Z0z,hy]
    simp only[prim]at h
    split at h
    ·next b off m n hd =>
     split at h
     ·next kk rows hc =>
      split at h
      ·next hcond =>
       obtain⟨d1,d2,d3,d4⟩:=hcond
       subst d1 d2
       simp at h;obtain⟨rfl,rfl⟩:=h
       obtain⟨v0,hL,hbox⟩:=hR.arrW hc
       have hsl:=Y1 hbox
       have hV:=L6 hS h3 hd
       generalize hev:a.eval x'=u at hV
       have hb:=A1a hc
       simp only at hb
       cases hV with
       | den _ _ hd=>cases hd
       | csl _ _ _ _ β c e hL'=>rw[hL]at hL'; cases hL'
       | csa _ _ _ _ kk' c v1 x hL' hcn hle hp =>
        rw[hL]at hL'; cases hL'
        obtain⟨β1,c1',e1,e2,e3⟩:=hp hsl
        subst e1 e2
        obtain⟨_,hk0,hlen,h0⟩:=hbox
        rcases h0 with⟨rfl,h0⟩|⟨β,cp0,e',cur,hv,a5,a6,a7,a8,a9,a10,a11⟩
        ·cases h0
        ·cases hv
         have hkz':z.length=kk:= by omega
         have hzs:zv.cells.size=kk:= by rw[hC.1];exact hkz'
         have hrz:=B8i (n:=n) hC hkz' hpos
         obtain⟨q1,q2,q3⟩:=hrz
         have hfz:=C3o c2
         generalize hnw:(Array.range (n*kk)).map (zv.cells[· % zv.cells.size]!)=news at q1 q3
         have hn2:news.size=n*kk:= by rw[← hnw];simp
         have hn3:∀u∈news.toList,u.oneCell'=true:= by
          intro u hu
          obtain⟨j,hj⟩:=Z1l hu
          have hj':news[j]? = some u:= by simpa using hj
          have hjl:j<n*kk:= by have:=(Z0d.1 hj').1;omega
          have hm1:j % kk<kk:=Nat.mod_lt _ hpos
          have hd1:j / kk<n:=Nat.div_lt_of_lt_mul (by rw[Nat.mul_comm];exact hjl)
          obtain⟨x,hx⟩:∃x,z[j % kk]? = some x:=⟨_,Zm (by omega)⟩
          obtain⟨u',hu',_,ho⟩:=q3 (j / kk) z (j % kk) x (by simp[hd1]) hx
          rw[Nat.div_add_mod' j kk,hj']at hu'
          cases hu'
          exact ho
         have hsz:(off+n)*kk≤cur.size:= by rw[a8];exact ZQ _ (by omega)
         rw[Z21]at hsz
         have hst:=run_storeCells_at P β1 (off*kk) e' news.toList 0 cur w a7 (by simp[hn2];omega) hn3
         simp only[Z1e]at hst
         have hok:off*kk≤cur.size:= by omega
         have get:∀j,((cur.toList.take (off*kk)++news.toList++cur.toList.drop (off*kk+news.toList.length)).toArray)[j]? = if j<off*kk then cur[j]? else if j<(off+n)*kk then news[j-off*kk]? else cur[j]?:= by
          intro j
          simp only[Z0r,ZB]
          rw[ZP]
          have hl1:(cur.toList.take (off*kk)).length=off*kk:= by simp;omega
          rw[hl1]
          split
          ·next h1=>rw[ZO h1];simp
          ·next h1 =>
           rw[ZP]
           simp only[Z0i,hn2]
           rw[Z21]
           by_cases h2:j-off*kk<n*kk
           ·rw[if_pos h2,if_pos (by omega)];simp
           ·rw[if_neg h2,if_neg (by omega),ZV];simp
            congr 1;omega
         have eL:J0 g.L b (g.L b)=g.L:= by funext j;simp only[J0];split;(next e=>rw[e]);rfl
         have hl2:(rows.take off++(Zv n z++rows.drop (off+n))).length=rows.length:= by simp;omega
         have hW:=hR.write (b:=b) ⟨_,hb,Z⟩ (by rw[hL];rfl) a7 (cur.toList.take (off*kk)++news.toList++cur.toList.drop (off*kk+news.toList.length)).toArray
          (o':=.arr kk false (rows.take off++(Zv n z++rows.drop (off+n)))) (gb':=g.L b) (GB.le_refl _) (by rw[hL];rfl) (fun off hs=>by rw[a10 Z off]at hs;cases hs)
          (Φ':=g.Φ) (fun _ _ _=>rfl) (fun _ _ h=>h) (fun off u h=>by rw[a10 Z off]at h;cases h) (by
           rw[hL]
           refine⟨Z,hk0,fun r hr=>?_,.inr ⟨β1,c1',e',_,by rw[hl2],by omega,a6,setRow_heap w _ cur _ e' (0,0) a7,?_,fun i r j x hi hj=>?_,fun _ off=>a10 Z off,by simp⟩⟩
           ·rcases ZA.1 hr with h|h
            ·exact hlen r (ZZ h)
            ·rcases ZA.1 h with h|h
             ·rw[(Z1i.1 h).2];exact hkz'
             ·exact hlen r (Z1z h)
           ·simp[hn2];omega
           ·rw[get]
            rw[ZP]at hi
            have htl:(rows.take off).length=off:= by simp;omega
            rw[htl]at hi
            split at hi
            ·next hiq =>
             rw[ZO hiq]at hi
             have hjk:j<kk:= by have h1:=(Ze.1 hj).1;have h2:=hlen r (Zw hi);omega
             have:=O3 (k:=kk) hiq
             rw[if_pos (by omega)]
             exact a9 i r j x hi hj
            ·next hiq =>
             have h9:off*kk≤i*kk:=ZQ _ (by omega)
             rw[if_neg (by omega)]
             rw[ZP,List.length_replicate]at hi
             split at hi
             ·next hi2 =>
              have hr:=(Z1i.1 (Zw hi)).2
              subst hr
              have hjk:j<kk:= by have h1:=(Ze.1 hj).1;omega
              have:=O3 (k:=kk) (show i<off+n by omega)
              rw[if_pos (by omega)]
              obtain⟨u,hu',hV,ho⟩:=q3 (i-off) r j x hi hj
              rw[Nat.sub_mul,show i*kk-off*kk+j=i*kk+j-off*kk by omega]at hu'
              exact⟨u,hu',show Den g.Φ x u from B3f (Zq.1 hfz x (Zw hj)) hV⟩
             ·next hi2 =>
              rw[ZV]at hi
              rw[show off+n+(i-off-n)=i by omega]at hi
              have h8:(off+n)*kk≤i*kk:=ZQ _ (by omega)
              rw[if_neg (by omega)]
              exact a9 i r j x hi hj)
         rw[eL]at hW
         have hsize:i.size=kk:= by rw[← hk];simp[Program.cellsOf,hi]
         rw[hev]at hex
         obtain⟨n',rfl⟩:∃n',n=n'+1:=⟨n-1,by omega⟩
         refine⟨_,_,g,.inl (hex (.tuple #[]) _ ?_),.tup [] #[] rfl (by simp),hW.1,hW.2,by simp[hset],fun i _ h=>h⟩
         have hzv:(zeroValue e).run P w=.ok zv w:= by simp[zeroValue,typeInfo,hi,hz]
         have hzc:Builtin.zeroCells zv.cells (n'+1)=news:= by rw[← hnw];simp[Builtin.zeroCells,hzs]
         simp[Builtin.clear_,run_underlying ht,hzv,hzc,hst]
      ·cases h
     ·cases h
    ·cases h
   ·cases h1
  ·cases hm
 ·cases hm
theorem E5a {k r:Nat} {x:Opd} {hi:Option Opd} (hm:D1 P o.op (.cut k x hi r)=true) (hR:Rel MC P B0 H g w) (hS:D7 g s a.tmps) (hF:Free H g n0 [r]) (h:prim c n0 s H (.cut k x hi r)=some (v,H')):Does MC P B0 a o [n0+r] H g w v H':= by
 simp only[D1]at hm
 split at hm
 ·next t x' hi' hop =>
  simp only[Zc]at hm
  obtain⟨⟨h1,h2⟩,h4⟩:=hm
  split at h1
  ·next e hsl =>
   have hu:=S9 hsl
   simp at h1
   obtain⟨⟨hk,hkn⟩,hpos⟩:=h1
   simp only[prim]at h
   split at h
   ·next b n hp =>
    split at h
    ·next k2 rows hh hw hr =>
     split at h
     ·next hb =>
      simp only[Za,Zf]at h
      obtain⟨rfl,rfl⟩:=h
      simp only[Zc,decide_eq_true_eq]at hb
      obtain⟨hn,b2,b3⟩:=hb
      have hn:=Zk hn
      subst hn
      obtain⟨v0,hL,hbox⟩:=hR.arrW hw
      have hg:=A1a hw
      have hVx:=L6 hS h2 hp
      have hsl2:=Y1 hbox
      have e0:=A4e hVx hL (by rw[hsl2])
      obtain⟨hi0,hn0⟩:=hF r (by simp)
      have q2:((hi'.map a.eval)=none∧hh=rows.length)∨∃ k,(hi'.map a.eval)=some (.int k hh):= by
       rcases A8s h4 hS hr with⟨e1,e2⟩|⟨x2,k,e1,e2⟩
       ·exact .inl ⟨by simp[e1],e2⟩
       ·exact .inr ⟨k,by simp[e1,e2]⟩
      have hrun:∀ad cp,rows.length≤cp→a.eval x'=.slice ad rows.length cp →
        (execOp a.eval o).run P w=.ok (.value (.slice (if cp=0 then ad else ad.map (·.add (0*k2))) (hh.toNat-0) (cp-0))) w:= by
       intro ad cp hcp he
       have:=A08 (P:=P) (isSlice:=true) (l:=0) (by omega) b2 b3 hcp (.inl ⟨Z,Z⟩) q2 w
       obtain⟨k0,_⟩:=hbox
       simp[execOp,hop,Instr.sliceAt,run_underlying hu,he,Instr.slice,this,M4 (M3 hkn)]
      obtain⟨g1,q1,q3,q4,q5⟩:=hR.letgo hg hL (lo:=OkB B0 H g w) (fun β hβ=>⟨(hR.base b β hβ).1,.inr ⟨b,_,hg,Z,hβ⟩⟩)
      have hne:n0+r≠b:= by rintro e;rw[← e,hn0]at hL;cases hL
      have new:∃v1,(execOp a.eval o).run P w=.ok (.value v1) w∧v1.oneCell'=true∧FOk MC P g1 w (OkB B0 H g w) (k2,rows.take hh.toNat,v1):= by
       obtain⟨k0,hk2,hlen,h5⟩:=q3.box
       rcases h5 with⟨hr0,hu0⟩|⟨β,cp,e',cur,hu0,c1,c2,c3,c4,c5,c6,c7⟩
       ·simp only at hr0 hu0
        subst hr0
        rw[hu0]at e0
        simp only[List.length_nil]at b3
        have e1:hh=0:= by omega
        subst e1
        have:=hrun none 0 (by simp) (by simpa using e0)
        refine⟨.slice none 0 0,by simpa using this,Z,⟨Z,hk2,by simp,.inl ⟨Z,Z⟩⟩,fun β hβ=>by simp[FE.blk,GB.blk]at hβ⟩
       ·simp only at hu0 c1 c5 hlen
        subst hu0
        have:=hrun (some ⟨β,0,none⟩) cp c1 e0
        have e1:(if cp=0 then (some ⟨β,0,none⟩:Option Addr) else (some ⟨β,0,none⟩:Option Addr).map (·.add (0*k2)))=some ⟨β,0,none⟩:= by
         split
         ·rfl
         ·simp[Addr.add]
        rw[e1]at this
        have hlt:(rows.take hh.toNat).length=hh.toNat:= by simp;omega
        refine⟨.slice (some ⟨β,0,none⟩) hh.toNat cp,by simpa using this,Z,⟨Z,hk2,fun r hr=>hlen r (ZZ hr),.inr ⟨β,cp,e',cur,by rw[hlt],by rw[hlt];omega,c2,c3,c4,fun i r j x hi hj=>?_,c6,by simp⟩⟩,fun β' hβ=>q3.own β' hβ⟩
        rw[Z1v]at hi
        split at hi
        ·exact c5 i r j x hi hj
        ·cases hi
      obtain⟨v1,r1,r2,r3⟩:=new
      obtain⟨t1,t2⟩:=Rel.take_over (i:=n0+r) q1.ext q1.rel (by rw[q1.len];exact hi0) (by rw[q5 _ hne];exact hn0) r3
      refine⟨v1,w,_,.inl r1,?_,t1,t2,by simp[hset],?_⟩
      ·have hsl3:=Y1 r3.box
       have hlt:(rows.take hh.toNat).length=hh.toNat:= by simp;omega
       exact .asl _ _ k2 v1 _ (by simp[J0]) (by rw[hsl3,hlt];exact Zn _) r2 (fun _=>rfl)
      ·intro i hi hn
       simp only[Z16]at hi
       simp only[J0,if_neg hi]
       exact q1.unb i hn
     ·cases h
    ·cases h
   ·cases h
  ·cases h1
 ·cases hm
theorem D19 {op:AOp} (hok:E1e op=true) (hm:D1 P o.op op=true) (hR:Rel MC P B0 H g w) (hS:D7 g s a.tmps) (hF:Free H g n0 (F6 op)) (hnd:(F6 op).Nodup)
  (h:prim c n0 s H op=some (v,H')):Does MC P B0 a o ((F6 op).map (n0 + ·)) H g w v H':= by
 cases op with
 | mv x=>exact(E8p hm hS h).does hR _
 | mvz x=>exact(E5b hm hR hS h).mono (by simp)
 | pick x y z=>exact(E3u hm hS h).does hR _
 | nil k r=>exact E5c hm hR hF h
 | alloc zs owns r=>exact E0q hm hR hF hnd h
 | box n x r=>exact E49 hm hR hS hF h
 | build z parts=>exact(E1h hm hS h).does hR _
 | lits k z n parts own=>exact E22 hm hR hS hF h
 | xlits k z n parts=>exact(E0w hm hR hS h).mono (by simp)
 | load k x=>exact(E3r hm hR hS (by rintro rfl;simp[E1e]at hok) h).does hR _
 | storeN x k r=>exact D72 hm hR hS hF h
 | store k x y=>exact(E0v hm hR hS h).mono (by simp)
 | nilck x=>exact(E1j hm hS h).does hR _
 | bin op x y=>exact(E56 hm hS h).does hR _
 | beq neg x y=>exact(E55 hm hS h).does hR _
 | cmp neg ks x y=>exact(E57 hm hS h).does hR _
 | un op x=>exact(E8q hm hS h).does hR _
 | conv k x=>exact(E3l hm hS h).does hR _
 | idc x=>exact(E58 hm hS h).does hR _
 | mkfn f x y=>exact(E3s hm hS h).does hR _
 | mkmap r=>exact E0t hm hR hF h
 | mkslice k b z l cp r=>exact D5f hm hR hS hF h
 | sliceS x lo hi=>exact(D84 hm hS h).does hR _
 | sliceL k x lo hi=>exact(C15 hm hR hS h).mono (by simp)
 | sliceQ k x lo hi=>exact(D71 hm hR hS h).mono (by simp)
 | sliceA k n x hi=>exact(D83 hm hR hS h).does hR _
 | nilq q x=>exact(E3t hm hS h).does hR _
 | fieldAddr off x=>exact(C9s hm hS h).does hR _
 | field k off x=>exact(E1i hm hS h).does hR _
 | idxS k x i=>exact(E3n hm hR hS h).does hR _
 | idxA k n x i=>exact(E3m hm hS h).does hR _
 | idxStr x i=>exact(D81 hm hS h).does hR _
 | idxAgg k sz n x i=>exact(D80 hm hS h).does hR _
 | lookup z ag ks x i ok=>exact(D82 hm hR hS h).does hR _
 | mupd ag ks x y z=>exact(E23 hm hR hS h).mono (by simp)
 | range x r=>exact E0u hm hR hS hF h
 | rangeM x r=>exact D70 hm hR hS hF h
 | next x=>exact(E24 hm hR hS h).mono (by simp)
 | entry x=>exact(E0s hm hR hS h).mono (by simp)
 | extract x i=>exact(D5r hm hS h).does hR _
 | lenS x=>exact(E3q hm hS h).does hR _
 | lenL x=>exact(E3o hm hR hS h).does hR _
 | lenM x=>exact(E3p hm hR hS h).does hR _
 | mm mx xs=>exact(E8o hm hS h).does hR _
 | append k b d x r fz=>exact D7z hm hR hS hF h
 | copy k d x=>exact(E21 hm hR hS h).mono (by simp)
 | cut k x hi r=>exact E5a hm hR hS hF h
 | sub k x lo hi=>exact(E5d hm hR hS h).mono (by simp)
 | clear k z x=>exact(E0r hm hR hS h).mono (by simp)
 | call f aq own p=>simp[prim]at h
end
section
variable {H H':A2} {i:Nat}
theorem D8a {o:AO} (ho:o.isS=false) (hb:H[i]? = some o):hstk H i=none:= by
 unfold hstk hget
 rw[hb]
 cases o <;> first|rfl|(cases ho;done)|skip
 rename_i x;cases x <;> first|rfl|cases ho
theorem W6 {b:Nat} {o:AO} (ho:o.isS=false) (hi:hstk H i=none):hstk (hset H b o) i=none:= by
 by_cases e:b=i
 ·subst e
  by_cases hl:b<H.length
  ·exact D8a ho (by unfold hset;rw[ZJ,if_pos Z,if_pos hl])
  ·have:hset H b o=H:= by unfold hset;exact Z1o (by omega)
   rw[this];exact hi
 ·unfold hstk hget hset at *
  rw[ZJ,if_neg e];exact hi
theorem D1k {v v':AV} (hi:hstk H i=none) (hf:frv H v=some (v',H')):hstk H' i=none:= by
 unfold frv at hf
 repeat' split at hf
 all_goals (try cases hf)
 all_goals first
  | exact hi
  | exact W6 Z hi
theorem C0f:∀{l l':List AV} {H H':A2},hstk H i=none→Z4 H l=some (l',H')→hstk H' i=none
 | [],l',H,H',h,hf=>by simp only[Z4,Za,Zf]at hf;exact hf.2▸h
 | v::l,l',H,H',h,hf=>by
  simp only[Z4]at hf
  split at hf
  ·cases hf
  ·next v1 H1 e1 =>
   split at hf
   ·cases hf
   ·next l2 H2 e2 =>
    simp only[Za,Zf]at hf
    exact hf.2▸C0f (D1k h e1) e2
theorem C0d {v v':AV} (h:hstk H i=none) (hf:U4 H v=some (v',H')):hstk H' i=none:= by
 unfold U4 at hf
 split at hf
 ·next cs =>
  cases hl:Z4 H cs with
  | none=>simp[hl]at hf
  | some r=>simp only[hl,Zb,Za,Zf]at hf;exact hf.2▸C0f h (l':=r.1) (H':=r.2) hl
 ·cases hf;exact h
 ·exact D1k h hf
theorem C8s:∀{l l':List AV} {H H':A2},hstk H i=none→S6 H l=some (l',H')→hstk H' i=none
 | [],l',H,H',h,hf=>by simp only[S6,Za,Zf]at hf;exact hf.2▸h
 | v::l,l',H,H',h,hf=>by
  simp only[S6]at hf
  split at hf
  ·cases hf
  ·next v1 H1 e1 =>
   split at hf
   ·cases hf
   ·next l2 H2 e2 =>
    simp only[Za,Zf]at hf
    exact hf.2▸C8s (C0d h e1) e2
theorem D7b {own:List (List (Nat×Nat))} {l l':List AV} (h:hstk H i=none) (hf:A1n own H l=some (l',H')):hstk H' i=none:= by
 unfold A1n at hf
 split at hf
 ·simp only[Za,Zf]at hf;exact hf.2▸h
 ·exact C8s h hf
theorem D1i {v:AV} (h:hstk H i=none) (hf:Y4 H v=some H'):hstk H' i=none:= by
 have other:(U4 H v).map (·.2)=some H'→hstk H' i=none:= by
  intro h0
  obtain⟨r,h1,h2⟩:=Zz.1 h0
  subst h2
  exact C0d h (v':=r.1) (H':=r.2) h1
 cases v with
 | ptr b off =>
  simp only[Y4]at hf
  split at hf
  ·next cs hc =>
   split at hf
   ·next r e =>
    split at hf
    ·simp only[Za]at hf
     subst hf
     exact W6 Z (C0f h (l':=r.1) (H':=r.2) e)
    ·cases hf
   ·cases hf
  ·cases hf
 | _=>exact other hf
theorem C2v {s:C2}:∀{l:List Nat} {H H':A2},hstk H i=none→publish s H l=some H'→hstk H' i=none
 | [],H,H',h,hf=>by simp only[publish,Za]at hf;exact hf▸h
 | t::l,H,H',h,hf=>by
  simp only[publish]at hf
  split at hf
  ·split at hf
   ·next r e1=>exact C2v (D1i h e1) hf
   ·cases hf
  ·cases hf
theorem C28 {n0:Nat}:∀{owns:List (Nat×Nat×Nat)} {zs:List AV} {H:A2},hstk H i=none→hstk (P3 n0 owns zs H).2 i=none
 | [],zs,H,h=>h
 | (j,r,k)::l,zs,H,h=>by simp only[P3];exact C28 (W6 Z h)
theorem E1m {c:Sc} {n0:Nat} {s:C2} {op:AOp} {v:AV} (h:hstk H i=none) (ho:B7s op=false∨i<n0) (hp:prim c n0 s H op=some (v,H')):hstk H' i=none:= by
 have ns_new:∀{r:Nat} {o':AO},i<n0→hstk (hset H (n0+r) o') i=none:=fun {r o'} hi=>by
  unfold hstk hget hset at *
  rw[ZJ,if_neg (by omega)];exact h
 cases op with
 | alloc zs owns r =>
  simp only[prim,Za,Zf]at hp
  exact hp.2▸W6 Z (C28 h)
 | load k x =>
  cases k <;> simp only[prim]at hp <;> (repeat' split at hp) <;> first
   | (cases hp;done)
   | (simp only[Za,Zf]at hp;exact hp.2▸h)
 | mvz x =>
  simp only[prim]at hp
  split at hp
  ·exact C0d h hp
  ·cases hp
 | store k x y =>
  simp only[prim]at hp
  repeat' split at hp
  all_goals (try cases hp)
  ·exact W6 Z h
  ·exact W6 Z (C0f h (by assumption))
 | sliceL k x lo hi =>
  simp only[prim]at hp
  repeat' split at hp
  all_goals (try cases hp)
  exact C0d h (by assumption)
 | build z parts =>
  simp only[prim]at hp
  obtain⟨ps,_,hp⟩:=Zs.mp hp
  exact A3y hp▸h
 | xlits k z n parts =>
  simp only[prim]at hp
  obtain⟨ps,_,hp⟩:=Zs.mp hp
  exact A3y hp▸h
 | lits k z n parts own =>
  simp only[prim]at hp
  obtain⟨ps,_,hp⟩:=Zs.mp hp
  obtain⟨rows,_,hp⟩:=Zs.mp hp
  repeat' split at hp
  all_goals (try cases hp)
  ·exact h
  ·exact W6 Z h
 | append k by_ d x r fz =>
  simp only[prim]at hp
  repeat' split at hp
  all_goals (try cases hp)
  all_goals first
   | exact h
   | exact W6 Z h
   | (rcases ho with ho|ho <;> first|(cases ho;done)|exact ns_new ho)
 | _ =>
  simp only[prim]at hp
  first
   | (exact A3y hp▸h)
   | (repeat' split at hp
      all_goals first
      | (cases hp;done)
      | (exact A3y hp▸h)
      | (simp only[Za,Zf]at hp;obtain⟨_,rfl⟩:=hp;first|exact h|exact W6 Z h|exact W6 Z (W6 Z h)))
   | (simp only[Za,Zf]at hp;obtain⟨_,rfl⟩:=hp;first|exact h|exact W6 Z h|exact W6 Z (W6 Z h))
   | skip
theorem D7l {n0:Nat} {own:List (Nat×Nat)} {j:Nat} {v:AV} (h:hstk H i=none):hstk (inC n0 H own j v).2 i=none:= by
 unfold inC
 repeat' split
 all_goals first|exact h|exact W6 Z h
theorem D3k {n0:Nat} {own:List (Nat×Nat)}:∀{l:List AV} {j:Nat} {H:A2},hstk H i=none→hstk (A4u n0 H own j l).2 i=none
 | [],j,H,h=>h
 | v::l,j,H,h=>by simp only[A4u];exact D3k (D7l h)
theorem E2y {n0:Nat} {own:List (Nat×Nat)} {v:AV} (h:hstk H i=none):hstk (inV n0 H own v).2 i=none:= by
 unfold inV
 split
 ·exact D3k h
 ·exact D7l h
theorem C62 {n0:Nat}:∀{l:List AV} {own:List (List (Nat×Nat))} {H:A2},hstk H i=none→hstk (Z5 n0 H l own).2 i=none
 | [],own,H,h=>h
 | v::l,own,H,h=>by simp only[Z5];exact C62 (E2y h)
theorem D35 {B:Nat} {v v':AV} (h:hstk H i=none) (ho:A1u B H v=some (v',H')):hstk H' i=none:= by
 unfold A1u at ho
 repeat' split at ho
 all_goals first
  | (cases ho;done)
  | exact D1k h ho
  | (simp only[Za,Zf]at ho;obtain⟨_,rfl⟩:=ho;first|exact h|exact W6 Z h)
theorem C9m {B:Nat}:∀{l l':List AV} {H H':A2},hstk H i=none→W8 B H l=some (l',H')→hstk H' i=none
 | [],l',H,H',h,hf=>by simp only[W8,Za,Zf]at hf;exact hf.2▸h
 | v::l,l',H,H',h,hf=>by
  simp only[W8]at hf
  split at hf
  ·cases hf
  ·next v1 H1 e1 =>
   split at hf
   ·cases hf
   ·next l2 H2 e2 =>
    simp only[Za,Zf]at hf
    exact hf.2▸C9m (D35 h e1) e2
theorem E1f {B:Nat} {v v':AV} (h:hstk H i=none) (ho:X7 B H v=some (v',H')):hstk H' i=none:= by
 unfold X7 at ho
 split at ho
 ·obtain⟨r,h1,h2⟩:=Zz.1 ho
  simp only[Zf]at h2
  exact h2.2▸C9m h (l':=r.1) (H':=r.2) h1
 ·exact D35 h ho
theorem C9q {B:Nat}:∀{l l':List AV} {H H':A2},hstk H i=none→S7 B H l=some (l',H')→hstk H' i=none
 | [],l',H,H',h,hf=>by simp only[S7,Za,Zf]at hf;exact hf.2▸h
 | v::l,l',H,H',h,hf=>by
  simp only[S7]at hf
  split at hf
  ·cases hf
  ·next v1 H1 e1 =>
   split at hf
   ·cases hf
   ·next l2 H2 e2 =>
    simp only[Za,Zf]at hf
    exact hf.2▸C9q (E1f h e1) e2
theorem C7s {N:Nat} (h:hstk H i=none):hstk (H.take N) i=none:= by
 unfold hstk hget at *
 rw[Z1v]
 split
 ·next hq =>
   split at hq
   ·rw[hq]at h;exact h
   ·cases hq
 ·next hq =>
   split at hq
   ·rw[hq]at h;exact h
   ·cases hq
 ·rfl
theorem C3h {N:Nat} {rs:List AV} (h:hstk H i=none):hstk (trunc N rs H) i=none:= by
 unfold trunc
 split
 ·exact C7s h
 ·exact h
theorem D6m {K:A2} (hK:∀o∈K,o.isS=false) (h:hstk H i=none):hstk (H++K) i=none:= by
 by_cases c:i<H.length
 ·unfold hstk hget at *
  rw[ZF c];exact h
 ·cases hq:(H++K)[i]? with
  | none=>unfold hstk hget;rw[hq]
  | some o =>
   refine D8a (hK o ?_) hq
   rw[ZI (by omega)]at hq
   exact Zw hq
theorem D3e:∀{l:List Nat},hstk H i=none→hstk (hide H l) i=none
 | [],h=>h
 | b::l,h=>by simp only[hide];exact W6 Z (D3e (l:=l) h)
theorem B8p {G:A2} (hG:hstk G i=none):∀{l:List Nat},hstk H i=none→hstk (unhide G H l) i=none
 | [],h=>h
 | b::l,h=>by
  simp only[unhide]
  split
  ·next o ho =>
   have ih:=B8p hG (l:=l) h
   by_cases e:b=i
   ·subst e
    by_cases hl:b<(unhide G H l).length
    ·have:(hset (unhide G H l) b o)[b]? = some o:= by unfold hset;rw[ZJ,if_pos Z,if_pos hl]
     unfold hstk hget at *
     rw[this]
     have ho:G[b]? = some o:=ho
     rw[ho]at hG;exact hG
    ·have:hset (unhide G H l) b o=unhide G H l:= by unfold hset;exact Z1o (by omega)
     rw[this];exact ih
   ·unfold hstk hget hset at *
    rw[ZJ,if_neg e];exact ih
  ·exact B8p hG h
end
theorem I5 (H:A2) (b:Nat) (o:AO):(hset H b o).length=H.length:= by simp[hset]
theorem B5x {H:A2} {v:AV} {r:AV×A2} (h:frv H v=some r):r.2.length=H.length:= by
 cases v with
 | asl b n =>
  simp only[frv]at h
  cases e:harr H b with
  | none=>simp[e]at h
  | some x =>
   obtain⟨k,q,rows⟩:=x
   rw[e]at h
   cases q with
   | true=>simp only at h;split at h <;> simp at h;subst h;rfl
   | false =>
    simp only at h
    split at h
    ·split at h <;> simp at h;subst h;exact I5 ..
    ·cases h
 | _=>simp only[frv,Za]at h;subst h;rfl
theorem A91:∀{l:List AV} {H:A2} {r:List AV×A2},Z4 H l=some r→r.2.length=H.length
 | [],H,r,h=>by simp only[Z4,Za]at h;subst h;rfl
 | v::l,H,r,h=>by
  simp only[Z4]at h
  split at h
  ·cases h
  ·next v' H' e1 =>
   split at h
   ·cases h
   ·next l' H'' e2 =>
    simp only[Za]at h;subst h
    have:=B5x e1;have:=A91 e2;simp_all
theorem B15 {H:A2} {v:AV} {r:AV×A2} (h:U4 H v=some r):r.2.length=H.length:= by
 cases v with
 | agg cs =>
  simp only[U4,Zz]at h
  obtain⟨x,h1,rfl⟩:=h;exact A91 h1
 | nils k=>simp only[U4,Za]at h;subst h;rfl
 | _=>simp only[U4]at h;exact B5x h
theorem C46:∀{l:List AV} {H:A2} {r:List AV×A2},S6 H l=some r→r.2.length=H.length
 | [],H,r,h=>by simp only[S6,Za]at h;subst h;rfl
 | v::l,H,r,h=>by
  simp only[S6]at h
  split at h
  ·cases h
  ·next v' H' e1 =>
   split at h
   ·cases h
   ·next l' H'' e2 =>
    simp only[Za]at h;subst h
    have:=B15 e1;have:=C46 e2;simp_all
theorem B20 {n0:Nat}:∀(owns:List (Nat×Nat×Nat)) (zs:List AV) (H:A2),(P3 n0 owns zs H).2.length=H.length
 | [],zs,H=>rfl
 | (j,r,k)::l,zs,H=>by simp only[P3];rw[B20 l];exact I5 ..
theorem C2o {B:Nat} {H:A2} {v:AV} {r:AV×A2} (h:A1u B H v=some r):r.2.length=H.length:= by
 cases v with
 | asl b n =>
  simp only[A1u]at h
  split at h
  ·split at h
   ·split at h
    ·simp only[Za]at h;subst h;exact I5 ..
    ·cases h
   ·exact B5x h
  ·exact B5x h
 | nils k=>simp only[A1u,Za]at h;subst h;rfl
 | _=>simp only[A1u,Za]at h;subst h;rfl
theorem C5t {B:Nat}:∀{l:List AV} {H:A2} {r:List AV×A2},W8 B H l=some r→r.2.length=H.length
 | [],H,r,h=>by simp only[W8,Za]at h;subst h;rfl
 | v::l,H,r,h=>by
  simp only[W8]at h
  split at h
  ·cases h
  ·next v' H' e1 =>
   split at h
   ·cases h
   ·next l' H'' e2 =>
    simp only[Za]at h;subst h
    have:=C2o e1;have:=C5t e2;simp_all
theorem C9p {B:Nat} {H:A2} {v:AV} {r:AV×A2} (h:X7 B H v=some r):r.2.length=H.length:= by
 cases v with
 | agg cs =>
  simp only[X7,Zz]at h
  obtain⟨x,h1,rfl⟩:=h;exact C5t h1
 | _=>simp only[X7]at h;exact C2o h
theorem B78 {B:Nat}:∀{l:List AV} {H:A2} {r:List AV×A2},S7 B H l=some r→r.2.length=H.length
 | [],H,r,h=>by simp only[S7,Za]at h;subst h;rfl
 | v::l,H,r,h=>by
  simp only[S7]at h
  split at h
  ·cases h
  ·next v' H' e1 =>
   split at h
   ·cases h
   ·next l' H'' e2 =>
    simp only[Za]at h;subst h
    have:=C9p e1;have:=B78 e2;simp_all
theorem C6z {n0:Nat} {H:A2} (own:List (Nat×Nat)) (j:Nat) (v:AV):(inC n0 H own j v).2.length=H.length:= by
 cases v with
 | fresh k rows=>simp only[inC];cases A0k j own <;> simp[I5]
 | _=>simp[inC]
theorem C8z {n0:Nat} (own:List (Nat×Nat)):∀(l:List AV) (j:Nat) (H:A2),(A4u n0 H own j l).2.length=H.length
 | [],j,H=>rfl
 | v::l,j,H=>by simp only[A4u];rw[C8z own l];exact C6z ..
theorem D3m {n0:Nat} {H:A2} (own:List (Nat×Nat)) (v:AV):(inV n0 H own v).2.length=H.length:= by
 cases v with
 | agg cs=>simp only[inV];exact C8z ..
 | _=>simp only[inV];exact C6z ..
theorem B2c {n0:Nat}:∀(l:List AV) (own:List (List (Nat×Nat))) (H:A2),(Z5 n0 H l own).2.length=H.length
 | [],own,H=>rfl
 | v::l,own,H=>by simp only[Z5];rw[B2c l];exact D3m ..
theorem B8w {H H':A2} {v:AV} (h:Y4 H v=some H'):H'.length=H.length:= by
 have other:(U4 H v).map (·.2)=some H'→H'.length=H.length:= by
  intro h0
  obtain⟨r,h1,h2⟩:=Zz.1 h0
  subst h2
  exact B15 h1
 cases v with
 | ptr b off =>
  simp only[Y4]at h
  split at h
  ·split at h
   ·next e =>
    split at h
    ·simp only[Za]at h
     subst h
     rw[I5]
     exact A91 e
    ·cases h
   ·cases h
  ·cases h
 | _=>exact other h
theorem C9x {c:Sc} {n0:Nat} {s:C2} {H:A2} {op:AOp} {r:AV×A2} (h:prim c n0 s H op=some r):r.2.length=H.length:= by
 cases op
 case alloc zs owns q=>simp only[prim,Za]at h;subst h;simp only[I5,B20]
 case nil=>simp only[prim,Za]at h;subst h;exact I5 ..
 case mkmap=>simp only[prim,Za]at h;subst h;exact I5 ..
 case call=>cases h
 case mv=>simp only[prim,Zz]at h;obtain⟨_,_,rfl⟩:=h;rfl
 case build=>simp only[prim,Zs,Zz]at h;obtain⟨_,_,_,_,rfl⟩:=h;rfl
 case xlits=>simp only[prim,Zs,Zz]at h;obtain⟨_,_,_,_,rfl⟩:=h;rfl
 case lits k z n parts own =>
  simp only[prim,Zs]at h
  obtain⟨_,_,_,_,h⟩:=h
  split at h
  ·cases own <;> simp only[Za]at h <;> subst h
   ·rfl
   ·exact I5 ..
  ·cases h
 case load k a =>
  cases k <;> simp only[prim]at h
  ·split at h
   ·split at h
    ·simp only[Za]at h;subst h;rfl
    ·cases h
   ·cases h
  ·split at h
   ·split at h
    ·split at h
     ·simp only[Za]at h;subst h;rfl
     ·cases h
    ·cases h
   ·cases h
 case storeN a k r =>
  simp only[prim]at h
  split at h
  ·split at h
   ·split at h
    ·simp only[Za]at h;subst h;simp only[I5]
    ·cases h
   ·cases h
  ·cases h
 case store k a v =>
  simp only[prim]at h
  split at h
  ·split at h
   ·split at h
    ·simp only[Za]at h;subst h;exact I5 ..
    ·cases h
   ·cases h
  ·split at h
   ·cases h
   ·next e1 =>
    have hl:=A91 e1
    split at h
    ·split at h
     ·split at h
      ·simp only[Za]at h;subst h;simp only[I5];exact hl
      ·cases h
     ·cases h
    ·cases h
  ·cases h
 case mvz x =>
  simp only[prim]at h
  split at h
  ·exact B15 h
  ·cases h
 case sliceL kk x lo hi =>
  simp only[prim]at h
  split at h
  ·split at h
   ·next e1 =>
    have hl:=B15 e1
    split at h
    ·split at h
     ·simp only[Za]at h;subst h;exact hl
     ·cases h
    ·cases h
   ·cases h
  ·cases h
 all_goals
  simp only[prim]at h
  repeat' split at h
  all_goals first
   | (cases h;done)
   | (simp only[Za]at h;subst h;first|rfl|exact I5 .. | (simp only[I5];done))
   | (simp only[Zz]at h;obtain⟨_,_,rfl⟩:=h;first|rfl|exact I5 ..)
theorem C44 {own:List (List (Nat×Nat))} {l l':List AV} {H H':A2} (hf:A1n own H l=some (l',H')):H'.length=H.length:= by
 unfold A1n at hf
 split at hf
 ·simp only[Za,Zf]at hf;rw[hf.2]
 ·exact C46 hf
theorem B6k {s:C2}:∀{l:List Nat} {H H':A2},publish s H l=some H'→H'.length=H.length
 | [],H,H',hf=>by simp only[publish,Za]at hf;rw[hf]
 | t::l,H,H',hf=>by
  simp only[publish]at hf
  split at hf
  ·split at hf
   ·next r e1=>rw[B6k hf,B8w e1]
   ·cases hf
  ·cases hf
theorem D3d (H:A2):∀l,(hide H l).length=H.length
 | []=>rfl
 | b::l=>by simp[hide,hset,D3d H l]
theorem B8o (G H:A2):∀l,(unhide G H l).length=H.length
 | []=>rfl
 | b::l=>by
  simp only[unhide]
  split
  ·simp[hset,B8o G H l]
  ·exact B8o G H l
def Grow (N:Nat) (H H':A2):Prop:=N≤H'.length∧∀ i,i<N→hstk H i=none→hstk H' i=none
structure NoS (M:Mach):Prop where
 call:∀{c H f aq rs H'},M.call c H f aq=some (rs,H')→Grow H.length H H'
 code:∀{a st e st'},M.code a st=some (e,st')→Grow st.H.length st.H st'.H
theorem Grow.trans {N:Nat} {H H1 H2:A2} (h:Grow N H H1) (k:Grow N H1 H2):Grow N H H2:=⟨k.1,fun i hi hn=>k.2 i hi (h.2 i hi hn)⟩
theorem Grow.le {N N':Nat} {H H1:A2} (h:Grow N H H1) (k:N'≤N):Grow N' H H1:=⟨Z01 k h.1,fun i hi=>h.2 i (Z0m hi k)⟩
theorem Grow.refl (H:A2):Grow H.length H H:=⟨Zn _,fun _ _ h=>h⟩
section
variable {M:Mach}
theorem D95 (hM:NoS M) {c:Sc} {n0:Nat} {s:C2} {H H':A2} {op:AOp} {v:AV} (hp:core M c n0 s H op=some (v,H')):H.length≤H'.length∧∀ i,i<H.length→(B7s op=false∨i<n0)→hstk H i=none→hstk H' i=none:= by
 cases op with
 | call f args own pure =>
  simp only[core,W2]at hp
  repeat' split at hp
  all_goals first
   | (cases hp;done)
   | (simp only[Za,Zf]at hp;obtain⟨_,rfl⟩:=hp;exact⟨by rw[B2c];exact Zn _,fun i _ _ h=>C62 h⟩)
   | (rename_i e1 _ _ _ e2
      simp only[Za,Zf]at hp;obtain⟨_,rfl⟩:=hp
      have q:=hM.call e2
      have ql:=C44 e1
      exact⟨by rw[B2c,← ql];exact q.1,fun i hi _ h=>C62 (q.2 i (by rw[ql];exact hi) (D7b h e1))⟩)
 | _ =>
  simp only[core]at hp
  exact⟨Nat.le_of_eq (C9x hp).symm,fun i _ ho h=>E1m h ho hp⟩
theorem D34 (hM:NoS M) {c:Sc} {n0:Nat} {s s':C2} {H H':A2} {hc hc':List (Option (List Nat))} {o:AOper} (h:oper M c n0 s H hc o=some (s',H',hc')) :
  H.length≤H'.length∧∀ i,i<H.length→(B7s o.op=false∨i<n0)→hstk H i=none→hstk H' i=none:= by
 unfold oper at h
 split at h
 ·cases h
 ·simp only[Za,Zf]at h
  obtain⟨_,rfl,_⟩:=h
  exact⟨Zn _,fun _ _ _ h=>h⟩
 ·split at h
  ·split at h
   ·next r hr =>
    split at h
    ·simp only[Za,Zf]at h
     obtain⟨_,rfl,_⟩:=h
     have q:=D95 hM (v:=r.1) (H':=r.2) hr
     rw[D3d]at q
     exact⟨by rw[B8o];exact q.1,fun i hi ho hn=>B8p hn (q.2 i hi ho (D3e hn))⟩
    ·cases h
   ·cases h
  ·cases h
theorem C9l (hM:NoS M) {c:Sc} {n0:Nat}:∀{l:List AOper} {s s':C2} {H H':A2} {hc:List (Option (List Nat))},opers M c n0 l s H hc=some (s',H')→n0≤H.length→Grow n0 H H'
 | [],s,s',H,H',hc,h,hn=>by
  simp only[opers,Za,Zf]at h
  rw[← h.2];exact⟨hn,fun _ _ h=>h⟩
 | o::l,s,s',H,H',hc,h,hn=>by
  simp only[opers]at h
  split at h
  ·cases h
  ·next s1 H1 hc1 h1 =>
   have q:=D34 hM h1
   exact Grow.trans ⟨by omega,fun i hi hs=>q.2 i (by omega) (.inr hi) hs⟩ (C9l hM h (by omega))
theorem C4n {liveX:List Nat} {l:Nat} {c:Sc} {e e':Ex} {st st':St} (h:A4q liveX l c e st=some (e',st')):Grow st.H.length st.H st'.H:= by
 unfold A4q at h
 split at h
 ·simp only[Za,Zf]at h
  rw[← h.2]
  exact⟨by rw[I5];exact Zn _,fun i hi hs=>W6 Z hs⟩
 ·cases h
theorem C8k (hM:NoS M) {a:ACode} {st st':St} {e:Ex} (h:F1 M st a=some (e,st')):Grow st.H.length st.H st'.H:= by
 cases a with
 | skip=>simp only[F1,Za,Zf]at h;rw[← h.2];exact .refl _
 | exit id=>simp only[F1,Za,Zf]at h;rw[← h.2];exact .refl _
 | ret=>simp only[F1,Za,Zf]at h;rw[← h.2];exact .refl _
 | scope a=>exact hM.code h
 | region d nres pre ops live =>
  simp only[F1]at h
  split at h
  ·next H1 hp =>
   split at h
   ·next r hr =>
    simp only[Za,Zf]at h
    rw[← h.2]
    have hl:=B6k hp
    have q:=C9l hM (s':=r.1) (H':=r.2) hr (by simp)
    rw[hl]at q
    exact Grow.trans ⟨by simp;omega,fun i hi hs=>D6m (fun o ho=>by rw[(Z1i.mp ho).2];rfl) (C2v hs hp)⟩ q
   ·cases h
  ·cases h
 | seq a b =>
  simp only[F1]at h
  split at h
  ·next st1 h1=>exact(hM.code h1).trans ((hM.code h).le (hM.code h1).1)
  ·exact hM.code h
 | cond c a b =>
  simp only[F1]at h
  repeat' split at h
  all_goals first|exact hM.code h|cases h
 | block id a =>
  simp only[F1]at h
  split at h
  ·next j st1 h1 =>
   split at h
   all_goals (simp only[Za,Zf]at h;rw[← h.2];exact hM.code h1)
  ·exact hM.code h
 | loop tr live body =>
  simp only[F1]at h
  split at h
  ·next st1 h1 =>
   have q:Grow st.H.length st.H st1.H:= by
    have:=hM.code h1
    cases tr <;> exact this
   split at h
   ·split at h
    ·have q2:=hM.code h
     simp only[ZD]at q2
     have e:min st.H.length st1.H.length=st.H.length:= by have:=q.1;omega
     rw[e]at q2
     exact q.trans ⟨q2.1,fun i hi hs=>q2.2 i hi (C7s hs)⟩
    ·cases h
   ·exact q.trans ((hM.code h).le q.1)
  ·next st1 _ h1 =>
   simp only[Za,Zf]at h
   rw[← h.2]
   have:=hM.code h1
   cases tr <;> exact this
  ·cases h
 | loopM x nx ok live0 live liveX rest =>
  simp only[F1]at h
  split at h
  ·next l hl =>
   split at h
   ·next m n seen hg =>
    split at h
    ·next es hes =>
     split at h
     ·split at h
      ·split at h
       ·cases h
       ·next h1 =>
        have q:=hM.code h1
        have q2:=C4n h
        exact Grow.trans q (q2.le q.1)
       ·cases h
      ·next hne =>
       obtain⟨i,hi⟩:∃i,i∈M8 n seen:= by
        cases hq:M8 n seen with
        | nil=>rw[hq]at hne;exact absurd Z hne
        | cons i l=>exact⟨i,Zy ..⟩
       have h:=B0l h hi
       have q0:Grow st.H.length st.H (hset st.H l (.mit m n (seen++[i]))):=⟨by rw[I5];exact Zn _,fun j hj hs=>W6 Z hs⟩
       split at h
       ·next st1 h1 =>
        have q:=hM.code h1
        simp only[I5]at q
        have q1:=q0.trans q
        split at h
        ·have q2:=hM.code h
         simp only[ZD]at q2
         have e:min st.H.length st1.H.length=st.H.length:= by have:=q1.1;omega
         rw[e]at q2
         exact q1.trans ⟨q2.1,fun i hi hs=>q2.2 i hi (C7s hs)⟩
        ·cases h
       ·next h1 =>
        have q:=hM.code h1
        simp only[I5]at q
        have q1:=q0.trans q
        exact q1.trans ((C4n h).le q1.1)
       ·cases h
     ·cases h
    ·cases h
   ·cases h
  ·cases h
 | rangeFunc f ps live assign body =>
  simp only[F1]at h
  split at h
  ·split at h
   ·next H1 hc =>
    have q:=hM.call hc
    have q2:Grow st.H.length st.H H1:=Grow.trans ⟨by simp,fun i hi hs=>D6m (fun o ho=>by rw[Z16.mp ho];rfl) hs⟩ (q.le (by simp))
    split at h
    all_goals first
     | (simp only[Za,Zf]at h;rw[← h.2];exact⟨by rw[I5];exact q2.1,fun i hi hs=>W6 Z (q2.2 i hi hs)⟩)
     | cases h
   ·cases h
  ·cases h
theorem C3g {N:Nat} {rs:List AV} {H:A2} (h:N≤H.length):N≤(trunc N rs H).length:= by
 unfold trunc
 split
 ·rw[ZD];omega
 ·exact h
theorem D96 {H K H':A2} {s:C2} {res:List ARes} {rs:List AV} (q:Grow H.length H K) (h:(match results s K res with|none=>none|some rs=>match S7 H.length K rs with|none=>none|some (rs,H')=>some (rs,trunc H.length rs H'))=some (rs,H')):Grow H.length H H':= by
 split at h
 ·cases h
 ·split at h
  ·cases h
  ·next H2 ho =>
   simp only[Za,Zf]at h
   rw[← h.2]
   exact⟨C3g (by rw[B78 ho];exact q.1),fun i hi hs=>C3h (C9q (q.2 i hi hs) ho)⟩
theorem D97 {H K H':A2} {s:C2} {res:List ARes} {rs:List AV} (q:Grow H.length H K) (h:(match results s K res with|none=>none|some rs=>some (rs,trunc H.length rs K))=some (rs,H')):Grow H.length H H':= by
 split at h
 ·cases h
 ·simp only[Za,Zf]at h
  rw[← h.2]
  exact⟨C3g q.1,fun i hi hs=>C3h (q.2 i hi hs)⟩
theorem C8h (hM:NoS M) {T:Tab} {c:Sc} {H H':A2} {f:AV} {aq rs:List AV} (h:N0 T M c H f aq=some (rs,H')):Grow H.length H H':= by
 unfold N0 at h
 split at h
 ·split at h
  ·cases h
  ·next af _ =>
   dsimp only at h
   split at h
   ·split at h
    all_goals first
     | (cases h;done)
     | (next st h1=>exact D96 (hM.code h1) h)
   ·split at h
    ·split at h
     all_goals first
      | (cases h;done)
      | (next st h1=>exact D97 (hM.code h1) h)
    ·cases h
 ·split at h
  ·split at h
   ·split at h
    ·next st h1 =>
     have q:=hM.code h1
     split at h
     ·split at h
      ·next e st2 h2 =>
       have q2:=hM.code h2
       simp only[I5]at q2
       split at h
       ·simp only[Za,Zf]at h
        rw[← h.2]
        have q3:Grow H.length H st2.H:=q.trans ⟨Z01 q.1 q2.1,fun i hi hs=>q2.2 i (Z0m hi q.1) (W6 Z hs)⟩
        exact⟨C3g (by rw[I5];exact q3.1),fun i hi hs=>C3h (W6 Z (q3.2 i hi hs))⟩
       ·cases h
      ·cases h
     ·cases h
    ·cases h
   ·cases h
  ·cases h
 ·cases h
theorem C67 {T:Tab}:∀n,NoS (mach T n)
 | 0=>{ call:=fun h=>(by cases h),code:=fun h=>(by cases h) }
 | n+1=>{ call:=fun h=>C8h (C67 n) h,code:=fun h=>C8k (C67 n) h }
end
theorem D52 {s:C2} {d t:Nat} {v:AV}:sget (sput s (some d) v) t=if d=t then some v else sget s t:= by
 simp only[sput,N9,K8]
 cases h:ZC d t with
 | true=>simp[Zk h]
 | false=>simp[Z4l h]
theorem D7.put {g:Ghost} {s:C2} {a:Act} {dst:Option Nat} {v:AV} {x:Value} (h:D7 g s a.tmps) (hV:V g v x) (hd:∀d,dst=some d→d<a.tmps.size):D7 g (sput s dst v) (a.put dst x).tmps:= by
 cases dst with
 | none=>exact h
 | some d =>
  intro t u hu
  rw[D52]at hu
  simp only[Act.put]
  split at hu
  ·next e=>subst e;cases hu;exact⟨x,by simp[hd d Z],hV⟩
  ·next e =>
   obtain⟨y,hy,hVy⟩:=h t u hu
   exact⟨y,by rw[Z11 e];exact hy,hVy⟩
theorem B6n {a:Act} {dst:Option Nat} {x:Value}:(a.put dst x).tmps.size=a.tmps.size:= by cases dst <;> simp[Act.put]
theorem A51 {a:Act} {dst:Option Nat} {x:Value}:(a.put dst x).defers=a.defers:= by cases dst <;> rfl
theorem D7.restrict {g:Ghost} {s:C2} {tmps:Array Value} (h:D7 g s tmps) (l:List Nat):D7 g (restrict s l) tmps:= by
 intro t v hv
 induction l with
 | nil=>simp[Am.restrict,N9,K8]at hv
 | cons x l ih =>
  simp only[Am.restrict]at hv
  split at hv
  ·next u hu =>
   simp only[N9,K8]at hv
   cases hb:ZC x t with
   | true=>simp[hb]at hv;subst hv;exact h t _ (Zk hb▸hu)
   | false=>simp[hb]at hv;exact ih hv
  ·exact ih hv
theorem D4o {g:Ghost} {u:Value} (h:V g (.tup []) u):u=.tuple #[]:= by
 cases h with
 | den _ _ hd=>cases hd
 | tup _ vs hl=>simp at hl;simp[hl]
theorem C56 {g:Ghost} {s:C2} {tmps:Array Value} {ops:Array Oper} {o:Oper} {ao:AOper} {r:Bool} (hm:B4x ops o.guard ao.guard=true) (hS:D7 g s tmps) (h:wanted s ao.guard=some r):Region.wanted o (yielded ops tmps)=r:= by
 unfold B4x at hm
 unfold wanted at h
 unfold Region.wanted
 revert hm h
 cases o.guard <;> cases ao.guard <;> simp only[Zj,false_implies,imp_self,implies_true]
 ·intro _ h;simpa using h
 ·rename_i x y
  obtain⟨j,want⟩:=x
  obtain⟨t,want'⟩:=y
  intro hm h
  simp only[Zc,beq_iff_eq]at hm
  obtain⟨rfl,hm⟩:=hm
  split at hm
  ·next q hq =>
   have hd:q.dst=some t:= by simpa using hm
   have hy:yielded ops tmps j=(match tmps[t]? with|some (.bool b)=>some b|_=>none):= by
    simp only[yielded,hq,hd,Zd]
    rcases tmps[t]? with _|v
    ·rfl
    ·cases v <;> rfl
   simp only[hy]
   split at h
   ·next b hb =>
    obtain⟨x,hx,hV⟩:=hS t _ hb
    have:=S5 hV
    subst this
    simp only[hx]
    simp only[Za]at h
    subst h
    cases b <;> cases want <;> rfl
   ·next hb =>
    obtain⟨x,hx,hV⟩:=hS t _ hb
    have:=D4o hV
    subst this
    simp only[hx]
    simp at h
    simp[h]
   ·cases h
  ·cases hm
section
variable {MC:Nat→Code→ACode→Prop} {P:Program} {B0:Nat}
def C4i (lo:Nat) (ds:List Deferred) (g:Ghost) (w:World):Prop :=
 lo≤w.heap.size∧∃ βs:List Nat,ds=βs.map A9g∧βs.Nodup∧∀ β∈βs,lo≤β∧β<w.heap.size∧w.heap[β]? = some (.deferred (some []))∧∀ i,(g.L i).blk≠some β
theorem C4i.ext {lo:Nat} {ds:List Deferred} {H H':A2} {g g':Ghost} {w w':World} (h:C4i lo ds g w) (hE:Ext H g w H' g' w'):C4i lo ds g' w':= by
 obtain⟨h0,βs,h1,h2,h3⟩:=h
 refine⟨Z01 h0 hE.size,βs,h1,h2,fun β hβ=>?_⟩
 obtain⟨q1,q2,q3,q4⟩:=h3 β hβ
 refine⟨q1,Z0m q2 hE.size,?_,fun i hc=>?_⟩
 ·rw[(hE.frame β q2 (fun i o _ _=>q4 i)).1];exact q3
 ·rcases hE.blk i β hc with h|h|⟨j,_,_,_,h⟩
  ·exact q4 i h
  ·omega
  ·exact q4 j h
theorem C17:∀{l m:List Nat},l.map A9g=m.map A9g→l=m
 | [],[],_=>rfl
 | [],_::_,h=>by simp at h
 | _::_,[],h=>by simp at h
 | x::l,y::m,h=>by
  simp only[Zt,List.cons.injEq]at h
  have h1:x=y:= by have:=h.1;simpa [A9g] using this
  rw[h1,C17 h.2]
def B0c:List Value→Value
 | [v]=>v
 | l=>.tuple l.toArray
def B4k (MC:Nat→Code→ACode→Prop) (P:Program) (B0:Nat) (M:Mach):Prop :=
 ∀ c H f args rs H',M.call c H f args=some (rs,H')→∀ g w fv (vs:Array Value),Rel MC P B0 H g w→ScOk c H→V g f fv→vs.size=args.length→(∀ (j:Nat) x,args[j]? = some x→V g x (vs[j]?.getD undef)) →
  ∃ fr0,Begins P w fv vs fr0∧∀ fr cs,∃ us w' g' fs,Steps P (lone fr0 (fr::cs) w) (lone (fr.finish (B0c us)) cs w')∧RVs g' rs us fs∧FsOk MC P g' w' (OkB B0 H g w) fs∧Rel MC P B0 H' g' w'∧Ext H g w H' g' w'∧ScOk c H'∧Unborn H g g'
theorem D22 {s:C2}:∀{xs:List Opd} {vs:List AV},evs s xs=some vs→vs.length=xs.length
 | [],vs,h=>by simp only[evs,Za]at h;simp[← h]
 | x::xs,vs,h=>by
  simp only[evs,Zs,Zz]at h
  obtain⟨v,_,l,hl,rfl⟩:=h
  simp[D22 hl]
theorem B37:∀{xs:List Operand} {ys:List Opd},S0 xs ys=true→xs.length=ys.length
 | [],[],_=>rfl
 | [],_::_,h=>by simp[S0]at h
 | _::_,[],h=>by simp[S0]at h
 | x::l,y::m,h=>by simp only[S0,Zc]at h;simp[B37 h.2]
theorem D3a {H H':A2} {v v':AV} (hp:pubbed H v=true) (h:frv H v=some (v',H')):H'=H:= by
 unfold frv at h
 repeat' split at h
 all_goals first
  | (cases h;done)
  | (simp only[Za,Zf]at h;exact h.2.symm)
  | (simp_all [pubbed])
theorem C8u:∀{l l':List AV} {H H':A2},l.all (pubbed H)=true→Z4 H l=some (l',H')→H'=H
 | [],l',H,H',_,h=>by simp only[Z4,Za,Zf]at h;exact h.2.symm
 | v::l,l',H,H',hp,h=>by
  simp only[ZS,Zc]at hp
  simp only[Z4]at h
  split at h
  ·cases h
  ·next v1 H1 e1 =>
   have:=D3a hp.1 e1
   subst this
   split at h
   ·cases h
   ·next l2 H2 e2 =>
    simp only[Za,Zf]at h
    exact h.2▸C8u hp.2 e2
theorem D7a {H H':A2} {v v':AV} (hp:R6 H v=true) (h:U4 H v=some (v',H')):H'=H:= by
 unfold U4 at h
 split at h
 ·next cs =>
  cases hl:Z4 H cs with
  | none=>simp[hl]at h
  | some r=>simp only[hl,Zb,Za,Zf]at h;exact h.2▸C8u (by simpa [R6] using hp) (l':=r.1) (H':=r.2) hl
 ·simp only[Za,Zf]at h;exact h.2.symm
 ·refine D3a ?_ h
  rename_i h1 h2
  cases v <;> first|exact hp|exact absurd Z (h1 _)
theorem C47:∀{l l':List AV} {H H':A2},l.all (R6 H)=true→S6 H l=some (l',H')→H'=H
 | [],l',H,H',_,h=>by simp only[S6,Za,Zf]at h;exact h.2.symm
 | v::l,l',H,H',hp,h=>by
  simp only[ZS,Zc]at hp
  simp only[S6]at h
  split at h
  ·cases h
  ·next v1 H1 e1 =>
   have:=D7a hp.1 e1
   subst this
   split at h
   ·cases h
   ·next l2 H2 e2 =>
    simp only[Za,Zf]at h
    exact h.2▸C47 hp.2 e2
theorem D41 {own:List (List (Nat×Nat))} {l l':List AV} {H H':A2} (hp:(lend own||l.all (R6 H))=true) (h:A1n own H l=some (l',H')):H'=H:= by
 unfold A1n at h
 split at h
 ·simp only[Za,Zf]at h;exact h.2.symm
 ·next hn =>
  rw[Z14]at hp
  exact C47 (hp.resolve_left hn) h
theorem B8x {MC:Nat→Code→ACode→Prop} {P:Program} {B0:Nat} {w:World} {own:List (List (Nat×Nat))} {l l':List AV} {H H':A2} {g:Ghost} {us:List Value} (hR:Rel MC P B0 H g w) (hl:us.length=l.length) (hV:∀(j:Nat) x,l[j]? = some x→V g x (us[j]?.getD undef)) (h:A1n own H l=some (l',H')) :
  ∃ g',Froze MC P B0 H g w H' g'∧l'.length=l.length∧∀ (j:Nat) x,l'[j]? = some x→V g' x (us[j]?.getD undef):= by
 unfold A1n at h
 split at h
 ·simp only[Za,Zf]at h;obtain⟨rfl,rfl⟩:=h
  exact⟨g,.refl hR,Z,hV⟩
 ·exact B8y hR hl hV h
theorem D7c {c:Sc} {own:List (List (Nat×Nat))} {l l':List AV} {H H':A2} (h:ScOk c H) (hf:A1n own H l=some (l',H')):ScOk c H':= by
 unfold A1n at hf
 split at hf
 ·simp only[Za,Zf]at hf;exact hf.2▸h
 ·exact C8t h hf
theorem D6g {g:Ghost} {v:AV} {u:Value} {b:Nat} (h:V g v u) (hb:v.box? = some b):g.L b≠.none:= by
 intro hn
 cases h <;> simp only[AV.box?,Za]at hb <;> try (cases hb;done)
 all_goals first
  | (subst hb;simp_all;done)
  | (rename_i hd;cases hd <;> cases hb)
theorem B8v {MC:Nat→Code→ACode→Prop} {P:Program} {B0:Nat} {w:World} {H K:A2} {g:Ghost} (hR:Rel MC P B0 H g w) (hK:∀b cs,hcells K b=some cs→hcells H b=some cs):∀{l:List Nat} {b b':Nat},g.L b≠.none→follow K b l=some b'→g.L b' ≠ .none
 | [],b,b',hb,h=>by simp only[follow,Za]at h;exact h▸hb
 | o::l,b,b',hb,h=>by
  simp only[follow]at h
  split at h
  ·next cs hc =>
   split at h
   ·next b2 h2 =>
    obtain⟨x,hx,hxb⟩:=Zs.mp h2
    obtain⟨β,e,hL,c,c1,c2,c3,c4⟩:=hR.cells (hK b cs hc)
    obtain⟨v,_,hV,_⟩:=c3 o x hx
    exact B8v hR hK (D6g hV hxb) h
   ·cases h
  ·cases h
theorem C57 {MC:Nat→Code→ACode→Prop} {P:Program} {B0:Nat} {w:World} {H K:A2} {g:Ghost} {s:C2} {tmps:Array Value} (hR:Rel MC P B0 H g w) (hS:D7 g s tmps) (hK:∀b cs,hcells K b=some cs→hcells H b=some cs):∀{l:List (Nat×List Nat)} {bs:List Nat},ways s K l=some bs→∀ b∈bs,g.L b≠.none
 | [],bs,h,b,hb=>by simp only[ways,Za]at h;subst h;cases hb
 | x::l,bs,h,b,hb=>by
  simp only[ways]at h
  split at h
  ·next b1 h1 =>
   split at h
   ·next b2 r h2 h3 =>
    simp only[Za]at h
    subst h
    obtain⟨v,hv,hvb⟩:=Zs.mp h1
    obtain⟨u,_,hV⟩:=hS _ _ hv
    rcases Zu.mp hb with rfl|hb
    ·exact B8v hR hK (D6g hV hvb) h2
    ·exact C57 hR hS hK h3 b hb
   ·cases h
  ·cases h
theorem C8w {H:A2} {l:List Nat} {b:Nat} {cs:List AV} (h:hcells (hide H l) b=some cs):hcells H b=some cs:= by
 unfold hcells hget at h ⊢
 rw[A29]at h
 split at h
 ·next hm =>
  split at hm
  ·cases hq:H[b]? with
   | none=>rw[hq]at hm;cases hm
   | some o=>rw[hq]at hm;cases hm
  ·rw[hm];exact h
 ·next hm =>
  split at hm
  ·cases hq:H[b]? with
   | none=>rw[hq]at hm;cases hm
   | some o=>rw[hq]at hm;cases hm
  ·rw[hm];exact h
 ·cases h
theorem C72 {g:Ghost} {xs:List AV} {us:List Value} (hl:xs.length=us.length) (h:∀(i:Nat) x,xs[i]? = some x→V g x (us[i]?.getD undef)):V g (packed xs) (B0c us):= by
 match xs,us,hl with
 | [],[],_=>exact .tup [] #[] rfl (by simp)
 | [x],[u],_=>exact h 0 x Z
 | x::y::l,u::v::m,hl =>
  simp only[packed,B0c]
  exact .tup _ _ (by simpa using hl.symm) (fun j z hz=>by simpa using h j z hz)
variable {M:Mach} {b:Frame} {k:List Item} {cs:List Frame} {ops:Array Oper} {nt n0:Nat} {c:Sc}
theorem D1a (hM:B4k MC P B0 M) {a:Act} {s:C2} {H H':A2} {g:Ghost} {w:World} {i:Nat} {rest:List Nat} {o:Oper} {op:AOp} {v:AV} (ho:ops[i]? = some o) (hw:Region.wanted o (yielded ops a.tmps)=true)
  (hok:E1e op=true) (hm:D1 P o.op op=true) (hR:Rel MC P B0 H g w) (hS:D7 g s a.tmps) (hC:ScOk c H) (hn:c.cur≤n0) (hF:Free H g n0 (F6 op)) (hnd:(F6 op).Nodup) (h:core M c n0 s H op=some (v,H')) :
  ∃ x w' g',Steps P (lone (b.atR a (.inRegion ops (i::rest)::k)) cs w) (lone (b.atR (a.put o.dst x) (.inRegion ops rest::k)) cs w')∧V g' v x∧Rel MC P B0 H' g' w'∧Ext H g w H' g' w'∧ScOk c H' ∧
   ∀ i,i<H.length→i ∉ (F6 op).map (n0 + ·)→g.L i=.none→g'.L i=.none:= by
 by_cases hcall:∃f args own pure,op=.call f args own pure
 ·obtain⟨f,args,own,pure,rfl⟩:=hcall
  simp only[core]at h
  simp only[D1]at hm
  split at hm
  ·next f0 args0 ats hop =>
   simp only[Zc]at hm
   obtain⟨hm1,hm2⟩:=hm
   have hB:B0≤w.heap.size:=hR.b0
   simp only[W2]at h
   split at h
   ·next fv aq he1 he2 =>
    have hVf:=L6 hS hm1 he1
    have hVas:=C4t hS hm2 he2
    have hlen:(args0.map a.eval).toList.length=aq.length:= by simp[D22 he2];simpa using B37 hm2
    have hVas':∀(j:Nat) x,aq[j]? = some x→V g x ((args0.map a.eval).toList[j]?.getD undef):= by
     have:=C4t hS hm2 he2
     first
      | exact this
      | (intro j x hj;have:=this j x hj;simpa using this)
      | (intro j x hj;obtain⟨q1,q2⟩:=this;have:=q2 j x hj;simpa using this)
    have finish:∀(x:Value),(b.atR a (.inRegion ops (i::rest)::k)).finish x=b.atR (a.put o.dst x) (.inRegion ops rest::k):= by
     intro x
     have hf:=Frame.finish_atR b a ops i rest k x
     rw[ho]at hf;exact hf
    split at h
    ·next hpure =>
     split at h
     ·next hpub =>
      split at h
      ·cases h
      ·next as' H1 hfr =>
       have e1:=D41 hpub hfr
       subst e1
       obtain⟨g1,hFz,hl1,hV1⟩:=B8x hR hlen hVas' hfr
       split at h
       ·cases h
       ·next rs H2 hcl =>
        split at h
        ·next hbd =>
         simp only[Za,Zf]at h
         obtain⟨rfl,rfl⟩:=h
         obtain⟨fr0,hb,hgo⟩:=hM _ _ _ _ _ _ hcl g1 w (a.eval f0) (args0.map a.eval) hFz.rel.ro hC.ro (hVf.mono hFz.ext.le) (by rw[hl1];simpa using hlen) (fun j x hj=>by simpa using hV1 j x hj)
         obtain⟨us,w',g2,fs,hs,hrv,hfs,hR2,hE2,hC2,hU2⟩:=hgo (b.atR a (.inRegion ops (i::rest)::k)) cs
         obtain⟨hR3,hE3⟩:=hFz.rel.backRo hE2 hR2 (fun j hj hn=>hU2 j (by simpa using hj) hn)
         have hE4:=hFz.ext.trans hE3
         have hun:∀j,j<H1.length→g.L j=.none→(A1s H1.length g2).L j=.none:= by
          intro j hj hjn
          rw[C09 hj]
          exact hU2 j (by simpa using hj) (by rw[hFz.L];exact hjn)
         obtain⟨g3,hx,hxl,hc3,_⟩:=B4u (n0:=n0) (own:=own) (l:=rs) hnd hE4 hR3 (hrv.cut hbd) (rest:=[]) (by simpa using (hfs.cut (N:=H1.length)).weaken (fun β hβ=>OkB.back hFz.ext (OkB.ofRo hβ))) (fun r hr=>by
          obtain⟨q1,q2⟩:=hF r hr
          exact⟨q1,hun _ q1 q2⟩)
         refine⟨B0c us,w',g3,?_,C72 hxl hx,hc3.rel,hc3.ext,C63 hn hC,?_⟩
         ·exact .head (B9j ho hw hop hb) (by rw[← finish];exact hs)
         ·intro j hj hjn hjg
          rw[hc3.same j hjn];exact hun j hj hjg
        ·cases h
     ·cases h
    ·next hpure =>
     split at h
     ·cases h
     ·next as' H1 hfr =>
      obtain⟨g1,hFz,hl1,hV1⟩:=B8x hR hlen hVas' hfr
      split at h
      ·cases h
      ·next rs H2 hcl =>
       simp only[Za,Zf]at h
       obtain⟨rfl,rfl⟩:=h
       obtain⟨fr0,hb,hgo⟩:=hM _ _ _ _ _ _ hcl g1 w (a.eval f0) (args0.map a.eval) hFz.rel (D7c hC hfr) (hVf.mono hFz.ext.le) (by rw[hl1];simpa using hlen) (fun j x hj=>by simpa using hV1 j x hj)
       obtain⟨us,w',g2,fs,hs,hrv,hfs,hR2,hE2,hC2,hU2⟩:=hgo (b.atR a (.inRegion ops (i::rest)::k)) cs
       have hE4:=hFz.ext.trans hE2
       have hun:∀j,j<H.length→g.L j=.none→g2.L j=.none:= by
        intro j hj hjn
        exact hU2 j (by rw[hFz.len];exact hj) (by rw[hFz.L];exact hjn)
       obtain⟨g3,hx,hxl,hc3,_⟩:=B4u (n0:=n0) (own:=own) (l:=rs) hnd hE4 hR2 hrv (rest:=[]) (by simpa using hfs.weaken (fun β hβ=>OkB.back hFz.ext hβ)) (fun r hr=>by
        obtain⟨q1,q2⟩:=hF r hr
        exact⟨Z0m q1 hE4.len,hun _ q1 q2⟩)
       refine⟨B0c us,w',g3,?_,C72 hxl hx,hc3.rel,hc3.ext,C63 hn hC2,?_⟩
       ·exact .head (B9j ho hw hop hb) (by rw[← finish];exact hs)
       ·intro j hj hjn hjg
        rw[hc3.same j hjn];exact hun j hj hjg
   ·cases h
  ·cases hm
 ·have hp:prim c n0 s H op=some (v,H'):= by
   cases op with
   | call f args own pure=>exact absurd ⟨_,_,_,_,Z⟩ hcall
   | _=>exact h
  obtain⟨x,w',g',h1,h2,h3,h4,h5,h6⟩:=D19 (a:=a) hok hm hR hS hF hnd hp
  exact⟨x,w',g',.one (B5d ho hw (D5k hm) h1),h2,h3,h4,E1n hC hn hp,fun i _ hi hn=>h6 i hi hn⟩
structure RInv (MC:Nat→Code→ACode→Prop) (P:Program) (B0 nt:Nat) (c:Sc) (n0 lo:Nat) (fn:Bool) (hh rem:List Nat) (s:C2) (H:A2) (g:Ghost) (a:Act) (w:World):Prop where
 rel:Rel MC P B0 H g w
 slots:D7 g s a.tmps
 size:a.tmps.size=nt
 sc:ScOk c H
 cn:c.cur≤n0
 free:Free H g n0 rem
 ns:∀r∈hh,n0+r<H.length∧hstk H (n0+r)=none
 dl:fn=true→C4i lo a.defers g w
theorem D1z (hM:B4k MC P B0 M) (hN:NoS M) {hh:List Nat} {lo:Nat} {fn:Bool} {a:Act} {s s':C2} {H H':A2} {hc hc':List (Option (List Nat))} {g:Ghost} {w:World} {rest:List Nat} {ao:AOper} {rem:List Nat} (hm:A7l P ops nt ao=true) (hhid:∀r∈ao.hid,r∈hh) (hpush:B7s ao.op=false∨hh=[])
  (hI:RInv MC P B0 nt c n0 lo fn hh (F6 ao.op++rem) s H g a w) (hnd:(F6 ao.op++rem).Nodup) (h:oper M c n0 s H hc ao=some (s',H',hc')) :
  ∃ a' g' w',Steps P (lone (b.atR a (.inRegion ops (ao.src::rest)::k)) cs w) (lone (b.atR a' (.inRegion ops rest::k)) cs w')∧RInv MC P B0 nt c n0 lo fn hh rem s' H' g' a' w'∧Ext H g w H' g' w' ∧
   ∀ i,i<n0→i<H.length→g.L i=.none→g'.L i=.none:= by
 unfold A7l at hm
 split at hm
 ·cases hm
 ·next o ho =>
  simp only[Zc]at hm
  obtain⟨⟨⟨⟨⟨m1,m2⟩,m3⟩,m4⟩,m5⟩,m6⟩:=hm
  have hns:∀r∈hh,n0+r<H'.length∧hstk H' (n0+r)=none:=fun r hr=>by
   obtain⟨r1,r2⟩:=hI.ns r hr
   have q:=D34 hN h
   exact⟨Z0m r1 q.1,q.2 _ r1 (.inl (hpush.resolve_right (fun e=>by rw[e]at hr;cases hr))) r2⟩
  have hdst:o.dst=ao.dst:= by simpa using m3
  have hd:∀d,ao.dst=some d→d<a.tmps.size:= by
   intro d he;rw[he]at m4;rw[hI.size];simpa using m4
  obtain⟨n1,n2,n3⟩:=Z0o.1 hnd
  have hF1:Free H g n0 (F6 ao.op):=fun r hr=>hI.free r (Z1n _ hr)
  unfold oper at h
  split at h
  ·cases h
  ·next hwt =>
   have hw:=C56 m5 hI.slots hwt
   simp only[Za,Zf]at h
   obtain⟨rfl,rfl,rfl⟩:=h
   refine⟨a.put o.dst undef,g,w,.one (C4f ho hw),⟨hI.rel,?_,by rw[B6n];exact hI.size,hI.sc,hI.cn,fun r hr=>hI.free r (Z0k _ hr),hns,by rw[A51];exact hI.dl⟩,Ext.refl _ _ _,fun _ _ _ h=>h⟩
   rw[hdst];exact hI.slots.put (C0y g) hd
  ·next hwt =>
   have hw:=C56 m5 hI.slots hwt
   split at h
   ·next hs heq1 heq2 =>
    split at h
    ·next r hr =>
     split at h
     case isFalse=>cases h
     simp only[Za,Zf]at h
     obtain⟨rfl,rfl,rfl⟩:=h
     obtain⟨v,H2⟩:=r
     have hform:hs=ao.hid.map (n0 + ·)++hs.drop ao.hid.length∧(∀ b∈hs.drop ao.hid.length,g.L b≠.none)∧∀ b∈hs.drop ao.hid.length,hstk (hide H (ao.hid.map (n0 + ·))) b=none:= by
      unfold A4t at heq1
      split at heq1
      ·next bs hbs =>
       dsimp only at heq1
       split at heq1
       ·next hc =>
        simp only[Za]at heq1
        subst heq1
        have hd:(ao.hid.map (n0 + ·)++bs).drop ao.hid.length=bs:= by rw[List.drop_left' (by simp)]
        rw[hd]
        refine⟨Z,C57 hI.rel hI.slots (fun b cs h=>C8w h) hbs,fun b hb=>?_⟩
        rw[Zc,Zq]at hc
        simpa using hc.2 b hb
       ·cases heq1
      ·cases heq1
     have hone:∀b∈hs,hstk H b=none:=fun b hb=>by
      rw[hform.1,ZA]at hb
      have hid0:b∈ao.hid.map (n0 + ·)→hstk H b=none:=fun hb=>by
       obtain⟨r,hr,rfl⟩:=ZK.1 hb
       exact(hI.ns r (hhid r hr)).2
      rcases hb with hb|hb
      ·exact hid0 hb
      ·by_cases hm:b∈ao.hid.map (n0 + ·)
       ·exact hid0 hm
       ·have:=hform.2.2 b hb
        rwa [B7p hm]at this
     obtain⟨x,w',g',q1,q2,q3,q4,q5,q6⟩:=D1a (b:=b) (k:=k) (cs:=cs) (rest:=rest) hM ho hw m2 m1 (hI.rel.hide hs hone) hI.slots (hI.sc.hide hs) hI.cn (fun r hr=>by rw[A3a];exact hF1 r hr) n1 hr
     obtain⟨e1,e2⟩:=hI.rel.unhide hs hone (fun b hb hlt hn=>by
      rw[hform.1,ZA]at hb
      rcases hb with hb|hb
      ·refine q6 b (by rw[A3a];exact hlt) (fun hm=>?_) hn
       obtain⟨r,hr,rfl⟩:=ZK.1 hb
       obtain⟨r',hr',he⟩:=ZK.1 hm
       have:r'=r:= by omega
       subst this
       simp only[C6f,Zq,Z05,Z3g,decide_eq_false_iff_not]at m6
       exact m6 r' hr' hr
      ·exact absurd hn (hform.2.1 b hb)) q4 q3
     have hlen:H.length≤H2.length:= by have:=q4.len;rwa [A3a]at this
     have q6':∀i,i<H.length→i ∉ (F6 ao.op).map (n0 + ·)→g.L i=.none→g'.L i=.none:=fun i hi=>q6 i (by rw[A3a];exact hi)
     refine⟨a.put o.dst x,g',w',q1,⟨e1,?_,by rw[B6n];exact hI.size,hI.sc.unhide q5 hlen hs,hI.cn,?_,hns,?_⟩,e2,?_⟩
     ·rw[hdst];exact(hI.slots.mono e2.le).put q2 hd
     ·intro r hr
      obtain⟨p1,p2⟩:=hI.free r (Z0k _ hr)
      refine⟨by rw[A03];exact Z0m p1 hlen,q6' _ p1 ?_ p2⟩
      intro hmem
      obtain⟨r',hr',he⟩:=ZK.1 hmem
      have:r'=r:= by omega
      subst this
      exact n3 r' hr' r' hr Z
     ·intro hfn;rw[A51];exact(hI.dl hfn).ext e2
     ·intro i hi hil hn
      refine q6' i hil ?_ hn
      intro hmem
      obtain⟨r',_,he⟩:=ZK.1 hmem
      omega
    ·cases h
   ·cases h
theorem B84 (hM:B4k MC P B0 M) (hN:NoS M) {hh:List Nat} {lo:Nat} {fn:Bool}:∀{l:List AOper} {a:Act} {s s':C2} {H H':A2} {hc:List (Option (List Nat))} {g:Ghost} {w:World},(l.all fun o=>A7l P ops nt o)=true→(∀ o∈l,(∀ r∈o.hid,r∈hh)∧(B7s o.op=false∨hh=[])) →
  RInv MC P B0 nt c n0 lo fn hh (l.flatMap fun o=>F6 o.op) s H g a w→(l.flatMap fun o=>F6 o.op).Nodup→opers M c n0 l s H hc=some (s',H') →
  ∃ a' g' w',Steps P (lone (b.atR a (.inRegion ops (l.map (·.src))::k)) cs w) (lone (b.atR a' (.inRegion ops []::k)) cs w')∧RInv MC P B0 nt c n0 lo fn hh [] s' H' g' a' w'∧Ext H g w H' g' w' ∧
   ∀ i,i<n0→i<H.length→g.L i=.none→g'.L i=.none
 | [],a,s,s',H,H',hc,g,w,hm,hq,hI,hnd,h=>by
  simp only[opers,Za,Zf]at h
  obtain⟨rfl,rfl⟩:=h
  exact⟨a,g,w,.refl _ _,hI,Ext.refl _ _ _,fun _ _ _ h=>h⟩
 | o::l,a,s,s',H,H',hc,g,w,hm,hq,hI,hnd,h=>by
  simp only[ZS,Zc]at hm
  simp only[opers]at h
  split at h
  ·cases h
  ·next s1 H1 hc1 h1 =>
   simp only[Z0l]at hI hnd
   obtain⟨a1,g1,w1,q1,q2,q3,q4⟩:=D1z (b:=b) (k:=k) (cs:=cs) (rest:=l.map (·.src)) hM hN hm.1 (hq o (Zy ..)).1 (hq o (Zy ..)).2 hI hnd h1
   obtain⟨a2,g2,w2,p1,p2,p3,p4⟩:=B84 hM hN hm.2 (fun o ho=>hq o (Zx _ ho)) q2 (Z0o.1 hnd).2.1 h
   exact⟨a2,g2,w2,q1.trans p1,p2,q3.trans p3,fun i hi hl hn=>p4 i hi (Z0m hl q3.len) (q4 i hi hl hn)⟩
end
section
variable {s s':C2}
theorem U6 (x:Opd) (h:∀t∈O5 x,sget s t=sget s' t):ev s x=ev s' x:= by
 cases x <;> simp[ev]
 exact h _ (by simp[O5])
theorem A9x:∀(l:List Opd) (_:∀t∈l.flatMap O5,sget s t=sget s' t),evs s l=evs s' l
 | [],_=>rfl
 | x::l,h=>by
  simp only[evs,U6 x (fun t ht=>h t (by simp[ht])),A9x l (fun t ht=>h t (by simp at ht ⊢; exact .inr ht))]
theorem B35:∀(l:List (Nat×Nat×Opd)) (_:∀t∈l.flatMap fun q=>O5 q.2.2,sget s t=sget s' t),V0 s l=V0 s' l
 | [],_=>rfl
 | x::l,h=>by
  obtain⟨i,n,x⟩:=x
  simp only[V0,U6 x (fun t ht=>h t (by simp[ht])),B35 l (fun t ht=>h t (by simp at ht ⊢; exact .inr ht))]
theorem A7t:∀(l:List (Nat×Opd)) (_:∀t∈l.flatMap fun q=>O5 q.2,sget s t=sget s' t),M6 s l=M6 s' l
 | [],_=>rfl
 | x::l,h=>by
  obtain⟨i,x⟩:=x
  simp only[M6,U6 x (fun t ht=>h t (by simp[ht])),A7t l (fun t ht=>h t (by simp at ht ⊢; exact .inr ht))]
theorem B25 (d:Int) (x:Option Opd) (h:∀t∈B6f x,sget s t=sget s' t):bnd s d x=bnd s' d x:= by
 cases x with
 | none=>rfl
 | some x=>simp only[bnd,B10,U6 x h]
theorem D18 {c:Sc} {n0:Nat} {H:A2} {op:AOp} (h:∀t∈A20 op,sget s t=sget s' t):prim c n0 s H op=prim c n0 s' H op:= by
 cases op with
 | load k x=>cases k <;> simp only[prim,U6 x h]
 | build z ps=>simp only[prim,B35 ps h]
 | lits k z n ps own=>simp only[prim,A7t ps h]
 | xlits k z n ps=>simp only[prim,A7t ps h]
 | mkfn f x y =>
  simp only[A20,ZA]at h
  simp only[prim,A9x x (fun t ht=>h t (.inl ht)),A9x y (fun t ht=>h t (.inr ht))]
 | mm mx xs=>simp only[prim,A9x xs h]
 | pick x y z|mupd _ _ x y z =>
  simp only[A20,ZA]at h
  simp only[prim,U6 x (fun t ht=>h t (.inl (.inl ht))),U6 y (fun t ht=>h t (.inl (.inr ht))),U6 z (fun t ht=>h t (.inr ht))]
 | store _ x y|bin _ x y|beq _ x y|cmp _ _ x y|idxS _ x y|idxA _ _ x y|idxStr x y|idxAgg _ _ _ x y|lookup _ _ _ x y _|append _ _ x y _ _|copy _ x y|mkslice _ _ _ x y _ =>
  simp only[A20,ZA]at h
  simp only[prim,U6 x (fun t ht=>h t (.inl ht)),U6 y (fun t ht=>h t (.inr ht))]
 | sliceS x l r|sliceL _ x l r|sliceQ _ x l r|sub _ x l r =>
  simp only[A20,ZA]at h
  have e1:∀d,bnd s d l=bnd s' d l:=fun d=>B25 d l (fun t ht=>h t (.inl (.inr ht)))
  have e2:∀d,bnd s d r=bnd s' d r:=fun d=>B25 d r (fun t ht=>h t (.inr ht))
  simp only[prim,U6 x (fun t ht=>h t (.inl (.inl ht))),e1,e2]
 | sliceA _ _ x r =>
  simp only[A20,ZA]at h
  have e2:∀d,bnd s d r=bnd s' d r:=fun d=>B25 d r (fun t ht=>h t (.inr ht))
  simp only[prim,U6 x (fun t ht=>h t (.inl ht)),e2]
 | cut _ x r _ =>
  simp only[A20,ZA]at h
  have e2:∀d,bnd s d r=bnd s' d r:=fun d=>B25 d r (fun t ht=>h t (.inr ht))
  simp only[prim,U6 x (fun t ht=>h t (.inl ht)),e2]
 | nil|alloc|mkmap|call=>rfl
 | mv x|mvz x|storeN x _ _|box _ x _|nilck x|un _ x|conv _ x|idc x|nilq _ x|fieldAddr _ x|field _ _ x|range x _|rangeM x _|next x|entry x|extract x _|lenS x|lenL x|lenM x|clear _ _ x=>simp only[prim,U6 x h]
theorem D08 {M:Mach} {c:Sc} {n0:Nat} {H:A2} {op:AOp} (h:∀t∈A20 op,sget s t=sget s' t):core M c n0 s H op=core M c n0 s' H op:= by
 by_cases hc:∃f args own pure,op=.call f args own pure
 ·obtain⟨f,args,own,pure,rfl⟩:=hc
  simp only[A20,ZA]at h
  simp only[core,W2,U6 f (fun t ht=>h t (.inl ht)),A9x args (fun t ht=>h t (.inr ht))]
 ·have e:∀s,core M c n0 s H op=prim c n0 s H op:= by
   intro s;cases op <;> first|rfl|exact absurd ⟨_,_,_,_,Z⟩ hc
  rw[e,e];exact D18 h
theorem C3k {H:A2}:∀(l:List (Nat×List Nat)) (_:∀t∈l.map (·.1),sget s t=sget s' t),ways s H l=ways s' H l
 | [],_=>rfl
 | x::l,h=>by
  simp only[ways,h x.1 (by simp),C3k l (fun t ht=>h t (by simp at ht ⊢; exact .inr ht))]
theorem C7t (x:Option (Nat×Bool)) (h:∀t∈(match x with|some (t,_)=>[t]|none=>[]),sget s t=sget s' t):wanted s x=wanted s' x:= by
 cases x with
 | none=>rfl
 | some x=>obtain⟨t,w⟩:=x;simp only[wanted,h t (by simp)]
end
def look:List (Nat×AO)→Nat→Option AO
 | [],_=>none
 | x::l,i=>(look l i).or (if x.1=i then some x.2 else none)
def K1:A2→List (Nat×AO)→A2
 | H,[]=>H
 | H,x::l=>K1 (hset H x.1 x.2) l
theorem A4b:∀(l:List (Nat×AO)) (H:A2) (i:Nat),(K1 H l)[i]? = (H[i]?).map fun o=>(look l i).getD o
 | [],H,i=>by simp[K1,look]
 | x::l,H,i=>by
  simp only[K1,A4b l,hset,ZJ,look]
  by_cases e:x.1=i
  ·subst e
   by_cases hl:x.1<H.length
   ·simp[hl]
   ·simp[hl]
  ·simp[e]
theorem B1j:∀(l:List (Nat×AO)) (H:A2),(K1 H l).length=H.length
 | [],H=>rfl
 | x::l,H=>by simp[K1,B1j l,hset]
theorem B7x {l:List (Nat×AO)} {i:Nat} (h:∀x∈l,x.1≠i):look l i=none:= by
 induction l with
 | nil=>rfl
 | cons x l ih=>simp[look,ih (fun y hy=>h y (by simp[hy])),h x (by simp)]
theorem C86 {l:List (Nat×AO)} {i:Nat} {o:AO} (h:look l i=some o):∃x∈l,x.1=i:= by
 induction l generalizing o with
 | nil=>cases h
 | cons x l ih =>
  simp only[look]at h
  cases hl:look l i with
  | some o'=>obtain⟨y,hy,e⟩:=ih hl;exact⟨y,by simp[hy],e⟩
  | none =>
   rw[hl]at h
   simp only[Option.none_or]at h
   split at h
   ·next e=>exact⟨x,by simp,e⟩
   ·cases h
theorem B7o (H:A2):∀l,(hide H l).length=H.length
 | []=>rfl
 | b::l=>by simp[hide,hset,B7o H l]
theorem B23 (G H:A2):∀l,(unhide G H l).length=H.length
 | []=>rfl
 | b::l=>by
  simp only[unhide]
  split
  ·simp[hset,B23 G H l]
  ·exact B23 G H l
theorem A7i (H:A2) (i:Nat):∀l,(hide H l)[i]? = (H[i]?).map fun o=>if i∈l then AO.dead else o
 | []=>by simp[hide]
 | b::l=>by
  simp only[hide,hset,ZJ,A7i H i l,Zu,B7o]
  by_cases e:b=i
  ·subst e
   by_cases hb:b<H.length
   ·simp[hb]
   ·have:H[b]? = none:=Z39 (by omega)
    simp[hb,this]
  ·have e':¬ i=b:=fun h=>e h.symm
   simp[e,e']
theorem A4o (G H:A2) (i:Nat):∀l,(unhide G H l)[i]? = (H[i]?).map fun o=>if i∈l then (G[i]?).getD o else o
 | []=>by simp[unhide]
 | b::l=>by
  simp only[unhide]
  split
  ·next o ho =>
   have ho':G[b]? = some o:=ho
   simp only[hset,ZJ,B23,A4o G H i l,Zu]
   by_cases e:b=i
   ·subst e
    by_cases hb:b<H.length
    ·simp[hb,ho']
    ·have:H[b]? = none:=Z39 (by omega)
     simp[hb,this]
   ·have e':¬ i=b:=fun h=>e h.symm
    simp[e,e']
  ·next hn =>
   have hn':G[b]? = none:=hn
   rw[A4o G H i l]
   by_cases e:i=b
   ·subst e;simp[hn']
   ·simp[e]
theorem B51 {H K:A2} (h:∀i:Nat,H[i]? = K[i]?):H=K:=List.ext_getElem? h
theorem A8w {H:A2} {S:List (Nat×AO)} {hs:List Nat} (h:∀x∈S,x.1∈hs):hide (K1 H S) hs=hide H hs:= by
 apply B51;intro i
 rw[A7i,A7i,A4b,Z2w]
 congr 1;funext o
 simp only[Function.comp]
 by_cases hi:i∈hs
 ·simp[hi]
 ·simp[hi,B7x (l:=S) (i:=i) (fun x hx e=>hi (by rw[← e];exact h x hx))]
theorem C4h {H H2:A2} {S:List (Nat×AO)} {hs:List Nat} (h:∀x∈S,x.1∈hs) (hb:∀b∈hs,b<H.length):unhide (K1 H S) H2 hs=K1 (unhide H H2 hs) S:= by
 apply B51;intro i
 rw[A4o,A4b,A4b,A4o,Z2w]
 congr 1;funext o
 simp only[Function.comp]
 by_cases hi:i∈hs
 ·have:=Zm (hb i hi)
  simp[hi,this]
 ·simp[hi,B7x (l:=S) (i:=i) (fun x hx e=>hi (by rw[← e];exact h x hx))]
theorem A8k {H:A2} {S:List (Nat×AO)} {hs:List Nat} (h:∀x∈S,x.1 ∉ hs):unhide H (K1 (hide H hs) S) hs=K1 H S:= by
 apply B51;intro i
 rw[A4o,A4b,A4b,A7i,Z2w,Z2w]
 cases hH:H[i]? with
 | none=>simp
 | some o =>
  simp only[Zb,ZW,Function.comp,Za]
  by_cases hi:i∈hs
  ·simp[hi,B7x (l:=S) (i:=i) (fun x hx e=>h x hx (by rw[e];exact hi))]
  ·simp[hi]
theorem D0f {H:A2} {S T:List (Nat×AO)} (h:∀x∈S,∀ y∈T,x.1≠y.1):K1 (K1 H S) T=K1 (K1 H T) S:= by
 apply B51;intro i
 simp only[A4b,Z2w]
 congr 1;funext o
 simp only[Function.comp]
 cases hS:look S i with
 | none=>simp
 | some oS =>
  cases hT:look T i with
  | none=>simp
  | some oT =>
   obtain⟨x,hx,e1⟩:=C86 hS
   obtain⟨y,hy,e2⟩:=C86 hT
   exact absurd (e1.trans e2.symm) (h x hx y hy)
theorem A8f:∀(S T:List (Nat×AO)) (H:A2),K1 H (S++T)=K1 (K1 H S) T
 | [],T,H=>rfl
 | x::S,T,H=>by simp[K1,A8f S T]
def C0p (n0:Nat) (owns:List (Nat×Nat×Nat)):List (Nat×AO):=owns.map fun x=>(n0+x.2.1,.arr x.2.2 false [])
theorem B1k {n0:Nat}:∀(owns:List (Nat×Nat×Nat)) (zs:List AV) (H:A2),P3 n0 owns zs H=((P3 n0 owns zs []).1,K1 H (C0p n0 owns))
 | [],zs,H=>rfl
 | (j,r,k)::l,zs,H=>by
  simp only[P3,C0p,Zt,K1]
  rw[B1k l _ (hset H (n0+r) (.arr k false [])),B1k l _ (hset [] (n0+r) (.arr k false []))]
  rfl
theorem D7k {n0:Nat} {own:List (Nat×Nat)} {j:Nat} (v:AV):∃S,(∀ x∈S,∃ r∈own.map (·.2),x.1=n0+r)∧∀ H,inC n0 H own j v=((inC n0 [] own j v).1,K1 H S):= by
 have none:(∀ H,inC n0 H own j v=((inC n0 [] own j v).1,H))→∃ S:List (Nat×AO),(∀ x∈S,∃ r∈own.map (·.2),x.1=n0+r)∧∀ H,inC n0 H own j v=((inC n0 [] own j v).1,K1 H S):=fun h=>⟨[],by simp,fun H=>by rw[h];rfl⟩
 cases v with
 | fresh k rows =>
  cases hr:A0k j own with
  | none=>exact none (fun H=>by simp[inC,hr])
  | some r =>
   refine⟨[(n0+r,.arr k false rows)],?_,fun H=>by simp[inC,hr,K1]⟩
   intro x hx
   simp at hx;subst hx
   refine⟨r,?_,Z⟩
   clear none
   induction own with
   | nil=>cases hr
   | cons y own ih =>
    simp only[A0k]at hr
    cases hb:ZC y.1 j with
    | true=>simp[hb]at hr;simp[hr]
    | false=>simp only[hb,cond_false]at hr;exact Zx _ (ih hr)
 | _=>exact none (fun H=>rfl)
theorem D3j {n0:Nat} {own:List (Nat×Nat)}:∀(l:List AV) (j:Nat),∃ S,(∀ x∈S,∃ r∈own.map (·.2),x.1=n0+r)∧∀ H,A4u n0 H own j l=((A4u n0 [] own j l).1,K1 H S)
 | [],j=>⟨[],by simp,fun H=>rfl⟩
 | v::l,j=>by
  obtain⟨S,h1,h2⟩:=D7k (n0:=n0) (own:=own) (j:=j) v
  obtain⟨T,h3,h4⟩:=D3j (n0:=n0) (own:=own) l (j+1)
  refine⟨S++T,fun x hx=>(ZA.1 hx).elim (h1 x) (h3 x),fun H=>?_⟩
  simp only[A4u]
  rw[h2 H,h4 (K1 H S),h2 [],h4 (K1 [] S),A8f]
theorem E2x {n0:Nat} {own:List (Nat×Nat)} (v:AV):∃S,(∀ x∈S,∃ r∈own.map (·.2),x.1=n0+r)∧∀ H,inV n0 H own v=((inV n0 [] own v).1,K1 H S):= by
 by_cases hv:∃cs,v=.agg cs
 ·obtain⟨cs,rfl⟩:=hv
  obtain⟨S,h1,h2⟩:=D3j (n0:=n0) (own:=own) cs 0
  refine⟨S,h1,fun H=>?_⟩
  simp only[inV];rw[h2 H,h2 []]
 ·obtain⟨S,h1,h2⟩:=D7k (n0:=n0) (own:=own) (j:=0) v
  have e:∀H,inV n0 H own v=inC n0 H own 0 v:= by
   intro H;cases v <;> first|rfl|exact absurd ⟨_,Z⟩ hv
  exact⟨S,h1,fun H=>by rw[e,e];exact h2 H⟩
theorem D3n {n0:Nat}:∀(l:List AV) (own:List (List (Nat×Nat))),∃ S,(∀ x∈S,∃ r∈own.flatMap fun q=>q.map (·.2),x.1=n0+r)∧∀ H,Z5 n0 H l own=((Z5 n0 [] l own).1,K1 H S)
 | [],own=>⟨[],by simp,fun H=>rfl⟩
 | v::l,own=>by
  obtain⟨S,h1,h2⟩:=E2x (n0:=n0) (own:=own.headD []) v
  obtain⟨T,h3,h4⟩:=D3n (n0:=n0) l own.tail
  refine⟨S++T,fun x hx=>?_,fun H=>?_⟩
  ·have split:(own.flatMap fun q=>q.map (·.2))=(own.headD []).map (·.2)++own.tail.flatMap fun q=>q.map (·.2):= by cases own <;> simp
   rw[split]
   rcases ZA.1 hx with hx|hx
   ·obtain⟨r,hr,e⟩:=h1 x hx;exact⟨r,Z1n _ hr,e⟩
   ·obtain⟨r,hr,e⟩:=h3 x hx;exact⟨r,Z0k _ hr,e⟩
  ·simp only[Z5]
   rw[h2 H,h4 (K1 H S),h2 [],h4 (K1 [] S),A8f]
def Same (s:C2) (op:AOp) (H K:A2):Prop:=A00 op=false∨H=K∨(isR op=true∧∀ b,rbox s op=some b→hget K b=hget H b)
theorem C49 {H K:A2} {b:Nat} (h:hget K b=hget H b):hcells K b=hcells H b:= by simp[hcells,h]
theorem B0y {H K:A2} {b:Nat} (h:hget K b=hget H b):harr K b=harr H b:= by simp[harr,h]
theorem E0h {H K:A2} {b:Nat} (h:hget K b=hget H b):hstk K b=hstk H b:= by simp[hstk,h]
theorem D3f {H K:A2} {b:Nat} (h:hget K b=hget H b):hmap K b=hmap H b:= by simp[hmap,h]
theorem B9c {H K:A2} {p:AV} (h:∀b,p.box? = some b→hget K b=hget H b):H6 K p=H6 H p:= by
 cases p with
 | ptr b o=>simp[H6,C49 (h b Z)]
 | eptr b n i o=>simp[H6,B0y (h b Z)]
 | _=>rfl
theorem D8z {M:Mach} {c:Sc} {n0:Nat} {s:C2} {H H':A2} {op:AOp} {v:AV} (hw:writes op=false) (h:core M c n0 s H op=some (v,H')) :
  ∃ S:List (Nat×AO),(∀ x∈S,∃ r∈F6 op,x.1=n0+r)∧H'=K1 H S∧∀ K,Same s op H K→core M c n0 s K op=some (v,K1 K S):= by
 have still:H'=H→(∀ K,Same s op H K→core M c n0 s K op=some (v,K))→∃ S:List (Nat×AO),(∀ x∈S,∃ r∈F6 op,x.1=n0+r)∧H'=K1 H S∧∀ K,Same s op H K→core M c n0 s K op=some (v,K1 K S) :=
  fun e hK=>⟨[],by simp,e,hK⟩
 cases op with
 | store|storeN|append|copy|next|entry|rangeM|mupd|cut|clear|sliceL|mvz=>simp[writes]at hw
 | call f args own pure =>
  simp only[writes,Bool.not_eq_false']at hw
  subst hw
  have hH:∀{K},Same s (.call f args own true) H K→H=K:= by
   intro K hK
   rcases hK with hK|hK|⟨hK,_⟩
   ·simp[A00]at hK
   ·exact hK
   ·simp[isR,N4]at hK
  simp only[core,W2,if_true]at h
  have h0:=h
  repeat' split at h
  all_goals try (cases h;done)
  rename_i rs _ _ hbd
  obtain⟨S,h1,h2⟩:=D3n (n0:=n0) rs own
  simp only[Za,Zf]at h
  obtain⟨rfl,rfl⟩:=h
  refine⟨S,h1,by rw[h2 H],fun K hK=>?_⟩
  have:=hH hK;subst this
  simp only[core,W2,if_true]
  rw[h0,h2 H]
 | load k x =>
  cases k with
  | none =>
   simp only[core,prim]at h
   split at h
   ·next p hp =>
    split at h
    ·next y l hy =>
     simp only[Za,Zf]at h
     obtain⟨rfl,rfl⟩:=h
     refine still Z (fun K hK=>?_)
     have:H6 K p=H6 H p:= by
      rcases hK with hK|hK|⟨_,hK⟩
      ·simp[A00,N4]at hK
      ·rw[hK]
      ·exact B9c (fun b hb=>hK b (by simp[rbox,N4,hp,hb]))
     simp[core,prim,hp,this,hy]
    ·cases h
   ·cases h
  | some k =>
   simp only[core,prim]at h
   split at h
   ·next p hp =>
    split at h
    ·next cs hy =>
     split at h
     ·next hle =>
      simp only[Za,Zf]at h
      obtain⟨rfl,rfl⟩:=h
      refine still Z (fun K hK=>?_)
      have:H6 K p=H6 H p:= by
       rcases hK with hK|hK|⟨_,hK⟩
       ·simp[A00,N4]at hK
       ·rw[hK]
       ·exact B9c (fun b hb=>hK b (by simp[rbox,N4,hp,hb]))
      simp only[core,prim,hp,this,hy,hle,if_true]
     ·cases h
    ·cases h
   ·cases h
 | lookup z ag ks x y ok =>
  simp only[core,prim]at h
  split at h
  ·next m key e1 e2 =>
   have hh:∀K,Same s (.lookup z ag ks x y ok) H K→∀ b,m=.mp b→hmap K b=hmap H b:= by
    intro K hK b hb
    rcases hK with hK|hK|⟨_,hK⟩
    ·simp[A00,N4]at hK
    ·rw[hK]
    ·exact D3f (hK b (by simp[rbox,N4,e1,hb,AV.box?]))
   cases m with
   | mp b =>
    simp only at h
    split at h
    ·next es cs he hk =>
     split at h
     ·next hif =>
      split at h
      ·next i v' hfd =>
       simp only[Za,Zf]at h
       obtain⟨rfl,rfl⟩:=h
       exact still Z (fun K hK=>by simp only[core,prim,e1,e2,hh K hK b Z,he,hk,hif,if_true,hfd])
      ·next hfd =>
       simp only[Za,Zf]at h
       obtain⟨rfl,rfl⟩:=h
       exact still Z (fun K hK=>by simp only[core,prim,e1,e2,hh K hK b Z,he,hk,hif,if_true,hfd])
      ·cases h
     ·cases h
    ·cases h
   | lit u =>
    cases u with
    | map r =>
     cases r with
     | none =>
      simp only at h
      split at h
      ·next es cs he hk =>
       simp only[Za]at he;subst he
       split at h
       ·next hif =>
        simp only[findKey,Za,Zf]at h
        obtain⟨rfl,rfl⟩:=h
        exact still Z (fun K hK=>by simp only[core,prim,e1,e2,hk,hif,if_true,findKey])
       ·cases h
      ·cases h
     | some r=>simp at h
    | _=>simp at h
   | _=>simp at h
  ·cases h
 | lenL x =>
  simp only[core,prim]at h
  split at h
  ·next hx =>
   simp only[Za,Zf]at h
   obtain⟨rfl,rfl⟩:=h
   exact still Z (fun K _=>by simp only[core,prim,hx])
  ·next hx =>
   simp only[Za,Zf]at h
   obtain⟨rfl,rfl⟩:=h
   exact still Z (fun K _=>by simp only[core,prim,hx])
  ·next hx =>
   simp only[Za,Zf]at h
   obtain⟨rfl,rfl⟩:=h
   exact still Z (fun K _=>by simp only[core,prim,hx])
  ·next hx =>
   simp only[Za,Zf]at h
   obtain⟨rfl,rfl⟩:=h
   exact still Z (fun K _=>by simp only[core,prim,hx])
  ·next b n hx =>
   split at h
   ·next k p rows hr =>
    split at h
    ·next hn =>
     simp only[Za,Zf]at h
     obtain⟨rfl,rfl⟩:=h
     refine still Z (fun K hK=>?_)
     have:harr K b=harr H b:= by
      rcases hK with hK|hK|⟨_,hK⟩
      ·simp[A00,N4]at hK
      ·rw[hK]
      ·exact B0y (hK b (by simp[rbox,N4,hx,AV.box?]))
     simp only[core,prim,hx,this,hr,if_pos hn]
    ·cases h
   ·next hno =>
    split at h
    ·next k rows p hr =>
     split at h
     ·next hn =>
      simp only[Za,Zf]at h
      obtain⟨rfl,rfl⟩:=h
      refine still Z (fun K hK=>?_)
      have:harr K b=harr H b∧hstk K b=hstk H b:= by
       rcases hK with hK|hK|⟨_,hK⟩
       ·simp[A00,N4]at hK
       ·rw[hK];exact⟨Z,Z⟩
       ·have e:=hK b (by simp[rbox,N4,hx,AV.box?])
        exact⟨B0y e,E0h e⟩
      simp only[core,prim,hx,this.1,this.2,hno,hr,if_pos hn]
     ·cases h
    ·cases h
  ·cases h
 | lenM x =>
  simp only[core,prim]at h
  split at h
  ·next b hx =>
   split at h
   ·next es hr =>
    simp only[Za,Zf]at h
    obtain⟨rfl,rfl⟩:=h
    refine still Z (fun K hK=>?_)
    have:hmap K b=hmap H b:= by
     rcases hK with hK|hK|⟨_,hK⟩
     ·simp[A00,N4]at hK
     ·rw[hK]
     ·exact D3f (hK b (by simp[rbox,N4,hx,AV.box?]))
    simp only[core,prim,hx,this,hr]
   ·cases h
  ·next hx =>
   simp only[Za,Zf]at h
   obtain⟨rfl,rfl⟩:=h
   exact still Z (fun K _=>by simp only[core,prim,hx])
  ·cases h
 | idxS k x y =>
  simp only[core,prim]at h
  split at h
  ·next k' rows m i hx hy =>
   split at h
   ·next hif =>
    split at h
    ·next r hr =>
     simp only[Za,Zf]at h
     obtain⟨rfl,rfl⟩:=h
     exact still Z (fun K _=>by simp only[core,prim,hx,hy,if_pos hif,hr])
    ·cases h
   ·cases h
  ·next k' rows m i hx hy =>
   split at h
   ·next hif =>
    split at h
    ·next r hr =>
     simp only[Za,Zf]at h
     obtain⟨rfl,rfl⟩:=h
     exact still Z (fun K _=>by simp only[core,prim,hx,hy,if_pos hif,hr])
    ·cases h
   ·cases h
  ·next b n m i hx hy =>
   split at h
   ·next k' p rows hr =>
    split at h
    ·next hif =>
     simp only[Za,Zf]at h
     obtain⟨rfl,rfl⟩:=h
     refine still Z (fun K hK=>?_)
     have:harr K b=harr H b:= by
      rcases hK with hK|hK|⟨_,hK⟩
      ·simp[A00,N4]at hK
      ·rw[hK]
      ·exact B0y (hK b (by simp[rbox,N4,hx,AV.box?]))
     simp only[core,prim,hx,hy,this,hr,if_pos hif]
    ·cases h
   ·cases h
  ·next b o1 m1 n m i hx hy =>
   split at h
   ·next k' p rows hr =>
    split at h
    ·next hif =>
     simp only[Za,Zf]at h
     obtain⟨rfl,rfl⟩:=h
     refine still Z (fun K hK=>?_)
     have:harr K b=harr H b:= by
      rcases hK with hK|hK|⟨_,hK⟩
      ·simp[A00,N4]at hK
      ·rw[hK]
      ·exact B0y (hK b (by simp[rbox,N4,hx,AV.box?]))
     simp only[core,prim,hx,hy,this,hr,if_pos hif]
    ·cases h
   ·cases h
  ·cases h
 | nilq neg x =>
  simp only[core,prim]at h
  split at h
  ·next hx =>
   simp only[Za,Zf]at h
   obtain⟨rfl,rfl⟩:=h
   exact still Z (fun K _=>by simp only[core,prim,hx])
  ·next hx =>
   simp only[Za,Zf]at h
   obtain⟨rfl,rfl⟩:=h
   exact still Z (fun K _=>by simp only[core,prim,hx])
  ·next hx =>
   simp only[Za,Zf]at h
   obtain⟨rfl,rfl⟩:=h
   exact still Z (fun K _=>by simp only[core,prim,hx])
  ·cases h
 | sliceQ kk x lo hi =>
  simp only[core,prim]at h
  have hs:∀K,Same s (.sliceQ kk x lo hi) H K→(ev s x).bind (A8e K)=(ev s x).bind (A8e H):= by
   intro K hK
   cases hx:ev s x with
   | none=>rfl
   | some u =>
    cases u with
    | asl b n =>
     have:harr K b=harr H b:= by
      rcases hK with hK|hK|⟨_,hK⟩
      ·simp[A00,N4]at hK
      ·rw[hK]
      ·exact B0y (hK b (by simp[rbox,N4,hx,AV.box?]))
     simp only[Zd,A8e,this]
    | _=>rfl
  split at h
  ·next k rows hq =>
   split at h
   ·next l u h1 h2 =>
    split at h
    ·next hle =>
     simp only[Za,Zf]at h
     obtain⟨rfl,rfl⟩:=h
     refine still Z (fun K hK=>?_)
     simp only[core,prim,hs K hK,hq,h1,h2,hle,and_self,if_true]
    ·cases h
   ·cases h
  ·cases h
 | sub kk x lo hi =>
  simp only[core,prim]at h
  split at h
  ·next k rows hx =>
   split at h
   ·next l u h1 h2 =>
    split at h
    ·next hle =>
     simp only[Za,Zf]at h
     obtain⟨rfl,rfl⟩:=h
     exact still Z (fun K _=>by simp only[core,prim,hx,h1,h2];rw[if_pos hle])
    ·cases h
   ·cases h
  ·next b n hx =>
   split at h
   ·next k q rows hr =>
    split at h
    ·next l u h1 h2 =>
     split at h
     ·next hle =>
      simp only[Za,Zf]at h
      obtain⟨rfl,rfl⟩:=h
      refine still Z (fun K hK=>?_)
      have:harr K b=harr H b:= by
       rcases hK with hK|hK|⟨_,hK⟩
       ·simp[A00,N4]at hK
       ·rw[hK]
       ·exact B0y (hK b (by simp[rbox,N4,hx,AV.box?]))
      simp only[core,prim,hx,this,hr,h1,h2];rw[if_pos hle]
     ·cases h
    ·cases h
   ·cases h
  ·cases h
 | sliceA k n x hi =>
  simp only[core,prim]at h
  split at h
  ·next b o hb =>
   split at h
   ·next cs hh hcs hbd =>
    split at h
    ·next hle =>
     simp only[Za,Zf]at h
     obtain⟨rfl,rfl⟩:=h
     refine still Z (fun K hK=>?_)
     have:hcells K b=hcells H b:= by
      rcases hK with hK|hK|⟨_,hK⟩
      ·simp[A00,N4]at hK
      ·rw[hK]
      ·exact C49 (hK b (by simp[rbox,N4,hb,AV.box?]))
     simp only[core,prim,hb,this,hcs,hbd,hle,if_true]
    ·cases h
   ·cases h
  ·cases h
 | nil k r =>
  simp only[core,prim,Za,Zf]at h
  obtain⟨rfl,rfl⟩:=h
  exact⟨[(n0+r,.arr k false [])],by simp[F6],Z,fun K _=>rfl⟩
 | mkmap r =>
  simp only[core,prim,Za,Zf]at h
  obtain⟨rfl,rfl⟩:=h
  exact⟨[(n0+r,.map [])],by simp[F6],Z,fun K _=>rfl⟩
 | alloc zs owns r =>
  simp only[core,prim,Za,Zf]at h
  obtain⟨rfl,rfl⟩:=h
  refine⟨C0p n0 owns++[(n0+r,.cells (P3 n0 owns zs []).1)],?_,?_,fun K _=>?_⟩
  ·intro x hx
   simp only[ZA,C0p,ZK,Z16]at hx
   rcases hx with⟨q,hq,rfl⟩|rfl
   ·exact⟨q.2.1,by simp only[F6,Zu,ZK];exact .inr ⟨q,hq,Z⟩,Z⟩
   ·exact⟨r,by simp[F6],Z⟩
  ·rw[B1k,A8f];rfl
  ·simp only[core,prim];rw[B1k,A8f];rfl
 | box n x r =>
  simp only[core,prim]at h
  split at h
  ·next u hu =>
   split at h
   ·next hn =>
    simp only[Za,Zf]at h
    obtain⟨rfl,rfl⟩:=h
    exact⟨[(n0+r,.cells u.cellsOf)],by simp[F6],Z,fun K _=>by simp only[core,prim,hu,hn,if_true];rfl⟩
   ·cases h
  ·cases h
 | range x r =>
  simp only[core,prim]at h
  split at h
  ·next u hu =>
   simp only[Za,Zf]at h
   obtain⟨rfl,rfl⟩:=h
   exact⟨[(n0+r,.iter u 0)],by simp[F6],Z,fun K _=>by simp only[core,prim,hu];rfl⟩
  ·cases h
 | mkslice k b z l cp r =>
  simp only[core,prim]at h
  split at h
  ·next l1 c1 e1 e2 =>
   split at h
   ·next hif =>
    simp only[Za,Zf]at h
    obtain⟨rfl,rfl⟩:=h
    exact⟨[(n0+r,.arr k false (Zv l1.toNat z))],by simp[F6],Z,fun K _=>by simp only[core,prim,e1,e2,if_pos hif];rfl⟩
   ·cases h
  ·cases h
 | lits k z n ps own =>
  simp only[core,prim,Zs]at h
  obtain⟨qs,e1,rows,e2,h⟩:=h
  split at h
  ·next hfr =>
   cases own with
   | none =>
    simp only[Za,Zf]at h
    obtain⟨rfl,rfl⟩:=h
    exact still Z (fun K _=>by simp[core,prim,e1,e2,hfr])
   | some r =>
    simp only[Za,Zf]at h
    obtain⟨rfl,rfl⟩:=h
    exact⟨[(n0+r,.arr k false rows)],by simp[F6],Z,fun K _=>by simp[core,prim,e1,e2,hfr,K1]⟩
  ·cases h
 | build z ps =>
  simp only[core,prim,Zs]at h
  obtain⟨qs,e1,h⟩:=h
  have e:=A3y h
  subst e
  refine still Z (fun K _=>?_)
  simp only[core,prim,e1,Zd]
  revert h
  cases B1l z qs <;> simp
 | xlits k z n ps =>
  simp only[core,prim,Zs]at h
  obtain⟨qs,e1,h⟩:=h
  have e:=A3y h
  subst e
  refine still Z (fun K _=>?_)
  simp only[core,prim,e1,Zd]
  revert h
  cases A5c k (Zv n z) qs <;> simp
 | _ =>
  simp only[core,prim]at h
  have h0:=h
  have e:H'=H:= by
   first
   | exact A3y h
   | (repeat' split at h) <;> first
     | (cases h;done)
     | (simp only[Za,Zf]at h;exact h.2.symm)
     | exact A3y h
  subst e
  refine still Z (fun K _=>?_)
  simp only[core,prim]
  revert h0
  first
  | (cases ev s _ <;> simp <;> done)
  | (repeat' split) <;> first
    | (simp;done)
    | (simp only[Zz,Zf];rintro⟨y,hy,rfl,_⟩;exact⟨y,hy,Z,Z⟩)
section
variable {M:Mach} {c:Sc} {n0:Nat}
def act (M:Mach) (c:Sc) (n0:Nat) (s:C2) (H:A2) (o:AOper):Option (AV×A2×Option (List Nat)) :=
 match wanted s o.guard with
 | none=>none
 | some false=>some (.tup [],H,none)
 | some true=>match A4t n0 s H o with
  | some hs=>match core M c n0 s (hide H hs) o.op with
   | some r=>if hs.isEmpty||ZH H.length r.2.length then some (r.1,unhide H r.2 hs,some hs) else none
   | none=>none
  | none=>none
theorem B0b {s s':C2} {H H':A2} {hc hc':List (Option (List Nat))} {o:AOper}:oper M c n0 s H hc o=some (s',H',hc') ↔
  ∃ v e,act M c n0 s H o=some (v,H',e)∧(e=none∨P8 s o hc=true)∧s'=sput s o.dst v∧hc'=if writes o.op then e::hc else hc:= by
 unfold oper act
 constructor
 ·intro h
  split at h
  ·cases h
  ·next hw =>
   simp only[Za,Zf]at h
   obtain⟨rfl,rfl,rfl⟩:=h
   exact⟨.tup [],none,by simp only[hw],.inl Z,Z,Z⟩
  ·next hw =>
   split at h
   ·next hs e1 e2 =>
    split at h
    ·next r hr =>
     split at h
     case isFalse=>cases h
     next hlen =>
     simp only[Za,Zf]at h
     obtain⟨rfl,rfl,rfl⟩:=h
     exact⟨r.1,some hs,by simp only[hw,e1,hr,hlen,if_true],.inr e2,Z,Z⟩
    ·cases h
   ·cases h
 ·rintro⟨v,e,h,h1,rfl,rfl⟩
  split at h
  ·cases h
  ·next hw =>
   simp only[Za,Zf]at h
   obtain⟨rfl,rfl,rfl⟩:=h
   simp only[hw]
  ·next hw =>
   split at h
   ·next hs e1 =>
    split at h
    ·next r hr =>
     split at h
     case isFalse=>cases h
     next hlen =>
     simp only[Za,Zf]at h
     obtain⟨rfl,rfl,rfl⟩:=h
     have h2:=h1.resolve_left (by simp)
     simp only[hw,e1,h2,hr,hlen,if_true]
    ·cases h
   ·cases h
theorem B64 {s s':C2} {H:A2} {o:AOper} (h:∀t∈A9r o,sget s t=sget s' t):act M c n0 s H o=act M c n0 s' H o:= by
 simp only[A9r,ZA]at h
 have e1:wanted s o.guard=wanted s' o.guard:=C7t _ (fun t ht=>h t (.inl (.inr ht)))
 have e2:∀K,ways s K o.hida=ways s' K o.hida:=fun K=>C3k _ (fun t ht=>h t (.inr ht))
 have e3:∀K,core M c n0 s K o.op=core M c n0 s' K o.op:=fun K=>D08 (fun t ht=>h t (.inl (.inl ht)))
 simp only[act,A4t,e1,e2,e3]
theorem C37 {op:AOp} {x:Opd} (h:N4 op=some x):∀t∈O5 x,t∈A20 op:= by
 intro t ht
 cases op <;> simp[N4]at h <;> subst h <;> simp[A20,ht]
theorem D2a {s s':C2} {op:AOp} (h:∀t∈A20 op,sget s t=sget s' t):rbox s op=rbox s' op:= by
 unfold rbox
 cases ha:N4 op with
 | none=>rfl
 | some x=>simp only[Zd,U6 x (fun t ht=>h t (C37 ha t ht))]
theorem B1i {s s':C2} {o:AOper} {hc:List (Option (List Nat))} (h:∀t∈A9r o,sget s t=sget s' t):P8 s o hc=P8 s' o hc:= by
 simp only[A9r,ZA]at h
 simp only[P8,D2a (fun t ht=>h t (.inl (.inl ht)))]
def Eqv (s s':C2):Prop:=∀ t,sget s t=sget s' t
theorem B21 (s:C2) (d:Option Nat) (v:AV) (t:Nat):sget (sput s d v) t=if d=some t then some v else sget s t:= by
 cases d with
 | none=>simp[sput]
 | some d =>
  simp only[sput,N9,K8]
  cases h:ZC d t with
  | true=>simp[Zk h]
  | false=>simp[Z4l h]
theorem Eqv.put {s s':C2} (h:Eqv s s') (d:Option Nat) (v:AV):Eqv (sput s d v) (sput s' d v):=fun t=>by rw[B21,B21,h t]
theorem D8t {s s1 s':C2} {H H':A2} {hc hc':List (Option (List Nat))} {o:AOper} (he:Eqv s s1) (h:oper M c n0 s H hc o=some (s',H',hc')) :
  ∃ s1',oper M c n0 s1 H hc o=some (s1',H',hc')∧Eqv s' s1':= by
 obtain⟨v,e,h1,h2,rfl,rfl⟩:=B0b.1 h
 exact⟨_,B0b.2 ⟨v,e,by rw[← B64 (fun t _=>he t)];exact h1,by rw[← B1i (fun t _=>he t)];exact h2,Z,Z⟩,he.put _ _⟩
theorem C5r:∀{l:List AOper} {s s1 s':C2} {H H':A2} {hc:List (Option (List Nat))},Eqv s s1→opers M c n0 l s H hc=some (s',H') →
  ∃ s1',opers M c n0 l s1 H hc=some (s1',H')∧Eqv s' s1'
 | [],s,s1,s',H,H',hc,he,h=>by
  simp only[opers,Za,Zf]at h
  obtain⟨rfl,rfl⟩:=h
  exact⟨s1,Z,he⟩
 | o::l,s,s1,s',H,H',hc,he,h=>by
  simp only[opers]at h
  split at h
  ·cases h
  ·next s2 H2 hc2 h2 =>
   obtain⟨s3,q1,q2⟩:=D8t he h2
   obtain⟨s4,q3,q4⟩:=C5r q2 h
   exact⟨s4,by simp only[opers,q1,q3],q4⟩
theorem B97 {s:C2} {H H':A2} {o:AOper} {v:AV} {e:Option (List Nat)} (hw:writes o.op=false) (h1:A8t o=true) (h:act M c n0 s H o=some (v,H',e)) :
  ∃ S:List (Nat×AO),(∀ x∈S,∃ r∈F6 o.op,x.1=n0+r)∧H'=K1 H S ∧
   ∀ K,Same s o.op (hide H (o.hid.map (n0 + ·))) (hide K (o.hid.map (n0 + ·)))→act M c n0 s K o=some (v,K1 K S,e):= by
 simp only[A8t,hw,Z30,Zc,List.isEmpty_iff]at h1
 obtain⟨h1,h2⟩:=h1
 unfold act at h ⊢
 split at h
 ·cases h
 ·next hwt =>
  simp only[Za,Zf]at h
  obtain⟨rfl,rfl,rfl⟩:=h
  exact⟨[],by simp,Z,fun K _=>by simp only[hwt,K1]⟩
 ·next hwt =>
  have hs0:∀K:A2,A4t n0 s K o=some (o.hid.map (n0 + ·)):= by
   intro K;simp[A4t,h1,ways,hw]
  simp only[hs0]at h
  split at h
  ·next r hr =>
   split at h
   case isFalse=>cases h
   simp only[Za,Zf]at h
   obtain⟨rfl,rfl,rfl⟩:=h
   obtain⟨v,H2⟩:=r
   obtain⟨S,q1,q2,q3⟩:=D8z hw hr
   have hd:∀x∈S,x.1 ∉ o.hid.map (n0 + ·):= by
    intro x hx hm
    obtain⟨r,hr',he⟩:=q1 x hx
    obtain⟨r',hr2,he2⟩:=ZK.1 hm
    have:r=r':= by omega
    subst this
    simp only[C6f,Zq,Z05,Z3g,decide_eq_false_iff_not]at h2
    exact h2 r hr' hr2
   refine⟨S,q1,by simp only[q2];exact A8k hd,fun K hS=>?_⟩
   have hle:ZH K.length (K1 (hide K (o.hid.map (n0 + ·))) S).length=true:= by rw[B1j,B7o];simp
   simp only[hwt,hs0,q3 _ hS,A8k hd,hle,Bool.or_true,if_true]
  ·cases h
theorem C74 {s:C2} {H:A2} {o:AOper} {S:List (Nat×AO)} (hw:writes o.op=true) (hS:∀x∈S,∃ r∈o.hid,x.1=n0+r):act M c n0 s (K1 H S) o=(act M c n0 s H o).map fun r=>(r.1,K1 r.2.1 S,r.2.2):= by
 have hS0:∀x∈S,x.1∈o.hid.map (n0 + ·):=fun x hx=>by
  obtain⟨r,hr,he⟩:=hS x hx
  rw[he];exact Z1r hr
 have e0:A4t n0 s (K1 H S) o=A4t n0 s H o:= by
  simp only[A4t,A8w hS0,B1j]
 unfold act
 split
 ·rfl
 ·rfl
 ·rw[e0]
  split
  ·next hs e1 =>
   have hsub:∀x∈S,x.1∈hs:= by
    intro x hx
    unfold A4t at e1
    split at e1
    ·dsimp only at e1
     split at e1
     ·simp only[Za]at e1
      subst e1
      exact Z1n _ (hS0 x hx)
     ·cases e1
    ·cases e1
   have hb:∀b∈hs,b<H.length:= by
    unfold A4t at e1
    split at e1
    ·dsimp only at e1
     split at e1
     ·next hall =>
      simp only[Za]at e1
      subst e1
      intro b hb
      simp only[hw,Z0y,Z30,Zc]at hall
      have:=Zq.1 hall.1 b hb
      simpa [Z4s] using this
     ·cases e1
    ·cases e1
   rw[A8w hsub]
   split
   ·next r hr =>
    rw[B1j]
    split
    ·simp only[Zb,C4h hsub hb]
    ·rfl
   ·rfl
  ·rfl
theorem E44 {s:C2} {H:A2} {o:AOper} {v:AV} {H':A2} {hs:List Nat} (hw:writes o.op=true) (h:act M c n0 s H o=some (v,H',some hs)):(∀ b∈hs,b<H.length)∧∃ H2,H'=unhide H H2 hs∧(hs=[]∨H.length≤H2.length):= by
 unfold act at h
 split at h
 ·cases h
 ·cases h
 ·split at h
  ·next hs' e1 =>
   split at h
   ·next r hr =>
    split at h
    case isFalse=>cases h
    next hle =>
    simp only[Za,Zf]at h
    obtain⟨_,rfl,rfl⟩:=h
    refine⟨?_,r.2,Z,by simpa using hle⟩
    unfold A4t at e1
    split at e1
    ·dsimp only at e1
     split at e1
     ·next hall =>
      simp only[Za]at e1
      subst e1
      intro b hb
      simp only[hw,Z0y,Z30,Zc]at hall
      have:=Zq.1 hall.1 b hb
      simpa [Z4s] using this
     ·cases e1
    ·cases e1
   ·cases h
  ·cases h
theorem C73 {s:C2} {H:A2} {o:AOper} {v:AV} {H':A2} (h:act M c n0 s H o=some (v,H',none)):v=.tup []∧H'=H∧∀ K,act M c n0 s K o=some (.tup [],K,none):= by
 unfold act at h ⊢
 split at h
 ·cases h
 ·next hw =>
  simp only[Za,Zf]at h
  exact⟨h.1.symm,h.2.1.symm,fun K=>by simp only[hw]⟩
 ·split at h
  ·split at h
   ·split at h
    ·simp at h
    ·cases h
   ·cases h
  ·cases h
theorem D9i {l m:List Nat}:D2j l m=true↔∀ x∈l,x∈m:= by simp[D2j]
theorem D9d {op:AOp} (h:A00 op=false):isR op=false∧writes op=false:= by
 simp only[A00,Bool.or_eq_false_iff]at h
 exact⟨h.1.1,h.2⟩
theorem D5w {s:C2} {op:AOp} (h:isR op=false):rbox s op=none:= by
 unfold rbox
 cases ha:N4 op with
 | none=>rfl
 | some x=>simp[isR,ha]at h
theorem D9y {op:AOp} (h:isR op=true):F6 op=[]∧writes op=false:= by
 cases op <;> simp[isR,N4]at h <;> simp[F6,writes]
theorem C3u {a x:AOper} (h:C1b a x=true):(∀ d,a.dst=some d→d ∉ A9r x∧x.dst≠some d)∧∀ d,x.dst=some d→d ∉ A9r a:= by
 simp only[C1b,Zc]at h
 refine⟨fun d hd=>?_,fun d hd=>?_⟩
 ·have:=h.1;rw[hd]at this
  simpa using this
 ·have:=h.2;rw[hd]at this
  simpa using this
theorem swap {s s1 s2:C2} {H H1 H2:A2} {hc hc1 hc2:List (Option (List Nat))} {a x:AOper} (hda:A8t a=true) (hdx:A8t x=true) (hp:A9p a x (if writes a.op then 1 else 0)=true)
  (hdis:∀r∈F6 a.op,r ∉ F6 x.op)
  (ha:oper M c n0 s H hc a=some (s1,H1,hc1)) (hx:oper M c n0 s1 H1 hc1 x=some (s2,H2,hc2)) :
  ∃ s1' H1' hc1' s2',oper M c n0 s H hc { x with inc:=if writes a.op then x.inc-1 else x.inc }=some (s1',H1',hc1')∧oper M c n0 s1' H1' hc1' a=some (s2',H2,hc2)∧Eqv s2 s2':= by
 obtain⟨va,ea,a1,a2,rfl,rfl⟩:=B0b.1 ha
 obtain⟨vx,ex,x1,x2,rfl,rfl⟩:=B0b.1 hx
 simp only[A9p,Zc]at hp
 obtain⟨hap,hp⟩:=hp
 obtain⟨ap1,ap2⟩:=C3u hap
 have cx:∀t∈A9r x,sget (sput s a.dst va) t=sget s t:= by
  intro t ht
  rw[B21]
  split
  ·next e=>exact absurd ht (ap1 t e).1
  ·rfl
 have ca:∀v,∀ t∈A9r a,sget s t=sget (sput s x.dst v) t:= by
  intro v t ht
  rw[B21]
  split
  ·next e=>exact absurd ht (ap2 t e)
  ·rfl
 rw[B64 cx]at x1
 rw[B1i cx]at x2
 have eqv:Eqv (sput (sput s a.dst va) x.dst vx) (sput (sput s x.dst vx) a.dst va):= by
  intro t
  simp only[B21]
  by_cases e1:x.dst=some t <;> by_cases e2:a.dst=some t <;> simp[e1,e2]
  exact absurd e1 (ap1 t e2).2
 have x':∀K,act M c n0 s K { x with inc:=if writes a.op then x.inc-1 else x.inc }=act M c n0 s K x:=fun K=>rfl
 have goal:∀(H1':A2) (hc1':List (Option (List Nat))),act M c n0 s H x=some (vx,H1',ex)→act M c n0 s H1' a=some (va,H2,ea) →
   (ex=none∨P8 s { x with inc:=if writes a.op then x.inc-1 else x.inc } hc=true)→hc1'=(if writes x.op then ex::hc else hc)→(ea=none∨P8 s a hc1'=true) →
   ((if writes a.op then ea::hc1' else hc1')=if writes x.op then ex::(if writes a.op then ea::hc else hc) else (if writes a.op then ea::hc else hc)) →
   ∃ s1' H1' hc1' s2',oper M c n0 s H hc { x with inc:=if writes a.op then x.inc-1 else x.inc }=some (s1',H1',hc1')∧oper M c n0 s1' H1' hc1' a=some (s2',H2,if writes x.op then ex::(if writes a.op then ea::hc else hc) else (if writes a.op then ea::hc else hc))∧Eqv (sput (sput s a.dst va) x.dst vx) s2':= by
  intro H1' hc1' g1 g2 g3 g4 g5 g6
  refine⟨sput s x.dst vx,H1',hc1',sput (sput s x.dst vx) a.dst va,?_,?_,eqv⟩
  ·exact B0b.2 ⟨vx,ex,by rw[x'];exact g1,g3,Z,g4⟩
  ·refine B0b.2 ⟨va,ea,by rw[← B64 (ca vx)];exact g2,?_,Z,g6.symm⟩
   rw[← B1i (ca vx)];exact g5
 have ranksIn:∀{S:List (Nat×AO)} {l m:List Nat},(∀ q∈S,∃ r∈l,q.1=n0+r)→D2j l m=true→∀ q∈S,∃ r∈m,q.1=n0+r:= by
  intro S l m h1 h2 q hq
  obtain⟨r,hr,e⟩:=h1 q hq
  exact⟨r,D9i.1 h2 r hr,e⟩
 have inHid:∀{S:List (Nat×AO)} {m:List Nat},(∀ q∈S,∃ r∈m,q.1=n0+r)→∀ q∈S,q.1∈m.map (n0 + ·):= by
  intro S m h q hq
  obtain⟨r,hr,e⟩:=h q hq
  rw[e];exact Z1r hr
 have unseen:∀(o:AOper) (l:List (Option (List Nat))),isR o.op=false→P8 s o l=true:= by
  intro o l h
  simp[P8,D5w h]
 cases hwa:writes a.op <;> cases hwx:writes x.op <;> simp only[hwa,hwx,if_true,if_false,Zj]at hp goal x2 ⊢
 ·
  simp only[Zc,Z14,Z05]at hp
  obtain⟨S,s1,rfl,s3⟩:=B97 hwa hda a1
  obtain⟨T,t1,rfl,t3⟩:=B97 hwx hdx x1
  have hST:∀q∈S,∀ p∈T,q.1≠p.1:= by
   intro q hq p hp' e
   obtain⟨r,hr,e1⟩:=s1 q hq
   obtain⟨r',hr',e2⟩:=t1 p hp'
   have:r=r':= by omega
   subst this
   exact hdis r hr hr'
  have g1:=t3 H (by
   rcases hp.2 with h|h
   ·exact .inl h
   ·right;left;rw[A8w (inHid (ranksIn s1 h))])
  have g2:=s3 (K1 H T) (by
   rcases hp.1 with h|h
   ·exact .inl h
   ·right;left;rw[A8w (inHid (ranksIn t1 h))])
  refine goal _ hc g1 (by rw[g2,D0f hST]) x2 Z a2 Z
 ·
  simp only[Zc,Z05]at hp
  obtain⟨S,s1,rfl,s3⟩:=B97 hwa hda a1
  rw[C74 hwx (ranksIn s1 hp.2)]at x1
  cases hq:act M c n0 s H x with
  | none=>simp[hq]at x1
  | some r =>
   obtain⟨v',H1',e'⟩:=r
   simp only[hq,Zb,Za,Zf]at x1
   obtain⟨rfl,rfl,rfl⟩:=x1
   exact goal H1' (e'::hc) hq (s3 H1' (.inl hp.1)) x2 Z (.inr (unseen a _ (D9d hp.1).1)) Z
 ·
  obtain⟨T,t1,rfl,t3⟩:=B97 hwx hdx x1
  have aT:(∀ q∈T,∃ r∈a.hid,q.1=n0+r)→act M c n0 s (K1 H T) a=some (va,K1 H1 T,ea):= by
   intro hT
   rw[C74 hwa hT,a1];rfl
  cases hR:isR x.op with
  | true =>
   simp only[hR,if_true,Z3f]at hp
   have hT:T=[]:= by
    cases T with
    | nil=>rfl
    | cons q T=>obtain⟨r,hr,_⟩:=t1 q (by simp);rw[(D9y hR).1]at hr;cases hr
   subst hT
   have hinc:∃m,x.inc=m+1:=⟨x.inc-1,by omega⟩
   obtain⟨m,hm⟩:=hinc
   have hlook:ex=none∨(P8 s { x with inc:=x.inc-1 } hc=true∧(Same s x.op (hide H1 (x.hid.map (n0 + ·))) (hide H (x.hid.map (n0 + ·))))):= by
    rcases x2 with h|h
    ·exact .inl h
    ·right
     simp only[P8,hm]at h ⊢
     cases hb:rbox s x.op with
     | none =>
      refine⟨by simp,.inr (.inr ⟨hR,fun b h=>by rw[hb]at h;cases h⟩)⟩
     | some b =>
      simp only[hb,List.take_succ_cons,ZS,Zc]at h
      refine⟨by simpa using h.2,.inr (.inr ⟨hR,fun b' hb'=>?_⟩)⟩
      rw[hb]at hb'; cases hb'
      have e1:H1[b]? = H[b]?:= by
       cases ea with
       | none=>rw[(C73 a1).2.1]
       | some hs =>
        obtain⟨q1,H2',rfl,q2⟩:=E44 hwa a1
        have hbs:b∈hs:= by simpa using h.1
        have hlt:=q1 b hbs
        have hget:=Zm hlt
        have hle:H.length≤H2'.length:=q2.resolve_left (by rintro rfl;simp at hbs)
        have hget2:H2'[b]? = some (H2'[b]'(by omega)):=Zm (by omega)
        rw[A4o,hget,hget2]
        simp only[hbs,if_true,ZW,Zb]
      show (hide H _)[b]? = (hide H1 _)[b]?
      rw[A7i,A7i,e1]
   rcases hlook with rfl|⟨h1,h2⟩
   ·have:=C73 x1
    exact goal H hc (this.2.2 H |>.trans (by rw[this.1])) (by simpa [K1] using a1) (.inl Z) Z a2 Z
   ·exact goal H hc (by simpa [K1] using t3 H h2) (by simpa [K1] using a1) (.inr h1) Z a2 Z
  | false =>
   simp only[hR,Zj,if_false,Zc,Z05]at hp
   have g1:=t3 H (.inl hp.1)
   exact goal (K1 H T) hc g1 (aT (ranksIn t1 hp.2)) (.inr (unseen _ _ hR)) Z a2 Z
def wc:List AOper→Nat
 | []=>0
 | a::l=>(if writes a.op then 1 else 0)+wc l
theorem C2d {ms:List Nat} {a x:AOper}:∀{A B:List AOper} {n:Nat},A3z ms a n (A++x::B)=true→(ms.getD x.src 0).testBit a.src=true∨A9p a x (n+wc A)=true
 | [],B,n,h=>by
  simp only[Z06,A3z,Zc,Z14]at h
  simpa [wc] using h.1
 | y::A,B,n,h=>by
  simp only[Z0g,A3z,Zc]at h
  have:=C2d h.2
  rcases this with h1|h1
  ·exact .inl h1
  ·right
   cases hw:writes y.op <;> simp only[hw,if_true,if_false,Zj,wc]at h1 ⊢
   ·simpa using h1
   ·rw[show n+(1+wc A)=n+1+wc A by omega];exact h1
theorem D5s {a x:AOper} {n m:Nat} (h:A9p a x n=true) (hm:m≤n):A9p a x m=true:= by
 simp only[A9p,Zc]at h ⊢
 refine⟨h.1,?_⟩
 have h2:=h.2
 revert h2
 cases writes a.op <;> cases writes x.op <;> simp only[imp_self]
 split
 ·intro h2;simp only[Z3f]at h2 ⊢; omega
 ·exact id
theorem C2e {ms:List Nat} {a:AOper}:∀{l:List AOper} {n m:Nat},A3z ms a n l=true→m≤n→A3z ms a m l=true
 | [],n,m,h,_=>rfl
 | x::l,n,m,h,hm=>by
  simp only[A3z,Zc,Z14]at h ⊢
  refine⟨h.1.imp id (fun q=>D5s q hm),C2e h.2 ?_⟩
  split <;> omega
theorem B83 {ms:List Nat} {a x:AOper}:∀{A B:List AOper} {n:Nat},A3z ms a n (A++x::B)=true→A3z ms a n (A++B)=true
 | [],B,n,h=>by
  simp only[Z06,A3z,Zc]at h ⊢
  exact C2e h.2 (by split <;> omega)
 | y::A,B,n,h=>by
  simp only[Z0g,A3z,Zc]at h ⊢
  exact⟨h.1,B83 h.2⟩
theorem B87 {ms:List Nat} {x:AOper}:∀{A B:List AOper},A7c ms (A++x::B)=true→A7c ms (A++B)=true
 | [],B,h=>by simp only[Z06,A7c,Zc]at h;exact h.2
 | y::A,B,h=>by
  simp only[Z0g,A7c,Zc]at h ⊢
  exact⟨B83 h.1,B87 h.2⟩
theorem D11 {a x:AOper} {n m:Nat} (h:A9p a x n=true) (hm:m≤n):A9p a { x with inc:=x.inc-(n-m) } m=true:= by
 simp only[A9p,Zc]at h ⊢
 refine⟨h.1,?_⟩
 have h2:=h.2
 revert h2
 cases writes a.op <;> cases writes x.op <;> simp only[imp_self]
 split
 ·intro h2;simp only[Z3f]at h2 ⊢; omega
 ·exact id
theorem C19 {ms:List Nat} {x:AOper} {B:List AOper} (hdx:A8t x=true):∀{A:List AOper} {s s':C2} {H H':A2} {hc:List (Option (List Nat))},(∀ a∈A,A8t a=true)→(∀ a∈A,(ms.getD x.src 0).testBit a.src=false)→A7c ms (A++x::B)=true →
  (∀ a∈A,∀ r∈F6 a.op,r ∉ F6 x.op)→opers M c n0 (A++x::B) s H hc=some (s',H') →
  ∃ s1 H1 hc1 s'',oper M c n0 s H hc { x with inc:=x.inc-wc A }=some (s1,H1,hc1)∧opers M c n0 (A++B) s1 H1 hc1=some (s'',H')∧Eqv s' s''
 | [],s,s',H,H',hc,hA,hms,hp,hr,h=>by
  simp only[Z06,opers]at h
  split at h
  ·cases h
  ·next s1 H1 hc1 h1 =>
   exact⟨s1,H1,hc1,s',by simpa [wc] using h1,h,fun _=>rfl⟩
 | a::A,s,s',H,H',hc,hA,hms,hp,hr,h=>by
  simp only[Z0g,opers]at h
  split at h
  ·cases h
  ·next s1 H1 hc1 h1 =>
   simp only[Z0g,A7c,Zc]at hp
   obtain⟨s2,H2,hc2,s3,q1,q2,q3⟩:=C19 (ms:=ms) hdx (fun y hy=>hA y (by simp[hy])) (fun y hy=>hms y (by simp[hy])) hp.2 (fun y hy=>hr y (by simp[hy])) h
   have hpo:=(C2d hp.1).resolve_left (by rw[hms a (by simp)];simp)
   have hpo':=D11 hpo (Nat.le_add_right (if writes a.op then 1 else 0) (wc A))
   rw[show (if writes a.op=true then 1 else 0)+wc A-(if writes a.op=true then 1 else 0)=wc A by omega]at hpo'
   obtain⟨s1',H1',hc1',s2',p1,p2,p3⟩:=swap (hA a (by simp)) (x:={ x with inc:=x.inc-wc A }) hdx hpo' (hr a (by simp)) h1 q1
   obtain⟨s3',r1,r2⟩:=C5r p3 q2
   refine⟨s1',H1',hc1',s3',?_,by simp only[Z0g,opers,p2,r1],fun t=>(q3 t).trans (r2 t)⟩
   have e:x.inc-wc (a::A)=if writes a.op=true then x.inc-wc A-1 else x.inc-wc A:= by
    simp only[wc]
    cases writes a.op <;> simp <;> omega
   rw[e];exact p1
end
theorem C1m {D:Nat→Prop} {acc:List Nat}:∀(es:List Edge) (m:Nat),(∀ i,m.testBit i=true→D i)→(∀ e∈es,Region.binds .any e=true→D e.on∧∀ i,(acc.getD e.on 0).testBit i=true→D i) →
  ∀ i,(es.foldl (fun m e=>if Region.binds .any e then m ||| 2 ^ e.on ||| acc.getD e.on 0 else m) m).testBit i=true→D i
 | [],m,h,_,i,hi=>h i hi
 | e::es,m,h,he,i,hi=>by
  simp only[List.foldl_cons]at hi
  refine C1m es _ ?_ (fun e' he'=>he e' (by simp[he'])) i hi
  intro j hj
  split at hj
  ·next hb =>
   obtain⟨q1,q2⟩:=he e (by simp) hb
   simp only[Nat.testBit_or,Z14,Nat.testBit_two_pow,decide_eq_true_eq]at hj
   rcases hj with (hj|hj)|hj
   ·exact h j hj
   ·exact hj▸q1
   ·exact q2 j hj
  ·exact h j hj
def MOk (ops:List Oper) (D:Nat→Prop) (acc:List Nat):Prop :=
 ∀ (j:Nat) (m:Nat),acc[j]? = some m→∀ o,ops[j]? = some o→(∀ e∈o.after.toList,Region.binds .any e=true→D e.on)→∀ i,m.testBit i=true→D i
theorem C89 {ops:List Oper} {D:Nat→Prop} (hD:∀(y:Nat) o,ops[y]? = some o→D y→∀ e∈o.after.toList,Region.binds .any e=true→D e.on) :
  ∀ (l:List Oper) (pre:List Oper) (acc:List Nat),ops=pre++l→acc.length=pre.length→MOk ops D acc→MOk ops D (masks l acc)
 | [],pre,acc,_,_,h=>h
 | o::l,pre,acc,e,hl,h=>by
  simp only[masks]
  refine C89 hD l (pre++[o]) _ (by simp[e]) (by simp[hl]) ?_
  intro j m hj o' ho' he i hi
  rcases Z23 j acc.length with hlt|hge
  ·rw[ZF hlt]at hj
   exact h j m hj o' ho' he i hi
  ·have hj':j=acc.length:= by
    have:=(Ze.1 hj).1
    simp at this;omega
   subst hj'
   rw[ZI (Zn _)]at hj
   simp only[Z3h,Z2x,Za]at hj
   have:o'=o:= by
    rw[e,hl,ZI (Zn _)]at ho'
    simpa using ho'.symm
   subst this
   subst hj
   refine C1m _ 0 (by simp) (fun ed hed hb=>?_) i hi
   have hDe:=he ed hed hb
   refine⟨hDe,fun i hi=>?_⟩
   rw[Z3v]at hi
   cases hq:acc[ed.on]? with
   | none=>simp[hq]at hi
   | some m' =>
    simp only[hq,ZW]at hi
    have hlt:=(Ze.1 hq).1
    have hlo:ed.on<ops.length:= by rw[e];simp;omega
    have ho2:=Zm hlo
    exact h ed.on m' hq _ ho2 (hD ed.on _ ho2 hDe) i hi
theorem D1t {ops:List Oper} {D:Nat→Prop} (hD:∀(y:Nat) o,ops[y]? = some o→D y→∀ e∈o.after.toList,Region.binds .any e=true→D e.on)
  {j:Nat} {o:Oper} (ho:ops[j]? = some o) (he:∀e∈o.after.toList,Region.binds .any e=true→D e.on) {i:Nat} (hi:((masks ops []).getD j 0).testBit i=true):D i:= by
 have h:=C89 hD ops [] [] rfl Z (fun j m hj=>by simp at hj)
 rw[Z3v]at hi
 cases hq:(masks ops [])[j]? with
 | none=>simp[hq]at hi
 | some m=>simp only[hq,ZW]at hi;exact h j m hq o ho he i hi
theorem gD (a:Array Bool) (i:Nat) (d:Bool):a.getD i d=(a[i]?).getD d:= by simp[Array.getD_eq_getD_getElem?]
theorem C6w (a:Array Bool) {j:Nat} (h:j<a.size) (i:Nat) (d:Bool):(a.setIfInBounds j true).getD i d=if i=j then true else a.getD i d:= by
 rw[gD,gD,Array.getElem?_setIfInBounds]
 by_cases e:j=i
 ·subst e;simp[h]
 ·have e':¬ i=j:=fun h=>e h.symm
  simp[e,e']
theorem E43 {a:Array Bool} {i:Nat} (h:i<a.size) (d d':Bool):a.getD i d=a.getD i d':= by
 rw[gD,gD];simp[h]
def B5i (l l':List AOper):Prop:=∀ o∈l',∃ o0∈l,∃ n,o = { o0 with inc:=n }
section
variable {M:Mach} {c:Sc} {n0:Nat}
theorem D21 {ops:Array Oper} (hback:B7e ops.toList=true):∀(fuel t:Nat) (listed:Array Bool) (l:List AOper) (s s':C2) (H H':A2) (hc:List (Option (List Nat))),
  l.length=fuel→listed.size=ops.size→(∀ i,i<ops.size→(listed.getD i true=false↔∃ o∈l,o.src=i))→(∀ o∈l,o.src<ops.size)→(l.map (·.src)).Nodup →
  (∀ (y:Nat) o,ops[y]? = some o→listed.getD y false=true→∀ e∈o.after.toList,Region.binds .any e=true→listed.getD e.on false=true) →
  (∀ a∈l,A8t a=true)→A7c (masks ops.toList []) l=true→(l.flatMap fun o=>F6 o.op).Nodup→opers M c n0 l s H hc=some (s',H') →
  ∃ l' s'',l'.map (·.src)=Region.linearise.go .any ops fuel t listed []∧B5i l l'∧(l'.flatMap fun o=>F6 o.op).Perm (l.flatMap fun o=>F6 o.op)∧opers M c n0 l' s H hc=some (s'',H')∧Eqv s' s''
 | 0,t,listed,l,s,s',H,H',hc,hf,_,_,_,_,_,_,_,_,h=>by
  have:l=[]:=Z0w.1 hf
  subst this
  exact⟨[],s',by simp[Region.linearise.go],by simp[B5i],List.Perm.refl _,h,fun _=>rfl⟩
 | fuel+1,t,listed,l,s,s',H,H',hc,hf,hsz,hun,hlt,hnd,hcl,hd,hp,hrk,h=>by
  simp only[Region.linearise.go]
  change ∃(l':List AOper) (s'':C2),l'.map (·.src)=(match (Region.ready .any ops listed)[t % (Region.ready .any ops listed).length]? with
   | some i=>Region.linearise.go .any ops fuel (t / (Region.ready .any ops listed).length) (listed.setIfInBounds i true) [i]
   | none=>[].reverse)∧_
  have hne:Region.ready .any ops listed≠[]:= by
   obtain⟨o0,ho0⟩:∃o0,o0∈l:= by
    cases l with
    | nil=>simp at hf
    | cons o l=>exact⟨o,by simp⟩
   have hmin:∀n,(∃ i,i<n∧i<ops.size∧listed.getD i true=false)→∃ i,i∈Region.ready .any ops listed:= by
    intro n
    induction n with
    | zero=>rintro⟨i,hi,_⟩;omega
    | succ n ih =>
     by_cases hex:∃i,i<n∧i<ops.size∧listed.getD i true=false
     ·exact fun _=>ih hex
     ·rintro⟨i,hi,hi2,hi3⟩
      have hin:i=n:= by
       rcases Z23 i n with h1|h1
       ·exact absurd ⟨i,h1,hi2,hi3⟩ hex
       ·omega
      subst hin
      refine⟨i,?_⟩
      have hq:ops[i]? = some ops[i]:= by simp[hi2]
      simp only[Region.ready,Z0a,Z1s,hi2,hi3,hq,Zb,ZW,true_and,Bool.not_false,Bool.true_and,Z58]
      intro k hk
      cases hbk:Region.binds .any ops[i].after[k] with
      | false=>simp
      | true =>
      have hon:ops[i].after[k].on<i:= by
       simp only[B7e,Zq]at hback
       have:=hback (ops[i],i) (by
        rw[List.mem_zipIdx_iff_getElem?]
        simp[hi2]) ops[i].after[k] (by simp)
       simpa [hbk] using this
      have:listed.getD ops[i].after[k].on true≠false:=fun hc=>hex ⟨_,hon,by omega,hc⟩
      have hlt2:ops[i].after[k].on<listed.size:= by omega
      simp only[Z14]
      right
      simpa [Z4t,hlt2] using this
   have h1:=hlt o0 ho0
   obtain⟨i,hi⟩:=hmin ops.size ⟨o0.src,h1,h1,(hun o0.src h1).2 ⟨o0,ho0,Z⟩⟩
   intro hnil;rw[hnil]at hi;cases hi
  have hpos:0<(Region.ready .any ops listed).length:= by
   cases hr:Region.ready .any ops listed with
   | nil=>exact absurd hr hne
   | cons=>simp
  have hmod:t % (Region.ready .any ops listed).length<(Region.ready .any ops listed).length:=Nat.mod_lt _ hpos
  obtain⟨i,hi⟩:∃i,(Region.ready .any ops listed)[t % (Region.ready .any ops listed).length]? = some i:=⟨_,Zm hmod⟩
  rw[hi]
  have hmem:=Zw hi
  simp only[Region.ready,Z0a,Z1s,Zc,Z05]at hmem
  obtain⟨hi1,hi2,hi3⟩:=hmem
  have hq:ops[i]? = some ops[i]:= by simp[hi1]
  simp only[hq,Zb,ZW,Z58]at hi3
  have hedges:∀e∈ops[i].after.toList,Region.binds .any e=true→listed.getD e.on false=true:= by
   intro e he hb
   obtain⟨k,hk,rfl⟩:=ZX.1 he
   have:=hi3 k (by simpa using hk)
   simp only[Array.getElem_toList]at hb ⊢
   rw[hb]at this
   simpa using this
  obtain⟨x,hx,hsrc⟩:=(hun i hi1).1 hi2
  obtain⟨A,B,rfl⟩:=List.append_of_mem hx
  subst hsrc
  have hms:∀a∈A,((masks ops.toList []).getD x.src 0).testBit a.src=false:= by
   intro a ha
   cases hb:((masks ops.toList []).getD x.src 0).testBit a.src with
   | false=>rfl
   | true =>
    have hD:=D1t (ops:=ops.toList) (D:=fun i=>listed.getD i false=true) (fun y o ho=>hcl y o (by simpa using ho)) (j:=x.src) (o:=ops[x.src]) (by simpa using hq) hedges hb
    have halt:=hlt a (by simp[ha])
    have hunl:=(hun a.src halt).2 ⟨a,by simp[ha],Z⟩
    have:a.src<listed.size:= by omega
    rw[E43 this true false]at hunl
    rw[hunl]at hD;cases hD
  have hdisj:∀a∈A,∀ r∈F6 a.op,r ∉ F6 x.op:= by
   intro a ha r hr hr'
   rw[Z13]at hrk
   exact(Z0o.1 hrk).2.2 r (Z2k.2 ⟨a,ha,hr⟩) r (Z2k.2 ⟨x,by simp,hr'⟩) Z
  obtain⟨s1,H1,hc1,s2,q1,q2,q3⟩:=C19 (ms:=masks ops.toList []) (hd x (by simp)) (fun a ha=>hd a (by simp[ha])) hms hp hdisj h
  simp only[Z00,Zt]at hnd
  have hnd':((A++B).map (·.src)).Nodup∧∀ o∈A++B,o.src≠x.src:= by
   obtain⟨n1,n2,n3⟩:=Z0o.1 hnd
   obtain⟨n4,n5⟩:=Z1c.1 n2
   refine⟨by rw[Z00];exact Z0o.2 ⟨n1,n5,fun a ha b hb=>n3 a ha b (Zx _ hb)⟩,fun o ho e=>?_⟩
   rcases ZA.1 ho with ho|ho
   ·exact n3 _ (Z1r ho) _ (by simp) e
   ·exact n4 (e▸Z1r ho)
  obtain⟨l',s3,r1,r2,r3,r4,r5⟩:=D21 hback fuel (t / (Region.ready .any ops listed).length) (listed.setIfInBounds x.src true) (A++B) s1 s2 H1 H' hc1
   (by simp at hf ⊢; omega) (by simpa using hsz) (fun i hi=>by
    by_cases e:i=x.src
    ·subst e
     have:x.src<listed.size:= by omega
     rw[C6w _ this,if_pos Z]
     constructor
     ·intro h;cases h
     ·rintro⟨o,ho,e⟩;exact absurd e (hnd'.2 o ho)
    ·have hxs:x.src<listed.size:= by omega
     have e2:(listed.setIfInBounds x.src true).getD i true=listed.getD i true:= by rw[C6w _ hxs,if_neg e]
     rw[e2,hun i hi]
     constructor
     ·rintro⟨o,ho,rfl⟩
      refine⟨o,?_,Z⟩
      rcases ZA.1 ho with ho|ho
      ·exact Z1n _ ho
      ·rcases Zu.1 ho with rfl|ho
       ·exact absurd Z e
       ·exact Z0k _ ho
     ·rintro⟨o,ho,rfl⟩
      refine⟨o,?_,Z⟩
      rcases ZA.1 ho with ho|ho
      ·exact Z1n _ ho
      ·exact Z0k _ (Zx _ ho))
   (fun o ho=>hlt o (by rcases ZA.1 ho with ho|ho <;> simp[ho])) hnd'.1
   (fun y o ho hy e he hb=>by
    have hxs:x.src<listed.size:= by omega
    have mono:∀i,listed.getD i false=true→(listed.setIfInBounds x.src true).getD i false=true:= by
     intro i hi
     rw[C6w _ hxs]
     split
     ·rfl
     ·exact hi
    by_cases e2:y=x.src
    ·subst e2
     rw[hq]at ho;cases ho
     exact mono _ (hedges e he hb)
    ·refine mono _ (hcl y o ho ?_ e he hb)
     rw[C6w _ hxs,if_neg e2]at hy
     exact hy)
   (fun a ha=>hd a (by rcases ZA.1 ha with ha|ha <;> simp[ha])) (B87 hp)
   (by
    rw[Z13]at hrk ⊢
    rw[Z0l]at hrk
    obtain⟨n1,n2,n3⟩:=Z0o.1 hrk
    obtain⟨n4,n5,n6⟩:=Z0o.1 n2
    exact Z0o.2 ⟨n1,n5,fun a ha b hb=>n3 a ha b (Z0k _ hb)⟩) q2
  refine⟨{ x with inc:=x.inc-wc A }::l',s3,?_,?_,?_,by simp only[opers,q1,r4],fun t=>(q3 t).trans (r5 t)⟩
  ·simp only[]
   rw[linearise_go_acc]
   simp[r1]
  ·intro o ho
   rcases Zu.1 ho with rfl|ho
   ·exact⟨x,by simp,_,Z⟩
   ·obtain⟨o0,h0,n,e⟩:=r2 o ho
    exact⟨o0,by rcases ZA.1 h0 with h0|h0 <;> simp[h0],n,e⟩
  ·simp only[Z0l]
   refine(List.Perm.append_left _ r3).trans ?_
   rw[Z13,Z13,Z0l]
   exact List.perm_append_comm_assoc _ _ _
theorem short:∀(n:Nat) (l:List Nat),l.Nodup→(∀ x∈l,x<n)→l.length≤n
 | 0,l,_,h=>by
  cases l with
  | nil=>simp
  | cons x l=>have:=h x (by simp);omega
 | n+1,l,hn,h=>by
  by_cases hm:n∈l
  ·have h1:=short n (l.erase n) (hn.erase n) (fun x hx=>by
    obtain⟨h1,h2⟩:=(hn.mem_erase_iff).1 hx
    have:=h x h2
    omega)
   rw[List.length_erase_of_mem hm]at h1
   omega
  ·have h1:=short n l hn (fun x hx=>by
    have:=h x hx
    have:x≠n:=fun e=>hm (e▸hx)
    omega)
   omega
theorem D4p {n:Nat} {l:List Nat} (hn:l.Nodup) (h:∀x∈l,x<n) (hl:l.length=n) {i:Nat} (hi:i<n):i∈l:= by
 by_cases hm:i∈l
 ·exact hm
 ·have:=short n (i::l) (Z1c.2 ⟨hm,hn⟩) (fun x hx=>by
   rcases Zu.1 hx with rfl|hx
   ·exact hi
   ·exact h x hx)
  simp at this
  omega
theorem D4x {ops:Array Oper} {l:List AOper} (hd:D1d ops l=true) (hsrc:∀o∈l,o.src<ops.size) (hrk:(l.flatMap fun o=>F6 o.op).Nodup) {s s':C2} {H H':A2} (h:opers M c n0 l s H []=some (s',H')) (t:Nat) :
  ∃ l' s'',l'.map (·.src)=Region.schedule true ops t∧B5i l l'∧(l'.flatMap fun o=>F6 o.op).Perm (l.flatMap fun o=>F6 o.op)∧opers M c n0 l' s H []=some (s'',H')∧Eqv s' s'':= by
 simp only[D1d,Zc]at hd
 obtain⟨⟨⟨⟨d1,d2⟩,d3⟩,d4⟩,d5⟩:=hd
 have hlen:l.length=ops.size:= by simpa using d5
 have hnd:=A7z d4
 have go:∀t,∃ l' s'',l'.map (·.src)=Region.linearise .any ops t∧B5i l l'∧(l'.flatMap fun o=>F6 o.op).Perm (l.flatMap fun o=>F6 o.op)∧opers M c n0 l' s H []=some (s'',H')∧Eqv s' s'':= by
  intro t
  refine D21 d1 ops.size t (Z4g ops.size false) l s s' H H' [] hlen (by simp) (fun i hi=>?_) hsrc hnd (fun y o ho hy=>?_) (fun a ha=>Zq.1 d3 a ha) d2 hrk h
  ·have:(Z4g ops.size false).getD i true=false:= by simp[Z4t,hi]
   simp only[this,true_iff]
   have this:i∈l.map (·.src):=D4p hnd (fun j hj=>by
    obtain⟨o,ho,rfl⟩:=ZK.1 hj
    exact hsrc o ho) (by simpa using hlen) hi
   obtain⟨o,ho,e⟩:=ZK.1 this
   exact⟨o,ho,e⟩
  ·by_cases hlt:y<ops.size
   ·simp[Z4t,hlt]at hy
   ·simp[Z4t,hlt]at hy
 simp only[Region.schedule,Bool.true_or,if_true]
 exact go t
end
section
variable {MC:Nat→Code→ACode→Prop} {P:Program} {B0:Nat}
theorem hao (w:World) (o:Obj) (i:Nat) (h:i<w.heap.size):(w.alloc o).heap[i]? = w.heap[i]?:=heap_alloc_old w o h
structure CInv (MC:Nat→Code→ACode→Prop) (P:Program) (B0 nt lo:Nat) (fn:Bool) (st:St) (g:Ghost) (a:Act) (w:World):Prop where
 rel:Rel MC P B0 st.H g w
 slots:D7 g st.s a.tmps
 size:a.tmps.size=nt
 sc:ScOk st.c st.H
 dl:fn=true→C4i lo a.defers g w
def Enters (code:Code) (i:Item):Prop:=i=.code code∨∃ c,code=.loop c∧i=.inLoop c
def B4l (MC:Nat→Code→ACode→Prop) (P:Program) (B0:Nat) (M:Mach):Prop :=
 ∀ nt code ac st e st',I8 P nt code ac=true→M.code ac st=some (e,st')→∀ (b:Frame) a k cs g w lo i,Enters code i→(b.roundOf=none∨A6x ac=true)→CInv MC P B0 nt lo b.roundOf.isNone st g a w →
  ∃ a' g' w',Arr P (lone (b.atR a (i::k)) cs w) b k cs e a' w'∧CInv MC P B0 nt lo b.roundOf.isNone st' g' a' w'∧Ext st.H g w st'.H g' w'∧Unborn st.H g g'∧st'.c=st.c
theorem Enters.code {c:Code} {i:Item} (h:Enters c i) (hc:∀b,c≠.loop b):i=.code c:= by
 rcases h with h|⟨b,h,_⟩
 ·exact h
 ·exact absurd h (hc b)
theorem D7.eqv {g:Ghost} {s s':C2} {tmps:Array Value} (h:D7 g s tmps) (he:Eqv s' s):D7 g s' tmps:=fun t v hv=>h t v (by rw[← he t];exact hv)
theorem D15 {l l':List Nat} (h:l'.Perm l) (hn:l.Nodup):l'.Nodup:=h.nodup_iff.2 hn
theorem C7p (hmix:P.follows .mixedOrders=true) {M:Mach} (hM:B4k MC P B0 M) (hN:NoS M) {nt:Nat} {id:Nat} {ops:Array Oper} {d d':Bool} {nres:Nat} {pre live:List Nat} {l:List AOper} {st st':St} {e:Ex} (hm:B2g P nt ops d d' nres l=true)
  (h:F1 M st (.region d' nres pre l live)=some (e,st')) {b:Frame} {a:Act} {k:List Item} {cs:List Frame} {g:Ghost} {w:World} {lo:Nat} (hI:CInv MC P B0 nt lo b.roundOf.isNone st g a w) :
  ∃ a' g' w',Arr P (lone (b.atR a (.code (.region id ops d)::k)) cs w) b k cs e a' w'∧CInv MC P B0 nt lo b.roundOf.isNone st' g' a' w'∧Ext st.H g w st'.H g' w'∧Unborn st.H g g'∧st'.c=st.c:= by
 simp only[F1]at h
 split at h
 ·next H1 hpub =>
  split at h
  ·next r hr =>
   simp only[Za,Zf]at h
   obtain⟨rfl,rfl⟩:=h
   obtain⟨s',H'⟩:=r
   obtain⟨g1,hFz⟩:=B4i hI.rel hI.slots hpub
   simp only[B2g,Zc]at hm
   obtain⟨⟨⟨⟨⟨⟨m1,m2⟩,m3⟩,m4⟩,m5⟩,m6⟩,m7⟩:=hm
   have hnd:=A7z m4
   have hrk:∀r∈l.flatMap fun o=>F6 o.op,r<nres:=fun r hr=>by simpa using Zq.1 m3 r hr
   have hsrc:∀o∈l,o.src<ops.size:= by
    intro o ho
    have:=Zq.1 m2 o ho
    unfold A7l at this
    split at this
    ·cases this
    ·next o' ho' =>
     rcases Z23 o.src ops.size with h|h
     ·exact h
     ·simp[Z4k h]at ho'
   obtain⟨hR2,hE2⟩:=hFz.rel.reserve nres
   have hE3:=hFz.ext.trans hE2
   have hC1:=C2w hI.sc hpub
   have main:∀(l':List AOper) (s'':C2) (w0:World),B5i l l'→(l'.flatMap fun o=>F6 o.op).Perm (l.flatMap fun o=>F6 o.op)→opers M st.c H1.length l' st.s (H1++Zv nres .dead) []=some (s'',H')→Eqv s' s'' →
     Rel MC P B0 (H1++Zv nres .dead) g1 w0→Ext st.H g w (H1++Zv nres .dead) g1 w0→step P (lone (b.atR a (.code (.region id ops d)::k)) cs w)=.next (lone (b.atR a (.inRegion ops (l'.map (·.src))::k)) cs w0) →
     ∃ a' g' w',Arr P (lone (b.atR a (.code (.region id ops d)::k)) cs w) b k cs .normal a' w'∧CInv MC P B0 nt lo b.roundOf.isNone { s:=restrict s' live,H:=H',c:=st.c } g' a' w'∧Ext st.H g w H' g' w'∧Unborn st.H g g'∧st.c=st.c:= by
    intro l' s'' w0 hsame hperm hops heqv hR0 hE0 hstep
    have hm':(l'.all fun o=>A7l P ops nt o)=true:= by
     rw[Zq]
     intro o ho
     obtain⟨o0,h0,n,rfl⟩:=hsame o ho
     exact Zq.1 m2 o0 h0
    obtain⟨a',g',w',q1,q2,q3,q4⟩:=B84 (b:=b) (k:=k) (cs:=cs) hM (lo:=lo) (fn:=b.roundOf.isNone) (a:=a) (g:=g1) (w:=w0) hN (hh:=l.flatMap fun o=>o.hid) hm' (fun o ho=>by
      obtain⟨o0,h0,n,rfl⟩:=hsame o ho
      refine⟨fun r hr=>Z2k.mpr ⟨o0,h0,hr⟩,?_⟩
      rw[Z14]at m7
      rcases m7 with m7|m7
      ·left;simpa using Zq.1 m7 o0 h0
      ·right
       rw[List.flatMap_eq_nil_iff]
       intro o1 h1
       have:=Zq.1 m7 o1 h1
       simpa using this)
     ⟨hR0,hI.slots.mono hE0.le,hI.size,hC1.app _,hC1.cur,fun r hr=>by
      have hr':=hrk r (hperm.mem_iff.1 hr)
      exact⟨by simp;omega,hFz.rel.nolive _ (by omega)⟩,fun r hr=>by
      have hr':r<nres:= by simpa using Zq.1 m6 r hr
      refine⟨by simp;omega,D8a (o:=.dead) Z ?_⟩
      rw[ZI (by omega),Z4a,if_pos (by omega)],fun hfn=>(hI.dl hfn).ext hE0⟩ (D15 hperm hnd) hops
    refine⟨a',g',w',.head hstep (q1.trans (.one stepR_region_end)),⟨q2.rel,(q2.slots.eqv heqv).restrict live,q2.size,q2.sc,q2.dl⟩,hE0.trans q3,?_,Z⟩
    intro i hi hn
    refine q4 i (by rw[hFz.len];exact hi) (by simp;have:=hFz.len;omega) ?_
    rw[hFz.L];exact hn
   simp only[beq_iff_eq]at m1
   subst m1
   cases d with
   | false =>
    simp only[Zj,if_false,beq_iff_eq]at m5
    exact main l s' w (fun o ho=>⟨o,ho,o.inc,Z⟩) (List.Perm.refl _) hr (fun _=>rfl) hR2 hE3 (by rw[m5];exact stepR_region)
   | true =>
    simp only[if_true]at m5
    obtain⟨l',s'',r1,r2,r3,r4,r5⟩:=D4x m5 hsrc hnd hr (w.tape w.drawn (.order b.fn id))
    exact main l' s'' w.drew r2 r3 r4 r5 hR2.drew (hE3.trans (Ext.drew _ _ _)) (by rw[r1];have hs:=stepR_region_draw (P:=P) (b:=b) (a:=a) (k:=k) (cs:=cs) (w:=w) (ops:=ops) (id:=id);rw[hmix]at hs;exact hs)
  ·cases h
 ·cases h
theorem B67 {N:Nat}:∀{s:C2},A1m N s=true→∀ t v,sget s t=some v→v.bd N=true
 | [],_,t,v,h=>by simp[N9,K8]at h
 | x::s,hb,t,v,h=>by
  simp only[A1m,Zc]at hb
  simp only[N9,K8]at h
  cases hq:ZC x.1 t with
  | true=>simp[hq]at h;subst h;exact hb.1
  | false=>simp[hq]at h;exact B67 hb.2 t v h
theorem Unborn.cut {H:A2} {g g':Ghost} {N:Nat} (h:Unborn H g g'):Unborn H g (A1s N g'):=fun i hi hn=>by
 simp only[A1s];split
 ·exact h i hi hn
 ·rfl
theorem Rel.spare {H:A2} {g:Ghost} {w:World} (hR:Rel MC P B0 H g w) (ob:Obj):Rel MC P B0 H g (w.alloc ob)∧Ext H g w H g (w.alloc ob):= by
 refine⟨⟨?_,?_,hR.inj,?_,hR.nolive,?_⟩,⟨Zn _,Z,Z,Z,by simp,Ghost.le_refl g,fun _ _ h=>.inl h,fun _ _ _ _ _=>rfl,fun i o h k=>.inr ⟨o,h,k⟩,?_⟩⟩
 ·intro β off u h
  rw[World.cell?_alloc_lt _ _ _ (hR.phi_lt h)];exact hR.phi β off u h
 ·intro i β h
  obtain⟨h1,h2⟩:=hR.base i β h
  exact⟨h1,by simp;omega⟩
 ·intro i o hi
  refine(hR.box i o hi).mono (Ghost.le_refl g) (fun β hb=>?_)
  exact⟨hao w _ β (hR.base i β hb).2,fun off=>rfl⟩
 ·simp;have:=hR.b0;omega
 ·intro β hβ _
  exact⟨hao w _ β hβ,fun off=>rfl⟩
theorem B8j {b:Frame} {a:Act} {k:List Item} {cs:List Frame} {w w1:World} {f:Operand} {ps:Array Tmp} {assign body:Code} {l:Nat} {mark:List Deferred} {fr0:Frame}
  (he:(Instr.enterLoop b.fn a.tmps ps assign body b.roundOf).run P w=.ok (l,mark) w1) (hc:Begins P w1 (a.eval f) #[.func (.yield l) #[] #[]] fr0) :
  step P (lone (b.atR a (.code (.rangeFunc f ps assign body)::k)) cs w)=.next (lone fr0 (b.atR { a with defers:=mark++a.defers } (.inRangeFunc l::k)::cs) w1):= by
 rcases hc with⟨i,aq,h,rfl⟩|⟨l',i,tmps,aq,bd,h,rfl⟩
 ·exact C3e he h
 ·refine step_lone_go ?_
  have hev:=Frame.eval_atR b { a with defers:=mark++a.defers } (.inRangeFunc l::k)
  simp only[Frame.atR]at hev
  have hc':Sem.run P (resolve ({ tmps:=a.tmps,defers:=mark++a.defers }:Act).eval { callee:=.value f,args:=#[.const (.func (.yield l) #[] #[])],argTypes:=#[] } 0 >>= fun d=>invoke d.target d.args) w1=.ok (.round l' i tmps aq bd) w1:= by
   have e1:({ tmps:=a.tmps,defers:=mark++a.defers }:Act).eval f=a.eval f:= by cases f <;> rfl
   have e2:({ tmps:=a.tmps,defers:=mark++a.defers }:Act).eval (.const (.func (.yield l) #[] #[]))=.func (.yield l) #[] #[]:=rfl
   simpa [resolve,A7f,e1,e2] using h
  simp[stepG,stepG.exec,Frame.atR,Sem.runT_eq,he,GStep.bare_after,stepG.apply,hev,hc']
theorem B7y {w:World} {β:Nat} {r:Loop} (h:w.heap[β]? = some (.loop r)) (off:Nat):w.cell? ⟨β,off,none⟩=none:= by
 simp[World.cell?,h]
def MCof (P:Program):Nat→Code→ACode→Prop:=fun nt c ac=>I8 P nt c ac=true∧A6x ac=true
theorem A3t {s:C2} {t:Nat} {v:AV}:∀{l:List Nat},sget (restrict s l) t=some v↔t∈l∧sget s t=some v
 | []=>by simp[restrict,N9,K8]
 | u::l=>by
  have ih:=A3t (s:=s) (t:=t) (v:=v) (l:=l)
  simp only[restrict]
  cases hu:sget s u with
  | none =>
   simp only[Zu]
   constructor
   ·intro h;have:=ih.1 h;exact⟨.inr this.1,this.2⟩
   ·rintro⟨rfl|h,k⟩
    ·simp[hu]at k
    ·exact ih.2 ⟨h,k⟩
  | some w =>
   simp only[N9,K8,Zu]
   cases hb:ZC u t with
   | true =>
    have:=Zk hb
    subst this
    simp[hu]
   | false =>
    have:t≠u:=fun e=>by subst e;simp at hb
    simp only[cond_false]
    rw[ih];simp[this]
theorem B9t {nt:Nat} {x:Code} {y:Opd} {nx ok:Nat} {l0 l1 l2:List Nat} {ax:ACode} (hm:I8 P nt (.loop x) (.loopM y nx ok l0 l1 l2 ax)=true) :
  ∃ id ops c,x=.seq (.region id ops false) c∧B3n nt ops y nx ok=true∧I8 P nt c ax=true:= by
 cases x with
 | seq p c =>
  cases p with
  | region id ops d =>
   cases d with
   | false =>
    simp only[I8,Zc]at hm
    exact⟨id,ops,c,Z,hm.1,hm.2⟩
   | true=>simp[I8]at hm
  | _=>simp[I8]at hm
 | _=>simp[I8]at hm
theorem C3w {nt:Nat} {ops:Array Oper} {x:Opd} {nx ok:Nat} (h:B3n nt ops x nx ok=true) :
  ∃ o0 o1 y,ops.size=2∧ops[0]? = some o0∧ops[1]? = some o1∧o0.guard=none∧o1.guard=none∧o0.op=.next y false∧D5 y x=true∧o0.dst=some nx∧o1.op=.extract (.tmp nx) 0∧o1.dst=some ok∧nx<nt∧ok<nt:= by
 unfold B3n at h
 simp only[Zc,beq_iff_eq]at h
 obtain⟨h0,h⟩:=h
 split at h
 ·next o0 o1 e0 e1 =>
  simp only[Zc,beq_iff_eq,decide_eq_true_eq,Option.isNone_iff_eq_none]at h
  obtain⟨⟨⟨⟨⟨⟨⟨g0,g1⟩,n0⟩,d0⟩,n1⟩,d1⟩,b0⟩,b1⟩:=h
  split at n0
  ·next y hy =>
   split at n1
   ·next t ht =>
    obtain rfl:t=nx:= by simpa using n1
    exact⟨o0,o1,y,h0,e0,e1,g0,g1,hy,n0,d0,ht,d1,b0,b1⟩
   ·cases n1
  ·cases n0
 ·cases h
theorem D5z {w:World} {ty:TypeId} {r bm n:Nat} {seen:List Nat} {en:Array MapEntry} (hr:w.heap[r]? = some (.mapIter (some bm) n seen.toArray n)) (hb:w.heap[bm]? = some (.map en n)) (hn:n=en.size)
  (hborn:∀(i:Nat) (m:MapEntry),en[i]? = some m→m.born=i) :
  (M8 n seen=[]∧(Instr.next (.pointer (some ⟨r,0,none⟩)) false ty).run P w=.ok (.tuple #[.bool false]) w) ∨
  ∃ i∈M8 n seen,∃ m,en[i]? = some m∧∃ w1:World,(w1=w∨w1=w.drew)∧(Instr.next (.pointer (some ⟨r,0,none⟩)) false ty).run P w=.ok (.tuple #[.bool true,m.key,m.val]) (w1.putObj r (.mapIter (some bm) n (seen++[i]).toArray n)):= by
 have hold:∀x∈en.toList,x.born<n:=fun x hx=>by
  obtain⟨i,hi,e⟩:=ZX.1 hx
  have hi:i<en.size:= by simpa using hi
  have:=hborn i x (by rw[← e];simp[hi])
  omega
 rcases run_next_at w ty r bm n n seen.toArray en n hr hb hold (Zn n) with⟨h0,h1⟩|⟨m,hm,w1,hw1,h1⟩
 ·refine .inl ⟨?_,h1⟩
  unfold M8
  rw[List.filter_eq_nil_iff]
  intro i hi
  have hi:i<en.size:= by have:=Z1s.1 hi;omega
  intro hc
  have hmem:en[i]∈(leftOf en seen.toArray).toList:= by
   unfold leftOf
   have:=hborn i en[i] (by simp[hi])
   simp only[Array.toList_filter,Z0a]
   refine⟨by simp,?_⟩
   rw[this]
   simpa using hc
  have:0<(leftOf en seen.toArray).toList.length:=List.length_pos_of_mem hmem
  simp at this
  omega
 ·obtain⟨m1,m2⟩:=mem_left hm
  obtain⟨i,hi,e⟩:=ZX.1 m1
  have hi:i<en.size:= by simpa using hi
  have hei:en[i]? = some m:= by rw[← e];simp[hi]
  have hbi:=hborn i m hei
  refine .inr ⟨i,?_,m,hei,w1,hw1,?_⟩
  ·unfold M8
   rw[Z0a,Z1s]
   refine⟨by omega,?_⟩
   rw[hbi]at m2
   simpa using m2
  ·rw[h1,hbi]
   simp only[List.push_toArray]
   rfl
theorem B5n {liveX:List Nat} {l:Nat} {c:Sc} {e e':Ex} {st st':St} (h:A4q liveX l c e st=some (e',st')) {nt lo:Nat} {fn:Bool} {g:Ghost} {a:Act} {w:World} (hI:CInv MC P B0 nt lo fn st g a w) (hc:st.c=c) :
  e'=e∧CInv MC P B0 nt lo fn st' g a w∧Ext st.H g w st'.H g w∧st'.c=c:= by
 unfold A4q at h
 split at h
 ·next hg =>
  simp only[Za,Zf]at h
  obtain⟨rfl,rfl⟩:=h
  obtain⟨r1,r2⟩:=hI.rel.kill (b:=l) ⟨_,hg,Z⟩
  exact⟨Z,⟨r1,hI.slots.restrict liveX,hI.size,hc▸hI.sc.setTriv l .dead (fun _=>trivial),fun hfn=>(hI.dl hfn).ext r2⟩,r2,Z⟩
 ·cases h
theorem C87 {M:Mach} (hC:B4l (MCof P) P B0 M) {nt:Nat} {x:Code} {y:Opd} {nx ok:Nat} {l0 l1 l2:List Nat} {ax:ACode} {st st':St} {e:Ex} (hm:I8 P nt (.loop x) (.loopM y nx ok l0 l1 l2 ax)=true)
  (h:F1 M st (.loopM y nx ok l0 l1 l2 ax)=some (e,st')) {b:Frame} {a:Act} {k:List Item} {cs:List Frame} {g:Ghost} {w:World} {lo:Nat} {i:Item} (hi:Enters (.loop x) i) (hb:b.roundOf=none∨A6x (.loopM y nx ok l0 l1 l2 ax)=true) (hI:CInv (MCof P) P B0 nt lo b.roundOf.isNone st g a w) :
  ∃ a' g' w',Arr P (lone (b.atR a (i::k)) cs w) b k cs e a' w'∧CInv (MCof P) P B0 nt lo b.roundOf.isNone st' g' a' w'∧Ext st.H g w st'.H g' w'∧Unborn st.H g g'∧st'.c=st.c:= by
 obtain⟨id,ops,c,rfl,hn,hc⟩:=B9t hm
 obtain⟨o0,o1,yo,z0,e0,e1,g0,g1,n0,m0,d0,n1,d1,b0,b1⟩:=C3w hn
 have hb1:b.roundOf=none∨A6x ax=true:=hb.imp (fun h=>h) (fun h=>by simpa only[A6x] using h)
 have s0:step P (lone (b.atR a (i::k)) cs w)=.next (lone (b.atR a (.code (.seq (.region id ops false) c)::.inLoop (.seq (.region id ops false) c)::k)) cs w):= by
  rcases hi with rfl|⟨c',hc',rfl⟩
  ·exact stepR_loop
  ·cases hc'; exact stepR_inLoop
 have s1:step P (lone (b.atR a (.code (.seq (.region id ops false) c)::.inLoop (.seq (.region id ops false) c)::k)) cs w)=.next (lone (b.atR a (.code (.region id ops false)::.code c::.inLoop (.seq (.region id ops false) c)::k)) cs w):=stepR_seq
 have s2:step P (lone (b.atR a (.code (.region id ops false)::.code c::.inLoop (.seq (.region id ops false) c)::k)) cs w)=.next (lone (b.atR a (.inRegion ops [0,1]::.code c::.inLoop (.seq (.region id ops false) c)::k)) cs w):= by
  have:=stepR_region (P:=P) (b:=b) (a:=a) (k:=.code c::.inLoop (.seq (.region id ops false) c)::k) (cs:=cs) (w:=w) (ops:=ops) (id:=id)
  rw[z0]at this
  exact this
 simp only[F1]at h
 split at h
 ·next l hl =>
  split at h
  ·next m n seen hg =>
   split at h
   ·next es hes =>
    split at h
    ·next hif =>
     simp only[Zc,decide_eq_true_eq,Z05,beq_iff_eq]at hif
     obtain⟨⟨⟨f1,f2⟩,f3⟩,f4⟩:=hif
     have hbx:st.H[l]? = some (.mit m n seen):=hg
     obtain⟨βm',hLm,en,clock,q1,q2,q3,q4,q5⟩:=hI.rel.map hes
     have hV:=L6 hI.slots m0 hl
     generalize hev:a.eval yo=u at hV
     cases hV with
     | den _ _ hd=>cases hd
     | itr _ β hL =>
      have hbox:=hI.rel.box l _ hbx
      simp only[AO.rd,hL]at hbox
      obtain⟨βm,l1',l2⟩:=hbox
      rw[hLm]at l1'; cases l1'
      have hcl:clock=n:= by omega
      subst hcl
      have hlt:β<w.heap.size:=(Z0d.1 l2).1
      have region:∀(v:Value) (t:Bool) (w':World),(Instr.next (.pointer (some ⟨β,0,none⟩)) false o0.type).run P w=.ok v w'→(∃ vs,v=.tuple vs∧vs[0]? = some (.bool t)) →
        Steps P (lone (b.atR a (i::k)) cs w) (lone (b.atR ((a.put (some nx) v).put (some ok) (.bool t)) (.code c::.inLoop (.seq (.region id ops false) c)::k)) cs w'):= by
       intro v t w' hrun ⟨vs,hv,ht⟩
       subst hv
       have t0:=B5d (P:=P) (b:=b) (a:=a) (k:=.code c::.inLoop (.seq (.region id ops false) c)::k) (cs:=cs) (w:=w) (w':=w') (rest:=[1]) (x:=.tuple vs) e0 (by unfold Region.wanted;rw[g0]) (by rw[n0];intro c hc;cases hc) (.inl (by simp[execOp,n0,hev,hrun,Sem.run_bind,Result.andThen]))
       have hev1:(a.put (some nx) (.tuple vs)).eval (.tmp nx)=.tuple vs:= by
        have:nx<a.tmps.size:= by rw[hI.size];exact b0
        simp[Act.eval,Act.put,this]
       have t1:=B5d (P:=P) (b:=b) (a:=a.put (some nx) (.tuple vs)) (k:=.code c::.inLoop (.seq (.region id ops false) c)::k) (cs:=cs) (w:=w') (w':=w') (rest:=[]) (x:=.bool t) e1 (by unfold Region.wanted;rw[g1]) (by rw[n1];intro c hc;cases hc) (.inl (by simp[execOp,n1,hev1,Instr.extract,ht,Sem.run,Sem.run_bind,Result.andThen]))
       rw[d0]at t0
       rw[d1]at t1
       exact .head s0 (.head s1 (.head s2 (.head t0 (.head t1 (.one stepR_region_end)))))
      have slots:∀(g':Ghost) (v:Value) (t:Bool),g.le g'→D7 g' ((ok,.b t)::Am.restrict st.s l0) ((a.put (some nx) v).put (some ok) (.bool t)).tmps:= by
       intro g' v t hle t' v' hv'
       have hok:ok<a.tmps.size:= by rw[hI.size];exact b1
       simp only[K8]at hv'
       cases hq:ZC ok t' with
       | true =>
        rw[hq]at hv'
        simp only[cond_true,Za]at hv'
        subst hv'
        obtain rfl:=Zk hq
        exact⟨.bool t,by simp[Act.put,hok],M1 Z⟩
       | false =>
        rw[hq]at hv'
        simp only[cond_false]at hv'
        obtain⟨hmem,hs⟩:=A3t.1 hv'
        obtain⟨x,hx,hV⟩:=hI.slots _ _ hs
        have ne1:nx≠t':= by rintro rfl;rw[Z2g.mpr hmem]at f2;cases f2
        have ne2:ok≠t':= by rintro rfl;rw[Z2g.mpr hmem]at f3;cases f3
        exact⟨x,by simp only[Act.put];rw[Z11 ne2,Z11 ne1];exact hx,hV.mono hle⟩
      have hsz:∀(v:Value) (t:Bool),((a.put (some nx) v).put (some ok) (.bool t)).tmps.size=nt:=fun v t=>by rw[B6n,B6n];exact hI.size
      rcases D5z (P:=P) (ty:=o0.type) l2 q1 q4 q5 with⟨hleft,hrun⟩|⟨j,hj,me,hme,w1,hw1,hrun⟩
      ·
       rw[hleft]at h
       simp only[List.isEmpty_nil,if_true]at h
       have hst:=region (.tuple #[.bool false]) false w hrun ⟨_,Z,Z⟩
       have hI0:CInv (MCof P) P B0 nt lo b.roundOf.isNone { st with s:=(ok,.b false)::Am.restrict st.s l0 } g ((a.put (some nx) (.tuple #[.bool false])).put (some ok) (.bool false)) w :=
        ⟨hI.rel,slots g _ false (Ghost.le_refl g),hsz _ _,hI.sc,by rw[A51,A51];exact hI.dl⟩
       split at h
       ·cases h
       ·next e1' st1 hne h1 =>
        obtain⟨a1,g1,w1,p1,p2,p3,p4,p5⟩:=hC _ _ _ _ _ _ hc h1 b _ (.inLoop (.seq (.region id ops false) c)::k) cs g w lo _ (.inl Z) hb1 hI0
        have hen:e1' ≠ .normal:= by rintro rfl;first|exact hne Z|exact hne _ Z
        obtain⟨rfl,c1,c2,c3⟩:=B5n h p2 p5
        exact⟨a1,g1,w1,.of_steps hst (.pass hen (fun _ _=>rfl) p1),c1,p3.trans c2,p4,c3⟩
       ·cases h
      ·
       have hne:(M8 clock seen).isEmpty=false:= by
        cases hq:M8 clock seen with
        | nil=>rw[hq]at hj;cases hj
        | cons _ _=>rfl
       rw[hne]at h
       simp only[Zj,if_false]at h
       have h:=B0l h hj
       have hst:=region (.tuple #[.bool true,me.key,me.val]) true _ hrun ⟨_,Z,Z⟩
       have hR1:Rel (MCof P) P B0 st.H g w1∧Ext st.H g w st.H g w1∧w1.heap=w.heap:= by
        rcases hw1 with rfl|rfl
        ·exact⟨hI.rel,Ext.refl _ _ _,Z⟩
        ·exact⟨hI.rel.drew,Ext.drew _ _ _,Z⟩
       obtain⟨r1,r2,r3⟩:=hR1
       have hput:=r1.put hbx Z (β:=β) (by rw[hL];rfl) (fun off=>by simp[World.cell?,r3,l2]) (.mapIter (some βm') clock (seen++[j]).toArray clock) (o':=.mit m clock (seen++[j]))
        (by rw[hL];exact⟨βm',hLm,A6o w1 _ (by rw[r3];exact hlt)⟩)
       have hE:=r2.trans hput.2
       have hsc:ScOk st.c (hset st.H l (.mit m clock (seen++[j]))):=hI.sc.set l _ (fun B hB hlB=>by have:=hI.sc.bd B hB l hlB _ hbx;exact this)
       have hI0:CInv (MCof P) P B0 nt lo b.roundOf.isNone { s:=(ok,.b true)::Am.restrict st.s l0,H:=hset st.H l (.mit m clock (seen++[j])),c:=⟨st.H.length,st.c.cur::st.c.outer⟩ } g ((a.put (some nx) (.tuple #[.bool true,me.key,me.val])).put (some ok) (.bool true)) (w1.putObj β (.mapIter (some βm') clock (seen++[j]).toArray clock)) :=
        ⟨hput.1,slots g _ true (Ghost.le_refl g),hsz _ _,by have:=hsc.enter hput.1;rw[I5]at this;exact this,fun hfn=>by rw[A51,A51];exact(hI.dl hfn).ext hE⟩
       split at h
       ·next st1 h1 =>
        obtain⟨a1,g1,w2,p1,p2,p3,p4,p5⟩:=hC _ _ _ _ _ _ hc h1 b _ (.inLoop (.seq (.region id ops false) c)::k) cs g _ lo _ (.inl Z) hb1 hI0
        split at h
        ·next hbd =>
         have hE3:=hE.trans p3
         have hsc1:ScOk ⟨st.H.length,st.c.cur::st.c.outer⟩ st1.H:= by
          have p5':st1.c=⟨st.H.length,st.c.cur::st.c.outer⟩:=p5
          exact p5' ▸ p2.sc
         obtain⟨u1,u2⟩:=Rel.take hI.rel hE3 p2.rel (fun i hi o ho=>hsc1.bd _ (by simp) i hi o ho)
         obtain⟨a2,g2,w3,t1,t2,t3,t4,t5⟩:=hC _ _ _ _ _ _ hm h b a1 k cs (A1s st.H.length g1) w2 lo (.inLoop (.seq (.region id ops false) c)) (.inr ⟨_,Z,Z⟩) hb
          ⟨u1,(p2.slots.restrict l1).cut (B67 hbd),p2.size,(hsc1.leave hI.sc.out).take hI.sc.cur,fun hfn=>by
           obtain⟨d0,βs,d1,d2,d3⟩:=p2.dl hfn
           exact⟨d0,βs,d1,d2,fun β hβ=>⟨(d3 β hβ).1,(d3 β hβ).2.1,(d3 β hβ).2.2.1,fun i hc=>by
            simp only[A1s]at hc
            split at hc
            ·exact(d3 β hβ).2.2.2 i hc
            ·simp[GB.blk]at hc⟩⟩⟩
         refine⟨a2,g2,w3,.of_steps (hst.trans p1) t1,t2,u2.trans t3,?_,t5⟩
         have u3:Unborn st.H g g1:=fun i hi hn=>p4 i (by rw[I5];exact hi) hn
         exact(Unborn.cut u3).trans t4 (by simp;have:=hE3.len;omega)
        ·cases h
       ·next e1' st1 hne' h1 =>
        obtain⟨a1,g1,w2,p1,p2,p3,p4,p5⟩:=hC _ _ _ _ _ _ hc h1 b _ (.inLoop (.seq (.region id ops false) c)::k) cs g _ lo _ (.inl Z) hb1 hI0
        have hen:e1' ≠ .normal:= by rintro rfl;first|exact hne' Z|exact hne' _ Z
        have hsc1:ScOk ⟨st.H.length,st.c.cur::st.c.outer⟩ st1.H:= by
          have p5':st1.c=⟨st.H.length,st.c.cur::st.c.outer⟩:=p5
          exact p5' ▸ p2.sc
        obtain⟨rfl,c1,c2,c3⟩:=B5n (st:={ st1 with c:=st.c }) h ⟨p2.rel,p2.slots,p2.size,hsc1.leave hI.sc.out,p2.dl⟩ Z
        exact⟨a1,g1,w2,.of_steps hst (.pass hen (fun _ _=>rfl) p1),c1,(hE.trans p3).trans c2,fun i hi hn=>p4 i (by rw[I5];exact hi) hn,c3⟩
       ·cases h
    ·cases h
   ·cases h
  ·cases h
 ·cases h
theorem D4v (hmix:P.follows .mixedOrders=true) {M:Mach} (hC:B4l (MCof P) P B0 M) (hM:B4k (MCof P) P B0 M) (hN:NoS M):B4l (MCof P) P B0 ⟨M.call,fun ac st=>F1 M st ac⟩:= by
 intro nt code ac st e st' hm h b a k cs g w lo i hi hb hI
 simp only at h
 cases code with
 | skip =>
  obtain rfl:=hi.code (by simp)
  cases ac <;> simp only[I8,Zj]at hm
  simp only[F1,Za,Zf]at h
  obtain⟨rfl,rfl⟩:=h
  exact⟨a,g,w,.one stepR_skip,hI,Ext.refl _ _ _,Unborn.refl _ _,Z⟩
 | label l =>
  obtain rfl:=hi.code (by simp)
  cases ac <;> simp only[I8,Zj]at hm
  simp only[F1,Za,Zf]at h
  obtain⟨rfl,rfl⟩:=h
  exact⟨a,g,w,.one stepR_label,hI,Ext.refl _ _ _,Unborn.refl _ _,Z⟩
 | region id ops d =>
  obtain rfl:=hi.code (by simp)
  cases ac <;> simp only[I8,Zj]at hm
  exact C7p hmix hM hN hm h hI
 | seq x y =>
  obtain rfl:=hi.code (by simp)
  cases ac <;> simp only[I8,Zj,Zc]at hm
  rename_i ax ay
  have hb1:b.roundOf=none∨A6x ax=true:=hb.imp id (fun h=>by simp only[A6x,Zc]at h;exact h.1)
  have hb2:b.roundOf=none∨A6x ay=true:=hb.imp id (fun h=>by simp only[A6x,Zc]at h;exact h.2)
  simp only[F1]at h
  have s0:step P (lone (b.atR a (.code (.seq x y)::k)) cs w)=_:=stepR_seq
  split at h
  ·next st1 h1 =>
   obtain⟨a1,g1,w1,q1,q2,q3,q4,q5⟩:=hC _ _ _ _ _ _ hm.1 h1 b a (.code y::k) cs g w lo _ (.inl Z) hb1 hI
   obtain⟨a2,g2,w2,p1,p2,p3,p4,p5⟩:=hC _ _ _ _ _ _ hm.2 h b a1 k cs g1 w1 lo _ (.inl Z) hb2 q2
   exact⟨a2,g2,w2,.of_steps (.head s0 q1) p1,p2,q3.trans p3,q4.trans p4 q3.len,p5.trans q5⟩
  ·next hne =>
   obtain⟨a1,g1,w1,q1,q2,q3,q4,q5⟩:=hC _ _ _ _ _ _ hm.1 h b a (.code y::k) cs g w lo _ (.inl Z) hb1 hI
   have hen:e≠.normal:= by rintro rfl;exact hne _ h
   exact⟨a1,g1,w1,.of_steps (.one s0) (.pass hen (fun _ _=>rfl) q1),q2,q3,q4,q5⟩
 | cond cnd x y =>
  obtain rfl:=hi.code (by simp)
  cases ac <;> simp only[I8,Zj,Zc]at hm
  rename_i ac ax ay
  have hb1:b.roundOf=none∨A6x ax=true:=hb.imp id (fun h=>by simp only[A6x,Zc]at h;exact h.1)
  have hb2:b.roundOf=none∨A6x ay=true:=hb.imp id (fun h=>by simp only[A6x,Zc]at h;exact h.2)
  simp only[F1]at h
  split at h
  ·next hv =>
   have:=S5 (L6 hI.slots hm.1.1 hv)
   obtain⟨a1,g1,w1,q1,q2,q3,q4,q5⟩:=hC _ _ _ _ _ _ hm.1.2 h b a k cs g w lo _ (.inl Z) hb1 hI
   exact⟨a1,g1,w1,.of_steps (.one (by have:=stepR_cond (P:=P) (b:=b) (k:=k) (cs:=cs) (w:=w) (x:=x) (y:=y) this;simpa using this)) q1,q2,q3,q4,q5⟩
  ·next hv =>
   have:=S5 (L6 hI.slots hm.1.1 hv)
   obtain⟨a1,g1,w1,q1,q2,q3,q4,q5⟩:=hC _ _ _ _ _ _ hm.2 h b a k cs g w lo _ (.inl Z) hb2 hI
   exact⟨a1,g1,w1,.of_steps (.one (by have:=stepR_cond (P:=P) (b:=b) (k:=k) (cs:=cs) (w:=w) (x:=x) (y:=y) this;simpa using this)) q1,q2,q3,q4,q5⟩
  ·cases h
 | block id x =>
  obtain rfl:=hi.code (by simp)
  cases ac <;> simp only[I8,Zj,Zc]at hm
  rename_i id' ax
  have hid:id=id':= by simpa using hm.1
  subst hid
  have hb1:b.roundOf=none∨A6x ax=true:=hb.imp (fun h=>h) (fun h=>by simpa only[A6x] using h)
  simp only[F1]at h
  have s0:step P (lone (b.atR a (.code (.block id x)::k)) cs w)=_:=stepR_block
  split at h
  ·next j st1 h1 =>
   obtain⟨a1,g1,w1,q1,q2,q3,q4,q5⟩:=hC _ _ _ _ _ _ hm.2 h1 b a (.inBlock id::k) cs g w lo _ (.inl Z) hb1 hI
   obtain⟨k',r1,r2⟩:=q1
   split at h
   ·next hj =>
    simp only[Za,Zf]at h
    obtain⟨rfl,rfl⟩:=h
    have hj':=Zk hj
    subst hj'
    have:exitTo j k'=some k:= by rw[r1];simp[exitTo]
    exact⟨a1,g1,w1,.head s0 (r2.trans (.one (stepR_exit this))),q2,q3,q4,q5⟩
   ·next hj =>
    simp only[Za,Zf]at h
    obtain⟨rfl,rfl⟩:=h
    have hj':¬ id=j:=fun e=>hj (by simp[e])
    refine⟨a1,g1,w1,⟨k',?_,.head s0 r2⟩,q2,q3,q4,q5⟩
    rw[r1]
    have hb':(id==j)=false:= by simpa using hj'
    simp[exitTo,hb']
  ·next hne =>
   obtain⟨a1,g1,w1,q1,q2,q3,q4,q5⟩:=hC _ _ _ _ _ _ hm.2 h b a (.inBlock id::k) cs g w lo _ (.inl Z) hb1 hI
   cases e with
   | normal=>exact⟨a1,g1,w1,.head s0 (Steps.trans q1 (.one stepR_inBlock)),q2,q3,q4,q5⟩
   | exit j=>exact absurd h (hne _ _)
   | ret=>exact⟨a1,g1,w1,.of_steps (.one s0) q1,q2,q3,q4,q5⟩
 | loop x =>
  cases ac with
  | loopM y nx ok l0 l1 l2 ax=>exact C87 hC hm h hi hb hI
  | loop tr live ax =>
   have hm':I8 P nt (.loop x) (.loop tr live ax)=true:=hm
   simp only[I8]at hm
   have hb1:b.roundOf=none∨A6x ax=true:=hb.imp id (fun h=>by simpa only[A6x] using h)
   have s0:step P (lone (b.atR a (i::k)) cs w)=.next (lone (b.atR a (.code x::.inLoop x::k)) cs w):= by
    rcases hi with rfl|⟨c,hc,rfl⟩
    ·exact stepR_loop
    ·cases hc;exact stepR_inLoop
   simp only[F1]at h
   have hI0:CInv (MCof P) P B0 nt lo b.roundOf.isNone (if tr then { s:=restrict st.s live,H:=st.H,c:=⟨st.H.length,st.c.cur::st.c.outer⟩ } else { st with s:=restrict st.s live }) g a w:= by
    cases tr with
    | true=>exact⟨hI.rel,hI.slots.restrict live,hI.size,hI.sc.enter hI.rel,hI.dl⟩
    | false=>exact⟨hI.rel,hI.slots.restrict live,hI.size,hI.sc,hI.dl⟩
   have hH0:(if tr then ({ s:=restrict st.s live,H:=st.H,c:=⟨st.H.length,st.c.cur::st.c.outer⟩ }:St) else { st with s:=restrict st.s live }).H=st.H:= by cases tr <;> rfl
   split at h
   ·next st1 h1 =>
    obtain⟨a1,g1,w1,q1,q2,q3,q4,q5⟩:=hC _ _ _ _ _ _ hm h1 b a (.inLoop x::k) cs g w lo _ (.inl Z) hb1 hI0
    rw[hH0]at q3 q4
    cases tr with
    | true =>
     simp only[if_true]at h q5
     split at h
     ·next hbd =>
      have hsc:ScOk ⟨st.H.length,st.c.cur::st.c.outer⟩ st1.H:=q5▸q2.sc
      obtain⟨t1,t2⟩:=Rel.take hI.rel q3 q2.rel (fun i hi o ho=>hsc.bd _ (by simp) i hi o ho)
      obtain⟨a2,g2,w2,p1,p2,p3,p4,p5⟩:=hC _ _ _ _ _ _ hm' h b a1 k cs (A1s st.H.length g1) w1 lo (.inLoop x) (.inr ⟨x,Z,Z⟩) hb
       ⟨t1,(q2.slots.restrict live).cut (B67 hbd),q2.size,(hsc.leave hI.sc.out).take hI.sc.cur,fun hfn=>(hI.dl hfn |>.ext t2 |> fun _=>by
        have:=q2.dl hfn
        obtain⟨d0,βs,d1,d2,d3⟩:=this
        exact⟨d0,βs,d1,d2,fun β hβ=>⟨(d3 β hβ).1,(d3 β hβ).2.1,(d3 β hβ).2.2.1,fun i hc=>by
         simp only[A1s]at hc
         split at hc
         ·exact(d3 β hβ).2.2.2 i hc
         ·simp[GB.blk]at hc⟩⟩)⟩
      refine⟨a2,g2,w2,.of_steps (.head s0 q1) p1,p2,t2.trans p3,?_,p5⟩
      exact(Unborn.cut q4).trans p4 (by have:=q3.len;simp;omega)
     ·cases h
    | false =>
     simp only[Zj,if_false]at h q5
     obtain⟨a2,g2,w2,p1,p2,p3,p4,p5⟩:=hC _ _ _ _ _ _ hm' h b a1 k cs g1 w1 lo (.inLoop x) (.inr ⟨x,Z,Z⟩) hb ⟨q2.rel,q2.slots.restrict live,q2.size,by simpa [q5] using q2.sc,q2.dl⟩
     exact⟨a2,g2,w2,.of_steps (.head s0 q1) p1,p2,q3.trans p3,q4.trans p4 q3.len,p5⟩
   ·next e1 st1 hne h1 =>
    simp only[Za,Zf]at h
    obtain⟨rfl,rfl⟩:=h
    obtain⟨a1,g1,w1,q1,q2,q3,q4,q5⟩:=hC _ _ _ _ _ _ hm h1 b a (.inLoop x::k) cs g w lo _ (.inl Z) hb1 hI0
    rw[hH0]at q3 q4
    have hen:e1≠.normal:= by rintro rfl;first|exact hne Z|exact hne _ Z
    refine⟨a1,g1,w1,.of_steps (.one s0) (.pass hen (fun _ _=>rfl) q1),⟨q2.rel,q2.slots,q2.size,?_,q2.dl⟩,q3,q4,Z⟩
    cases tr with
    | true =>
     have hsc:ScOk ⟨st.H.length,st.c.cur::st.c.outer⟩ st1.H:= by simp only[if_true]at q5;exact q5▸q2.sc
     exact hsc.leave hI.sc.out
    | false=>simp only[Zj,if_false]at q5;exact q5▸q2.sc
   ·cases h
  | _=>exact absurd hm (by cases x <;> simp[I8])
 | rangeFunc f ps aq bd =>
  obtain rfl:=hi.code (by simp)
  cases ac <;> simp only[I8,Zj,Zc]at hm
  rename_i f' ps' live' as' bd'
  obtain⟨⟨⟨⟨⟨⟨m1,m2⟩,m3⟩,m4⟩,m5⟩,m6⟩,m7⟩:=hm
  have hro:b.roundOf=none:=hb.resolve_right (by simp[A6x])
  have hfn:b.roundOf.isNone=true:= by simp[hro]
  simp only[F1]at h
  split at h
  ·next i0 fa fc hv =>
   split at h
   ·next rs H' hcall =>
    have hVf:=L6 hI.slots m1 hv
    have henter:=run_enterLoop_outer (P:=P) (w:=w) b.fn a.tmps ps aq bd
    obtain⟨r1,x1⟩:=hI.rel.spare (.deferred (some []))
    obtain⟨r2,x2⟩:=r1.reserve 1
    have hl:st.H.length<(st.H++Zv 1 AO.dead).length:= by simp
    have hsetE:(st.H++Zv 1 AO.dead).set st.H.length (.loop 0 (Am.restrict st.s live') ps' as' bd' false none)=st.H++[.loop 0 (Am.restrict st.s live') ps' as' bd' false none]:= by simp
    have hps:ps=ps'.toArray:= by
     have:ps.toList=ps':= by simpa using m2
     subst this;simp
    let rec0:Loop:={ state:=.ready,pending:=none,fn:=b.fn,tmps:=a.tmps,params:=ps,assign:=aq,body:=bd,defers:=w.heap.size }
    have hsz1:(w.alloc (.deferred (some []))).heap.size=w.heap.size+1:= by simp
    have hle1:g.le ⟨J0 g.L st.H.length (.loop (w.heap.size+1)),g.Φ,g.gl⟩:=⟨fun j=>by
     by_cases e:j=st.H.length
     ·subst e;rw[hI.rel.nolive _ (Zn _)];trivial
     ·simp only[J0,if_neg e];exact GB.le_refl _,fun _ _ _ h=>h⟩
    obtain⟨r3,x3⟩:=r2.alloc (i:=st.H.length) hl (r1.nolive _ (Zn _)) (.loop rec0) (o':=.loop 0 (Am.restrict st.s live') ps' as' bd' false none) (gb':=.loop (w.heap.size+1)) (by rw[hsz1];rfl)
     ⟨rec0,by rw[← hsz1];exact World.alloc_heap_new _ _,Z,Z,hps,(hI.slots.restrict live').mono hle1,⟨by rw[show rec0.tmps.size=nt from hI.size];exact m6,m4⟩,⟨by rw[show rec0.tmps.size=nt from hI.size];exact m7,m5⟩,
      fun t ht=>by rw[show rec0.tmps.size=nt from hI.size];simpa using Zq.1 m3 t ht⟩
    rw[hsetE]at r3 x3
    have hE1:=(x1.trans x2).trans x3
    obtain⟨fr0,c1,c2⟩:=hM _ _ _ _ _ _ hcall ⟨J0 g.L st.H.length (.loop (w.heap.size+1)),g.Φ,g.gl⟩ _ (a.eval f) #[.func (.yield (w.heap.size+1)) #[] #[]] r3 (hI.sc.app _) (hVf.mono hle1) Z
     (fun j y hj=>by
      rcases j with _|j <;> simp at hj
      subst hj
      exact .fn _ _ _ _ _ _ ⟨w.heap.size+1,by simp[J0],Z⟩ Z Z (by simp) (by simp))
    have hst:=B8j (P:=P) (b:=b) (a:=a) (k:=k) (cs:=cs) (w:=w) (f:=f) (l:=w.heap.size+1) (mark:=[{ target:=.collected w.heap.size,args:=#[] }]) (by rw[hro];exact henter) c1
    obtain⟨us,w2,g2,fs,d1,d2,d3,d4,d5,d6,d7⟩:=c2 (b.atR { a with defers:=[{ target:=.collected w.heap.size,args:=#[] }]++a.defers } (.inRangeFunc (w.heap.size+1)::k)) cs
    rw[B4q]at d1
    have hL2:g2.L st.H.length=.loop (w.heap.size+1):=C0k d5.le (by simp[J0])
    have hE2:=hE1.trans d5
    have fin:∀(s2:C2) (f2:Nat) ps2 as2 bd2 (pend:Option Ex),H'[st.H.length]? = some (.loop f2 s2 ps2 as2 bd2 false pend) →
      ∃ jump w3,jump=pend.bind B56∧step P (lone (b.atR { a with defers:=[{ target:=.collected w.heap.size,args:=#[] }]++a.defers } (.endRangeFunc (w.heap.size+1)::k)) cs w2)=.next (lone (b.atR { a with defers:=[{ target:=.collected w.heap.size,args:=#[] }]++a.defers } ((jump.map Item.code).toList++k)) cs w3) ∧
       CInv (MCof P) P B0 nt lo b.roundOf.isNone { st with H:=hset H' st.H.length .dead } g2 { a with defers:=[{ target:=.collected w.heap.size,args:=#[] }]++a.defers } w3∧Ext st.H g w (hset H' st.H.length .dead) g2 w3∧Unborn st.H g g2:= by
     intro s2 f2 ps2 as2 bd2 pend hH
     have hbox:=d4.box _ _ hH
     simp only[AO.rd]at hbox
     rw[hL2]at hbox
     obtain⟨r,b1,b2,b3,_⟩:=hbox
     have hbusy:r.state≠.busy:= by rw[b2];cases pend <;> simp
     obtain⟨r4,x4⟩:=d4.put hH Z (β:=w.heap.size+1) (by rw[hL2];rfl) (B7y b1) (.loop { r with state:=.exhausted }) (o':=.dead) trivial
     have hE3:=hE2.trans x4
     refine⟨r.pending,_,b3,B60 (run_endLoop b1 hbusy),⟨r4,hI.slots.mono hE3.le,hI.size,d6.setTriv _ .dead (fun _=>trivial),fun _=>?_⟩,hE3,?_⟩
     ·obtain⟨e0,βs,e1,e2,e3⟩:=hI.dl hfn
      have hdef:C4i lo (A9g w.heap.size::a.defers) ⟨J0 g.L st.H.length (.loop (w.heap.size+1)),g.Φ,g.gl⟩ ((w.alloc (.deferred (some []))).alloc (.loop rec0)):= by
       have hold:=(hI.dl hfn).ext hE1
       obtain⟨f0,βs',f1,f2,f3⟩:=hold
       refine⟨f0,w.heap.size::βs',by rw[Zt,f1],?_,?_⟩
       ·refine Z1c.2 ⟨fun hmem=>?_,f2⟩
        have hb':βs'=βs:=C17 (by rw[← f1,← e1])
        subst hb'
        have:=(e3 _ hmem).2.1
        omega
       ·intro β hβ
        rcases Zu.1 hβ with rfl|hβ
        ·refine⟨?_,by simp;omega,?_,?_⟩
         ·exact e0
         ·rw[hao _ _ _ (by simp)];exact World.alloc_heap_new _ _
         ·intro i hc
          simp only[J0]at hc
          split at hc
          ·simp[GB.blk]at hc
          ·have:=(hI.rel.base i _ hc).2;omega
        ·exact f3 β hβ
      exact(hdef.ext d5).ext x4
     ·intro i hi hn
      refine d7 i (by simp;omega) ?_
      have:i≠st.H.length:= by omega
      simpa [J0,this] using hn
    split at h
    ·next f2 s2 ps2 as2 bd2 hH =>
     simp only[Za,Zf]at h
     obtain⟨rfl,rfl⟩:=h
     obtain⟨jump,w3,j1,j2,j3,j4,j5⟩:=fin _ _ _ _ _ _ hH
     simp only[Option.bind_none]at j1
     subst j1
     exact⟨_,g2,w3,.head hst (d1.trans (.one j2)),j3,j4,j5,Z⟩
    ·next f2 s2 ps2 as2 bd2 e2 hH =>
     simp only[Za,Zf]at h
     obtain⟨rfl,rfl⟩:=h
     obtain⟨jump,w3,j1,j2,j3,j4,j5⟩:=fin _ _ _ _ _ _ hH
     have hs:Steps P (lone (b.atR a (.code (.rangeFunc f ps aq bd)::k)) cs w) _:=.head hst (d1.trans (.one j2))
     refine⟨_,g2,w3,?_,j3,j4,j5,Z⟩
     cases e2 with
     | normal=>subst j1;exact hs
     | exit id=>subst j1;exact⟨k,Z,hs⟩
     | ret=>subst j1;exact⟨k,hs⟩
    ·cases h
   ·cases h
  ·cases h
 | exit id =>
  obtain rfl:=hi.code (by simp)
  cases ac <;> simp only[I8,Zj]at hm
  simp only[F1,Za,Zf]at h
  obtain⟨rfl,rfl⟩:=h
  rename_i id'
  have:id=id':= by simpa using hm
  subst this
  exact⟨a,g,w,⟨k,Z,.refl _ _⟩,hI,Ext.refl _ _ _,Unborn.refl _ _,Z⟩
 | ret =>
  obtain rfl:=hi.code (by simp)
  cases ac <;> simp only[I8,Zj]at hm
  simp only[F1,Za,Zf]at h
  obtain⟨rfl,rfl⟩:=h
  exact⟨a,g,w,⟨k,.refl _ _⟩,hI,Ext.refl _ _ _,Unborn.refl _ _,Z⟩
 | scope x =>
  obtain rfl:=hi.code (by simp)
  cases ac <;> simp only[I8,Zj]at hm
  rename_i ax
  have hb1:b.roundOf=none∨A6x ax=true:=hb.imp (fun h=>h) (fun h=>by simpa only[A6x] using h)
  simp only[F1]at h
  have s0:step P (lone (b.atR a (.code (.scope x)::k)) cs w)=.next (lone (b.atR a (.code x::.inScope x::k)) cs w):=step_lone_go (by simp[stepG,stepG.exec,Frame.atR])
  obtain⟨a1,g1,w1,q1,q2,q3,q4,q5⟩:=hC _ _ _ _ _ _ hm h b a (.inScope x::k) cs g w lo _ (.inl Z) hb1 hI
  cases e with
  | normal =>
   have s1:step P (lone (b.atR a1 (.inScope x::k)) cs w1)=.next (lone (b.atR a1 k) cs w1):=step_lone_go (by simp[stepG,stepG.exec,Frame.atR])
   exact⟨a1,g1,w1,.head s0 (Steps.trans q1 (.one s1)),q2,q3,q4,q5⟩
  | exit j=>exact⟨a1,g1,w1,.of_steps (.one s0) (.pass (by simp) (fun _ _=>rfl) q1),q2,q3,q4,q5⟩
  | ret=>exact⟨a1,g1,w1,.of_steps (.one s0) q1,q2,q3,q4,q5⟩
 | goto l=>cases ac <;> simp[I8]at hm
 | refuse s=>cases ac <;> simp[I8]at hm
end
end Am
end
