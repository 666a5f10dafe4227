/- Texts that the claim stands on, one behind another. -/
import Derived.Test.YtjpjdglddmhplaaGreatA2
import Derived.Below
import Derived.IntWalk
set_option linter.unusedVariables false
set_option linter.unusedSimpArgs false
set_option linter.unnecessarySimpa false
open Array renaming getD_eq_getD_getElem?→Z1u,getElem?_append_left→Z2n,getElem?_append_right→Z3s
open Bool renaming and_eq_true→Zc,and_self→Z18,and_true→Z32,false_eq_true→Zj,not_eq_true'→Z05,not_false→Z3p,or_true→Z1w,true_and→Z1h,true_or→Z3j
open Function renaming comp_def→Z1a
open Int renaming natCast_nonneg→Z0v,toNat_natCast→ZG
open List renaming all_append→Z29,all_cons→ZS,all_eq_true→Zq,all_map→Z1p,append_assoc→ZB,append_nil→ZY,cons_append→Z0g,contains_iff_mem→Z2g,drop_append_of_le_length→Z2e,drop_drop→Z19,drop_left'→Z4f,drop_take→Z5p,drop_zero→Z12,flatten_cons→Z1b,foldl_cons→Z09,getElem?_append_left→ZF,getElem?_append_right→ZI,getElem?_cons_succ→Z26,getElem?_eq_getElem→Zm,getElem?_eq_some_iff→Ze,getElem?_map→ZN,getElem?_set_ne→Z2l,head?_cons→Z2c,length_append→Zo,length_eq_zero_iff→Z0w,length_map→Zi,length_replicate→Z1y,length_set→Z0t,length_take→ZD,map_append→Z00,map_cons→Zt,map_drop→Z10,map_map→Z1f,map_nil→Z0z,map_replicate→Z2a,map_set→Z2h,map_take→Z0p,map→Zg,mem_append_right→Z0k,mem_append→ZA,mem_cons_of_mem→Zx,mem_cons_self→Zy,mem_cons→Zu,mem_map→ZK,mem_singleton→Z16,nil_append→Z06,replicate→Zv,set_append_left→Z4u,set_append_right→Z0s,set_getElem_self→Z3b,take_append_drop→Z3a,take_append→Z34,take_of_length_le→ZR
open Nat renaming add_assoc→Z03,add_comm→Z2u,add_sub_cancel_left→Z27,beq_refl→Z17,beq→ZC,ble_eq_true_of_le→Zl,ble→ZH,blt→ZU,eq_of_beq_eq_true→Zk,le_add_right→ZL,le_max_left→Z0u,le_max_right→Z0h,le_of_ble_eq_true→Zp,le_refl→Zn,le_trans→Z01,lt_succ_of_lt→Z59,lt_succ_self→Z35,not_lt_zero→Z2b,succ_mul→Z1m,zero_le→Z2p
open Option renaming bind_eq_some_iff→Zs,bind_some→Zd,map_eq_some_iff→Zz,map_none→Z2s,map_some→Zb,map→Z62
open Option.some renaming injEq→Za,inj→Z0b
open Prod.mk renaming injEq→Zf
section
namespace Am
open Go
theorem B5l:∀(l:List AV) (i t:Nat) (v:AV),sget (M0 i l) t=some v→i≤t∧l[t-i]? = some v
 | [],i,t,v,h=>by simp[M0,N9,K8]at h
 | x::l,i,t,v,h=>by
  simp only[M0,N9,K8]at h
  cases hb:ZC i t with
  | true =>
   have:=Zk hb
   subst this
   simp[hb]at h;subst h
   simp
  | false =>
   simp only[hb,cond_false]at h
   obtain⟨h1,h2⟩:=B5l l (i+1) t v h
   refine⟨by omega,?_⟩
   have e:t-i=(t-(i+1))+1:= by omega
   rw[e];simpa using h2
theorem C6a {g:Ghost}:∀(ps:List Nat) (args:List AV) (vs:List Value) (s:C2) (tmps:Array Value),ps.length=args.length→vs.length=args.length→(∀ t∈ps,t<tmps.size)→(∀ (j:Nat) x,args[j]? = some x→V g x (vs[j]?.getD undef))→D7 g s tmps →
  D7 g ((ps.zip args).foldl (fun s x=>sput s (some x.1) x.2) s) ((ps.zip vs).foldl (fun tmps x=>tmps.setIfInBounds x.1 x.2) tmps)∧((ps.zip vs).foldl (fun tmps x=>tmps.setIfInBounds x.1 x.2) tmps).size=tmps.size
 | [],args,vs,s,tmps,_,_,_,_,h=>by simpa using h
 | p::ps,[],vs,s,tmps,hl,_,_,_,h=>by simp at hl
 | p::ps,x::args,[],s,tmps,_,hl,_,_,h=>by simp at hl
 | p::ps,x::args,v::vs,s,tmps,hl,hl2,hp,hV,h=>by
  simp only[List.zip_cons_cons,Z09]
  have h0:=D7.put (a:={ tmps,defers:=[] }) (dst:=some p) (v:=x) (x:=v) h (hV 0 x Z) (fun d hd=>by cases hd;exact hp p (by simp))
  have:=C6a ps args vs (sput s (some p) x) (tmps.setIfInBounds p v) (by simpa using hl) (by simpa using hl2) (fun t ht=>by simpa using hp t (by simp[ht])) (fun j y hj=>hV (j+1) y hj) h0
  exact⟨this.1,by rw[this.2];simp⟩
section
variable {MC:Nat→Code→ACode→Prop} {P:Program} {B0:Nat}
theorem Rel.marks {H0 H:A2} {g0 g:Ghost} {w0 w w':World} (hE:Ext H0 g0 w0 H g w) (hR:Rel MC P B0 H g w) {βs:List Nat} (hown:∀β∈βs,w0.heap.size≤β∧w.heap[β]? = some (.deferred (some []))∧∀ i,(g.L i).blk≠some β)
  (h1:w'.os=w.os) (h2:w'.tape=w.tape) (h3:w'.output=w.output) (h4:w'.heap.size=w.heap.size) (h5:∀β,β ∉ βs→w'.heap[β]? = w.heap[β]?):Rel MC P B0 H g w'∧Ext H0 g0 w0 H g w':= by
 refine⟨⟨?_,?_,hR.inj,?_,hR.nolive,by rw[h4];exact hR.b0⟩,⟨hE.len,h1.trans hE.os,h2.trans hE.tape,h3.trans hE.output,by rw[h4];exact hE.size,hE.le,hE.blk,hE.keep,hE.wit,?_⟩⟩
 ·intro β o v h
  have hc:=hR.phi β o v h
  by_cases hb:β∈βs
  ·have:=(hown β hb).2.1
   simp[World.cell?,this]at hc
  ·rw[World.cell?_of_block (h5 β hb)];exact hc
 ·intro i β h;rw[h4];exact hR.base i β h
 ·intro i o ho
  exact(hR.box i o ho).mono (Ghost.le_refl g) (fun β hb=>⟨h5 β (fun hm=>(hown β hm).2.2 i hb),fun _=>rfl⟩)
 ·intro β hβ hn
  obtain⟨e1,e2⟩:=hE.frame β hβ hn
  exact⟨(h5 β (fun hm=>by have:=(hown β hm).1;omega)).trans e1,e2⟩
theorem D7v {c:Sc} {n0:Nat} {H H':A2} {g:Ghost} {w:World} {s:C2} {tmps:Array Value} {t:TypeId} {t':Nat} {k:Option Nat} {v:AV} (hR:Rel MC P B0 H g w) (hS:D7 g s tmps) (ht:A55 P t k=true) (hk:k≠some 0)
  (h:prim c n0 s H (.load k (.t t'))=some (v,H')):∃x,(do loadVar t (← asAddr (tmps.getD t' undef)):Sem Value).run P w=.ok x w∧V g v x:= by
 have fin:∀p cs,sget s t'=some p→H6 H p=some cs→k.getD 1≤cs.length→v=A6s k cs→∃ x,(do loadVar t (← asAddr (tmps.getD t' undef)):Sem Value).run P w=.ok x w∧V g v x:= by
  intro p cs he hp hl hv
  have hne:cs≠[]:= by
   intro e;subst e
   cases k with
   | none=>simp at hl
   | some k=>simp at hl;subst hl;exact hk Z
  obtain⟨x,hx,hV⟩:=hS t' p he
  obtain⟨ad,e1,e2⟩:=B2s hR hp hV hne
  obtain⟨u,hu,hV⟩:=A89 ht e2 hl
  refine⟨u,?_,by rw[hv];exact hV⟩
  have e3:tmps.getD t' undef=.pointer (some ad):= by rw[← e1,Z1u,hx];rfl
  simp[e3,asAddr,hu]
 cases k with
 | none =>
  simp only[prim,ev]at h
  split at h
  ·next p he =>
   split at h
   ·next u l hp=>simp at h;exact fin p _ he hp (by simp) (by simp[A6s,h.1])
   ·cases h
  ·cases h
 | some k =>
  simp only[prim,ev]at h
  split at h
  ·next p he =>
   split at h
   ·next cs hp =>
    split at h
    ·next hle=>simp at h;exact fin p _ he hp (by simpa using hle) (by simp[A6s,h.1])
    ·cases h
   ·cases h
  ·cases h
def B0g (tmps:Array Value):ResultVar→Sem Value
 | .tmp t=>pure (tmps.getD t undef)
 | .cell a t=>do loadVar t (← asAddr (tmps.getD a undef))
theorem B6u {H:A2} {g:Ghost} {w:World} {s:C2} {tmps:Array Value} (hR:Rel MC P B0 H g w) (hS:D7 g s tmps):∀{l:List ResultVar} {m:List ARes} {rs:List AV},A0t P l m=true→Am.results s H m=some rs →
  ∃ us:List Value,(l.mapM (B0g tmps)).run P w=.ok us w∧us.length=rs.length∧∀ (j:Nat) x,rs[j]? = some x→V g x (us[j]?.getD undef)
 | [],[],rs,_,h=>by
  simp only[Am.results,Za]at h
  subst h
  exact⟨[],Z,Z,by simp⟩
 | [],_::_,rs,hm,h=>by simp[A0t]at hm
 | _::_,[],rs,hm,h=>by simp[A0t]at hm
 | x::l,y::m,rs,hm,h=>by
  simp only[A0t,Zc]at hm
  have step:∀(v:AV) (rs':List AV) (u:Value),(B0g tmps x).run P w=.ok u w→V g v u→Am.results s H m=some rs'→rs=v::rs' →
    ∃ us:List Value,((x::l).mapM (B0g tmps)).run P w=.ok us w∧us.length=rs.length∧∀ (j:Nat) x,rs[j]? = some x→V g x (us[j]?.getD undef):= by
   rintro v rs' u hu hV hr rfl
   obtain⟨us,q1,q2,q3⟩:=B6u hR hS hm.2 hr
   refine⟨u::us,?_,by simp[q2],fun j z hj=>?_⟩
   ·rw[List.mapM_cons]
    simp[Sem.run_bind,hu,q1]
   ·rcases j with _|j
    ·simp at hj;subst hj;exact hV
    ·exact q3 j z (by simpa using hj)
  cases x with
  | tmp t =>
   cases y with
   | tmp t' =>
    have e:t=t':= by simpa [A6m] using hm.1
    subst e
    simp only[Am.results,Zs,Zz]at h
    obtain⟨v,hv,rs',hr,rfl⟩:=h
    obtain⟨u,hu,hV⟩:=hS t v hv
    exact step v rs' u (by simp[B0g,Z1u,hu]) hV hr Z
   | cell _ _=>simp[A6m]at hm
  | cell a t =>
   cases y with
   | tmp _=>simp[A6m]at hm
   | cell a' k =>
    have hm1:=hm.1
    simp only[A6m,Zc]at hm1
    obtain⟨⟨e,h2⟩,h3⟩:=hm1
    have e:a=a':= by simpa using e
    subst e
    simp only[Am.results,Zs,Zz]at h
    obtain⟨v,hv,rs',hr,rfl⟩:=h
    obtain⟨u,hu,hV⟩:=D7v hR hS h2 (by rintro rfl;simp at h3) (v:=v.1) (H':=v.2) hv
    exact step v.1 rs' u hu hV hr Z
theorem C4e {H:A2} {g:Ghost} {w:World} {s:C2} {tmps:Array Value} {fn:Func} {m:List ARes} {rs:List AV} (hR:Rel MC P B0 H g w) (hS:D7 g s tmps) (hm:A0t P fn.results.toList m=true) (h:Am.results s H m=some rs) :
  ∃ us:List Value,(Go.results fn tmps).run P w=.ok (B0c us) w∧us.length=rs.length∧∀ (j:Nat) x,rs[j]? = some x→V g x (us[j]?.getD undef):= by
 obtain⟨us,q1,q2,q3⟩:=B6u hR hS hm h
 refine⟨us,?_,q2,q3⟩
 have e:Go.results fn tmps=(do let vs ← fn.results.mapM (B0g tmps);pure (if h:vs.size=1 then vs[0] else .tuple vs)):= by
  unfold Go.results
  congr 1
 rw[e,Array.mapM_eq_mapM_toList]
 have hmap:(Functor.map (fun l:List Value=>l.toArray) (fn.results.toList.mapM (B0g tmps))).run P w=.ok us.toArray w:= by
  simp only[Sem.run_map,q1,Result.andThen_ok]
 simp only[Sem.run_bind]
 first
 | rw[hmap]
 | (have:=hmap;simp only[Functor.map]at this ⊢; rw[this])
 simp only[Result.andThen,Sem.run_pure]
 rcases us with _|⟨u,_|⟨v,us⟩⟩
 ·rfl
 ·rfl
 ·simp[B0c]
theorem D6h {g:Ghost} {f:Fn} {fa fc:List AV} {u:Value} (h:V g (.fn f fa fc) u):∃f' a' c',u=.func f' a' c'∧B8r g f f'∧a'.size=fa.length∧c'.size=fc.length∧(∀ (j:Nat) x,fa[j]? = some x→V g x (a'[j]?.getD undef))∧∀ (j:Nat) x,fc[j]? = some x→V g x (c'[j]?.getD undef):= by
 cases h with
 | den _ _ hd=>cases hd
 | fn _ f' _ _ a' c' hf l1 l2 h1 h2=>exact⟨f',a',c',Z,hf,l1,l2,h1,h2⟩
theorem C7y {g:Ghost}:∀{l:List AV} {us:List Value},us.length=l.length→(∀ (j:Nat) x,l[j]? = some x→V g x (us[j]?.getD undef))→RCs g l us []
 | [],us,hl,_=>by
  have:us=[]:=Z0w.1 (by simpa using hl)
  subst this;exact .nil
 | v::l,us,hl,hV=>by
  obtain⟨u,us,rfl⟩:∃u us',us=u::us':= by cases us with|nil=>simp at hl|cons u us=>exact⟨u,us,Z⟩
  exact .cons v u [] l us [] (.val v u (by simpa using hV 0 v Z)) (C7y (by simpa using hl) (fun j x hj=>by simpa using hV (j+1) x (by simpa using hj)))
theorem E2f {g:Ghost} {v:AV} {u:Value} (h:V g v u):RV g v u []:= by
 by_cases c:∃cs,v=.agg cs
 ·obtain⟨cs,rfl⟩:=c
  cases h with
  | den _ _ hd=>cases hd
  | agg _ vs hl h h1 =>
   refine .agg cs vs [] (C7y (by simpa using hl) (fun j x hj=>by simpa using h j x hj)) (fun x hx=>?_)
   obtain⟨j,hj,rfl⟩:=List.mem_iff_getElem.1 hx
   have hjc:j<cs.length:= by simp at hj;omega
   have:=h1 j _ (Zm hjc)
   have hj':j<vs.size:= by simpa using hj
   simpa [hj'] using this
 ·exact .one v u [] (fun cs e=>c ⟨cs,e⟩) (.val v u h)
theorem C7z {g:Ghost}:∀{l:List AV} {us:List Value},us.length=l.length→(∀ (j:Nat) x,l[j]? = some x→V g x (us[j]?.getD undef))→RVs g l us []
 | [],us,hl,_=>by
  have:us=[]:=Z0w.1 (by simpa using hl)
  subst this;exact .nil
 | v::l,us,hl,hV=>by
  obtain⟨u,us,rfl⟩:∃u us',us=u::us':= by cases us with|nil=>simp at hl|cons u us=>exact⟨u,us,Z⟩
  exact .cons v u [] l us [] (E2f (by simpa using hV 0 v Z)) (C7z (by simpa using hl) (fun j x hj=>by simpa using hV (j+1) x (by simpa using hj)))
theorem B7l {M:Mach} {T:Tab} (hT:C4j P T) (hC:B4l (MCof P) P B0 M) {c:Sc} {H H':A2} {i:Nat} {fa args fc rs:List AV} (h:N0 T M c H (.fn (.func i) fa fc) args=some (rs,H')) {g:Ghost} {w:World} {aq:Array Value}
  (hR:Rel (MCof P) P B0 H g w) (hS:ScOk c H) (hl:aq.size=(fa++args++fc).length) (hV:∀(j:Nat) x,(fa++args++fc)[j]? = some x→V g x (aq[j]?.getD undef)) :
  (∃ fn,P.funcs[i]? = some fn∧fn.body.isSome=true∧(fn.name != "runtime.NumGoroutine")=true) ∧
  ∀ cs,∃ us w' g' fs fr,Steps P (lone (Frame.enter P i aq .normal) cs w) (lone fr cs w')∧fr.fn=i∧fr.leaving P w' (.returned (B0c us))∧RVs g' rs us fs∧FsOk (MCof P) P g' w' (OkB B0 H g w) fs∧Rel (MCof P) P B0 H' g' w'∧Ext H g w H' g' w'∧ScOk c H'∧Unborn H g g':= by
 simp only[N0]at h
 split at h
 ·cases h
 ·next af haf =>
  obtain⟨fn,hfn,hm⟩:=hT i af haf
  simp only[C4,Zc]at hm
  obtain⟨⟨⟨m1,m2⟩,m3⟩,m4⟩:=hm
  split at m2
  ·next code hbody =>
   refine⟨⟨fn,hfn,by simp[hbody],m1⟩,fun cs=>?_⟩
   have goal:aq.size≤fn.ntmps→∀ (keep:Bool),(match M.code af.body { s:=M0 0 (fa++args++fc),H,c:=⟨H.length,c.cur::c.outer⟩ } with
     | some (.normal,st)|some (.ret,st)=>(match Am.results st.s st.H af.results with|none=>none|some rs=>match (if keep then some (rs,st.H) else S7 H.length st.H rs) with|none=>none|some (rs,H')=>some (rs,trunc H.length rs H'))
     | _=>none)=some (rs,H') →
     ∃ us w' g' fs fr,Steps P (lone (Frame.enter P i aq .normal) cs w) (lone fr cs w')∧fr.fn=i∧fr.leaving P w' (.returned (B0c us))∧RVs g' rs us fs∧FsOk (MCof P) P g' w' (OkB B0 H g w) fs∧Rel (MCof P) P B0 H' g' w'∧Ext H g w H' g' w'∧ScOk c H'∧Unborn H g g':= by
    intro hsz keep h
    let b:Frame:={ (default:Frame) with fn:=i,kind:=.normal,roundOf:=none }
    let a:Act:={ tmps:=aq++Array.replicate (fn.ntmps-aq.size) undef,defers:=[] }
    have henter:Frame.enter P i aq .normal=b.atR a [.code code]:= by
     simp[Frame.enter,Frame.atR,hfn,hbody,b,a]
    have hI:CInv (MCof P) P B0 fn.ntmps w.heap.size b.roundOf.isNone { s:=M0 0 (fa++args++fc),H,c:=⟨H.length,c.cur::c.outer⟩ } g a w:= by
     refine⟨hR,fun t v hv=>?_,by simp[a];omega,hS.enter hR,fun _=>⟨Zn _,[],Z,.nil,by simp⟩⟩
     obtain⟨_,h2⟩:=B5l _ _ _ _ hv
     simp only[Nat.sub_zero]at h2
     have hlt:t<aq.size:= by rw[hl];exact(Ze.1 h2).1
     refine⟨aq[t],by show (aq++_)[t]? = some aq[t];rw[Z2n hlt];simp[hlt],?_⟩
     have:=hV t v h2
     simpa [hlt] using this
    have go:∀(e:Ex) (st:St),M.code af.body { s:=M0 0 (fa++args++fc),H,c:=⟨H.length,c.cur::c.outer⟩ }=some (e,st)→(e=.normal∨e=.ret) →
      (match Am.results st.s st.H af.results with|none=>none|some rs=>match (if keep then some (rs,st.H) else S7 H.length st.H rs) with|none=>none|some (rs,H')=>some (rs,trunc H.length rs H'))=some (rs,H') →
      ∃ us w' g' fs fr,Steps P (lone (Frame.enter P i aq .normal) cs w) (lone fr cs w')∧fr.fn=i∧fr.leaving P w' (.returned (B0c us))∧RVs g' rs us fs∧FsOk (MCof P) P g' w' (OkB B0 H g w) fs∧Rel (MCof P) P B0 H' g' w'∧Ext H g w H' g' w'∧ScOk c H'∧Unborn H g g':= by
     intro e st hcode he hres
     obtain⟨a1,g1,w1,q1,q2,q3,q4,q5⟩:=hC _ _ _ _ _ _ m2 hcode b a [] cs g w w.heap.size _ (.inl Z) (.inl Z) hI
     have hout:∃todo,Steps P (lone (Frame.enter P i aq .normal) cs w) (lone { b.atR a1 todo with mode:=.returning } cs w1):= by
      rw[henter]
      rcases he with rfl|rfl
      ·exact⟨[],Steps.trans q1 (.one (stepR_end Z))⟩
      ·obtain⟨k',hk⟩:=q1
       exact⟨_,Steps.trans hk (.one (stepR_ret Z))⟩
     obtain⟨todo,hout⟩:=hout
     obtain⟨_,βs,d1,d2,d3⟩:=q2.dl Z
     obtain⟨w2,t1,t2,t3,t4,t5,t6,t7⟩:=B9k (P:=P) (cs:=cs) βs { b.atR a1 todo with mode:=.returning } w1 Z d1 d2 (fun β hβ=>(d3 β hβ).2.2.1)
     obtain⟨r2,x2⟩:=Rel.marks q3 q2.rel (βs:=βs) (fun β hβ=>⟨(d3 β hβ).1,(d3 β hβ).2.2.1,(d3 β hβ).2.2.2⟩) t2 t3 t4 t5 t6
     split at hres
     ·cases hres
     ·next rs0 hrs =>
      obtain⟨us,u1,u2,u3⟩:=C4e (fn:=fn) r2 q2.slots m4 hrs
      split at hres
      ·cases hres
      ·next rs1 H1 ho =>
       simp only[Za,Zf]at hres
       obtain⟨rfl,rfl⟩:=hres
       have hq:=q2.sc
       rw[q5]at hq
       obtain⟨g2,fs,v1,v2,v3,hsc1⟩:∃g' fs,Going (MCof P) P B0 st.H g1 w2 H1 g'∧RVs g' rs1 us fs∧FsOk (MCof P) P g' w2 (OkB B0 H g w) fs∧ScOk ⟨H.length,c.cur::c.outer⟩ H1:= by
        cases keep with
        | true =>
         simp only[if_true,Za,Zf]at ho
         obtain⟨rfl,rfl⟩:=ho
         exact⟨g1,[],.refl r2,C7z u2 u3,.nil,hq⟩
        | false =>
         simp only[Zj,if_false]at ho
         obtain⟨g2,fs,v1,v2,v3,v4⟩:=B86 (lo:=OkB B0 H g w) r2 (fun j hj β hb=>by
          refine⟨(r2.base j β hb).1,?_⟩
          rcases x2.blk j β hb with h|h
          ·rw[hR.nolive j hj]at h;simp[GB.blk]at h
          ·exact h) u2 u3 ho
         exact⟨g2,fs,v1,v2,v3,C9r hq ho⟩
       have hun:Unborn H g g2:=fun j hj hn=>v1.unb j (q4 j hj hn)
       have hleave:({ b.atR a1 todo with mode:=.returning,defers:=[] }:Frame).leaving P w2 (.returned (B0c us)):=⟨Z,Z,Z,fn,hfn,u1⟩
       by_cases hbd:bdL H.length rs1=true
       ·have htr:trunc H.length rs1 H1=H1.take H.length:= by simp[trunc,hbd]
        rw[htr]
        obtain⟨y1,y2⟩:=Rel.take hR (x2.trans v1.ext) v1.rel (fun j hj o ho=>hsc1.bd _ (by simp) j hj o ho)
        exact⟨us,w2,_,fs,_,hout.trans t1,Z,hleave,v2.cut hbd,v3.cut,y1,y2,(hsc1.leave hS.out).take hS.cur,hun.cut⟩
       ·have htr:trunc H.length rs1 H1=H1:= by simp[trunc,hbd]
        rw[htr]
        exact⟨us,w2,g2,fs,_,hout.trans t1,Z,hleave,v2,v3,v1.rel,x2.trans v1.ext,hsc1.leave hS.out,hun⟩
    split at h
    ·next st hc=>exact go _ _ hc (.inl Z) h
    ·next st hc=>exact go _ _ hc (.inr Z) h
    ·cases h
   split at h
   ·next hna =>
    rw[Zc]at hna
    have hna':aq.size=af.nargs:= by rw[hl];exact Zk hna.1
    have hlt:af.nargs<1000:=Zp hna.2
    refine goal ?_ false h
    simp only[decide_eq_true_eq]at m3
    rw[if_neg (by rw[Nat.ble_eq];omega)]at m3
    omega
   ·split at h
    ·next hna =>
     have hna':aq.size+1000=af.nargs:= by rw[hl];exact Zk hna
     refine goal ?_ true h
     simp only[decide_eq_true_eq]at m3
     rw[if_pos (by rw[Nat.ble_eq];omega)]at m3
     omega
    ·cases h
  ·cases m2
theorem C13 {H:A2} {g:Ghost} {w:World} {l β:Nat} {f:Nat} {s:C2} {ps:List Nat} {aq bd:ACode} {busy:Bool} {pend:Option Ex} (hR:Rel (MCof P) P B0 H g w) (hL:g.L l=.loop β) (h:H[l]? = some (.loop f s ps aq bd busy pend)) :
  ∃ r:Loop,w.heap[β]? = some (.loop r)∧r.state=(if busy then .busy else if pend.isNone then .ready else .done)∧r.pending=pend.bind B56∧r.params=ps.toArray∧D7 g s r.tmps∧MCof P r.tmps.size r.assign aq∧MCof P r.tmps.size r.body bd∧∀ t∈ps,t<r.tmps.size:= by
 have:=hR.box _ _ h
 simp only[AO.rd,hL]at this
 exact this
theorem D0x {M:Mach} {T:Tab} (hC:B4l (MCof P) P B0 M) {c:Sc} {H H':A2} {l:Nat} {args rs:List AV} (h:N0 T M c H (.fn (.yield l) [] []) args=some (rs,H')) {g:Ghost} {w:World} {β:Nat} {vs:Array Value}
  (hR:Rel (MCof P) P B0 H g w) (hS:ScOk c H) (hL:g.L l=.loop β) (hl:vs.size=args.length) (hV:∀(j:Nat) x,args[j]? = some x→V g x (vs[j]?.getD undef)) :
  ∃ r:Loop,w.heap[β]? = some (.loop r)∧vs.size=r.params.size ∧
  ∀ fr cs,∃ us w' g' fs,Steps P (lone (Frame.round β r.fn ((r.params.zip vs).foldl (fun tmps (t,a)=>tmps.setIfInBounds t a) r.tmps) r.assign r.body .normal) (fr::cs) w) (lone (fr.finish (B0c us)) cs w')∧RVs g' rs us fs∧FsOk (MCof P) P g' w' (OkB B0 H g w) fs∧Rel (MCof P) P B0 H' g' w'∧Ext H g w H' g' w'∧ScOk c H'∧Unborn H g g':= by
 simp only[N0]at h
 split at h
 ·next f0 s0 ps aq bd hH =>
  have hH':H[l]? = some (.loop f0 s0 ps aq bd false none):=hH
  obtain⟨r,b1,b2,b3,b4,b5,b6,b7,b8⟩:=C13 hR hL hH'
  have hll:l<H.length:=(Ze.1 hH').1
  split at h
  ·next hpl =>
   have hpl':=Zk hpl
   have hsz:vs.size=r.params.size:= by rw[b4,hl,← hpl'];simp
   refine⟨r,b1,hsz,fun fr cs=>?_⟩
   obtain⟨z1,z2⟩:=C6a ps args vs.toList s0 r.tmps hpl' (by simpa using hl) b8 (fun j x hj=>by simpa using hV j x hj) b5
   have hfold:(r.params.zip vs).foldl (fun tmps (t,a)=>tmps.setIfInBounds t a) r.tmps=(ps.zip vs.toList).foldl (fun tmps x=>tmps.setIfInBounds x.1 x.2) r.tmps:= by
    rw[← Array.foldl_toList]
    simp[b4,Array.toList_zip]
   let b:Frame:={ (default:Frame) with fn:=r.fn,kind:=.normal,roundOf:=some β }
   let a:Act:={ tmps:=(ps.zip vs.toList).foldl (fun tmps x=>tmps.setIfInBounds x.1 x.2) r.tmps,defers:=[] }
   have henter:Frame.round β r.fn ((r.params.zip vs).foldl (fun tmps (t,a)=>tmps.setIfInBounds t a) r.tmps) r.assign r.body .normal=b.atR a [.code r.assign,.beginRound,.code r.body]:= by
    simp only[hfold];rfl
   have hbn:b.roundOf.isNone=false:=rfl
   split at h
   ·next st1 h1 =>
    obtain⟨a1,g1,w1,q1,q2,q3,q4,q5⟩:=hC _ _ _ _ _ _ b6.1 h1 b a [.beginRound,.code r.body] (fr::cs) g w 0 _ (.inl Z) (.inr b6.2) ⟨hR,z1,z2,hS.enter hR,fun hf=>by simp[hbn]at hf⟩
    have hL1:=C0k q3.le hL
    split at h
    ·next f1 s1 ps1 as1 bd1 hH1 =>
     have hH1':st1.H[l]? = some (.loop f1 s1 ps1 as1 bd1 false none):=hH1
     obtain⟨r1,c1,c2,c3,c4,c5,c6,c7,c8⟩:=C13 q2.rel hL1 hH1'
     have hready:r1.state=.ready:= by rw[c2];rfl
     have hle1:H.length≤st1.H.length:=q3.len
     obtain⟨p1,p2⟩:=q2.rel.put hH1' Z (β:=β) (by rw[hL1];rfl) (B7y c1) (.loop { r1 with state:=.busy }) (o':=.loop f1 s1 ps1 as1 bd1 true none) (by
      rw[hL1]
      exact⟨{ r1 with state:=.busy },A6o _ _ (q2.rel.base l β (by rw[hL1];rfl)).2,Z,c3,c4,c5,c6,c7,c8⟩)
     have hbd1:∀B∈st1.c.cur::st1.c.outer,l<B→(AO.loop f1 s1 ps1 as1 bd1 true none).bdP B:=fun B hB hlt=>(by have:=q2.sc.bd B hB l hlt _ hH1'; exact this)
     have hst1:step P (lone (b.atR a1 [.beginRound,.code r.body]) (fr::cs) w1)=.next (lone (b.atR a1 [.code r.body]) (fr::cs) (w1.putObj β (.loop { r1 with state:=.busy }))):=stepR_beginRound Z (run_beginRound c1 hready)
     have hsz1:a1.tmps.size=r.tmps.size:=q2.size
     split at h
     ·next e st2 h2 =>
      obtain⟨a2,g2,w2,t1,t2,t3,t4,t5⟩:=hC _ _ _ _ _ _ b7.1 h2 b a1 [] (fr::cs) g1 _ 0 _ (.inl Z) (.inr b7.2) ⟨p1,q2.slots,hsz1,q2.sc.set l _ hbd1,fun hf=>by simp[hbn]at hf⟩
      have hL2:=C0k t3.le hL1
      split at h
      ·next f2 s2 ps2 as2 bd2 hH2 =>
       have hH2':st2.H[l]? = some (.loop f2 s2 ps2 as2 bd2 true none):=hH2
       obtain⟨r2,e1,e2,e3,e4,e5,e6,e7,e8⟩:=C13 t2.rel hL2 hH2'
       simp only[Za,Zf]at h
       obtain⟨rfl,rfl⟩:=h
       have fin:∀(jump:Option Code) (pend:Option Ex),jump=pend.bind B56→(jump.isNone=pend.isNone)→Steps P (lone (b.atR a1 [.code r.body]) (fr::cs) (w1.putObj β (.loop { r1 with state:=.busy }))) (lone (fr.finish (.bool jump.isNone)) cs (w2.putObj β (.loop { r2 with state:=if jump.isNone then .ready else .done,pending:=jump }))) →
         ∃ us w' g' fs,Steps P (lone (b.atR a [.code r.assign,.beginRound,.code r.body]) (fr::cs) w) (lone (fr.finish (B0c us)) cs w')∧RVs g' [.b pend.isNone] us fs∧FsOk (MCof P) P g' w' (OkB B0 H g w) fs∧Rel (MCof P) P B0 (trunc H.length [] (hset st2.H l (.loop f2 s2 ps2 as2 bd2 false pend))) g' w'∧Ext H g w (trunc H.length [] (hset st2.H l (.loop f2 s2 ps2 as2 bd2 false pend))) g' w'∧ScOk c (trunc H.length [] (hset st2.H l (.loop f2 s2 ps2 as2 bd2 false pend)))∧Unborn H g g':= by
        intro jump pend hj hjn hs
        obtain⟨y1,y2⟩:=t2.rel.put hH2' Z (β:=β) (by rw[hL2];rfl) (B7y e1) (.loop { r2 with state:=if jump.isNone then .ready else .done,pending:=jump }) (o':=.loop f2 s2 ps2 as2 bd2 false pend) (by
         rw[hL2]
         refine⟨{ r2 with state:=if jump.isNone then .ready else .done,pending:=jump },A6o _ _ (t2.rel.base l β (by rw[hL2];rfl)).2,?_,hj,e4,e5,e6,e7,e8⟩
         simp[hjn])
        have hc2:st2.c=⟨H.length,c.cur::c.outer⟩:=t5.trans q5
        have hsc2:ScOk ⟨H.length,c.cur::c.outer⟩ (hset st2.H l (.loop f2 s2 ps2 as2 bd2 false pend)):=hc2▸t2.sc.set l _ (fun B hB hlt=>(by have:=t2.sc.bd B hB l hlt _ hH2'; exact this))
        have hE:=((q3.trans p2).trans t3).trans y2
        obtain⟨x1,x2⟩:=Rel.take hR hE y1 (fun j hj o ho=>hsc2.bd _ (by simp) j hj o ho)
        have htr:trunc H.length [] (hset st2.H l (.loop f2 s2 ps2 as2 bd2 false pend))=(hset st2.H l (.loop f2 s2 ps2 as2 bd2 false pend)).take H.length:= by simp[trunc,bdL]
        rw[htr]
        have hun:Unborn H g g2:= by
         refine q4.trans (Unborn.trans (H1:=hset st1.H l (.loop f1 s1 ps1 as1 bd1 true none)) (Unborn.refl _ _) t4 (by simp[hset])) hle1
        refine⟨[.bool jump.isNone],_,_,[],(Steps.trans q1 (.head hst1 hs)),?_,.nil,x1,x2,(hsc2.leave hS.out).take hS.cur,hun.cut⟩
        exact .cons _ _ [] _ _ [] (.one _ _ _ (by simp) (.val _ _ (by rw[hjn];exact M1 Z))) .nil
       rw[henter]
       have hw2:∀jump,(Instr.endRound β jump).run P w2=.ok (.bool jump.isNone) (w2.putObj β (.loop { r2 with state:=if jump.isNone then .ready else .done,pending:=jump })):=fun jump=>run_endRound jump e1
       cases e with
       | normal=>exact fin none none Z Z (Steps.trans t1 (.one (stepR_round_end Z Z (hw2 none))))
       | exit id =>
        obtain⟨k',hk1,hk2⟩:=t1
        exact fin (some (.exit id)) (some (.exit id)) Z Z (Steps.trans hk2 (.one (stepR_round_exit Z Z (by rw[hk1];rfl) (hw2 (some (.exit id))))))
       | ret =>
        obtain⟨k',hk2⟩:=t1
        exact fin (some .ret) (some .ret) Z Z (Steps.trans hk2 (.one (stepR_round_ret Z Z (hw2 (some .ret)))))
      ·cases h
     ·cases h
    ·cases h
   ·cases h
  ·cases h
 ·cases h
theorem D4t {M:Mach} {T:Tab} (hT:C4j P T) (hC:B4l (MCof P) P B0 M):B4k (MCof P) P B0 ⟨fun c H f args=>N0 T M c H f args,M.code⟩:= by
 intro c H f args rs H' h g w fv vs hR hS hf hl hV
 simp only at h
 cases f with
 | fn f fa fc =>
  obtain⟨f',a',c',rfl,hfr,l1,l2,h1,h2⟩:=D6h hf
  cases f with
  | func i =>
   have:f'=.func i:=hfr
   subst this
   have hl3:(a'++vs++c').size=(fa++args++fc).length:= by simp[l1,l2,hl]
   have hV3:∀(j:Nat) x,(fa++args++fc)[j]? = some x→V g x ((a'++vs++c')[j]?.getD undef):= by
    intro j x hj
    rw[ZB]at hj
    rw[Array.append_assoc]
    by_cases hj1:j<fa.length
    ·rw[ZF hj1]at hj
     rw[Z2n (by omega)]
     exact h1 j x hj
    ·rw[ZI (by omega)]at hj
     rw[Z3s (by omega),l1]
     by_cases hj2:j-fa.length<args.length
     ·rw[ZF hj2]at hj
      rw[Z2n (by omega)]
      exact hV _ x hj
     ·rw[ZI (by omega)]at hj
      rw[Z3s (by omega),hl]
      exact h2 _ x hj
   obtain⟨⟨fn,q1,q2,q3⟩,q4⟩:=B7l hT hC h hR hS hl3 hV3
   refine⟨_,D04 q1 q2 q3 a' c' vs,fun fr cs=>?_⟩
   obtain⟨us,w',g',fs,fr',p1,p2,p3,p4,p5,p6,p7,p8,p9⟩:=q4 (fr::cs)
   exact⟨us,w',g',fs,p1.trans (.one (step_leave_returned p3)),p4,p5,p6,p7,p8,p9⟩
  | yield l =>
   obtain⟨β,hL,rfl⟩:=hfr
   have hnil:fa=[]∧fc=[]:= by
    unfold N0 at h
    split at h
    ·next heq=>cases heq
    ·next heq=>cases heq;exact⟨Z,Z⟩
    ·cases h
   obtain⟨rfl,rfl⟩:=hnil
   have ea:a' = #[]:= by simpa using l1
   have ec:c' = #[]:= by simpa using l2
   subst ea;subst ec
   obtain⟨r,q1,q2,q3⟩:=D0x hC h hR hS hL hl hV
   exact⟨_,C6h q1 q2,fun fr cs=>q3 fr cs⟩
  | _=>exact hfr.elim
 | _=>simp[N0]at h
theorem B4w (hmix:P.follows .mixedOrders=true) {T:Tab} (hT:C4j P T):∀n,B4l (MCof P) P B0 (mach T n)∧B4k (MCof P) P B0 (mach T n)
 | 0=>⟨fun nt code ac st e st' _ h=>(by simp[mach]at h),fun c H f args rs H' h=>(by simp[mach]at h)⟩
 | n+1=>by
  obtain⟨hC,hM⟩:=B4w hmix hT n
  have h1:=D4v hmix hC hM (C67 n)
  have h2:=D4t hT hC
  exact⟨h1,h2⟩
end
structure Mach.le (M M':Mach):Prop where
 call:∀c H f args r,M.call c H f args=some r→M'.call c H f args=some r
 code:∀ac st r,M.code ac st=some r→M'.code ac st=some r
section
variable {M M':Mach}
theorem C8f (h:M.le M') {c:Sc} {n0:Nat} {s:C2} {H:A2} {f:Opd} {args:List Opd} {own:List (List (Nat×Nat))} {pure:Bool} {r:AV×A2} (hr:W2 M c n0 s H f args own pure=some r):W2 M' c n0 s H f args own pure=some r:= by
 unfold W2 at hr ⊢
 split at hr
 ·next fv aq e1 e2 =>
  simp only[e1,e2]
  split at hr
  ·next hp =>
   simp only[hp,if_true]
   split at hr
   ·next hpub =>
    simp only[hpub,if_true]
    split at hr
    ·cases hr
    ·next as' H1 e3 =>
     try simp only[e3]
     split at hr
     ·cases hr
     ·next rs H2 e4=>simp only[h.call _ _ _ _ _ e4];exact hr
   ·cases hr
  ·next hp =>
   simp only[hp]
   split at hr
   ·cases hr
   ·next as' H1 e3 =>
    try simp only[e3]
    split at hr
    ·cases hr
    ·next rs H2 e4=>simp only[h.call _ _ _ _ _ e4];exact hr
 ·cases hr
theorem C4o (h:M.le M') {c:Sc} {n0:Nat} {s:C2} {H:A2} {op:AOp} {r:AV×A2} (hr:core M c n0 s H op=some r):core M' c n0 s H op=some r:= by
 cases op with
 | call=>exact C8f h hr
 | _=>exact hr
theorem C5p (h:M.le M') {c:Sc} {n0:Nat} {s:C2} {H:A2} {hc:List (Option (List Nat))} {o:AOper} {r:C2×A2×List (Option (List Nat))} (hr:oper M c n0 s H hc o=some r):oper M' c n0 s H hc o=some r:= by
 unfold oper at hr ⊢
 split at hr
 ·cases hr
 ·next hw=>(try simp only[hw]);exact hr
 ·next hw =>
  try simp only[hw]
  split at hr
  ·next hs e1 e2 =>
   try simp only[e1,e2]
   split at hr
   ·next q e3=>simp only[C4o h e3];exact hr
   ·cases hr
  ·cases hr
theorem A0w (h:M.le M') {c:Sc} {n0:Nat}:∀{l:List AOper} {s:C2} {H:A2} {hc:List (Option (List Nat))} {r:C2×A2},opers M c n0 l s H hc=some r→opers M' c n0 l s H hc=some r
 | [],s,H,hc,r,hr=>hr
 | o::l,s,H,hc,r,hr=>by
  simp only[opers]at hr ⊢
  split at hr
  ·cases hr
  ·next s1 H1 hc1 e1=>simp only[C5p h e1];exact A0w h hr
theorem C76 {α:Type} {l:List Nat} {f f':Nat→Option α} {r:α} (h:B4m l f=some r) (hl:l≠[]) (k:∀i r,f i=some r→f' i=some r):B4m l f'=some r :=
 B65 (fun i hi=>k i r (B0l h hi)) hl
theorem C3r (h:M.le M') {ac:ACode} {st:St} {r:Ex×St} (hr:F1 M st ac=some r):F1 M' st ac=some r:= by
 cases ac with
 | region d nres pre ops live =>
  simp only[F1]at hr ⊢
  split at hr
  ·next H e1 =>
   split at hr
   ·next q e2=>simp only[A0w h e2];exact hr
   ·cases hr
  ·cases hr
 | seq a b =>
  simp only[F1]at hr ⊢
  cases ha:M.code a st with
  | none=>simp[ha]at hr
  | some p =>
   obtain⟨e,st1⟩:=p
   rw[h.code _ _ _ ha]
   rw[ha]at hr
   cases e with
   | normal=>exact h.code _ _ _ hr
   | _=>exact hr
 | cond c a b =>
  simp only[F1]at hr ⊢
  split at hr
  ·exact h.code _ _ _ hr
  ·exact h.code _ _ _ hr
  ·cases hr
 | block id a =>
  simp only[F1]at hr ⊢
  cases ha:M.code a st with
  | none=>simp[ha]at hr
  | some p=>rw[h.code _ _ _ ha];rw[ha]at hr;exact hr
 | loop tr live a =>
  simp only[F1]at hr ⊢
  cases ha:M.code a (if tr then { s:=restrict st.s live,H:=st.H,c:=⟨st.H.length,st.c.cur::st.c.outer⟩ } else { st with s:=restrict st.s live }) with
  | none=>simp[ha]at hr
  | some p =>
   obtain⟨e,st1⟩:=p
   rw[h.code _ _ _ ha]
   rw[ha]at hr
   cases e with
   | normal =>
    cases tr with
    | true =>
     simp only[if_true]at hr ⊢
     split at hr
     ·next hb=>simp only[hb,if_true];exact h.code _ _ _ hr
     ·cases hr
    | false=>exact h.code _ _ _ hr
   | _=>exact hr
 | rangeFunc f ps live a b =>
  simp only[F1]at hr ⊢
  split at hr
  ·next i fa fc e1 =>
   split at hr
   ·next rs H' e2=>simp only[h.call _ _ _ _ _ e2];exact hr
   ·cases hr
  ·cases hr
 | loopM x nx ok live0 live liveX rest =>
  simp only[F1]at hr ⊢
  split at hr
  ·next l hl =>
   split at hr
   ·next m n seen hg =>
    split at hr
    ·next es hes =>
     split at hr
     ·next hif =>
      rw[if_pos hif]
      split at hr
      ·next he =>
       rw[if_pos he]
       cases h1:M.code rest { st with s:=(ok,.b false)::restrict st.s live0 } with
       | none=>simp[h1]at hr
       | some p=>rw[h.code _ _ _ h1];rw[h1]at hr;exact hr
      ·next he =>
       rw[if_neg he]
       refine C76 hr (fun e=>he (by rw[e];rfl)) (fun i r q=>?_)
       cases h1:M.code rest { s:=(ok,.b true)::restrict st.s live0,H:=hset st.H l (.mit m n (seen++[i])),c:=⟨st.H.length,st.c.cur::st.c.outer⟩ } with
       | none=>simp[h1]at q
       | some p =>
        rw[h.code _ _ _ h1]
        rw[h1]at q
        obtain⟨e,st1⟩:=p
        cases e with
        | normal =>
         simp only at q ⊢
         split at q
         ·next hb=>rw[if_pos hb];exact h.code _ _ _ q
         ·cases q
        | _=>exact q
     ·cases hr
    ·cases hr
   ·cases hr
  ·cases hr
 | scope a=>exact h.code _ _ _ hr
 | skip=>exact hr
 | exit id=>exact hr
 | ret=>exact hr
theorem C3p {T:Tab} (h:M.le M') {c:Sc} {H:A2} {f:AV} {args:List AV} {r:List AV×A2} (hr:N0 T M c H f args=some r):N0 T M' c H f args=some r:= by
 unfold N0 at hr ⊢
 split at hr
 ·split at hr
  ·cases hr
  ·next af e1 =>
   simp only at hr ⊢
   split at hr
   ·next hl =>
    simp only[hl,if_true]
    split at hr
    ·next st e2=>simp only[h.code _ _ _ e2];exact hr
    ·next st e2=>simp only[h.code _ _ _ e2];exact hr
    ·cases hr
   ·next hl =>
    simp only[hl]
    split at hr
    ·next hl2 =>
     simp only[hl2,if_true]
     split at hr
     ·next st e2=>simp only[h.code _ _ _ e2];exact hr
     ·next st e2=>simp only[h.code _ _ _ e2];exact hr
     ·cases hr
    ·cases hr
 ·split at hr
  ·next e1 =>
   split at hr
   ·next hl =>
    simp only[hl,if_true]
    split at hr
    ·next st e2 =>
     simp only[h.code _ _ _ e2]
     split at hr
     ·next e3 =>
      split at hr
      ·next e st' e4=>simp only[h.code _ _ _ e4];exact hr
      ·cases hr
     ·cases hr
    ·cases hr
   ·cases hr
  ·cases hr
 ·cases hr
end
theorem C0l (T:Tab):∀n,(mach T n).le (mach T (n+1))
 | 0=>⟨fun _ _ _ _ _ h=>by simp[mach]at h,fun _ _ _ h=>by simp[mach]at h⟩
 | n+1=>⟨fun _ _ _ _ _ h=>C3p (C0l T n) h,fun _ _ _ h=>C3r (C0l T n) h⟩
theorem B2e (T:Tab) (n:Nat):∀k,(mach T n).le (mach T (n+k))
 | 0=>⟨fun _ _ _ _ _ h=>h,fun _ _ _ h=>h⟩
 | k+1=>⟨fun c H f a r h=>(C0l T (n+k)).call _ _ _ _ _ ((B2e T n k).call _ _ _ _ _ h),fun ac st r h=>(C0l T (n+k)).code _ _ _ ((B2e T n k).code _ _ _ h)⟩
theorem K7 (T:Tab) {n m:Nat} (h:n≤m):(mach T n).le (mach T m):= by
 obtain⟨k,rfl⟩:=Nat.exists_eq_add_of_le h
 exact B2e T n k
theorem U0 (T:Tab) (n:Nat) (ac:ACode) (st:St):(mach T (n+1)).code ac st=F1 (mach T n) st ac:=rfl
theorem V8 (T:Tab) (n:Nat) (c:Sc) (H:A2) (f:AV) (args:List AV):(mach T (n+1)).call c H f args=N0 T (mach T n) c H f args:=rfl
def J5 (T:Tab) (ac:ACode) (st:St) (e:Ex) (st':St):Prop:=∃ n,(mach T n).code ac st=some (e,st')
def L5 (T:Tab) (c:Sc) (H:A2) (f:AV) (args:List AV) (rs:List AV) (H':A2):Prop:=∃ n,(mach T n).call c H f args=some (rs,H')
def opers3 (M:Mach) (c:Sc) (n0:Nat):List AOper→C2×A2×List (Option (List Nat))→Option (C2×A2×List (Option (List Nat)))
 | [],x=>some x
 | o::l,x=>match oper M c n0 x.1 x.2.1 x.2.2 o with
  | none=>none
  | some y=>opers3 M c n0 l y
abbrev OS:=C2×A2×List (Option (List Nat))
def D0z (T:Tab) (c:Sc) (n0:Nat) (l:List AOper) (x y:OS):Prop:=∃ n,opers3 (mach T n) c n0 l x=some y
theorem B2p {M M':Mach} (h:M.le M') {c:Sc} {n0:Nat}:∀{l:List AOper} {x y:OS},opers3 M c n0 l x=some y→opers3 M' c n0 l x=some y
 | [],x,y,hr=>hr
 | o::l,x,y,hr=>by
  simp only[opers3]at hr ⊢
  split at hr
  ·cases hr
  ·next z e1=>simp only[C5p h e1];exact B2p h hr
theorem B77 (M:Mach) (c:Sc) (n0:Nat):∀(l:List AOper) (x:OS),opers M c n0 l x.1 x.2.1 x.2.2=(opers3 M c n0 l x).map fun y=>(y.1,y.2.1)
 | [],x=>rfl
 | o::l,x=>by
  simp only[opers,opers3]
  cases oper M c n0 x.1 x.2.1 x.2.2 o with
  | none=>rfl
  | some y=>exact B77 M c n0 l y
theorem C2m (M:Mach) (c:Sc) (n0:Nat):∀(l m:List AOper) (x:OS),opers3 M c n0 (l++m) x=(opers3 M c n0 l x).bind (opers3 M c n0 m)
 | [],m,x=>rfl
 | o::l,m,x=>by
  simp only[Z0g,opers3]
  cases oper M c n0 x.1 x.2.1 x.2.2 o with
  | none=>rfl
  | some y=>exact C2m M c n0 l m y
variable {T:Tab}
theorem D0z.app {c:Sc} {n0:Nat} {l l1 l2:List AOper} {x y z:OS} (hl:l=l1++l2) (h1:D0z T c n0 l1 x y) (h2:D0z T c n0 l2 y z):D0z T c n0 l x z:= by
 obtain⟨n1,e1⟩:=h1
 obtain⟨n2,e2⟩:=h2
 refine⟨max n1 n2,?_⟩
 rw[hl,C2m,B2p (K7 T (Z0u n1 n2)) e1]
 exact B2p (K7 T (Z0h n1 n2)) e2
theorem J5.region {ac:ACode} {d:Bool} {nres:Nat} {pre live:List Nat} {ops:List AOper} {st st':St} {H:A2} {n0:Nat} {x y:OS} (hac:ac=.region d nres pre ops live) (h1:publish st.s st.H pre=some H) (hn:n0=H.length)
  (hx:x=(st.s,H++Zv nres .dead,[])) (hr:D0z T st.c n0 ops x y) (hst:st'=⟨restrict y.1 live,y.2.1,st.c⟩):J5 T ac st .normal st':= by
 obtain⟨n,e⟩:=hr
 refine⟨n+1,?_⟩
 subst hac;subst hn;subst hx;subst hst
 have:=B77 (mach T n) st.c H.length ops (st.s,H++Zv nres .dead,[])
 rw[e]at this
 rw[U0]
 simp only[F1,h1]
 simp only at this
 rw[this];rfl
theorem J5.seq {ac a b:ACode} {st st1 st':St} {e:Ex} (hac:ac=.seq a b) (h1:J5 T a st .normal st1) (h2:J5 T b st1 e st'):J5 T ac st e st':= by
 obtain⟨n1,e1⟩:=h1
 obtain⟨n2,e2⟩:=h2
 refine⟨max n1 n2+1,?_⟩
 subst hac
 rw[U0]
 simp only[F1,(K7 T (Z0u n1 n2)).code _ _ _ e1]
 exact(K7 T (Z0h n1 n2)).code _ _ _ e2
def Ex.out:Ex→Bool
 | .normal=>false
 | _=>true
theorem J5.seqOut {ac a b:ACode} {st st':St} {e:Ex} (hac:ac=.seq a b) (he:e.out=true) (h1:J5 T a st e st'):J5 T ac st e st':= by
 obtain⟨n1,e1⟩:=h1
 refine⟨n1+1,?_⟩
 subst hac
 rw[U0]
 simp only[F1,e1]
 cases e <;> first|rfl|cases he
theorem J5.cond {ac a b:ACode} {c:Opd} {t:Bool} {st st':St} {e:Ex} (hac:ac=.cond c a b) (hc:ev st.s c=some (.lit (.bool t))) (h1:J5 T (if t then a else b) st e st'):J5 T ac st e st':= by
 obtain⟨n1,e1⟩:=h1
 refine⟨n1+1,?_⟩
 subst hac
 rw[U0]
 simp only[F1,hc]
 cases t <;> exact e1
theorem J5.condT {ac a b:ACode} {c:Opd} {st st':St} {e:Ex} (hac:ac=.cond c a b) (hc:ev st.s c=some (.lit (.bool true))) (h1:J5 T a st e st'):J5 T ac st e st':=J5.cond hac hc h1
theorem J5.condF {ac a b:ACode} {c:Opd} {st st':St} {e:Ex} (hac:ac=.cond c a b) (hc:ev st.s c=some (.lit (.bool false))) (h1:J5 T b st e st'):J5 T ac st e st':=J5.cond hac hc h1
theorem D0z.nil {c:Sc} {n0:Nat} {l:List AOper} {x:OS} (hl:l=[]):D0z T c n0 l x x:=⟨0,by rw[hl];rfl⟩
theorem J5.blockExit {ac a:ACode} {id:Nat} {st st':St} (hac:ac=.block id a) (h1:J5 T a st (.exit id) st'):J5 T ac st .normal st':= by
 obtain⟨n1,e1⟩:=h1
 refine⟨n1+1,?_⟩
 subst hac
 rw[U0]
 simp[F1,e1]
def Ex.not (id:Nat):Ex→Bool
 | .exit j=>!Nat.beq j id
 | _=>true
theorem J5.block {ac a:ACode} {id:Nat} {st st':St} {e:Ex} (hac:ac=.block id a) (he:e.not id=true) (h1:J5 T a st e st'):J5 T ac st e st':= by
 obtain⟨n1,e1⟩:=h1
 refine⟨n1+1,?_⟩
 subst hac
 rw[U0]
 simp only[F1,e1]
 cases e with
 | exit j=>simp only[Ex.not,Z05]at he;simp only[he,Zj,if_false]
 | _=>rfl
theorem J5.scope {ac a:ACode} {st st':St} {e:Ex} (hac:ac=.scope a) (h1:J5 T a st e st'):J5 T ac st e st':= by
 obtain⟨n1,e1⟩:=h1
 refine⟨n1+1,?_⟩
 subst hac
 exact e1
def B2d (tr:Bool) (live:List Nat) (st:St):St:=if tr then { s:=restrict st.s live,H:=st.H,c:=⟨st.H.length,st.c.cur::st.c.outer⟩ } else { st with s:=restrict st.s live }
def B58 (tr:Bool) (live:List Nat) (st st1:St):Option St :=
 if tr then (if A1m st.H.length (restrict st1.s live) then some { s:=restrict st1.s live,H:=st1.H.take st.H.length,c:=st.c } else none)
 else some { s:=restrict st1.s live,H:=st1.H,c:=st.c }
theorem J5.loop {ac body:ACode} {tr:Bool} {live:List Nat} {st st0 st1 st2 st':St} {e:Ex} (hac:ac=.loop tr live body) (h0:st0=B2d tr live st) (h1:J5 T body st0 .normal st1) (h2:B58 tr live st st1=some st2)
  (h3:J5 T ac st2 e st'):J5 T ac st e st':= by
 obtain⟨n1,e1⟩:=h1
 obtain⟨n2,e2⟩:=h3
 refine⟨max n1 n2+1,?_⟩
 subst hac;subst h0
 have e1':=(K7 T (Z0u n1 n2)).code _ _ _ e1
 have e2':=(K7 T (Z0h n1 n2)).code _ _ _ e2
 rw[U0]
 unfold B2d at e1'
 unfold B58 at h2
 simp only[F1,e1']
 cases tr with
 | true =>
  simp only[if_true]at h2 ⊢
  split at h2
  ·next hb=>simp only[Za]at h2;subst h2;simp only[hb,if_true];exact e2'
  ·cases h2
 | false =>
  simp only[Zj,if_false,Za]at h2 ⊢
  subst h2;exact e2'
theorem J5.loopOut {ac body:ACode} {tr:Bool} {live:List Nat} {st st0 st1 st':St} {e:Ex} (hac:ac=.loop tr live body) (h0:st0=B2d tr live st) (he:e.out=true) (h1:J5 T body st0 e st1) (hst:st' = { st1 with c:=st.c }):J5 T ac st e st':= by
 obtain⟨n1,e1⟩:=h1
 refine⟨n1+1,?_⟩
 subst hac;subst h0;subst hst
 rw[U0]
 unfold B2d at e1
 simp only[F1,e1]
 cases e <;> first|rfl|cases he
theorem L5.fn {c:Sc} {H H1 H':A2} {f:AV} {i:Nat} {fa fc args aq rs0 rs1 rs:List AV} {af:AFunc} {bd:ACode} {st st':St} {e:Ex} (hf:f=.fn (.func i) fa fc) (haf:T i=some af) (hb:af.body=bd) (has:aq=fa++args++fc) (hn:(ZC aq.length af.nargs&&ZU af.nargs 1000)=true)
  (hst:st = { s:=M0 0 aq,H,c:=⟨H.length,c.cur::c.outer⟩ }) (h1:J5 T bd st e st') (he:(match e with|.exit _=>false|_=>true)=true) (h2:results st'.s st'.H af.results=some rs0) (h3:S7 H.length st'.H rs0=some (rs1,H1))
  (hr:rs=rs1) (hH:H'=trunc H.length rs1 H1):L5 T c H f args rs H':= by
 obtain⟨n1,e1⟩:=h1
 refine⟨n1+1,?_⟩
 subst hf;subst has;subst hst;subst hr;subst hH
 rw[V8]
 subst hb
 simp only[N0,haf,hn,if_true]
 simp only[e1]
 cases e with
 | exit id=>cases he
 | _=>simp only[h2,h3]
theorem L5.yield {c:Sc} {H H':A2} {f:AV} {l:Nat} {args rs:List AV} {f0 f1 f2:Nat} {s0 s1 s2:C2} {ps ps1 ps2:List Nat} {aq as1 as2 bd bd1 bd2:ACode} {st0 st1 st1' st2:St} {e:Ex} (hf:f=.fn (.yield l) [] []) (h0:hget H l=some (.loop f0 s0 ps aq bd false none))
  (hn:ZC ps.length args.length=true) (hst:st0 = { s:=(ps.zip args).foldl (fun s x=>sput s (some x.1) x.2) s0,H,c:=⟨H.length,c.cur::c.outer⟩ }) (h1:J5 T aq st0 .normal st1) (h2:hget st1.H l=some (.loop f1 s1 ps1 as1 bd1 false none))
  (hst1:st1' = { st1 with H:=hset st1.H l (.loop f1 s1 ps1 as1 bd1 true none) }) (h3:J5 T bd st1' e st2) (h4:hget st2.H l=some (.loop f2 s2 ps2 as2 bd2 true none))
  (hr:rs=[.b (!e.out)]) (hH:H'=trunc H.length [] (hset st2.H l (.loop f2 s2 ps2 as2 bd2 false (match e with|.normal=>none|e=>some e)))):L5 T c H f args rs H':= by
 obtain⟨n1,e1⟩:=h1
 obtain⟨n2,e2⟩:=h3
 refine⟨max n1 n2+1,?_⟩
 subst hf;subst hst;subst hst1;subst hr;subst hH
 have e1':=(K7 T (Z0u n1 n2)).code _ _ _ e1
 have e2':=(K7 T (Z0h n1 n2)).code _ _ _ e2
 rw[V8]
 simp only[N0,h0,hn,if_true,e1',h2,e2',h4]
 cases e <;> rfl
theorem J5.rangeFunc {ac aq bd:ACode} {f:Opd} {ps live:List Nat} {i l:Nat} {fa fc rs:List AV} {st st':St} {H0 H':A2} {f1:Nat} {s1:C2} {ps1:List Nat} {as1 bd1:ACode} {pend:Option Ex} {e:Ex} (hac:ac=.rangeFunc f ps live aq bd) (hf:ev st.s f=some (.fn (.func i) fa fc)) (hl:l=st.H.length)
  (hH0:H0=st.H++[.loop 0 (restrict st.s live) ps aq bd false none]) (h1:L5 T st.c H0 (.fn (.func i) fa fc) [.fn (.yield l) [] []] rs H') (h2:hget H' l=some (.loop f1 s1 ps1 as1 bd1 false pend)) (he:e=pend.getD .normal)
  (hst:st' = { st with H:=hset H' l .dead }):J5 T ac st e st':= by
 obtain⟨n1,e1⟩:=h1
 refine⟨n1+1,?_⟩
 subst hac;subst hl;subst hH0;subst he;subst hst
 rw[U0]
 simp only[F1,hf,e1,h2]
 cases pend <;> rfl
theorem J5.loopM_end {ac:ACode} {x:Opd} {nx ok l m n:Nat} {live0 live liveX seen:List Nat} {rest:ACode} {st st1 st':St} {es:List (AV×AV)} {e:Ex} (hac:ac=.loopM x nx ok live0 live liveX rest) (hx:ev st.s x=some (.itr l))
  (hl:hget st.H l=some (.mit m n seen)) (hm:hmap st.H m=some es) (hif:(decide (es.length=n)&&!live0.contains nx&&!live0.contains ok&&!Nat.beq nx ok)=true) (h0:M8 n seen=[])
  (h1:J5 T rest { st with s:=(ok,.b false)::restrict st.s live0 } e st1) (he:e.out=true) (hc:A4q liveX l st.c e st1=some (e,st')):J5 T ac st e st':= by
 obtain⟨n1,e1⟩:=h1
 refine⟨n1+1,?_⟩
 subst hac
 rw[U0]
 simp only[F1,hx,hl,hm]
 rw[if_pos (by simpa using hif),if_pos (by rw[h0];rfl),e1]
 cases e with
 | normal=>cases he
 | _=>exact hc
theorem J5.loopM_step {ac:ACode} {x:Opd} {nx ok l m n:Nat} {live0 live liveX seen:List Nat} {rest:ACode} {st st':St} {es:List (AV×AV)} {e:Ex} (hac:ac=.loopM x nx ok live0 live liveX rest) (hx:ev st.s x=some (.itr l))
  (hl:hget st.H l=some (.mit m n seen)) (hm:hmap st.H m=some es) (hif:(decide (es.length=n)&&!live0.contains nx&&!live0.contains ok&&!Nat.beq nx ok)=true) (h0:M8 n seen≠[])
  (h1:∀i∈M8 n seen,(∃ st1,J5 T rest { s:=(ok,.b true)::restrict st.s live0,H:=hset st.H l (.mit m n (seen++[i])),c:=⟨st.H.length,st.c.cur::st.c.outer⟩ } .normal st1∧A1m st.H.length (restrict st1.s live)=true∧J5 T ac { s:=restrict st1.s live,H:=st1.H.take st.H.length,c:=st.c } e st') ∨
   (∃ st1,J5 T rest { s:=(ok,.b true)::restrict st.s live0,H:=hset st.H l (.mit m n (seen++[i])),c:=⟨st.H.length,st.c.cur::st.c.outer⟩ } e st1∧e.out=true∧A4q liveX l st.c e st1=some (e,st'))):J5 T ac st e st':= by
 subst hac
 let f:Nat→Nat→Option (Ex×St):=fun k i=>match (mach T k).code rest { s:=(ok,.b true)::restrict st.s live0,H:=hset st.H l (.mit m n (seen++[i])),c:=⟨st.H.length,st.c.cur::st.c.outer⟩ } with
  | some (.normal,st')=>if A1m st.H.length (restrict st'.s live) then (mach T k).code (.loopM x nx ok live0 live liveX rest) { s:=restrict st'.s live,H:=st'.H.take st.H.length,c:=st.c } else none
  | some (e,st')=>A4q liveX l st.c e st'
  | none=>none
 have fle:∀{k k':Nat},k≤k'→∀ {i:Nat} {r:Ex×St},f k i=some r→f k' i=some r:= by
  intro k k' hk i r q
  have hle:=K7 T hk
  simp only[f]at q ⊢
  cases h2:(mach T k).code rest { s:=(ok,.b true)::restrict st.s live0,H:=hset st.H l (.mit m n (seen++[i])),c:=⟨st.H.length,st.c.cur::st.c.outer⟩ } with
  | none=>rw[h2]at q;cases q
  | some p =>
   rw[hle.code _ _ _ h2]
   rw[h2]at q
   obtain⟨e2,st2⟩:=p
   cases e2 with
   | normal =>
    simp only at q ⊢
    split at q
    ·next hb=>rw[if_pos hb];exact hle.code _ _ _ q
    ·cases q
   | _=>exact q
 have each:∀i∈M8 n seen,∃ k,f k i=some (e,st'):= by
  intro i hi
  rcases h1 i hi with⟨st1,⟨k1,q1⟩,hbd,⟨k2,q2⟩⟩|⟨st1,⟨k1,q1⟩,ho,hcl⟩
  ·refine⟨max k1 k2,?_⟩
   simp only[f]
   rw[(K7 T (Z0u k1 k2)).code _ _ _ q1]
   simp only
   rw[if_pos hbd]
   exact(K7 T (Z0h k1 k2)).code _ _ _ q2
  ·refine⟨k1,?_⟩
   simp only[f]
   rw[q1]
   cases e with
   | normal=>cases ho
   | _=>exact hcl
 have all:∀L:List Nat,(∀ i∈L,∃ k,f k i=some (e,st'))→∃ k,∀ i∈L,f k i=some (e,st'):= by
  intro L
  induction L with
  | nil=>intro _;exact⟨0,fun i hi=>by cases hi⟩
  | cons j L ih =>
   intro hL
   obtain⟨k1,q1⟩:=hL j (Zy ..)
   obtain⟨k2,q2⟩:=ih fun i hi=>hL i (Zx _ hi)
   refine⟨max k1 k2,fun i hi=>?_⟩
   rcases Zu.1 hi with rfl|hi
   ·exact fle (Z0u k1 k2) q1
   ·exact fle (Z0h k1 k2) (q2 i hi)
 obtain⟨k,hk⟩:=all _ each
 refine⟨k+1,?_⟩
 rw[U0]
 simp only[F1,hx,hl,hm]
 rw[if_pos (by simpa using hif),if_neg (by
  intro he
  cases hq:M8 n seen with
  | nil=>exact h0 hq
  | cons a l=>rw[hq]at he;cases he)]
 exact B65 hk h0
def Sub (s S:C2):Prop:=∀ t v,sget s t=some v→sget S t=some v
theorem Sub.refl (s:C2):Sub s s:=fun _ _ h=>h
theorem Sub.trans {a b c:C2} (h:Sub a b) (k:Sub b c):Sub a c:=fun t v e=>k t v (h t v e)
theorem Sub.nil (S:C2):Sub [] S:=fun _ _ h=>by simp[N9,K8]at h
theorem Sub.cons {s S:C2} {t:Nat} {v:AV} (h:sget S t=some v) (k:Sub s S):Sub ((t,v)::s) S:= by
 intro i w e
 simp only[N9,K8]at e
 cases hb:ZC t i with
 | true=>rw[hb]at e;simp only[cond_true,Za]at e;subst e;rw[← Zk hb];exact h
 | false=>rw[hb]at e;exact k i w e
theorem Sub.put {s S:C2} (h:Sub s S) (d:Option Nat) (v:AV):Sub (sput s d v) (sput S d v):= by
 cases d with
 | none=>exact h
 | some d =>
  intro i w e
  simp only[sput,N9,K8]at e ⊢
  cases hb:ZC d i with
  | true=>rw[hb]at e;exact e
  | false=>rw[hb]at e;exact h i w e
theorem Sub.restrict {s S:C2} (h:Sub s S) (l:List Nat):Sub (restrict s l) (restrict S l):= by
 intro t v e
 rw[A3t]at e ⊢
 exact⟨e.1,h t v e.2⟩
section
variable {s S:C2} (h:Sub s S)
include h
theorem A3v {x:Opd} {v:AV} (e:ev s x=some v):ev S x=some v:= by
 cases x with
 | t i=>exact h _ _ e
 | c v=>exact e
 | f i=>exact e
theorem B11:∀{l:List Opd} {vs:List AV},evs s l=some vs→evs S l=some vs
 | [],_,e=>e
 | x::l,vs,e=>by
  simp only[evs,Zs,Zz]at e ⊢
  obtain⟨v,e1,w,e2,e3⟩:=e
  exact⟨v,A3v h e1,w,B11 e2,e3⟩
theorem B5q:∀{l:List (Nat×Nat×Opd)} {vs:List (Nat×Nat×AV)},V0 s l=some vs→V0 S l=some vs
 | [],_,e=>e
 | (a,b,x)::l,vs,e=>by
  simp only[V0,Zs,Zz]at e ⊢
  obtain⟨v,e1,w,e2,e3⟩:=e
  exact⟨v,A3v h e1,w,B5q e2,e3⟩
theorem A9e:∀{l:List (Nat×Opd)} {vs:List (Nat×AV)},M6 s l=some vs→M6 S l=some vs
 | [],_,e=>e
 | (a,x)::l,vs,e=>by
  simp only[M6,Zs,Zz]at e ⊢
  obtain⟨v,e1,w,e2,e3⟩:=e
  exact⟨v,A3v h e1,w,A9e e2,e3⟩
theorem D1g {x:Opd} {n:Int} (e:B10 s x=some n):B10 S x=some n:= by
 unfold B10 at e ⊢
 cases hx:ev s x with
 | none=>simp[hx]at e
 | some v=>rw[A3v h hx];rw[hx]at e;exact e
theorem A04 {d:Int} {x:Option Opd} {n:Int} (e:bnd s d x=some n):bnd S d x=some n:= by
 cases x with
 | none=>exact e
 | some x=>exact D1g h e
theorem C5z {c:Sc} {n0:Nat} {H:A2} {op:AOp} {r:AV×A2} (e:prim c n0 s H op=some r):prim c n0 S H op=some r:= by
 have E:∀x v,ev s x=some v→ev S x=some v:=fun x v=>A3v h
 cases op with
 | nil=>exact e
 | alloc=>exact e
 | mkmap=>exact e
 | call=>exact e
 | build z parts =>
  simp only[prim,Zs]at e ⊢
  obtain⟨ps,e1,e2⟩:=e
  exact⟨ps,B5q h e1,e2⟩
 | lits k z n parts own =>
  simp only[prim,Zs]at e ⊢
  obtain⟨ps,e1,e2⟩:=e
  exact⟨ps,A9e h e1,e2⟩
 | xlits k z n parts =>
  simp only[prim,Zs]at e ⊢
  obtain⟨ps,e1,e2⟩:=e
  exact⟨ps,A9e h e1,e2⟩
 | mkfn f a b =>
  simp only[prim]at e ⊢
  cases h1:evs s a with
  | none=>simp[h1]at e
  | some u =>
   cases h2:evs s b with
   | none=>simp[h1,h2]at e
   | some w=>rw[B11 h h1,B11 h h2];rw[h1,h2]at e;exact e
 | mm mx xs =>
  simp only[prim]at e ⊢
  cases h1:evs s xs with
  | none=>simp[h1]at e
  | some u=>rw[B11 h h1];rw[h1]at e;exact e
 | mv x|box n x r|nilck x|un op x|conv k x|idc x|nilq q x|fieldAddr o x|field k o x|range x r|rangeM x r|next x|entry x|extract x i|lenS x|lenM x|lenL x|clear k z x =>
  simp only[prim]at e ⊢
  cases h1:ev s x with
  | none=>simp[h1]at e
  | some u=>rw[E _ _ h1];rw[h1]at e;exact e
 | load k x =>
  cases k <;>
  ·simp only[prim]at e ⊢
   cases h1:ev s x with
   | none=>simp[h1]at e
   | some u=>rw[E _ _ h1];rw[h1]at e;exact e
 | pick c a b =>
  simp only[prim]at e ⊢
  cases h1:ev s c with
  | none=>simp[h1]at e
  | some u =>
   rw[E _ _ h1];rw[h1]at e
   split at e
   ·next hu =>
    cases h2:ev s a with
    | none=>simp[h2]at e
    | some w=>simp only[Za]at hu;subst hu;(try simp only);rw[E _ _ h2];rw[h2]at e;exact e
   ·next hu =>
    cases h2:ev s b with
    | none=>simp[h2]at e
    | some w=>simp only[Za]at hu;subst hu;(try simp only);rw[E _ _ h2];rw[h2]at e;exact e
   ·cases e
 | store k x y|bin op x y|beq ng x y|cmp ng ks x y|idxS k x y|idxA k n x y|idxStr x y|idxAgg k sz n x y|lookup z ag ks x y ok|append k b x y r fz|copy k x y|mkslice k b z x y r =>
  simp only[prim]at e ⊢
  cases h1:ev s x with
  | none=>simp[h1]at e
  | some u =>
   cases h2:ev s y with
   | none=>simp[h1,h2]at e
   | some w=>rw[E _ _ h1,E _ _ h2];rw[h1,h2]at e;exact e
 | mupd ag ks x y z =>
  simp only[prim]at e ⊢
  cases h1:ev s x with
  | none=>simp[h1]at e
  | some u =>
   cases h2:ev s y with
   | none=>simp[h1,h2]at e
   | some w =>
    cases h3:ev s z with
    | none=>simp[h1,h2,h3]at e
    | some w'=>rw[E _ _ h1,E _ _ h2,E _ _ h3];rw[h1,h2,h3]at e;exact e
 | sliceS x lo hi =>
  simp only[prim]at e ⊢
  cases h1:ev s x with
  | none=>simp[h1]at e
  | some u =>
   rw[E _ _ h1];rw[h1]at e
   split at e
   ·next b hu =>
    simp only[Za]at hu;subst hu
    try simp only
    cases h2:bnd s 0 lo with
    | none=>simp[h2]at e
    | some w =>
     cases h3:bnd s b.size hi with
     | none=>simp[h2,h3]at e
     | some w'=>rw[A04 h h2,A04 h h3];rw[h2,h3]at e;exact e
   ·cases e
 | storeN x k r =>
  simp only[prim]at e ⊢
  cases h1:ev s x with
  | none=>simp[h1]at e
  | some u=>rw[E _ _ h1];rw[h1]at e;exact e
 | mvz x =>
  simp only[prim]at e ⊢
  cases h1:ev s x with
  | none=>simp[h1]at e
  | some u=>rw[E _ _ h1];rw[h1]at e;exact e
 | sliceL k x lo hi =>
  simp only[prim]at e ⊢
  cases h1:ev s x with
  | none=>simp[h1]at e
  | some u =>
   rw[E _ _ h1];rw[h1]at e
   simp only at e ⊢
   split at e
   ·next k' rows H' hu =>
    try simp only[hu]
    cases h2:bnd s 0 lo with
    | none=>simp[h2]at e
    | some w =>
     cases h3:bnd s rows.length hi with
     | none=>simp[h2,h3]at e
     | some w'=>rw[A04 h h2,A04 h h3];rw[h2,h3]at e;exact e
   ·cases e
 | sliceQ k x lo hi =>
  simp only[prim]at e ⊢
  cases h1:ev s x with
  | none=>simp[h1]at e
  | some u =>
   rw[E _ _ h1];rw[h1]at e
   simp only[Zd]at e ⊢
   split at e
   ·next k' rows hu =>
    try simp only[hu]
    cases h2:bnd s 0 lo with
    | none=>simp[h2]at e
    | some w =>
     cases h3:bnd s rows.length hi with
     | none=>simp[h2,h3]at e
     | some w'=>rw[A04 h h2,A04 h h3];rw[h2,h3]at e;exact e
   ·cases e
 | sub k x lo hi =>
  simp only[prim]at e ⊢
  cases h1:ev s x with
  | none=>simp[h1]at e
  | some u =>
   rw[E _ _ h1];rw[h1]at e
   split at e
   ·next k' rows hu =>
    simp only[Za]at hu;subst hu
    try simp only
    cases h2:bnd s 0 lo with
    | none=>simp[h2]at e
    | some w =>
     cases h3:bnd s rows.length hi with
     | none=>simp[h2,h3]at e
     | some w'=>rw[A04 h h2,A04 h h3];rw[h2,h3]at e;exact e
   ·next b n hu =>
    simp only[Za]at hu;subst hu
    try simp only
    split at e
    ·next k' q rows hr =>
     try simp only[hr]
     cases h2:bnd s 0 lo with
     | none=>simp[h2]at e
     | some w =>
      cases h3:bnd s n hi with
      | none=>simp[h2,h3]at e
      | some w'=>rw[A04 h h2,A04 h h3];rw[h2,h3]at e;exact e
    ·cases e
   ·cases e
 | sliceA k n x hi =>
  simp only[prim]at e ⊢
  cases h1:ev s x with
  | none=>simp[h1]at e
  | some u =>
   rw[E _ _ h1];rw[h1]at e
   split at e
   ·next b o hu =>
    simp only[Za]at hu;subst hu
    try simp only
    cases h2:hcells H b with
    | none=>simp[h2]at e
    | some w =>
     cases h3:bnd s n hi with
     | none=>rw[h2,h3]at e;simp at e
     | some w'=>rw[A04 h h3];rw[h2,h3]at e;exact e
   ·cases e
 | cut k x hi r =>
  simp only[prim]at e ⊢
  cases h1:ev s x with
  | none=>simp[h1]at e
  | some u =>
   rw[E _ _ h1];rw[h1]at e
   split at e
   ·next b n hu =>
    simp only[Za]at hu;subst hu
    try simp only
    cases h2:A05 H b with
    | none=>simp[h2]at e
    | some w =>
     cases h3:bnd s n hi with
     | none=>rw[h2,h3]at e;split at e <;> simp_all
     | some w'=>rw[A04 h h3];rw[h2,h3]at e;exact e
   ·cases e
theorem B9p {g:Option (Nat×Bool)} {b:Bool} (e:wanted s g=some b):wanted S g=some b:= by
 cases g with
 | none=>exact e
 | some g =>
  simp only[wanted]at e ⊢
  cases h1:sget s g.1 with
  | none=>simp[h1]at e
  | some u=>rw[h _ _ h1];rw[h1]at e;exact e
theorem C58 {H:A2}:∀{l:List (Nat×List Nat)} {bs:List Nat},ways s H l=some bs→ways S H l=some bs
 | [],_,e=>e
 | x::l,bs,e=>by
  simp only[ways]at e ⊢
  cases h1:sget s x.1 with
  | none=>simp[h1]at e
  | some u =>
   rw[h _ _ h1];rw[h1]at e
   simp only[Zd]at e ⊢
   split at e
   ·next b hb =>
    cases h2:follow H b x.2 with
    | none=>simp[h2]at e
    | some b' =>
     cases h3:ways s H l with
     | none=>simp[h2,h3]at e
     | some r=>rw[C58 h3];rw[h2,h3]at e;exact e
   ·cases e
theorem D46 {n0:Nat} {H:A2} {o:AOper} {hs:List Nat} (e:A4t n0 s H o=some hs):A4t n0 S H o=some hs:= by
 unfold A4t at e ⊢
 split at e
 ·next bs hb=>rw[C58 h hb];exact e
 ·cases e
theorem D5v {M:Mach} {c:Sc} {n0:Nat} {H:A2} {op:AOp} {r:AV×A2} (e:core M c n0 s H op=some r):rbox S op=rbox s op:= by
 have key:∀a,(∃ v,ev s a=some v)→(ev S a).bind AV.box? = (ev s a).bind AV.box?:= by
  rintro a ⟨v,hv⟩;rw[A3v h hv,hv]
 have nn:∀a,((ev s a=none)→False)→∃ v,ev s a=some v:= by
  intro a ha
  cases hh:ev s a with
  | none=>exact(ha hh).elim
  | some v=>exact⟨v,Z⟩
 cases op <;> simp only[rbox,N4,Option.bind_none,Zd]
 case load k a=>exact key a (nn a fun hh=>by cases k <;> simp[core,prim,hh]at e)
 case lookup z ag ks x i ok=>exact key x (nn x fun hh=>by simp[core,prim,hh]at e)
 case lenL x=>exact key x (nn x fun hh=>by simp[core,prim,hh]at e)
 case lenM x=>exact key x (nn x fun hh=>by simp[core,prim,hh]at e)
 case idxS k x i=>exact key x (nn x fun hh=>by simp[core,prim,hh]at e)
 case sub k x lo hi=>exact key x (nn x fun hh=>by simp[core,prim,hh]at e)
 case sliceA k n x hi=>exact key x (nn x fun hh=>by simp[core,prim,hh]at e)
 case sliceQ k x lo hi=>exact key x (nn x fun hh=>by simp[core,prim,hh]at e)
theorem D09 {M:Mach} {c:Sc} {n0:Nat} {H:A2} {op:AOp} {r:AV×A2} (e:core M c n0 s H op=some r):core M c n0 S H op=some r:= by
 cases op with
 | call f args own pure =>
  simp only[core,W2]at e ⊢
  cases h1:ev s f with
  | none=>simp[h1]at e
  | some u =>
   cases h2:evs s args with
   | none=>simp[h1,h2]at e
   | some w=>rw[A3v h h1,B11 h h2];rw[h1,h2]at e;exact e
 | _=>simp only[core]at e ⊢; exact C5z h e
theorem D5p {M:Mach} {c:Sc} {n0:Nat} {H:A2} {hc:List (Option (List Nat))} {o:AOper} {s':C2} {H':A2} {hc':List (Option (List Nat))} (e:oper M c n0 s H hc o=some (s',H',hc')) :
  ∃ S',oper M c n0 S H hc o=some (S',H',hc')∧Sub s' S':= by
 unfold oper at e ⊢
 split at e
 ·cases e
 ·next hw =>
  rw[B9p h hw]
  simp only[Za,Zf]at e
  obtain⟨rfl,rfl,rfl⟩:=e
  exact⟨_,Z,h.put _ _⟩
 ·next hw =>
  rw[B9p h hw]
  simp only
  split at e
  ·next hs e1 e2 =>
   rw[D46 h e1]
   split at e
   ·next q e3 =>
    have e4:P8 S o hc=true:= by
     rw[← e2];unfold P8;rw[D5v h e3]
    rw[e4]
    simp only[D09 h e3]
    split at e
    ·next e5 =>
     simp only[e5,if_true]
     simp only[Za,Zf]at e
     obtain⟨rfl,rfl,rfl⟩:=e
     exact⟨_,Z,h.put _ _⟩
    ·cases e
   ·cases e
  ·cases e
end
theorem B44 {M:Mach} {c:Sc} {n0:Nat}:∀{l:List AOper} {s S:C2} (_:Sub s S) {H:A2} {hc:List (Option (List Nat))} {s':C2} {H':A2},opers M c n0 l s H hc=some (s',H') →
  ∃ S',opers M c n0 l S H hc=some (S',H')∧Sub s' S'
 | [],s,S,h,H,hc,s',H',e=>by
  simp only[opers,Za,Zf]at e
  obtain⟨rfl,rfl⟩:=e
  exact⟨S,Z,h⟩
 | o::l,s,S,h,H,hc,s',H',e=>by
  simp only[opers]at e ⊢
  split at e
  ·cases e
  ·next s1 H1 hc1 e1 =>
   obtain⟨S1,e2,h1⟩:=D5p h e1
   simp only[e2]
   exact B44 h1 e
theorem B6l {s S:C2} (h:Sub s S):∀{l:List Nat} {H H':A2},publish s H l=some H'→publish S H l=some H'
 | [],_,_,e=>e
 | t::l,H,H',e=>by
  simp only[publish]at e ⊢
  cases h1:sget s t with
  | none=>simp[h1]at e
  | some u =>
   rw[h _ _ h1];rw[h1]at e
   simp only at e ⊢
   cases h2:Y4 H u with
   | none=>simp[h2]at e
   | some r=>rw[h2]at e;exact B6l h e
theorem V3 {s S:C2} (h:Sub s S) {H:A2}:∀{l:List ARes} {rs:List AV},results s H l=some rs→results S H l=some rs
 | [],_,e=>e
 | .tmp t::l,rs,e=>by
  simp only[results,Zs,Zz]at e ⊢
  obtain⟨v,e1,w,e2,e3⟩:=e
  exact⟨v,h _ _ e1,w,V3 h e2,e3⟩
 | .cell t k::l,rs,e=>by
  simp only[results,Zs,Zz]at e ⊢
  obtain⟨v,e1,w,e2,e3⟩:=e
  exact⟨v,C5z h e1,w,V3 h e2,e3⟩
section
variable (p g:Nat)
def rb (b:Nat):Nat:=bif ZU b p then b else b+g
def B6s:Fn→Fn
 | .yield l=>.yield (rb p g l)
 | f=>f
mutual
def ren:AV→AV
 | .xseq k rows=>.xseq k (renR rows)
 | .ptr b o=>.ptr (rb p g b) o
 | .itr b=>.itr (rb p g b)
 | .eptr b n i o=>.eptr (rb p g b) n i o
 | .cptr cs=>.cptr (renL cs)
 | .asl b n=>.asl (rb p g b) n
 | .csl b o k n=>.csl (rb p g b) o k n
 | .mp b=>.mp (rb p g b)
 | .fn f a c=>.fn (B6s p g f) (renL a) (renL c)
 | .agg cs=>.agg (renL cs)
 | .tup cs=>.tup (renL cs)
 | .lit v=>.lit v
 | .nils k=>.nils k
 | .seq k rows=>.seq k (renR rows)
 | .fresh k rows=>.fresh k (renR rows)
 | .undef=>.undef
def renL:List AV→List AV
 | []=>[]
 | v::l=>ren v::renL l
def renR:List (List AV)→List (List AV)
 | []=>[]
 | r::l=>renL r::renR l
end
theorem P0:∀l:List AV,renL p g l=l.map (ren p g)
 | []=>by simp only[renL,Z0z]
 | v::l=>by simp only[renL,Zt,P0 l]
theorem A2y:∀l:List (List AV),renR p g l=l.map (fun r=>r.map (ren p g))
 | []=>by simp only[renR,Z0z]
 | v::l=>by simp only[renR,Zt,A2y l,P0]
def P7 (s:C2):C2:=s.map fun x=>(x.1,ren p g x.2)
def F8:Opd→Opd
 | .c v=>.c (ren p g v)
 | x=>x
def A2x:Option Opd→Option Opd
 | some x=>some (F8 p g x)
 | none=>none
def K5:AOp→AOp
 | .mv x=>.mv (F8 p g x)
 | .mvz x=>.mvz (F8 p g x)
 | .storeN x k r=>.storeN (F8 p g x) k r
 | .pick c a b=>.pick (F8 p g c) (F8 p g a) (F8 p g b)
 | .nil k r=>.nil k r
 | .alloc zs owns r=>.alloc (renL p g zs) owns r
 | .box n x r=>.box n (F8 p g x) r
 | .build z parts=>.build (renL p g z) (parts.map fun q=>(q.1,q.2.1,F8 p g q.2.2))
 | .lits k z n parts own=>.lits k (renL p g z) n (parts.map fun q=>(q.1,F8 p g q.2)) own
 | .xlits k z n parts=>.xlits k (renL p g z) n (parts.map fun q=>(q.1,F8 p g q.2))
 | .load k a=>.load k (F8 p g a)
 | .store k a v=>.store k (F8 p g a) (F8 p g v)
 | .nilck x=>.nilck (F8 p g x)
 | .bin op x y=>.bin op (F8 p g x) (F8 p g y)
 | .beq n x y=>.beq n (F8 p g x) (F8 p g y)
 | .cmp n ks x y=>.cmp n ks (F8 p g x) (F8 p g y)
 | .un op x=>.un op (F8 p g x)
 | .conv k x=>.conv k (F8 p g x)
 | .idc x=>.idc (F8 p g x)
 | .mkfn f a c=>.mkfn (B6s p g f) (a.map (F8 p g)) (c.map (F8 p g))
 | .mkmap r=>.mkmap r
 | .mkslice k b z l c r=>.mkslice k b (renL p g z) (F8 p g l) (F8 p g c) r
 | .sliceS x lo hi=>.sliceS (F8 p g x) (A2x p g lo) (A2x p g hi)
 | .sliceL k x lo hi=>.sliceL k (F8 p g x) (A2x p g lo) (A2x p g hi)
 | .sliceQ k x lo hi=>.sliceQ k (F8 p g x) (A2x p g lo) (A2x p g hi)
 | .sliceA k n x h=>.sliceA k n (F8 p g x) (A2x p g h)
 | .nilq q x=>.nilq q (F8 p g x)
 | .fieldAddr o x=>.fieldAddr o (F8 p g x)
 | .field k o x=>.field k o (F8 p g x)
 | .idxS k x i=>.idxS k (F8 p g x) (F8 p g i)
 | .idxA k n x i=>.idxA k n (F8 p g x) (F8 p g i)
 | .idxStr x i=>.idxStr (F8 p g x) (F8 p g i)
 | .idxAgg k sz n x i=>.idxAgg k sz n (F8 p g x) (F8 p g i)
 | .lookup z ag ks x i ok=>.lookup (ren p g z) ag ks (F8 p g x) (F8 p g i) ok
 | .mupd ag ks m k v=>.mupd ag ks (F8 p g m) (F8 p g k) (F8 p g v)
 | .range x r=>.range (F8 p g x) r
 | .rangeM x r=>.rangeM (F8 p g x) r
 | .next x=>.next (F8 p g x)
 | .entry x=>.entry (F8 p g x)
 | .extract x i=>.extract (F8 p g x) i
 | .lenS x=>.lenS (F8 p g x)
 | .lenL x=>.lenL (F8 p g x)
 | .lenM x=>.lenM (F8 p g x)
 | .mm mx xs=>.mm mx (xs.map (F8 p g))
 | .append k b s x r fz=>.append k b (F8 p g s) (F8 p g x) r fz
 | .copy k d s=>.copy k (F8 p g d) (F8 p g s)
 | .cut k x hi r=>.cut k (F8 p g x) (A2x p g hi) r
 | .sub k x lo hi=>.sub k (F8 p g x) (A2x p g lo) (A2x p g hi)
 | .clear k z x=>.clear k (renL p g z) (F8 p g x)
 | .call f args own pure=>.call (F8 p g f) (args.map (F8 p g)) own pure
def A02 (o:AOper):AOper:={ o with op:=K5 p g o.op }
def K3:ACode→ACode
 | .region d n pre ops live=>.region d n pre (ops.map (A02 p g)) live
 | .seq a b=>.seq (K3 a) (K3 b)
 | .cond c a b=>.cond (F8 p g c) (K3 a) (K3 b)
 | .block id a=>.block id (K3 a)
 | .loop tr l a=>.loop tr l (K3 a)
 | .loopM x nx ok l0 l1 l2 a=>.loopM (F8 p g x) nx ok l0 l1 l2 (K3 a)
 | .rangeFunc f ps live a b=>.rangeFunc (F8 p g f) ps live (K3 a) (K3 b)
 | .scope a=>.scope (K3 a)
 | .skip=>.skip
 | .exit id=>.exit id
 | .ret=>.ret
def L4:AO→AO
 | .cells cs=>.cells (renL p g cs)
 | .arr k q rows=>.arr k q (renR p g rows)
 | .map es=>.map (es.map fun e=>(ren p g e.1,ren p g e.2))
 | .loop f s ps a b busy pend=>.loop f (P7 p g s) ps (K3 p g a) (K3 p g b) busy pend
 | .stk k rows anc=>.stk k (renR p g rows) (anc.map (rb p g))
 | .ro o=>.ro (L4 o)
 | .dead=>.dead
 | .iter s q=>.iter s q
 | .mit m n seen=>.mit (rb p g m) n seen
def G7 (G H:A2):A2:=(H.take p).map (L4 p g)++(G++(H.drop p).map (L4 p g))
end
section
variable {p g:Nat} {G:A2} (hG:G.length=g)
theorem A61 {b:Nat} (h:b<p):rb p g b=b:= by
 unfold rb;rw[show ZU b p=true from Zl h];rfl
theorem A5e {b:Nat} (h:p≤b):rb p g b=b+g:= by
 unfold rb
 cases hb:ZU b p with
 | false=>rfl
 | true=>have:b<p:=Zp hb;omega
theorem E3y {a b:Nat} (h:rb p g a=rb p g b):a=b:= by
 by_cases ha:a<p <;> by_cases hb:b<p
 ·rwa [A61 ha,A61 hb]at h
 ·rw[A61 ha,A5e (by omega)]at h;omega
 ·rw[A5e (by omega),A61 hb]at h;omega
 ·rw[A5e (by omega),A5e (by omega)]at h;omega
theorem E3x (a b:Nat):(rb p g a==rb p g b)=(a==b):= by
 by_cases h:a=b
 ·subst h;simp only[BEq.rfl]
 ·have:rb p g a≠rb p g b:=fun e=>h (E3y e)
  rw[beq_eq_false_iff_ne.2 h,beq_eq_false_iff_ne.2 this]
include hG
theorem A3w {H:A2} (hp:p≤H.length):(G7 p g G H).length=H.length+g:= by
 simp[G7,hG];omega
theorem T1 {H:A2} (hp:p≤H.length) (b:Nat):hget (G7 p g G H) (rb p g b)=(hget H b).map (L4 p g):= by
 unfold hget G7
 have hl:((H.take p).map (L4 p g)).length=p:= by simp;omega
 by_cases h:b<p
 ·rw[A61 h,ZF (by rw[hl];exact h),ZN,List.getElem?_take_of_lt h]
 ·rw[A5e (by omega),ZI (by rw[hl];omega),hl,ZI (by omega),ZN,List.getElem?_drop]
  congr 2;omega
theorem N5 {H:A2} (hp:p≤H.length) (b:Nat) (o:AO):hset (G7 p g G H) (rb p g b) (L4 p g o)=G7 p g G (hset H b o):= by
 unfold hset G7
 have hl:((H.take p).map (L4 p g)).length=p:= by simp;omega
 by_cases h:b<p
 ·rw[A61 h,Z4u _ _ (by rw[hl];exact h),← Z2h,← List.take_set,List.drop_set_of_lt h]
 ·rw[A5e (by omega),Z0s _ _ (by rw[hl];omega),hl,Z0s _ _ (by omega),← Z2h,List.take_set_of_le (by omega),List.drop_set]
  rw[if_neg (by omega)]
  congr 4;omega
omit hG
theorem B0i (s:C2) (t:Nat):sget (P7 p g s) t=(sget s t).map (ren p g):= by
 induction s with
 | nil=>rfl
 | cons x s ih =>
  simp only[P7,Zt,N9,K8]
  cases ZC x.1 t with
  | true=>rfl
  | false=>exact ih
theorem J8 (s:C2) (x:Opd):ev (P7 p g s) (F8 p g x)=(ev s x).map (ren p g):= by
 cases x with
 | t i=>exact B0i s i
 | c v=>rfl
 | f i=>simp[ev,F8,ren,B6s,renL]
theorem C0a (s:C2):∀l:List Opd,evs (P7 p g s) (l.map (F8 p g))=(evs s l).map (renL p g)
 | []=>by simp[evs,renL]
 | x::l=>by
  simp only[Zt,evs,J8,C0a s l]
  cases ev s x with
  | none=>rfl
  | some v=>cases evs s l with
   | none=>rfl
   | some vs=>simp[renL]
theorem B8s (s:C2):∀l:List (Nat×Nat×Opd),V0 (P7 p g s) (l.map fun q=>(q.1,q.2.1,F8 p g q.2.2))=(V0 s l).map fun ps=>ps.map fun q=>(q.1,q.2.1,ren p g q.2.2)
 | []=>rfl
 | (a,b,x)::l=>by
  simp only[Zt,V0,J8,B8s s l]
  cases ev s x with
  | none=>rfl
  | some v=>cases V0 s l with
   | none=>rfl
   | some vs=>rfl
theorem B0r (s:C2):∀l:List (Nat×Opd),M6 (P7 p g s) (l.map fun q=>(q.1,F8 p g q.2))=(M6 s l).map fun ps=>ps.map fun q=>(q.1,ren p g q.2)
 | []=>rfl
 | (a,x)::l=>by
  simp only[Zt,M6,J8,B0r s l]
  cases ev s x with
  | none=>rfl
  | some v=>cases M6 s l with
   | none=>rfl
   | some vs=>rfl
theorem D40 (s:C2) (x:Opd):B10 (P7 p g s) (F8 p g x)=B10 s x:= by
 unfold B10;rw[J8]
 cases ev s x with
 | none=>rfl
 | some v=>cases v <;> simp[ren]
theorem B26 (s:C2) (d:Int) (x:Option Opd):bnd (P7 p g s) d (A2x p g x)=bnd s d x:= by
 cases x with
 | none=>rfl
 | some x=>exact D40 s x
theorem Z0 (l:List AV):(renL p g l).length=l.length:= by rw[P0,Zi]
theorem M2 (l:List (List AV)):(renR p g l).length=l.length:= by rw[A2y,Zi]
theorem A4f (v:AV):(ren p g v).cellsOf=renL p g v.cellsOf:= by
 cases v <;> simp[ren,AV.cellsOf,renL]
theorem E0c (v:AV):(ren p g v).frz=v.frz:= by cases v <;> simp[ren,AV.frz]
theorem D5t (v:AV):(ren p g v).plain=v.plain:= by cases v <;> simp[ren,AV.plain]
theorem B1w (l:List AV):(renL p g l).all AV.frz=l.all AV.frz:= by
 rw[P0,Z1p];congr 1;funext v;exact E0c v
theorem B5z (l:List (List AV)):B5y (renR p g l)=B5y l:= by
 unfold B5y;rw[A2y,Z1p];congr 1;funext r
 simp only[Z1a];rw[← P0];exact B1w r
theorem A57 (cs new:List AV) (o:Nat):splice (renL p g cs) o (renL p g new)=renL p g (splice cs o new):= by
 simp only[splice,P0,Z00,Z0p,Z10,Zi]
include hG
theorem B0z {H:A2} (hp:p≤H.length) (b:Nat):hcells (G7 p g G H) (rb p g b)=(hcells H b).map (renL p g):= by
 unfold hcells;rw[T1 hG hp]
 cases hget H b with
 | none=>rfl
 | some o=>cases o with
  | ro o=>cases o <;> simp[L4]
  | _=>simp[L4]
theorem A6k {H:A2} (hp:p≤H.length) (b:Nat):X2 (G7 p g G H) (rb p g b)=(X2 H b).map (renL p g):= by
 unfold X2;rw[T1 hG hp]
 cases hget H b with
 | none=>rfl
 | some o=>cases o <;> simp[L4]
theorem A28 {H:A2} (hp:p≤H.length) (b:Nat):harr (G7 p g G H) (rb p g b)=(harr H b).map fun x=>(x.1,x.2.1,renR p g x.2.2):= by
 unfold harr;rw[T1 hG hp]
 cases hget H b with
 | none=>rfl
 | some o=>cases o with
  | ro o=>cases o <;> simp[L4]
  | _=>simp[L4]
theorem A5k {H:A2} (hp:p≤H.length) (b:Nat):A05 (G7 p g G H) (rb p g b)=(A05 H b).map fun x=>(x.1,x.2.1,renR p g x.2.2):= by
 unfold A05;rw[T1 hG hp]
 cases hget H b with
 | none=>rfl
 | some o=>cases o <;> simp[L4]
theorem B54 {H:A2} (hp:p≤H.length) (b:Nat):hstk (G7 p g G H) (rb p g b)=(hstk H b).map fun x=>(x.1,renR p g x.2.1,x.2.2.map (rb p g)):= by
 unfold hstk;rw[T1 hG hp]
 cases hget H b with
 | none=>rfl
 | some o=>cases o with
  | ro o=>cases o <;> simp[L4]
  | _=>simp[L4]
theorem D48 {H:A2} (hp:p≤H.length) (b:Nat):B53 (G7 p g G H) (rb p g b)=(B53 H b).map fun x=>(x.1,renR p g x.2.1,x.2.2.map (rb p g)):= by
 unfold B53;rw[T1 hG hp]
 cases hget H b with
 | none=>rfl
 | some o=>cases o <;> simp[L4]
omit hG
theorem B0q (l:List Nat) (b:Nat):(l.map (rb p g)).contains (rb p g b)=l.contains b:= by
 induction l with
 | nil=>rfl
 | cons a l ih=>simp only[Zt,List.contains_cons,ih,E3x]
theorem D7f (o:AO) (b:Nat):(L4 p g o).grew (rb p g b)=o.grew b:= by
 cases o with
 | stk k rows anc=>simp only[L4,AO.grew,B0q]
 | ro o=>cases o <;> simp only[L4,AO.grew,B0q]
 | _=>simp only[L4,AO.grew]
def GrO (p:Nat) (G:A2):Prop:=∀ o∈G,∀ b,b<p→o.grew b=false
include hG
theorem D7e (hS:GrO p G) {H:A2} (hp:p≤H.length) (b:Nat):(((G7 p g G H).drop (rb p g b+1)).all fun o=>!o.grew (rb p g b))=(H.drop (b+1)).all fun o=>!o.grew b:= by
 have hm:∀l:A2,((l.map (L4 p g)).all fun o=>!o.grew (rb p g b))=l.all fun o=>!o.grew b:=fun l=>by
  rw[Z1p];simp only[Z1a,D7f]
 have hl:((H.take p).map (L4 p g)).length=p:= by simp;omega
 unfold G7
 by_cases h:b<p
 ·have hg:(G.all fun o=>!o.grew (rb p g b))=true:=Zq.2 fun o ho=>by rw[A61 h,hS o ho b h];rfl
  have e:H.drop (b+1)=(H.take p).drop (b+1)++H.drop p:= by
   rw[Z5p]
   have:H.drop p=(H.drop (b+1)).drop (p-(b+1)):= by rw[Z19];congr 1;omega
   rw[this,Z3a]
  rw[e,Z29,← hm,← hm,A61 h,Z2e (by rw[hl];exact h),Z29,Z29,← Z10]
  rw[A61 h]at hg
  rw[hg,Z1h]
 ·have hb:p≤b:=Nat.le_of_not_lt h
  rw[← hm,A5e hb]
  have e:((H.take p).map (L4 p g)++(G++(H.drop p).map (L4 p g))).drop (b+g+1)=(H.drop (b+1)).map (L4 p g):= by
   rw[← ZB,List.drop_append,List.drop_of_length_le (by rw[Zo,hl,hG];omega),Z06,Zo,hl,hG,← Z10,Z19]
   congr 2;omega
  rw[e]
omit hG
include hG
theorem B19 {H:A2} (hp:p≤H.length) (b:Nat):hmap (G7 p g G H) (rb p g b)=(hmap H b).map fun es=>es.map fun e=>(ren p g e.1,ren p g e.2):= by
 unfold hmap;rw[T1 hG hp]
 cases hget H b with
 | none=>rfl
 | some o=>cases o with
  | ro o=>cases o <;> simp[L4]
  | _=>simp[L4]
theorem D5j {H:A2} (hp:p≤H.length) (b:Nat):B1m (G7 p g G H) (rb p g b)=(B1m H b).map fun e=>(ren p g e.1,ren p g e.2):= by
 unfold B1m;rw[T1 hG hp]
 cases hget H b with
 | none=>rfl
 | some o=>cases o with
  | mit m n seen =>
   simp only[Zb,L4,B19 hG hp]
   cases hmap H m with
   | none=>rfl
   | some es =>
    simp only[Zb,Zi]
    split
    ·cases seen.getLast? with
     | none=>rfl
     | some i=>simp only[Zd,ZN]
    ·rfl
  | _=>rfl
theorem D43 {H:A2} (hp:p≤H.length) (b:Nat):B18 (G7 p g G H) (rb p g b)=(B18 H b).map fun es=>es.map fun e=>(ren p g e.1,ren p g e.2):= by
 unfold B18;rw[T1 hG hp]
 cases hget H b with
 | none=>rfl
 | some o=>cases o <;> simp[L4]
omit hG
abbrev ren2 (p g:Nat) (G:A2) (r:AV×A2):AV×A2:=(ren p g r.1,G7 p g G r.2)
include hG
theorem C6v {H:A2} (hp:p≤H.length) (v:AV):frv (G7 p g G H) (ren p g v)=(frv H v).map (ren2 p g G):= by
 cases v with
 | asl b n =>
  simp only[ren,frv,A28 hG hp,A5k hG hp]
  cases harr H b with
  | none=>rfl
  | some x =>
   obtain⟨k,q,rows⟩:=x
   cases q with
   | true =>
    simp only[Zb,M2]
    split <;> first|rfl|simp[ren2,ren]
   | false =>
    simp only[Zb,M2]
    cases A05 H b with
    | none=>rfl
    | some y =>
     simp only[Zb]
     split
     ·simp only[Zb,ren2,ren,← N5 hG hp,L4]
     ·rfl
 | _=>simp[ren,frv,ren2]
theorem D51 {H:A2} (hp:p≤H.length) (v:AV):A8e (G7 p g G H) (ren p g v)=(A8e H v).map fun r=>(r.1,renR p g r.2):= by
 cases v with
 | asl b n =>
  simp only[ren,A8e,A28 hG hp]
  cases harr H b with
  | none=>rfl
  | some x =>
   obtain⟨k,q,rows⟩:=x
   cases q with
   | true =>
    simp only[Zb,M2]
    split <;> rfl
   | false=>rfl
 | _=>simp[ren,A8e]
theorem B5w:∀(l:List AV) {H:A2} (hp:p≤H.length),Z4 (G7 p g G H) (renL p g l)=(Z4 H l).map fun r=>(renL p g r.1,G7 p g G r.2)
 | [],H,hp=>by simp[Z4,renL]
 | v::l,H,hp=>by
  simp only[renL,Z4,C6v hG hp]
  cases e:frv H v with
  | none=>rfl
  | some r =>
   simp only[Zb,ren2]
   have hp':p≤r.2.length:= by rw[B5x e];exact hp
   rw[B5w l hp']
   cases Z4 r.2 l with
   | none=>rfl
   | some q=>simp[renL]
theorem B5v {H:A2} (hp:p≤H.length) (v:AV):U4 (G7 p g G H) (ren p g v)=(U4 H v).map (ren2 p g G):= by
 cases v with
 | agg cs =>
  simp only[ren,U4,B5w hG cs hp]
  cases Z4 H cs <;> simp[ren2,ren]
 | nils k=>simp[ren,U4,ren2,renR]
 | asl b n=>have:=C6v hG hp (.asl b n);simpa [ren,U4] using this
 | _=>simp[ren,U4,frv,ren2]
theorem C48:∀(l:List AV) {H:A2} (hp:p≤H.length),S6 (G7 p g G H) (renL p g l)=(S6 H l).map fun r=>(renL p g r.1,G7 p g G r.2)
 | [],H,hp=>by simp[S6,renL]
 | v::l,H,hp=>by
  simp only[renL,S6,B5v hG hp]
  cases e:U4 H v with
  | none=>rfl
  | some r =>
   simp only[Zb,ren2]
   have hp':p≤r.2.length:= by rw[B15 e];exact hp
   rw[C48 l hp']
   cases S6 r.2 l with
   | none=>rfl
   | some q=>simp[renL]
omit hG
theorem D6r (op:BinOp) (a b:AV):A9c op (ren p g a) (ren p g b)=(A9c op a b).map (ren p g):= by
 have key:∀u w,(A9c op (.lit u) (.lit w)).map (ren p g)=A9c op (.lit u) (.lit w):= by
  intro u w
  have:∀v,A9c op (.lit u) (.lit w)=some v→∃ x,v=.lit x:= by
   intro v h
   unfold A9c at h
   split at h
   ·split at h
    ·split at h <;> simp at h;exact⟨_,h.symm⟩
    ·split at h <;> simp at h;exact⟨_,h.symm⟩
    ·split at h
     ·simp only[Zz]at h;obtain⟨y,_,rfl⟩:=h;exact⟨y,Z⟩
     ·cases h
   ·simp only[Zz]at h;obtain⟨y,_,rfl⟩:=h;exact⟨y,Z⟩
   ·cases h
  cases e:A9c op (.lit u) (.lit w) with
  | none=>rfl
  | some v=>obtain⟨x,rfl⟩:=this v e;simp[ren]
 cases a with
 | lit u=>cases b with
  | lit w=>simp only[ren];exact(key u w).symm
  | _=>cases u <;> simp[ren,A9c]
 | _=>simp[ren,A9c]
theorem E1x (op:UnOp) (a:AV):unV op (ren p g a)=(unV op a).map (ren p g):= by
 cases a with
 | lit u=>cases op <;> cases u <;> simp[ren,unV]
 | _=>cases op <;> simp[ren,unV]
theorem D4z (a b:AV):A4s (ren p g a) (ren p g b)=A4s a b:= by
 cases a with
 | lit u=>cases b with
  | lit w=>simp only[ren]
  | _=>cases u <;> simp[ren,A4s]
 | _=>simp[ren,A4s]
theorem B4o:∀(a b:List AV),I4 (renL p g a) (renL p g b)=I4 a b
 | [],[]=>rfl
 | [],_::_=>by simp[renL,I4]
 | _::_,[]=>by simp[renL,I4]
 | x::a,y::b=>by simp only[renL,I4,D4z,B4o a b]
theorem A7k:∀(ks:List Nat) (a:List AV),kinds ks (renL p g a)=kinds ks a
 | [],[]=>rfl
 | [],x::a=>by simp[renL,kinds]
 | k::ks,[]=>by simp[renL,kinds]
 | k::ks,x::a=>by
  have ih:=A7k ks a
  cases x with
  | lit u =>
   simp only[renL,ren]
   cases u <;> (match k with
    | 0|1|2|(n+3)=>simp only[kinds,ih])
  | _=>simp[renL,ren,kinds]
theorem A0s (ag:Bool) (v:AV):J9 ag (ren p g v)=(J9 ag v).map (renL p g):= by
 cases ag <;> cases v <;> simp[ren,J9,renL]
theorem B13 (ag:Bool) (ks:List Nat) (k:List AV):∀(es:List (AV×AV)) (i:Nat),findKey ag ks (renL p g k) (es.map fun e=>(ren p g e.1,ren p g e.2)) i=(findKey ag ks k es i).map (Z62 fun x=>(x.1,ren p g x.2))
 | [],i=>rfl
 | e::es,i=>by
  simp only[Zt,findKey,A0s]
  cases J9 ag e.1 with
  | none=>rfl
  | some l =>
   simp only[Zb,A7k,B4o,B13 ag ks k es (i+1)]
   split
   ·cases I4 k l with
    | none=>rfl
    | some t=>cases t <;> rfl
   ·rfl
theorem C4u:∀(ps:List (Nat×Nat×AV)) (cs:List AV),B1l (renL p g cs) (ps.map fun q=>(q.1,q.2.1,ren p g q.2.2))=(B1l cs ps).map (renL p g)
 | [],cs=>rfl
 | (o,n,v)::ps,cs=>by
  simp only[Zt,B1l,A4f,Z0]
  split
  ·rw[A57];exact C4u ps _
  ·rfl
theorem D0a (l:List (List AV)) (i:Nat) (r:List AV):renR p g (l.set i r)=(renR p g l).set i (renL p g r):= by
 simp only[A2y,P0,Z2h]
theorem B7g (k:Nat):∀(ps:List (Nat×AV)) (rows:List (List AV)),A5c k (renR p g rows) (ps.map fun q=>(q.1,ren p g q.2))=(A5c k rows ps).map (renR p g)
 | [],rows=>rfl
 | (i,v)::ps,rows=>by
  simp only[Zt,A5c,A4f,Z0,M2]
  split
  ·rw[← D0a];exact B7g k ps _
  ·rfl
theorem D3w (mx:Bool):∀(l:List AV) (a:AV),mmV mx (ren p g a) (renL p g l)=(mmV mx a l).map (ren p g)
 | [],a=>by simp[renL,mmV]
 | y::l,a=>by
  cases a with
  | lit u =>
   cases u with
   | int k x =>
    cases y with
    | lit w =>
     cases w with
     | int k' z =>
      simp only[renL,ren,mmV]
      split
      ·have:=D3w mx l (.lit (.int k (if mx=true then if z>x then z else x else if z<x then z else x)))
       simpa only[ren] using this
      ·rfl
     | _=>simp[renL,ren,mmV]
    | _=>simp[renL,ren,mmV]
   | _=>simp[renL,ren,mmV]
  | _=>simp[renL,ren,mmV]
include hG
theorem B49 {H:A2} (hp:p≤H.length) (v:AV):A0n (G7 p g G H) (ren p g v)=(A0n H v).map (renR p g):= by
 cases v with
 | asl b n =>
  simp only[ren,A0n,A28 hG hp]
  cases harr H b with
  | none =>
   simp only[Z2s,B54 hG hp]
   cases hstk H b with
   | none=>rfl
   | some x=>simp only[Zb,M2];split <;> rfl
  | some x=>simp only[Zb,M2];split <;> rfl
 | csl b o k n =>
  simp only[ren,A0n,B0z hG hp]
  cases hcells H b with
  | none=>rfl
  | some cs =>
   simp only[Zb,Z0]
   split
   ·simp only[Zb,A2y,P0,Z1f,Z1a,Z0p,Z10]
   ·rfl
 | _=>simp[ren,A0n,renR]
theorem C64 {H:A2} (hp:p≤H.length) (v:AV):kOf (G7 p g G H) (ren p g v)=kOf H v:= by
 cases v with
 | asl b n =>
  simp only[ren,kOf,A28 hG hp]
  cases harr H b with
  | none=>simp only[Z2s,B54 hG hp];cases hstk H b <;> rfl
  | some x=>rfl
 | _=>simp[ren,kOf]
theorem B6j {H:A2} (hp:p≤H.length) (v:AV):H6 (G7 p g G H) (ren p g v)=(H6 H v).map (renL p g):= by
 cases v with
 | ptr b o =>
  simp only[ren,H6,B0z hG hp]
  cases hcells H b with
  | none=>rfl
  | some cs=>simp only[Zb,P0,Z10]
 | eptr b n i o =>
  simp only[ren,H6,A28 hG hp]
  cases harr H b with
  | none=>rfl
  | some x =>
   simp only[Zb,M2]
   split
   ·simp only[A2y,ZN]
    cases x.2.2[i]? with
    | none=>rfl
    | some r=>simp only[Zb,P0,Z10]
   ·rfl
 | _=>simp[ren,H6]
end
def ScB (p g B B':Nat):Prop:=(B≤p∧B'=B)∨(p≤B∧B'=B+g)∨(B=p∧p≤B'∧B'≤p+g)
inductive ScBs (p g:Nat):List Nat→List Nat→Prop
 | nil:ScBs p g [] []
 | cons {B B':Nat} {l l':List Nat} (h:ScB p g B B') (k:ScBs p g l l'):ScBs p g (B::l) (B'::l')
 | extra {B':Nat} {l l':List Nat} (h:∀b,B'≤rb p g b) (k:ScBs p g l l'):ScBs p g l (B'::l')
 | drop {l l':List Nat} (k:ScBs p g l l'):ScBs p g (0::l) l'
structure ScR (p g:Nat) (c c':Sc):Prop where
 cur:ScB p g c.cur c'.cur
 outer:ScBs p g c.outer c'.outer
section
variable {p g:Nat} {G:A2} (hG:G.length=g)
theorem ScB.lt {B B':Nat} (h:ScB p g B B') (b:Nat):ZU (rb p g b) B'=ZU b B:= by
 have:rb p g b<B'↔b<B:= by
  rcases h with⟨h1,rfl⟩|⟨h1,rfl⟩|⟨rfl,h1,h2⟩
  ·by_cases hb:b<p
   ·rw[A61 hb]
   ·rw[A5e (by omega)];omega
  ·by_cases hb:b<p
   ·rw[A61 hb];omega
   ·rw[A5e (by omega)];omega
  ·by_cases hb:b<B
   ·rw[A61 hb];omega
   ·rw[A5e (by omega)];omega
 cases h1:ZU (rb p g b) B' <;> cases h2:ZU b B <;> first|rfl|skip
 ·have:=this.2 (Zp h2)
  have:=Zl this
  unfold ZU at h1;rw[h1]at this;cases this
 ·have:=this.1 (Zp h1)
  have:=Zl this
  unfold ZU at h2;rw[h2]at this;cases this
theorem ScB.le {B B':Nat} (h:ScB p g B B') (b:Nat):ZH B' (rb p g b)=ZH B b:= by
 have:B'≤rb p g b↔B≤b:= by
  rcases h with⟨h1,rfl⟩|⟨h1,rfl⟩|⟨rfl,h1,h2⟩
  ·by_cases hb:b<p
   ·rw[A61 hb]
   ·rw[A5e (by omega)];omega
  ·by_cases hb:b<p
   ·rw[A61 hb];omega
   ·rw[A5e (by omega)];omega
  ·by_cases hb:b<B
   ·rw[A61 hb];omega
   ·rw[A5e (by omega)];omega
 cases h1:ZH B' (rb p g b) <;> cases h2:ZH B b <;> first|rfl|skip
 ·have:=Zl (this.2 (Zp h2));rw[h1]at this;cases this
 ·have:=Zl (this.1 (Zp h1));rw[h2]at this;cases this
mutual
theorem bd_ren {B B':Nat} (h:ScB p g B B'):(v:AV)→(ren p g v).bd B'=v.bd B
 | .lit _|.nils _|.seq _ _|.fresh _ _|.undef=>by simp only[ren,AV.bd]
 | .xseq _ rows=>by simp only[ren,AV.bd];exact bdR_ren h rows
 | .ptr b _|.itr b|.eptr b _ _ _|.asl b _|.csl b _ _ _|.mp b=>by simp only[ren,AV.bd];exact h.lt b
 | .cptr cs|.agg cs|.tup cs=>by simp only[ren,AV.bd];exact bdL_ren h cs
 | .fn f a c=>by
  simp only[ren]
  cases f <;> simp only[B6s,AV.bd,bdL_ren h a,bdL_ren h c,h.lt]
theorem bdL_ren {B B':Nat} (h:ScB p g B B'):(l:List AV)→bdL B' (renL p g l)=bdL B l
 | []=>by simp only[renL,bdL]
 | v::l=>by simp only[renL,bdL,bd_ren h v,bdL_ren h l]
theorem bdR_ren {B B':Nat} (h:ScB p g B B'):(l:List (List AV))→bdR B' (renR p g l)=bdR B l
 | []=>by simp only[renR,bdR]
 | v::l=>by simp only[renR,bdR,bdL_ren h v,bdR_ren h l]
end
theorem E3i {c c':Sc} (h:ScR p g c c') (b:Nat) (v:AV):c'.ok (rb p g b) (ren p g v)=c.ok b v:= by
 have:(c'.outer.all fun B=>ZH B (rb p g b)||(ren p g v).bd B)=c.outer.all fun B=>ZH B b||v.bd B:= by
  have h1:=h.outer
  generalize c.outer=l at h1
  generalize c'.outer=l' at h1
  induction h1 with
  | nil=>rfl
  | cons h1 _ ih=>simp only[ZS,h1.le,bd_ren h1,ih]
  | extra h1 _ ih=>rw[ZS,Zl (h1 b),ih];rfl
  | drop _ ih=>rw[ZS,Zl (Z2p b),ih];rfl
 simp only[Sc.ok,D5t,h.cur.le,bd_ren h.cur,this]
theorem C7g {c c':Sc} (h:ScR p g c c') (b:Nat):∀l:List AV,c'.okL (rb p g b) (renL p g l)=c.okL b l
 | []=>by simp only[renL,Sc.okL]
 | v::l=>by simp only[renL,Sc.okL,E3i h,C7g h b l]
theorem rbn {n0:Nat} (hn:p≤n0) (r:Nat):rb p g (n0+r)=n0+g+r:= by rw[A5e (by omega)];omega
include hG
theorem W5 {H:A2} (hp:p≤H.length) {n0:Nat} (hn:p≤n0) (r:Nat) (o:AO):hset (G7 p g G H) (n0+g+r) (L4 p g o)=G7 p g G (hset H (n0+r) o):= by
 rw[← rbn hn];exact N5 hG hp _ _
theorem B9h {n0:Nat} (hn:p≤n0):∀(owns:List (Nat×Nat×Nat)) (zs:List AV) {H:A2} (hp:p≤H.length),P3 (n0+g) owns (renL p g zs) (G7 p g G H)=(renL p g (P3 n0 owns zs H).1,G7 p g G (P3 n0 owns zs H).2)
 | [],zs,H,hp=>rfl
 | (j,r,k)::l,zs,H,hp=>by
  simp only[P3]
  have h1:(renL p g zs).set j (.asl (n0+g+r) 0)=renL p g (zs.set j (.asl (n0+r) 0)):= by
   rw[P0,P0,Z2h];simp only[ren,rbn hn]
  have h2:hset (G7 p g G H) (n0+g+r) (.arr k false [])=G7 p g G (hset H (n0+r) (.arr k false [])):= by
   rw[← W5 hG hp hn];simp only[L4,renR]
  rw[h1,h2]
  exact B9h hn l _ (by rw[I5];exact hp)
omit hG
theorem A53 (l:List (List AV)) (n:Nat):renR p g (l.take n)=(renR p g l).take n:= by simp only[A2y,Z0p]
theorem B0f (l:List (List AV)) (n:Nat):renR p g (l.drop n)=(renR p g l).drop n:= by simp only[A2y,Z10]
theorem C24 (n:Nat) (z:List AV):renR p g (Zv n z)=Zv n (renL p g z):= by simp only[A2y,P0,Z2a]
theorem B2x (l m:List (List AV)):renR p g (l++m)=renR p g l++renR p g m:= by simp only[A2y,Z00]
theorem B8h (l:List AV) (n:Nat):renL p g (l.take n)=(renL p g l).take n:= by simp only[P0,Z0p]
theorem B3u (l:List AV) (n:Nat):renL p g (l.drop n)=(renL p g l).drop n:= by simp only[P0,Z10]
theorem B6t (l:List AV) (n:Nat):(renL p g l)[n]? = (l[n]?).map (ren p g):= by simp only[P0,ZN]
theorem C22 (l:List (List AV)) (n:Nat):(renR p g l)[n]? = (l[n]?).map (renL p g):= by
 simp only[A2y,ZN]
 congr 1;funext r;rw[P0]
theorem C00 (l:List (List AV)) (k:Nat):((renR p g l).all fun x=>ZC x.length k)=l.all fun x=>ZC x.length k:= by
 rw[A2y,Z1p];congr 1;funext x;simp only[Z1a,Zi]
theorem C50:∀l:List (List AV),renL p g l.flatten=(renR p g l).flatten
 | []=>by simp[renL,renR]
 | r::l=>by rw[Z1b,renR,Z1b,← C50 l,P0,P0,P0,Z00]
theorem C23 (z:List AV) (n:Nat):renR p g (Zv n z)=Zv n (renL p g z):= by simp only[A2y,Z2a,P0]
include hG
theorem C9y (hS:GrO p G) {c c':Sc} (hc:ScR p g c c') {n0:Nat} (hn:p≤n0) {H:A2} (hp:p≤H.length) (s:C2) (op:AOp):prim c' (n0+g) (P7 p g s) (G7 p g G H) (K5 p g op)=(prim c n0 s H op).map (ren2 p g G):= by
 cases op with
 | call=>rfl
 | mv x=>simp only[K5,prim,J8];cases ev s x <;> rfl
 | pick x a b =>
  simp only[K5,prim,J8]
  cases ev s x with
  | none=>rfl
  | some v =>
   cases v with
   | lit u=>cases u with
    | bool t=>cases t <;> simp only[Zb,ren] <;> first|(cases ev s a <;> rfl)|(cases ev s b <;> rfl)
    | _=>rfl
   | _=>rfl
 | nil k r=>simp only[K5,prim,Zb,ren2,ren,rbn hn,← W5 hG hp hn,L4,renR]
 | alloc zs owns r =>
  simp only[K5,prim,B9h hG hn owns zs hp,Zb,ren2,ren,rbn hn]
  rw[← W5 hG (by rw[B20];exact hp) hn];simp only[L4]
 | box n x r =>
  simp only[K5,prim,J8]
  cases ev s x with
  | none=>rfl
  | some v =>
   simp only[Zb,A4f,Z0]
   split
   ·simp only[Zb,ren2,ren,rbn hn,← W5 hG hp hn,L4]
   ·rfl
 | build z parts =>
  simp only[K5,prim,B8s]
  cases V0 s parts with
  | none=>rfl
  | some ps =>
   simp only[Zb,Zd,C4u]
   cases B1l z ps with
   | none=>rfl
   | some cs=>simp only[Zb,ren2,ren]
 | lits k z n parts own =>
  simp only[K5,prim,B0r]
  cases M6 s parts with
  | none=>rfl
  | some ps =>
   simp only[Zb,Zd,← C23,B7g]
   cases A5c k (Zv n z) ps with
   | none=>rfl
   | some rows =>
    simp only[Zb,Zd,B5z]
    split
    ·cases own with
     | none=>simp only[Zb,ren2,ren]
     | some r=>simp only[Zb,ren2,ren,rbn hn,← W5 hG hp hn,L4]
    ·rfl
 | xlits k z n parts =>
  simp only[K5,prim,B0r]
  cases M6 s parts with
  | none=>rfl
  | some ps =>
   simp only[Zb,Zd,← C23,B7g]
   cases A5c k (Zv n z) ps with
   | none=>rfl
   | some rows=>simp only[Zb,ren2,ren]
 | load k a =>
  cases k with
  | none =>
   simp only[K5,prim,J8]
   cases ev s a with
   | none=>rfl
   | some v =>
    simp only[Zb,B6j hG hp]
    cases H6 H v with
    | none=>rfl
    | some l=>cases l <;> simp only[Zb,renL] <;> rfl
  | some k =>
   simp only[K5,prim,J8]
   cases ev s a with
   | none=>rfl
   | some v =>
    simp only[Zb,B6j hG hp]
    cases H6 H v with
    | none=>rfl
    | some l =>
     simp only[Zb,Z0]
     split
     ·simp only[Zb,ren2,ren,B8h]
     ·rfl
 | storeN a k r =>
  simp only[K5,prim,J8]
  cases ev s a with
  | none=>rfl
  | some u =>
   cases u with
   | ptr b o =>
    have hp1:p≤(hset H (n0+r) (.arr k false [])).length:= by simp only[hset,Z0t];exact hp
    have e:hset (G7 p g G H) (n0+g+r) (.arr k false [])=G7 p g G (hset H (n0+r) (.arr k false [])):=W5 hG hp hn r (.arr k false [])
    have e3:([.asl (n0+g+r) 0]:List AV)=renL p g [.asl (n0+r) 0]:= by simp only[renL,ren,rbn hn]
    simp only[Zb,ren]
    rw[e,A6k hG hp1]
    cases X2 (hset H (n0+r) (.arr k false [])) b with
    | none=>rfl
    | some cs =>
     rw[e3]
     simp only[Zb,Z0,C7g hc,A57]
     split
     ·simp only[Zb,ren2,ren,← N5 hG hp1,L4,A57]
      try rfl
     ·rfl
   | _=>rfl
 | store k a x =>
  simp only[K5,prim,J8]
  cases ev s a with
  | none=>rfl
  | some u =>
   cases ev s x with
   | none=>cases u <;> rfl
   | some v =>
    cases u with
    | ptr b o =>
     simp only[Zb,ren,A6k hG hp]
     cases X2 H b with
     | none=>rfl
     | some cs =>
      simp only[Zb,A4f,Z0,C7g hc,A57]
      split
      ·simp only[Zb,ren2,ren,renL,← N5 hG hp,L4]
      ·rfl
    | eptr b n i o =>
     simp only[Zb,ren,A4f,B5w hG v.cellsOf hp]
     cases e:Z4 H v.cellsOf with
     | none=>rfl
     | some r =>
      have hp':p≤r.2.length:= by rw[A91 e];exact hp
      simp only[Zb,A5k hG hp']
      cases A05 r.2 b with
      | none=>rfl
      | some y =>
       obtain⟨kk,q,rows⟩:=y
       cases q with
       | true=>rfl
       | false =>
        simp only[Zb,C22]
        cases rows[i]? with
        | none=>rfl
        | some rr =>
         simp only[Zb,M2,Z0,B1w]
         split
         ·simp only[Zb,ren2,ren,renL,← N5 hG hp',L4,D0a,A57]
         ·rfl
    | _=>rfl
 | nilck x =>
  simp only[K5,prim,J8]
  cases ev s x with
  | none=>rfl
  | some v=>cases v with
   | fn f a b=>cases f <;> simp only[Zb,ren,B6s] <;> first|rfl|simp only[Zb,ren2,ren,B6s]
   | _=>simp only[Zb,ren] <;> first|rfl|simp only[Zb,ren2,ren]
 | bin op x y =>
  simp only[K5,prim,J8]
  cases ev s x with
  | none=>rfl
  | some u =>
   cases ev s y with
   | none=>rfl
   | some v=>simp only[Zb,D6r];cases A9c op u v <;> rfl
 | beq n x y =>
  simp only[K5,prim,J8]
  cases ev s x with
  | none=>rfl
  | some u =>
   cases ev s y with
   | none=>cases u with
    | lit u=>cases u <;> rfl
    | _=>rfl
   | some v=>cases u with
    | lit u=>cases u with
     | bool a=>cases v with
      | lit v=>cases v <;> simp only[Zb,ren] <;> first|rfl|simp only[Zb,ren2,ren]
      | _=>rfl
     | _=>rfl
    | _=>rfl
 | cmp n ks x y =>
  simp only[K5,prim,J8]
  cases ev s x with
  | none=>rfl
  | some u =>
   cases ev s y with
   | none=>cases u <;> rfl
   | some v=>cases u with
    | agg a=>cases v with
     | agg b =>
      simp only[Zb,ren,A7k,B4o]
      split
      ·cases I4 a b with
       | none=>rfl
       | some t=>simp only[Zb,ren2,ren]
      ·rfl
     | _=>rfl
    | _=>rfl
 | un op x =>
  simp only[K5,prim,J8]
  cases ev s x with
  | none=>rfl
  | some u=>simp only[Zb,E1x];cases unV op u <;> rfl
 | conv k x =>
  simp only[K5,prim,J8]
  cases ev s x with
  | none=>rfl
  | some u=>cases u with
   | lit u=>cases u <;> simp only[Zb,ren] <;> first|rfl|simp only[Zb,ren2,ren]
   | _=>rfl
 | idc x =>
  simp only[K5,prim,J8]
  cases ev s x with
  | none=>rfl
  | some u=>cases u with
   | lit u=>cases u <;> simp only[Zb,ren] <;> first|rfl|simp only[Zb,ren2,ren]
   | _=>rfl
 | mkfn f a b =>
  simp only[K5,prim,C0a]
  cases evs s a with
  | none=>rfl
  | some u=>cases evs s b with
   | none=>rfl
   | some v=>simp only[Zb,ren2,ren]
 | mkmap r=>simp only[K5,prim,Zb,ren2,ren,rbn hn,← W5 hG hp hn,L4,Z0z]
 | mkslice k bytes z x y r =>
  simp only[K5,prim,J8]
  cases ev s x with
  | none=>rfl
  | some u =>
   cases ev s y with
   | none=>cases u with
    | lit u=>cases u with
     | int k1 a=>cases k1 <;> rfl
     | _=>rfl
    | _=>rfl
   | some v=>cases u with
    | lit u=>cases u with
     | int k1 a=>cases v with
      | lit v=>cases v with
       | int k2 b =>
        cases k1 <;> cases k2 <;> simp only[Zb,ren] <;> first|rfl|skip
        split
        ·simp only[Zb,ren2,ren,rbn hn,← W5 hG hp hn,L4,C23]
        ·rfl
       | _=>cases k1 <;> rfl
      | _=>cases k1 <;> rfl
     | _=>rfl
    | _=>rfl
 | sliceS x lo hi =>
  simp only[K5,prim,J8,B26]
  cases ev s x with
  | none=>rfl
  | some u=>cases u with
   | lit u=>cases u with
    | string b =>
     simp only[Zb,ren]
     cases bnd s 0 lo with
     | none=>rfl
     | some l=>cases bnd s b.size hi with
      | none=>rfl
      | some h=>simp only;split <;> first|rfl|simp only[Zb,ren2,ren]
    | _=>rfl
   | _=>rfl
 | mvz x =>
  simp only[K5,prim,J8]
  cases ev s x with
  | none=>rfl
  | some u=>simp only[Zb,B5v hG hp]
 | sliceL kk x lo hi =>
  simp only[K5,prim,J8,B26]
  cases ev s x with
  | none=>rfl
  | some u =>
   simp only[Zb,B5v hG hp]
   cases U4 H u with
   | none=>rfl
   | some r =>
    obtain⟨w,H1⟩:=r
    cases w with
    | seq k rows =>
     simp only[Zb,ren2,ren,M2]
     cases bnd s 0 lo with
     | none=>rfl
     | some l=>cases bnd s rows.length hi with
      | none=>rfl
      | some h=>simp only;split <;> first|rfl|simp only[Zb,ren2,ren,A53,B0f]
    | _=>simp only[Zb,ren2,ren] <;> rfl
 | sliceQ kk x lo hi =>
  simp only[K5,prim,J8,B26]
  cases ev s x with
  | none=>rfl
  | some u =>
   simp only[Zb,Zd,D51 hG hp]
   cases A8e H u with
   | none=>rfl
   | some r =>
    obtain⟨k,rows⟩:=r
    simp only[Zb,M2]
    cases bnd s 0 lo with
    | none=>rfl
    | some l=>cases bnd s rows.length hi with
     | none=>rfl
     | some h=>simp only;split <;> first|rfl|simp only[Zb,ren2,ren,A53,B0f]
 | nilq q x =>
  simp only[K5,prim,J8]
  cases ev s x with
  | none=>rfl
  | some u=>cases u with
   | seq k rows=>cases rows <;> simp[ren,ren2,renR]
   | _=>simp[ren,ren2]
 | sliceA k n x hi =>
  simp only[K5,prim,J8]
  cases ev s x with
  | none=>rfl
  | some u=>cases u with
   | ptr b o =>
    simp only[Zb,ren,B0z hG hp,B26]
    cases hcells H b with
    | none=>rfl
    | some cs=>cases bnd s n hi with
     | none=>rfl
     | some h=>simp only[Zb,Z0];split <;> first|rfl|simp only[Zb,ren2,ren]
   | _=>rfl
 | fieldAddr off x =>
  simp only[K5,prim,J8]
  cases ev s x with
  | none=>rfl
  | some u=>cases u <;> simp only[Zb,ren] <;> first|rfl|simp only[Zb,ren2,ren,B3u]
 | field k off x =>
  simp only[K5,prim,J8]
  cases ev s x with
  | none=>rfl
  | some u=>cases u with
   | agg cs=>cases k with
    | none=>simp only[Zb,ren,B6t];cases cs[off]? <;> rfl
    | some k=>simp only[Zb,ren,Z0];split <;> first|rfl|simp only[Zb,ren2,ren,B3u,B8h]
   | _=>rfl
 | idxS k x i =>
  simp only[K5,prim,J8]
  cases ev s x with
  | none=>rfl
  | some u =>
   cases ev s i with
   | none=>cases u <;> rfl
   | some v=>cases v with
    | lit v=>cases v with
     | int k1 n=>cases u with
      | seq k' rows =>
       simp only[Zb,ren,C22]
       split
       ·cases rows[n.toNat]? with
        | none=>rfl
        | some r=>simp only[Zb,ren2,ren]
       ·rfl
      | xseq k' rows =>
       simp only[Zb,ren,C22]
       split
       ·cases rows[n.toNat]? with
        | none=>rfl
        | some r=>simp only[Zb,ren2,ren]
       ·rfl
      | asl b m =>
       simp only[Zb,ren,A28 hG hp]
       cases harr H b with
       | none=>rfl
       | some y =>
        simp only[Zb,M2]
        split
        ·simp only[Zb,ren2,ren]
        ·rfl
      | csl b o m q =>
       simp only[Zb,ren,A28 hG hp]
       cases harr H b with
       | none=>rfl
       | some y =>
        simp only[Zb,M2]
        split
        ·simp only[Zb,ren2,ren]
        ·rfl
      | _=>rfl
     | _=>cases u <;> rfl
    | _=>cases u <;> rfl
 | idxA k n x i =>
  simp only[K5,prim,J8]
  cases ev s x with
  | none=>rfl
  | some u =>
   cases ev s i with
   | none=>cases u <;> rfl
   | some v=>cases v with
    | lit v=>cases v with
     | int k1 m=>cases u <;> simp only[Zb,ren] <;> first|rfl|(split <;> first|rfl|simp only[Zb,ren2,ren,B3u])
     | _=>cases u <;> rfl
    | _=>cases u <;> rfl
 | idxStr x i =>
  simp only[K5,prim,J8]
  cases ev s x with
  | none=>rfl
  | some u =>
   cases ev s i with
   | none=>cases u with
    | lit u=>cases u <;> rfl
    | _=>rfl
   | some v=>cases u with
    | lit u=>cases u with
     | string b=>cases v with
      | lit v=>cases v with
       | int k1 m =>
        simp only[Zb,ren]
        split
        ·cases b[m.toNat]? <;> simp[ren2,ren]
        ·rfl
       | _=>rfl
      | _=>rfl
     | _=>rfl
    | _=>rfl
 | idxAgg k sz n x i =>
  simp only[K5,prim,J8]
  cases ev s x with
  | none=>rfl
  | some u =>
   cases ev s i with
   | none=>cases u <;> rfl
   | some v=>cases v with
    | lit v=>cases v with
     | int k1 m=>cases u with
      | agg cs =>
       simp only[Zb,ren]
       split
       ·cases k with
        | none=>simp only[B6t];cases cs[m.toNat*sz]? <;> rfl
        | some k=>simp only[Z0];split <;> first|rfl|simp only[Zb,ren2,ren,B3u,B8h]
       ·rfl
      | _=>rfl
     | _=>cases u <;> rfl
    | _=>cases u <;> rfl
 | lookup z ag ks x i ok =>
  simp only[K5,prim,J8]
  cases ev s x with
  | none=>rfl
  | some u =>
   cases ev s i with
   | none=>rfl
   | some key =>
    cases u with
    | mp b =>
     simp only[Zb,ren,B19 hG hp,A0s]
     cases hmap H b with
     | none=>cases J9 ag key <;> rfl
     | some es =>
      cases J9 ag key with
      | none=>rfl
      | some cs =>
       simp only[Zb,A7k,B13]
       split
       ·cases findKey ag ks cs es 0 with
        | none=>rfl
        | some q=>cases q with
         | none=>cases ok <;> simp[ren2,ren,renL]
         | some q=>cases ok <;> simp[ren2,ren,renL]
       ·rfl
    | lit u=>cases u with
     | map m=>cases m with
      | none =>
       simp only[Zb,ren,A0s]
       cases J9 ag key with
       | none=>rfl
       | some cs =>
        simp only[Zb,A7k]
        split
        ·cases ok <;> simp[findKey,ren2,ren,renL]
        ·rfl
      | some m=>simp only[Zb,ren,A0s];cases J9 ag key <;> rfl
     | _=>simp only[Zb,ren,A0s];cases J9 ag key <;> rfl
    | _=>simp only[Zb,ren,A0s];cases J9 ag key <;> rfl
 | mupd ag ks m x v =>
  simp only[K5,prim,J8]
  cases ev s m with
  | none=>rfl
  | some u =>
   cases ev s x with
   | none=>cases u <;> rfl
   | some key =>
    cases ev s v with
    | none=>cases u <;> rfl
    | some w=>cases u with
     | mp b =>
      simp only[Zb,ren,D43 hG hp,A0s]
      cases B18 H b with
      | none=>rfl
      | some es=>cases J9 ag key with
       | none=>rfl
       | some cs =>
        have he:(renL p g w.cellsOf).isEmpty=w.cellsOf.isEmpty:= by rw[P0];cases w.cellsOf <;> rfl
        simp only[Zb,A7k,A4f,B1w,he,B13]
        split
        ·cases findKey ag ks cs es 0 with
         | none=>rfl
         | some q=>cases q with
          | none=>simp only[Zb,Z2s,ren2,ren,renL,← N5 hG hp,L4,Z00,Zt,Z0z]
          | some q=>simp only[Zb,ren2,ren,renL,← N5 hG hp,L4,Z2h]
        ·rfl
     | _=>rfl
 | range x r =>
  simp only[K5,prim,J8]
  cases ev s x with
  | none=>rfl
  | some u=>cases u with
   | lit u=>cases u <;> simp only[Zb,ren] <;> first|rfl|simp only[Zb,ren2,ren,rbn hn,← W5 hG hp hn,L4]
   | _=>rfl
 | rangeM x r =>
  simp only[K5,prim,J8]
  cases ev s x with
  | none=>rfl
  | some u=>cases u with
   | mp b =>
    simp only[Zb,ren,B19 hG hp]
    cases hmap H b with
    | none=>rfl
    | some es=>simp only[Zb,ren2,ren,rbn hn,← W5 hG hp hn,L4,Zi]
   | _=>rfl
 | entry x =>
  simp only[K5,prim,J8]
  cases ev s x with
  | none=>rfl
  | some u=>cases u with
   | itr b =>
    simp only[Zb,ren,D5j hG hp]
    cases B1m H b with
    | none=>rfl
    | some e=>rfl
   | _=>rfl
 | next x =>
  simp only[K5,prim,J8]
  cases ev s x with
  | none=>rfl
  | some u=>cases u with
   | itr b =>
    simp only[Zb,ren,T1 hG hp]
    cases hget H b with
    | none=>rfl
    | some o=>cases o with
     | iter t q =>
      simp only[Zb,L4]
      split
      ·simp only[Zb,ren2,ren,renL,← N5 hG hp,L4]
      ·simp only[Zb,ren2,ren,renL]
     | _=>rfl
   | _=>rfl
 | extract x i =>
  simp only[K5,prim,J8]
  cases ev s x with
  | none=>rfl
  | some u=>cases u with
   | tup cs=>simp only[Zb,ren,B6t];cases cs[i]? <;> rfl
   | _=>rfl
 | lenS x =>
  simp only[K5,prim,J8]
  cases ev s x with
  | none=>rfl
  | some u=>cases u with
   | lit u=>cases u <;> simp only[Zb,ren] <;> first|rfl|simp only[Zb,ren2,ren]
   | _=>rfl
 | lenM x =>
  simp only[K5,prim,J8]
  cases ev s x with
  | none=>rfl
  | some u=>cases u with
   | mp b =>
    simp only[Zb,ren,B19 hG hp]
    cases hmap H b <;> simp[ren2,ren]
   | lit u=>cases u with
    | map m=>cases m <;> simp[ren,ren2]
    | _=>rfl
   | _=>rfl
 | lenL x =>
  simp only[K5,prim,J8]
  cases ev s x with
  | none=>rfl
  | some u=>cases u with
   | asl b n =>
    simp only[Zb,ren,A28 hG hp]
    cases harr H b with
    | none =>
     simp only[Z2s,B54 hG hp]
     cases hstk H b with
     | none=>rfl
     | some y=>simp only[Zb,M2];split <;> simp[ren2,ren]
    | some y=>simp only[Zb,M2];split <;> simp[ren2,ren]
   | _=>simp[ren,ren2,M2]
 | mm mx xs =>
  simp only[K5,prim,C0a]
  cases evs s xs with
  | none=>rfl
  | some l=>cases l with
   | nil=>simp[renL]
   | cons x l=>simp only[Zb,renL,D3w];cases mmV mx x l <;> rfl
 | append k bytes d x r fz =>
  simp only[K5,prim,J8]
  cases ev s d with
  | none=>rfl
  | some u =>
   cases ev s x with
   | none=>rfl
   | some v =>
    simp only[Zb,B49 hG hp,C64 hG hp]
    cases A0n H v with
    | none=>rfl
    | some new=>cases kOf H v with
     | none=>rfl
     | some k' =>
      simp only[Zb,B5z]
      split
      ·cases u with
       | nils kk =>
        simp only[ren,M2]
        split
        ·cases fz with
         | true=>cases r with
          | none=>simp only[Zb,ren2,ren]
          | some r =>
           simp only[C00]
           split
           ·simp only[Zb,ren2,ren,rbn hn,← W5 hG hp hn,L4,Z0z]
           ·rfl
         | false=>cases r with
          | none=>rfl
          | some r=>simp only[Zb,ren2,ren,rbn hn,← W5 hG hp hn,L4]
        ·rfl
       | asl b n =>
        simp only[ren,A5k hG hp]
        cases A05 H b with
        | none =>
         simp only[Z2s]
         cases fz with
         | false=>rfl
         | true=>cases r with
          | none=>rfl
          | some r =>
           simp only[D48 hG hp]
           cases B53 H b with
           | none=>rfl
           | some y =>
            have e1:ZU (rb p g b) (n0+g+r)=ZU b (n0+r):=ScB.lt (.inr (.inl ⟨by omega,by omega⟩)) b
            simp only[Zb,M2,C00,e1,D7e hG hS hp]
            split
            ·simp only[Zb,ren2,ren,rbn hn,← W5 hG hp hn,L4,B2x,Zt]
            ·rfl
        | some y =>
         simp only[Zb,M2]
         split
         ·cases fz with
          | true=>cases r with
           | none=>simp only[Zb,ren2,ren,B2x,← N5 hG hp,L4]
           | some r=>rfl
          | false=>cases r <;> simp only[Zb,ren2,ren,B2x,← N5 hG hp,L4]
         ·rfl
       | _=>rfl
      ·rfl
 | copy k d x =>
  simp only[K5,prim,J8]
  cases ev s d with
  | none=>rfl
  | some u =>
   cases ev s x with
   | none=>cases u <;> rfl
   | some v=>cases u with
    | asl b n =>
     simp only[Zb,ren,A5k hG hp,B49 hG hp,C64 hG hp]
     cases A05 H b with
     | none=>rfl
     | some y =>
      obtain⟨kk,q,rows⟩:=y
      cases q with
      | true=>cases A0n H v <;> cases kOf H v <;> rfl
      | false=>cases A0n H v with
       | none=>cases kOf H v <;> rfl
       | some src=>cases kOf H v with
        | none=>rfl
        | some k' =>
         simp only[Zb,M2,B5z]
         split
         ·simp only[Zb,ren2,ren,← N5 hG hp,L4,B2x,A53,B0f]
         ·rfl
    | csl b o kk n =>
     simp only[Zb,ren,A6k hG hp,B49 hG hp,C64 hG hp]
     cases X2 H b with
     | none=>rfl
     | some cs =>
      cases A0n H v with
      | none=>cases kOf H v <;> rfl
      | some src=>cases kOf H v with
       | none=>rfl
       | some k' =>
        simp only[Zb,M2,Z0,B5z]
        split
        ·simp only[Zb,ren2,ren,← N5 hG hp,L4,← A57,C50,A53]
        ·rfl
    | _=>rfl
 | sub kk x lo hi =>
  simp only[K5,prim,J8,B26]
  cases ev s x with
  | none=>rfl
  | some u=>cases u with
   | seq k rows =>
    simp only[Zb,ren,M2]
    cases bnd s 0 lo with
    | none=>rfl
    | some l=>cases bnd s rows.length hi with
     | none=>rfl
     | some h=>simp only;split <;> first|rfl|simp only[Zb,ren2,ren,A53,B0f]
   | asl b n =>
    simp only[Zb,ren,A28 hG hp]
    cases harr H b with
    | none=>rfl
    | some y =>
     obtain⟨k,q,rows⟩:=y
     simp only[Zb,M2]
     cases bnd s 0 lo with
     | none=>rfl
     | some l=>cases bnd s n hi with
      | none=>rfl
      | some h =>
       simp only
       split
       ·simp only[Zb,ren2]
        split <;> simp only[ren,renR]
       ·rfl
   | _=>rfl
 | clear k z x =>
  simp only[K5,prim,J8]
  cases ev s x with
  | none=>rfl
  | some u=>cases u with
   | csl b o m n =>
    simp only[Zb,ren,A5k hG hp]
    cases A05 H b with
    | none=>rfl
    | some y =>
     obtain⟨kk,q,rows⟩:=y
     cases q with
     | true=>rfl
     | false =>
      simp only[Zb,M2]
      split
      ·simp only[Zb,ren2,ren,renL,← N5 hG hp,L4,B2x,A53,B0f,C24]
      ·rfl
   | _=>rfl
 | cut k x hi r =>
  simp only[K5,prim,J8]
  cases ev s x with
  | none=>rfl
  | some u=>cases u with
   | asl b n =>
    simp only[Zb,ren,A5k hG hp,B26]
    cases A05 H b with
    | none=>rfl
    | some y =>
     obtain⟨kk,q,rows⟩:=y
     cases q with
     | true=>rfl
     | false=>cases bnd s n hi with
      | none=>rfl
      | some h =>
       simp only[Zb,M2]
       split
       ·have e1:hset (G7 p g G H) (rb p g b) .dead=G7 p g G (hset H b .dead):= by rw[← N5 hG hp];simp only[L4]
        simp only[Zb,ren2,ren,rbn hn,e1]
        rw[← W5 hG (by rw[I5];exact hp) hn];simp only[L4,A53]
       ·rfl
   | _=>rfl
end
section
variable {p g:Nat} {G:A2} (hG:G.length=g)
include hG
theorem U8 {B B':Nat} (hB:ScB p g B B') {H:A2} (hp:p≤H.length) (v:AV):A1u B' (G7 p g G H) (ren p g v)=(A1u B H v).map (ren2 p g G):= by
 cases v with
 | asl b n =>
  have hf:=C6v hG hp (.asl b n)
  simp only[ren]at hf
  simp only[ren,A1u,A5k hG hp,hB.le]
  cases A05 H b with
  | none=>exact hf
  | some y =>
   obtain⟨k,q,rows⟩:=y
   cases q with
   | true=>exact hf
   | false =>
    simp only[Zb,M2]
    split
    ·split
     ·simp only[Zb,ren2,ren,← N5 hG hp,L4]
     ·rfl
    ·exact hf
 | nils k=>simp[ren,A1u,ren2,renR]
 | _=>simp[ren,A1u,ren2]
omit hG
include hG
theorem C5u {B B':Nat} (hB:ScB p g B B'):∀(l:List AV) {H:A2} (hp:p≤H.length),W8 B' (G7 p g G H) (renL p g l)=(W8 B H l).map fun r=>(renL p g r.1,G7 p g G r.2)
 | [],H,hp=>by simp[W8,renL]
 | v::l,H,hp=>by
  simp only[renL,W8,U8 hG hB hp]
  cases e:A1u B H v with
  | none=>rfl
  | some r =>
   simp only[Zb,ren2]
   rw[C5u hB l (by rw[C2o e];exact hp)]
   cases W8 B r.2 l with
   | none=>rfl
   | some q=>simp[renL]
theorem D8v {B B':Nat} (hB:ScB p g B B') {H:A2} (hp:p≤H.length) (v:AV):X7 B' (G7 p g G H) (ren p g v)=(X7 B H v).map (ren2 p g G):= by
 cases v with
 | agg cs =>
  simp only[ren,X7,C5u hG hB cs hp]
  cases W8 B H cs <;> simp[ren2,ren]
 | nils k=>have:=U8 hG hB hp (.nils k);simpa [ren,X7] using this
 | lit u=>have:=U8 hG hB hp (.lit u);simpa [ren,X7] using this
 | seq k rows=>have:=U8 hG hB hp (.seq k rows);simpa [ren,X7] using this
 | xseq k rows=>have:=U8 hG hB hp (.xseq k rows);simpa [ren,X7] using this
 | ptr b o=>have:=U8 hG hB hp (.ptr b o);simpa [ren,X7] using this
 | itr b=>have:=U8 hG hB hp (.itr b);simpa [ren,X7] using this
 | eptr b n i o=>have:=U8 hG hB hp (.eptr b n i o);simpa [ren,X7] using this
 | cptr cs=>have:=U8 hG hB hp (.cptr cs);simpa [ren,X7] using this
 | asl b n=>have:=U8 hG hB hp (.asl b n);simpa [ren,X7] using this
 | csl b o k n=>have:=U8 hG hB hp (.csl b o k n);simpa [ren,X7] using this
 | mp b=>have:=U8 hG hB hp (.mp b);simpa [ren,X7] using this
 | fn f a c=>have:=U8 hG hB hp (.fn f a c);simpa [ren,X7] using this
 | tup cs=>have:=U8 hG hB hp (.tup cs);simpa [ren,X7] using this
 | fresh k rows=>have:=U8 hG hB hp (.fresh k rows);simpa [ren,X7] using this
 | undef=>have:=U8 hG hB hp .undef;simpa [ren,X7] using this
theorem C5v {B B':Nat} (hB:ScB p g B B'):∀(l:List AV) {H:A2} (hp:p≤H.length),S7 B' (G7 p g G H) (renL p g l)=(S7 B H l).map fun r=>(renL p g r.1,G7 p g G r.2)
 | [],H,hp=>by simp[S7,renL]
 | v::l,H,hp=>by
  simp only[renL,S7,D8v hG hB hp]
  cases e:X7 B H v with
  | none=>rfl
  | some r =>
   simp only[Zb,ren2]
   rw[C5v hB l (by rw[C9p e];exact hp)]
   cases S7 B r.2 l with
   | none=>rfl
   | some q=>simp[renL]
theorem D3i {n0:Nat} (hn:p≤n0) {H:A2} (hp:p≤H.length) (own:List (Nat×Nat)) (j:Nat) (v:AV):inC (n0+g) (G7 p g G H) own j (ren p g v)=ren2 p g G (inC n0 H own j v):= by
 cases v with
 | fresh k rows =>
  simp only[ren,inC]
  cases A0k j own with
  | none=>simp only[ren2,ren]
  | some r=>simp only[ren2,ren,rbn hn,M2,← W5 hG hp hn,L4]
 | _=>simp[ren,inC,ren2]
omit hG
include hG
theorem C81 {n0:Nat} (hn:p≤n0) (own:List (Nat×Nat)):∀(l:List AV) (j:Nat) {H:A2} (hp:p≤H.length),A4u (n0+g) (G7 p g G H) own j (renL p g l)=(renL p g (A4u n0 H own j l).1,G7 p g G (A4u n0 H own j l).2)
 | [],j,H,hp=>by simp[A4u,renL]
 | v::l,j,H,hp=>by
  simp only[renL,A4u,D3i hG hn hp,ren2]
  rw[C81 hn own l (j+1) (by rw[C6z];exact hp)]
theorem E0j {n0:Nat} (hn:p≤n0) {H:A2} (hp:p≤H.length) (own:List (Nat×Nat)) (v:AV):inV (n0+g) (G7 p g G H) own (ren p g v)=ren2 p g G (inV n0 H own v):= by
 cases v with
 | agg cs=>simp only[ren,inV,C81 hG hn own cs 0 hp,ren2]
 | fresh k rows=>have:=D3i hG hn hp own 0 (.fresh k rows);simpa [ren,inV] using this
 | _=>simp[ren,inV,inC,ren2]
theorem C1w {n0:Nat} (hn:p≤n0):∀(l:List AV) (own:List (List (Nat×Nat))) {H:A2} (hp:p≤H.length),Z5 (n0+g) (G7 p g G H) (renL p g l) own=(renL p g (Z5 n0 H l own).1,G7 p g G (Z5 n0 H l own).2)
 | [],own,H,hp=>by simp[Z5,renL]
 | v::l,own,H,hp=>by
  simp only[renL,Z5,E0j hG hn hp,ren2]
  rw[C1w hn l own.tail (by rw[D3m];exact hp)]
omit hG
theorem C2q (l:List AV):packed (renL p g l)=ren p g (packed l):= by
 cases l with
 | nil=>simp[renL,packed,ren]
 | cons v l=>cases l <;> simp[renL,packed,ren]
theorem C1y {H:A2} (hp:p≤H.length) {B:Nat} (hB:p≤B) (hG:G.length=g):(G7 p g G H).take (B+g)=G7 p g G (H.take B):= by
 unfold G7
 have hl:((H.take p).map (L4 p g)).length=p:= by simp;omega
 rw[Z34,hl,ZR (by rw[hl];omega),Z34,hG,ZR (l:=G) (by omega),List.take_take,Nat.min_eq_left hB]
 congr 2
 rw[← Z0p,Z5p]
 congr 2;omega
theorem B8m {B B':Nat} (hB:p≤B) (hB':B'=B+g) {H:A2} (hp:p≤H.length) (hG:G.length=g) (rs:List AV):trunc B' (renL p g rs) (G7 p g G H)=G7 p g G (trunc B rs H):= by
 subst hB'
 unfold trunc
 rw[bdL_ren (.inr (.inl ⟨hB,Z⟩))]
 split
 ·exact C1y hp hB hG
 ·rfl
theorem B8l {B:Nat} (hB:p≤B) {H:A2} (hp:p≤H.length) (rs:List AV):p≤(trunc B rs H).length:= by
 unfold trunc;split
 ·rw[ZD];omega
 ·exact hp
include hG
theorem C1s {H:A2} (hp:p≤H.length):∀l:List Nat,hide (G7 p g G H) (l.map (rb p g))=G7 p g G (hide H l)∧(hide H l).length=H.length
 | []=>⟨Z,Z⟩
 | b::l=>by
  obtain⟨h1,h2⟩:=C1s hp l
  constructor
  ·simp only[Zt,hide,h1]
   rw[← N5 hG (by rw[h2];exact hp)];simp only[L4]
  ·simp only[hide,I5,h2]
theorem C3j {H0 H:A2} (hp0:p≤H0.length) (hp:p≤H.length):∀l:List Nat,unhide (G7 p g G H0) (G7 p g G H) (l.map (rb p g))=G7 p g G (unhide H0 H l)∧(unhide H0 H l).length=H.length
 | []=>⟨Z,Z⟩
 | b::l=>by
  obtain⟨h1,h2⟩:=C3j hp0 hp l
  simp only[Zt,unhide,T1 hG hp0,h1]
  cases hget H0 b with
  | none=>exact⟨Z,h2⟩
  | some o =>
   simp only[Zb]
   exact⟨N5 hG (by rw[h2];exact hp) b o,by rw[I5,h2]⟩
omit hG
theorem C6k (v:AV):(ren p g v).box? = v.box?.map (rb p g):= by cases v <;> simp[ren,AV.box?]
include hG
theorem C1n {H:A2} (hp:p≤H.length):∀(l:List Nat) (b:Nat),follow (G7 p g G H) (rb p g b) l=(follow H b l).map (rb p g)
 | [],b=>rfl
 | o::l,b=>by
  simp only[follow,B0z hG hp]
  cases hcells H b with
  | none=>rfl
  | some cs =>
   simp only[Zb,B6t]
   cases h:cs[o]? with
   | none=>rfl
   | some v =>
    simp only[Zb,Zd,C6k]
    cases v.box? with
    | none=>rfl
    | some b'=>exact C1n hp l b'
theorem D0s (s:C2) {H:A2} (hp:p≤H.length):∀l:List (Nat×List Nat),ways (P7 p g s) (G7 p g G H) l=(ways s H l).map (Zg (rb p g))
 | []=>rfl
 | x::l=>by
  simp only[ways,B0i]
  cases sget s x.1 with
  | none=>rfl
  | some v =>
   simp only[Zb,Zd,C6k]
   cases v.box? with
   | none=>rfl
   | some b =>
    simp only[Zb,C1n hG hp,D0s s hp l]
    cases follow H b x.2 with
    | none=>rfl
    | some b'=>cases ways s H l <;> rfl
omit hG
theorem C3n (op:AOp):writes (K5 p g op)=writes op:= by cases op <;> rfl
theorem E0x {n0:Nat} (hn:p≤n0) (l:List Nat):l.map (n0+g + ·)=(l.map (n0 + ·)).map (rb p g):= by
 rw[Z1f];congr 1;funext r;simp only[Z1a];exact(rbn hn r).symm
theorem C77 {B B':Nat} (h:ScB p g B B') (l:List Nat):((l.map (rb p g)).all fun b=>ZU b B')=l.all fun b=>ZU b B:= by
 rw[Z1p];congr 1;funext b;exact h.lt b
include hG
theorem D7i {n0:Nat} (hn:p≤n0) (s:C2) {H:A2} (hp:p≤H.length) (o:AOper):A4t (n0+g) (P7 p g s) (G7 p g G H) (A02 p g o)=(A4t n0 s H o).map (Zg (rb p g)):= by
 unfold A4t
 simp only[A02,E0x hn]
 obtain⟨h1,h2⟩:=C1s hG hp (o.hid.map (n0 + ·))
 rw[h1,D0s hG s (by rw[h2];exact hp)]
 cases ways s (hide H (o.hid.map (n0 + ·))) o.hida with
 | none=>rfl
 | some bs =>
  have e2:((bs.map (rb p g)).all fun b=>(hstk (G7 p g G (hide H (o.hid.map (n0 + ·)))) b).isNone)=bs.all fun b=>(hstk (hide H (o.hid.map (n0 + ·))) b).isNone:= by
   rw[Z1p];congr 1;funext b
   simp only[Z1a,B54 hG (show p≤(hide H (o.hid.map (n0 + ·))).length by rw[h2];exact hp)]
   cases hstk (hide H (o.hid.map (n0 + ·))) b <;> rfl
  simp only[Zb,C3n,← Z00,e2]
  rw[C77 (.inr (.inl ⟨hp,A3w hG hp⟩))]
  split <;> rfl
omit hG
theorem D02 (op:AOp):N4 (K5 p g op)=(N4 op).map (F8 p g):= by cases op <;> rfl
theorem D9b (s:C2) (op:AOp):rbox (P7 p g s) (K5 p g op)=(rbox s op).map (rb p g):= by
 unfold rbox;rw[D02]
 cases N4 op with
 | none=>rfl
 | some x =>
  simp only[Zb,Zd,J8]
  cases ev s x with
  | none=>rfl
  | some v=>exact C6k v
abbrev hcR (p g:Nat) (hc:List (Option (List Nat))):List (Option (List Nat)):=hc.map (Z62 (Zg (rb p g)))
theorem D2e (s:C2) (o:AOper) (hc:List (Option (List Nat))):P8 (P7 p g s) (A02 p g o) (hcR p g hc)=P8 s o hc:= by
 unfold P8
 simp only[A02,D9b]
 cases rbox s o.op with
 | none=>rfl
 | some b =>
  simp only[Zb,hcR,← Z0p,Z1p]
  congr 1;funext e
  cases e with
  | none=>rfl
  | some hs=>simp only[Z1a,Zb,B0q]
theorem D2n (s:C2) (x:Option (Nat×Bool)):wanted (P7 p g s) x=wanted s x:= by
 cases x with
 | none=>rfl
 | some x =>
  simp only[wanted,B0i]
  cases sget s x.1 with
  | none=>rfl
  | some v=>cases v with
   | lit u=>cases u <;> simp[ren]
   | tup cs=>cases cs <;> simp[ren,renL]
   | _=>simp[ren]
theorem C3d (s:C2) (d:Option Nat) (v:AV):sput (P7 p g s) d (ren p g v)=P7 p g (sput s d v):= by cases d <;> rfl
include hG
theorem C8r {H:A2} (hp:p≤H.length) (v:AV):Y4 (G7 p g G H) (ren p g v)=(Y4 H v).map (G7 p g G):= by
 have other:(U4 (G7 p g G H) (ren p g v)).map (·.2)=((U4 H v).map (·.2)).map (G7 p g G):= by
  rw[B5v hG hp]
  cases U4 H v <;> rfl
 cases v with
 | ptr b off =>
  simp only[ren,Y4,A6k hG hp]
  cases X2 H b with
  | none=>rfl
  | some cs =>
   simp only[Zb,B5w hG cs hp]
   cases e:Z4 H cs with
   | none=>rfl
   | some r =>
    have hp':p≤r.2.length:= by rw[A91 e];exact hp
    simp only[Zb,A6k hG hp']
    cases X2 r.2 b with
    | none=>rfl
    | some cs1=>simp only[Zb,← N5 hG hp',L4]
 | _=>first|exact other|(simp only[ren]at other;simp only[ren,Y4];exact other)
theorem B9d (s:C2):∀(l:List Nat) {H:A2} (hp:p≤H.length),publish (P7 p g s) (G7 p g G H) l=(publish s H l).map (G7 p g G)∧∀ H',publish s H l=some H'→H'.length=H.length
 | [],H,hp=>⟨Z,fun H' h=>by simp only[publish,Za]at h;subst h;rfl⟩
 | t::l,H,hp=>by
  simp only[publish,B0i]
  cases sget s t with
  | none=>exact⟨Z,fun H' h=>by cases h⟩
  | some v =>
   simp only[Zb,C8r hG hp]
   cases e:Y4 H v with
   | none=>exact⟨Z,fun H' h=>by cases h⟩
   | some r =>
    have hl:=B8w e
    obtain⟨h1,h2⟩:=B9d s l (H:=r) (by rw[hl];exact hp)
    exact⟨h1,fun H' h=>by rw[h2 H' h,hl]⟩
theorem C2u {H:A2} (hp:p≤H.length) (v:AV):pubbed (G7 p g G H) (ren p g v)=pubbed H v:= by
 cases v with
 | asl b n=>simp only[ren,pubbed,A28 hG hp];cases harr H b <;> rfl
 | _=>simp[ren,pubbed]
theorem C9z {H:A2} (hp:p≤H.length) (v:AV):R6 (G7 p g G H) (ren p g v)=R6 H v:= by
 cases v with
 | agg cs =>
  simp only[ren,R6,P0,Z1p]
  congr 1;funext x;exact C2u hG hp x
 | asl b n=>have:=C2u hG hp (.asl b n);simpa [ren,R6] using this
 | _=>simp[ren,R6,pubbed]
omit hG
theorem D0p (o:AO):(L4 p g o).toRo=L4 p g o.toRo:= by
 cases o <;> simp[L4,AO.toRo]
theorem E20 (H:A2):(G7 p g G H).map AO.toRo=G7 p g (G.map AO.toRo) (H.map AO.toRo):= by
 unfold G7
 simp only[Z00,Z1f,Z0p,Z10]
 congr 2
 ·congr 1;funext o;exact D0p o
 ·congr 2;funext o;exact D0p o
theorem E2u (hS:GrO p G):GrO p (G.map AO.toRo):= by
 intro o ho b hb
 obtain⟨x,hx,rfl⟩:=ZK.1 ho
 have:=hS x hx b hb
 cases x with
 | ro o=>cases o <;> exact this
 | _=>first|rfl|exact this
theorem C45 (hG:G.length=g) {H:A2} (hp:p≤H.length) (own:List (List (Nat×Nat))) (l:List AV):A1n own (G7 p g G H) (renL p g l)=(A1n own H l).map fun r=>(renL p g r.1,G7 p g G r.2):= by
 unfold A1n
 split
 ·rfl
 ·exact C48 hG l hp
theorem A88 (hG:G.length=g) (hS:GrO p G) (s:C2) {H:A2} (hp:p≤H.length):∀l:List ARes,results (P7 p g s) (G7 p g G H) l=(results s H l).map (renL p g)
 | []=>by simp[results,renL]
 | .tmp t::l=>by
  simp only[results,B0i,A88 hG hS s hp l]
  cases sget s t with
  | none=>rfl
  | some v=>cases results s H l <;> simp[renL]
 | .cell t k::l=>by
  simp only[results,A88 hG hS s hp l]
  have h1:prim ⟨0,[]⟩ 0 (P7 p g s) (G7 p g G H) (.load k (.t t))=prim ⟨0,[]⟩ (p+g) (P7 p g s) (G7 p g G H) (.load k (.t t)):= by cases k <;> rfl
  have h2:prim ⟨0,[]⟩ 0 s H (.load k (.t t))=prim ⟨0,[]⟩ p s H (.load k (.t t)):= by cases k <;> rfl
  rw[h1,h2]
  have:=C9y hG hS (c:=⟨0,[]⟩) (c':=⟨0,[]⟩) ⟨.inl ⟨Z2p _,Z⟩,.nil⟩ (Zn p) hp s (.load k (.t t))
  simp only[K5,F8]at this
  rw[this]
  cases prim ⟨0,[]⟩ p s H (.load k (.t t)) with
  | none=>rfl
  | some r=>cases results s H l <;> simp[renL,ren2]
theorem B0m:∀(l:List AV) (i:Nat),M0 i (renL p g l)=P7 p g (M0 i l)
 | [],i=>by simp[renL,M0,P7]
 | v::l,i=>by simp only[renL,M0,B0m l,P7,Zt]
theorem Z1 (s:C2):∀l:List Nat,restrict (P7 p g s) l=P7 p g (restrict s l)
 | []=>rfl
 | t::l=>by
  simp only[restrict,B0i,Z1 s l]
  cases sget s t <;> rfl
theorem B68 {B B':Nat} (h:ScB p g B B'):∀s:C2,A1m B' (P7 p g s)=A1m B s
 | []=>rfl
 | x::s=>by simp only[P7,Zt,A1m,bd_ren h];rw[← P7,B68 h s]
theorem D3o {H:A2} (hp:p≤H.length) (l:List AO):G7 p g G (H++l)=G7 p g G H++l.map (L4 p g):= by
 unfold G7
 rw[List.take_append_of_le_length hp,Z2e hp]
 simp only[Z00,ZB]
theorem C99 (a b:List AV):renL p g (a++b)=renL p g a++renL p g b:= by simp only[P0,Z00]
structure RenM (p g:Nat) (M:Mach):Prop where
 call:∀{G:A2},G.length=g→GrO p G→∀ {c c':Sc} {H:A2} {f:AV} {aq rs:List AV} {H':A2},ScR p g c c'→p≤H.length→M.call c H f aq=some (rs,H')→M.call c' (G7 p g G H) (ren p g f) (renL p g aq)=some (renL p g rs,G7 p g G H')∧p≤H'.length
 code:∀{G:A2},G.length=g→GrO p G→∀ {ac:ACode} {st:St} {e:Ex} {st':St} {c':Sc},ScR p g st.c c'→p≤st.H.length→M.code ac st=some (e,st') →
  M.code (K3 p g ac) ⟨P7 p g st.s,G7 p g G st.H,c'⟩=some (e,⟨P7 p g st'.s,G7 p g G st'.H,c'⟩)∧p≤st'.H.length∧st'.c=st.c
theorem D05 {M:Mach} (hM:RenM p g M) (hG:G.length=g) (hS:GrO p G) {c c':Sc} (hc:ScR p g c c') {n0:Nat} (hn:p≤n0) {s:C2} {H:A2} (hp:p≤H.length) {f:Opd} {args:List Opd} {own:List (List (Nat×Nat))} {pure:Bool} {r:AV×A2} (h:W2 M c n0 s H f args own pure=some r) :
  W2 M c' (n0+g) (P7 p g s) (G7 p g G H) (F8 p g f) (args.map (F8 p g)) own pure=some (ren2 p g G r)∧p≤r.2.length:= by
 unfold W2 at h ⊢
 rw[J8,C0a]
 split at h
 ·next fv aq e1 e2 =>
  simp only[e1,e2,Zb]
  cases pure with
  | true =>
   simp only[if_true]at h ⊢
   have e0:(lend own||(renL p g aq).all (R6 (G7 p g G H)))=(lend own||aq.all (R6 H)):= by
    congr 1
    rw[P0,Z1p];congr 1;funext v;exact C9z hG hp v
   rw[e0]
   split at h
   ·next h0 =>
    simp only[h0,if_true]
    rw[C45 hG hp own aq]
    split at h
    ·cases h
    ·next as' H1 e3 =>
     simp only[e3,Zb]
     split at h
     ·cases h
     ·next rs H2 e4 =>
      have:=hM.call (G:=G.map AO.toRo) (by simpa using hG) (E2u hS) hc (by simpa using hp) e4
      rw[E20,this.1]
      simp only
      rw[A3w hG hp,bdL_ren (.inr (.inl ⟨hp,Z⟩))]
      split at h
      ·next h5 =>
       simp only[h5,if_true]
       simp only[Za]at h;subst h
       rw[C1w hG hn rs own hp]
       exact⟨by simp only[C2q],by rw[B2c];exact hp⟩
      ·cases h
   ·cases h
  | false =>
   simp only[Zj,if_false]at h ⊢
   rw[C45 hG hp own aq]
   split at h
   ·cases h
   ·next as' H1 e3 =>
    have hl:=C44 e3
    simp only[e3,Zb]
    split at h
    ·cases h
    ·next rs H2 e4 =>
     have:=hM.call hG hS hc (by rw[hl];exact hp) e4
     rw[this.1]
     simp only[Za]at h;subst h
     simp only
     rw[C1w hG hn rs own this.2]
     exact⟨by simp only[C2q],by rw[B2c];exact this.2⟩
 ·cases h
theorem D6y {M:Mach} (hM:RenM p g M) (hG:G.length=g) (hS:GrO p G) {c c':Sc} (hc:ScR p g c c') {n0:Nat} (hn:p≤n0) {s:C2} {H:A2} (hp:p≤H.length) {op:AOp} {r:AV×A2} (h:core M c n0 s H op=some r) :
  core M c' (n0+g) (P7 p g s) (G7 p g G H) (K5 p g op)=some (ren2 p g G r)∧p≤r.2.length:= by
 have hk:(∃ f args own pure,op=.call f args own pure)∨((∀ (M:Mach) (c:Sc) (n0:Nat) (s:C2) (H:A2),core M c n0 s H op=prim c n0 s H op)∧∀ (M:Mach) (c:Sc) (n0:Nat) (s:C2) (H:A2),core M c n0 s H (K5 p g op)=prim c n0 s H (K5 p g op)):= by
  cases op <;> first
   | exact .inl ⟨_,_,_,_,Z⟩
   | exact .inr ⟨fun _ _ _ _ _=>rfl,fun _ _ _ _ _=>rfl⟩
 rcases hk with⟨f,args,own,pure,rfl⟩|⟨h1,h2⟩
 ·exact D05 hM hG hS hc hn hp h
 ·rw[h1]at h
  rw[h2,C9y hG hS hc hn hp s op,h]
  exact⟨Z,by rw[C9x h];exact hp⟩
theorem D8u {M:Mach} (hM:RenM p g M) (hG:G.length=g) (hS:GrO p G) {c c':Sc} (hc:ScR p g c c') {n0:Nat} (hn:p≤n0) {s:C2} {H:A2} (hp:p≤H.length) {hc0:List (Option (List Nat))} {o:AOper} {s1:C2} {H1:A2} {hc1:List (Option (List Nat))} (h:oper M c n0 s H hc0 o=some (s1,H1,hc1)) :
  oper M c' (n0+g) (P7 p g s) (G7 p g G H) (hcR p g hc0) (A02 p g o)=some (P7 p g s1,G7 p g G H1,hcR p g hc1)∧p≤H1.length:= by
 unfold oper at h ⊢
 have hw:wanted (P7 p g s) (A02 p g o).guard=wanted s o.guard:=D2n s o.guard
 have hwr:writes (A02 p g o).op=writes o.op:=C3n o.op
 rw[hw,D7i hG hn s hp o,D2e,hwr]
 split at h
 ·cases h
 ·next e0 =>
  simp only[Za,Zf]at h
  obtain⟨rfl,rfl,rfl⟩:=h
  try simp only[e0]
  refine⟨?_,hp⟩
  have:sput (P7 p g s) (A02 p g o).dst (.tup [])=P7 p g (sput s o.dst (.tup [])):= by
   have:=C3d (p:=p) (g:=g) s o.dst (.tup []);simpa [ren,renL,A02] using this
  rw[this]
  cases writes o.op <;> rfl
 ·next e0 =>
  try simp only[e0]
  split at h
  ·next hs e1 e2 =>
   simp only[e1,e2,Zb]
   obtain⟨k1,k2⟩:=C1s hG hp hs
   rw[k1]
   split at h
   ·next r e3 =>
    obtain⟨k3,k4⟩:=D6y hM hG hS hc hn (by rw[k2];exact hp) e3
    have e4:(A02 p g o).op=K5 p g o.op:=rfl
    rw[e4,k3]
    simp only
    have hE:(hs.map (rb p g)).isEmpty=hs.isEmpty:= by cases hs <;> rfl
    have hL:ZH (G7 p g G H).length (G7 p g G r.2).length=ZH H.length r.2.length:= by
     rw[A3w hG hp,A3w hG k4]
     cases h1:ZH H.length r.2.length with
     | true=>exact Zl (by have:=Zp h1;omega)
     | false =>
      cases h2:ZH (H.length+g) (r.2.length+g) with
      | false=>rfl
      | true =>
       have:=Zp h2
       have:=Zl (show H.length≤r.2.length by omega)
       rw[h1]at this;cases this
    rw[hE,hL]
    split at h
    ·next h5 =>
     simp only[h5,if_true]
     simp only[Za,Zf]at h
     obtain⟨rfl,rfl,rfl⟩:=h
     obtain⟨k5,k6⟩:=C3j hG hp k4 hs
     refine⟨?_,by rw[k6];exact k4⟩
     rw[k5]
     have:sput (P7 p g s) (A02 p g o).dst (ren2 p g G r).1=P7 p g (sput s o.dst r.1):=C3d s o.dst r.1
     rw[this]
     cases writes o.op <;> rfl
    ·cases h
   ·cases h
  ·cases h
theorem C5s {M:Mach} (hM:RenM p g M) (hG:G.length=g) (hS:GrO p G) {c c':Sc} (hc:ScR p g c c') {n0:Nat} (hn:p≤n0):∀{l:List AOper} {s:C2} {H:A2} (hp:p≤H.length) {hc0:List (Option (List Nat))} {s1:C2} {H1:A2},opers M c n0 l s H hc0=some (s1,H1) →
  opers M c' (n0+g) (l.map (A02 p g)) (P7 p g s) (G7 p g G H) (hcR p g hc0)=some (P7 p g s1,G7 p g G H1)∧p≤H1.length
 | [],s,H,hp,hc0,s1,H1,h=>by
  simp only[opers,Za,Zf]at h
  obtain⟨rfl,rfl⟩:=h
  exact⟨Z,hp⟩
 | o::l,s,H,hp,hc0,s1,H1,h=>by
  simp only[opers,Zt]at h ⊢
  split at h
  ·cases h
  ·next s2 H2 hc2 e1 =>
   obtain⟨k1,k2⟩:=D8u hM hG hS hc hn hp e1
   simp only[k1]
   exact C5s hM hG hS hc hn k2 h
theorem C07 (hG:G.length=g) {liveX:List Nat} {l:Nat} {c c':Sc} {e e':Ex} {st st':St} {c2:Sc} (hp:p≤st.H.length) (h:A4q liveX l c e st=some (e',st')) :
  A4q liveX (rb p g l) c' e ⟨P7 p g st.s,G7 p g G st.H,c2⟩=some (e',⟨P7 p g st'.s,G7 p g G st'.H,c'⟩)∧p≤st'.H.length∧st'.c=c:= by
 unfold A4q at h ⊢
 simp only[T1 hG hp]
 split at h
 ·next m n seen hg =>
  rw[hg]
  simp only[Za,Zf]at h
  obtain⟨rfl,rfl⟩:=h
  simp only[Zb,L4]
  refine⟨?_,by rw[I5];exact hp,trivial⟩
  rw[← N5 hG hp,Z1];rfl
 ·cases h
theorem C6l {M:Mach} (hM:RenM p g M) (hG:G.length=g) (hS:GrO p G) {ac:ACode} {st:St} {e:Ex} {st':St} {c':Sc} (hc:ScR p g st.c c') (hp:p≤st.H.length) (h:F1 M st ac=some (e,st')) :
  F1 M ⟨P7 p g st.s,G7 p g G st.H,c'⟩ (K3 p g ac)=some (e,⟨P7 p g st'.s,G7 p g G st'.H,c'⟩)∧p≤st'.H.length∧st'.c=st.c:= by
 cases ac with
 | skip=>simp only[F1,Za,Zf]at h;obtain⟨rfl,rfl⟩:=h;exact⟨Z,hp,Z⟩
 | exit id=>simp only[F1,Za,Zf]at h;obtain⟨rfl,rfl⟩:=h;exact⟨Z,hp,Z⟩
 | ret=>simp only[F1,Za,Zf]at h;obtain⟨rfl,rfl⟩:=h;exact⟨Z,hp,Z⟩
 | scope a=>exact hM.code hG hS hc hp h
 | region d nres pre ops live =>
  simp only[F1,K3]at h ⊢
  obtain⟨k1,k2⟩:=B9d hG st.s pre hp
  rw[k1]
  split at h
  ·next H e1 =>
   have hl:=k2 H e1
   simp only[e1,Zb]
   split at h
   ·next r e2 =>
    simp only[Za,Zf]at h
    obtain⟨rfl,rfl⟩:=h
    have hp':p≤H.length:= by rw[hl];exact hp
    have:=C5s hM hG hS hc (n0:=H.length) hp' (by simp;omega) e2
    rw[D3o hp',Z2a]at this
    rw[A3w hG hp']
    simp only[L4,hcR,Z0z]at this
    rw[this.1]
    exact⟨by simp only[Z1],this.2,Z⟩
   ·cases h
  ·cases h
 | seq a b =>
  simp only[F1,K3]at h ⊢
  cases h1:M.code a st with
  | none=>simp[h1]at h
  | some q =>
   obtain⟨e1,st1⟩:=q
   obtain⟨k1,k2,k3⟩:=hM.code hG hS hc hp h1
   rw[h1]at h
   rw[k1]
   cases e1 with
   | normal =>
    simp only at h ⊢
    obtain⟨k4,k5,k6⟩:=hM.code hG hS (c':=c') (by rw[k3];exact hc) k2 h
    exact⟨k4,k5,k6.trans k3⟩
   | exit id=>simp only[Za,Zf]at h;obtain⟨rfl,rfl⟩:=h;exact⟨Z,k2,k3⟩
   | ret=>simp only[Za,Zf]at h;obtain⟨rfl,rfl⟩:=h;exact⟨Z,k2,k3⟩
 | cond x a b =>
  simp only[F1,K3,J8]at h ⊢
  split at h
  ·next e1=>simp only[e1,Zb,ren];exact hM.code hG hS hc hp h
  ·next e1=>simp only[e1,Zb,ren];exact hM.code hG hS hc hp h
  ·cases h
 | block id a =>
  simp only[F1,K3]at h ⊢
  cases h1:M.code a st with
  | none=>simp[h1]at h
  | some q =>
   obtain⟨e1,st1⟩:=q
   obtain⟨k1,k2,k3⟩:=hM.code hG hS hc hp h1
   rw[h1]at h
   rw[k1]
   cases e1 with
   | exit j =>
    simp only at h ⊢
    split at h
    ·next hj=>simp only[hj,if_true];simp only[Za,Zf]at h;obtain⟨rfl,rfl⟩:=h;exact⟨Z,k2,k3⟩
    ·next hj=>simp only[hj];simp only[Za,Zf]at h;obtain⟨rfl,rfl⟩:=h;exact⟨Z,k2,k3⟩
   | normal=>simp only[Za,Zf]at h;obtain⟨rfl,rfl⟩:=h;exact⟨Z,k2,k3⟩
   | ret=>simp only[Za,Zf]at h;obtain⟨rfl,rfl⟩:=h;exact⟨Z,k2,k3⟩
 | loop tr live body =>
  simp only[F1,K3]at h ⊢
  rw[A3w hG hp,Z1]
  have hcb:ScR p g (if tr then { s:=restrict st.s live,H:=st.H,c:=⟨st.H.length,st.c.cur::st.c.outer⟩ } else { st with s:=restrict st.s live }:St).c (if tr then ⟨st.H.length+g,c'.cur::c'.outer⟩ else c'):= by
   cases tr with
   | true=>exact⟨.inr (.inl ⟨hp,Z⟩),.cons hc.cur hc.outer⟩
   | false=>exact hc
  cases h1:M.code body (if tr then { s:=restrict st.s live,H:=st.H,c:=⟨st.H.length,st.c.cur::st.c.outer⟩ } else { st with s:=restrict st.s live }) with
  | none=>simp[h1]at h
  | some q =>
   obtain⟨e1,st1⟩:=q
   obtain⟨k1,k2,k3⟩:=hM.code hG hS hcb (by cases tr <;> exact hp) h1
   rw[h1]at h
   have k1':M.code (K3 p g body) (if tr then { s:=P7 p g (restrict st.s live),H:=G7 p g G st.H,c:=⟨st.H.length+g,c'.cur::c'.outer⟩ } else { s:=P7 p g (restrict st.s live),H:=G7 p g G st.H,c:=c' })=some (e1,⟨P7 p g st1.s,G7 p g G st1.H,if tr then ⟨st.H.length+g,c'.cur::c'.outer⟩ else c'⟩):= by
    cases tr with
    | true=>simpa using k1
    | false=>simpa using k1
   rw[k1']
   cases e1 with
   | normal =>
    simp only[Z1]at h ⊢
    cases tr with
    | true =>
     simp only[if_true]at h ⊢
     rw[B68 (.inr (.inl ⟨hp,Z⟩))]
     split at h
     ·next h5 =>
      simp only[h5,if_true]
      rw[C1y k2 hp hG]
      have:=hM.code hG hS (ac:=.loop true live body) (st:={ s:=restrict st1.s live,H:=st1.H.take st.H.length,c:=st.c }) (c':=c') hc (by rw[ZD];omega) h
      exact this
     ·cases h
    | false =>
     simp only[Zj,if_false]at h ⊢
     exact hM.code hG hS (ac:=.loop false live body) (st:={ s:=restrict st1.s live,H:=st1.H,c:=st.c }) (c':=c') hc k2 h
   | exit id=>simp only[Za,Zf]at h;obtain⟨rfl,rfl⟩:=h;exact⟨Z,k2,Z⟩
   | ret=>simp only[Za,Zf]at h;obtain⟨rfl,rfl⟩:=h;exact⟨Z,k2,Z⟩
 | loopM x nx ok live0 live liveX rest =>
  simp only[F1,K3,J8]at h ⊢
  split at h
  ·next l hl =>
   simp only[hl,Zb,ren,T1 hG hp]
   split at h
   ·next m n seen hg =>
    simp only[hg,Zb,L4,B19 hG hp]
    split at h
    ·next es hes =>
     simp only[hes,Zb,Zi]
     split at h
     ·next hif =>
      rw[if_pos hif]
      have hs0:∀t:Bool,(ok,AV.b t)::restrict (P7 p g st.s) live0=P7 p g ((ok,.b t)::restrict st.s live0):=fun t=>by rw[Z1];rfl
      split at h
      ·next he =>
       rw[if_pos he,hs0]
       split at h
       ·cases h
       ·next e1 st1 hne h1 =>
        obtain⟨k1,k2,k3⟩:=hM.code hG hS (st:={ st with s:=(ok,.b false)::restrict st.s live0 }) (c':=c') hc hp h1
        have k4:=C07 (c':=c') (c2:=c') hG k2 h
        simp only at k1
        rw[k1]
        have hen:e1≠.normal:= by rintro rfl;first|exact hne Z|exact hne _ Z
        cases e1 with
        | normal=>exact absurd Z hen
        | _=>exact k4
       ·cases h
      ·next he =>
       rw[if_neg he]
       have hn0:M8 n seen≠[]:=fun e=>he (by rw[e];rfl)
       have key:∀i∈M8 n seen,(match M.code (K3 p g rest) { s:=(ok,AV.b true)::restrict (P7 p g st.s) live0,H:=hset (G7 p g G st.H) (rb p g l) (.mit (rb p g m) n (seen++[i])),c:=⟨(G7 p g G st.H).length,c'.cur::c'.outer⟩ } with
         | some (.normal,st')=>if A1m (G7 p g G st.H).length (restrict st'.s live) then M.code (.loopM (F8 p g x) nx ok live0 live liveX (K3 p g rest)) { s:=restrict st'.s live,H:=st'.H.take (G7 p g G st.H).length,c:=c' } else none
         | some (e,st')=>A4q liveX (rb p g l) c' e st'
         | none=>none)=some (e,⟨P7 p g st'.s,G7 p g G st'.H,c'⟩)∧p≤st'.H.length∧st'.c=st.c:= by
        intro i hi
        have h:=B0l h hi
        have hs1:hset (G7 p g G st.H) (rb p g l) (.mit (rb p g m) n (seen++[i]))=G7 p g G (hset st.H l (.mit m n (seen++[i]))):= by rw[← N5 hG hp];rfl
        rw[hs0,hs1,A3w hG hp]
        have hcb:ScR p g ⟨st.H.length,st.c.cur::st.c.outer⟩ ⟨st.H.length+g,c'.cur::c'.outer⟩:=⟨.inr (.inl ⟨hp,Z⟩),.cons hc.cur hc.outer⟩
        split at h
        ·next st1 h1 =>
         obtain⟨k1,k2,k3⟩:=hM.code hG hS (st:={ s:=(ok,.b true)::restrict st.s live0,H:=hset st.H l (.mit m n (seen++[i])),c:=⟨st.H.length,st.c.cur::st.c.outer⟩ }) (c':=⟨st.H.length+g,c'.cur::c'.outer⟩) hcb (by show p≤(hset st.H l _).length;rw[I5];exact hp) h1
         simp only at k1
         rw[k1]
         simp only[Z1]
         split at h
         ·next hbd =>
          rw[B68 (.inr (.inl ⟨hp,Z⟩)),if_pos hbd,C1y k2 hp hG]
          exact hM.code hG hS (ac:=.loopM x nx ok live0 live liveX rest) (st:={ s:=restrict st1.s live,H:=st1.H.take st.H.length,c:=st.c }) (c':=c') hc (by rw[ZD];omega) h
         ·cases h
        ·next e1 st1 hne h1 =>
         obtain⟨k1,k2,k3⟩:=hM.code hG hS (st:={ s:=(ok,.b true)::restrict st.s live0,H:=hset st.H l (.mit m n (seen++[i])),c:=⟨st.H.length,st.c.cur::st.c.outer⟩ }) (c':=⟨st.H.length+g,c'.cur::c'.outer⟩) hcb (by show p≤(hset st.H l _).length;rw[I5];exact hp) h1
         have k4:=C07 (c':=c') (c2:=⟨st.H.length+g,c'.cur::c'.outer⟩) hG k2 h
         simp only at k1
         rw[k1]
         have hen:e1≠.normal:= by rintro rfl;first|exact hne Z|exact hne _ Z
         cases e1 with
         | normal=>exact absurd Z hen
         | _=>exact k4
        ·cases h
       obtain⟨i,hi⟩:∃i,i∈M8 n seen:= by
        cases hq:M8 n seen with
        | nil=>exact absurd hq hn0
        | cons i l=>exact⟨i,Zy ..⟩
       exact⟨B65 (fun i hi=>(key i hi).1) hn0,(key i hi).2⟩
     ·cases h
    ·cases h
   ·cases h
  ·cases h
 | rangeFunc f ps live assign body =>
  simp only[F1,K3,J8,Z1]at h ⊢
  split at h
  ·next i fa fc e1 =>
   simp only[e1,Zb,ren,B6s]
   split at h
   ·next rs H' e2 =>
    have:=hM.call hG hS hc (by simp;omega) e2
    rw[D3o hp]at this
    simp only[Zt,Z0z,L4,ren,B6s,renL]at this
    rw[A5e hp]at this
    rw[A3w hG hp,this.1]
    simp only
    have hg:hget (G7 p g G H') (st.H.length+g)=(hget H' st.H.length).map (L4 p g):= by rw[← A5e (g:=g) hp];exact T1 hG this.2 _
    have hs:hset (G7 p g G H') (st.H.length+g) .dead=G7 p g G (hset H' st.H.length .dead):= by rw[← A5e (g:=g) hp,← N5 hG this.2];simp only[L4]
    rw[hg,hs]
    split at h
    ·next e3 =>
     simp only[e3,Zb,L4]
     simp only[Za,Zf]at h;obtain⟨rfl,rfl⟩:=h
     exact⟨Z,by rw[I5];exact this.2,Z⟩
    ·next e3 =>
     simp only[e3,Zb,L4]
     simp only[Za,Zf]at h;obtain⟨rfl,rfl⟩:=h
     exact⟨Z,by rw[I5];exact this.2,Z⟩
    ·cases h
   ·cases h
  ·cases h
theorem C2z:∀(l:List (Nat×AV)) (s:C2),(l.map fun x=>(x.1,ren p g x.2)).foldl (fun s x=>sput s (some x.1) x.2) (P7 p g s)=P7 p g (l.foldl (fun s x=>sput s (some x.1) x.2) s)
 | [],s=>rfl
 | x::l,s=>by
  simp only[Zt,Z09,C3d]
  exact C2z l _
theorem B0p {T:Tab} (hT:∀i af,T i=some af→K3 p g af.body=af.body) {M:Mach} (hM:RenM p g M) (hG:G.length=g) (hS:GrO p G) {c c':Sc} {H:A2} {f:AV} {aq rs:List AV} {H':A2} (hc:ScBs p g (c.cur::c.outer) (c'.cur::c'.outer)) (hp:p≤H.length) (h:N0 T M c H f aq=some (rs,H')) :
  N0 T M c' (G7 p g G H) (ren p g f) (renL p g aq)=some (renL p g rs,G7 p g G H')∧p≤H'.length:= by
 have hcb:ScR p g ⟨H.length,c.cur::c.outer⟩ ⟨(G7 p g G H).length,c'.cur::c'.outer⟩:=⟨.inr (.inl ⟨hp,A3w hG hp⟩),hc⟩
 unfold N0 at h
 split at h
 ·next i first cap =>
  simp only[ren,B6s]
  unfold N0
  simp only
  split at h
  ·cases h
  ·next af e1 =>
   try simp only[e1]
   try simp only at h
   have e2:renL p g first++renL p g aq++renL p g cap=renL p g (first++aq++cap):= by rw[C99,C99]
   rw[e2,Z0]
   split at h
   ·next h5 =>
    simp only[h5,if_true]
    have fin:∀e1 st,(e1=Ex.normal∨e1=Ex.ret)→M.code af.body { s:=M0 0 (first++aq++cap),H,c:=⟨H.length,c.cur::c.outer⟩ }=some (e1,st)→(match results st.s st.H af.results with
      | none=>none
      | some rs=>match S7 H.length st.H rs with
       | none=>none
       | some (rs,H')=>some (rs,trunc H.length rs H'))=some (rs,H') →
      M.code af.body { s:=M0 0 (renL p g (first++aq++cap)),H:=G7 p g G H,c:=⟨(G7 p g G H).length,c'.cur::c'.outer⟩ }=some (e1,⟨P7 p g st.s,G7 p g G st.H,⟨(G7 p g G H).length,c'.cur::c'.outer⟩⟩)∧(match results (P7 p g st.s) (G7 p g G st.H) af.results with
      | none=>none
      | some rs=>match S7 (G7 p g G H).length (G7 p g G st.H) rs with
       | none=>none
       | some (rs,H')=>some (rs,trunc (G7 p g G H).length rs H'))=some (renL p g rs,G7 p g G H')∧p≤H'.length:= by
     intro e1 st _ h1 h2
     obtain⟨k1,k2,k3⟩:=hM.code hG hS hcb hp h1
     rw[hT _ _ ‹_›]at k1
     rw[B0m]
     refine⟨k1,?_⟩
     rw[A88 hG hS st.s k2]
     split at h2
     ·cases h2
     ·next rs0 e3 =>
      simp only[e3,Zb]
      rw[C5v hG hcb.cur rs0 k2]
      split at h2
      ·cases h2
      ·next rs1 H1 e4 =>
       have hl:=B78 e4
       simp only[e4,Zb]
       simp only[Za,Zf]at h2
       obtain⟨rfl,rfl⟩:=h2
       simp only at hl
       exact⟨by rw[B8m hp (A3w hG hp) (by rw[hl];exact k2) hG],B8l hp (by rw[hl];exact k2) _⟩
    split at h
    ·next st e3=>obtain⟨a,b,d⟩:=fin _ _ (.inl Z) e3 h;rw[a];exact⟨b,d⟩
    ·next st e3=>obtain⟨a,b,d⟩:=fin _ _ (.inr Z) e3 h;rw[a];exact⟨b,d⟩
    ·cases h
   ·next h5 =>
    have h5f:=Bool.eq_false_iff.2 h5
    simp only[h5f,Zj,if_false]
    split at h
    ·next h6 =>
     simp only[h6,if_true]
     have fin:∀e1 st,M.code af.body { s:=M0 0 (first++aq++cap),H,c:=⟨H.length,c.cur::c.outer⟩ }=some (e1,st)→(match results st.s st.H af.results with
       | none=>none
       | some rs=>some (rs,trunc H.length rs st.H))=some (rs,H') →
       M.code af.body { s:=M0 0 (renL p g (first++aq++cap)),H:=G7 p g G H,c:=⟨(G7 p g G H).length,c'.cur::c'.outer⟩ }=some (e1,⟨P7 p g st.s,G7 p g G st.H,⟨(G7 p g G H).length,c'.cur::c'.outer⟩⟩)∧(match results (P7 p g st.s) (G7 p g G st.H) af.results with
       | none=>none
       | some rs=>some (rs,trunc (G7 p g G H).length rs (G7 p g G st.H)))=some (renL p g rs,G7 p g G H')∧p≤H'.length:= by
      intro e1 st h1 h2
      obtain⟨k1,k2,k3⟩:=hM.code hG hS hcb hp h1
      rw[hT _ _ ‹_›]at k1
      rw[B0m]
      refine⟨k1,?_⟩
      rw[A88 hG hS st.s k2]
      split at h2
      ·cases h2
      ·next rs0 e3 =>
       simp only[e3,Zb]
       simp only[Za,Zf]at h2
       obtain⟨rfl,rfl⟩:=h2
       exact⟨by rw[B8m hp (A3w hG hp) k2 hG],B8l hp k2 _⟩
     split at h
     ·next st e3=>obtain⟨a,b,d⟩:=fin _ _ e3 h;rw[a];exact⟨b,d⟩
     ·next st e3=>obtain⟨a,b,d⟩:=fin _ _ e3 h;rw[a];exact⟨b,d⟩
     ·cases h
    ·cases h
 ·next l =>
  simp only[ren,B6s,renL]
  unfold N0
  simp only
  rw[T1 hG hp]
  split at h
  ·next f0 s ps assign body e1 =>
   simp only[e1,Zb,L4,Z0]
   split at h
   ·next h5 =>
    simp only[h5,if_true]
    have ez:ps.zip (renL p g aq)=(ps.zip aq).map fun x=>(x.1,ren p g x.2):= by
     rw[P0,List.zip_map_right];rfl
    rw[ez,C2z]
    split at h
    ·next st e2 =>
     obtain⟨k1,k2,k3⟩:=hM.code hG hS hcb hp e2
     simp only at k1
     rw[k1]
     simp only
     rw[T1 hG k2]
     split at h
     ·next f1 s1 ps1 a1 b1 e3 =>
      simp only[e3,Zb,L4]
      split at h
      ·next e st2 e4 =>
       have hs:hset (G7 p g G st.H) (rb p g l) (.loop f1 (P7 p g s1) ps1 (K3 p g a1) (K3 p g b1) true none)=G7 p g G (hset st.H l (.loop f1 s1 ps1 a1 b1 true none)):= by
        rw[← N5 hG k2];simp only[L4]
       obtain⟨k4,k5,k6⟩:=hM.code hG hS (st:={ st with H:=hset st.H l (.loop f1 s1 ps1 a1 b1 true none) }) (by rw[show ({ st with H:=hset st.H l (.loop f1 s1 ps1 a1 b1 true none) }:St).c=st.c from Z,k3];exact hcb) (by rw[I5];exact k2) e4
       simp only at k4
       rw[hs,k4]
       simp only
       rw[T1 hG k5]
       split at h
       ·next f2 s2 ps2 a2 b2 e5 =>
        simp only[e5,Zb,L4]
        simp only[Za,Zf]at h
        obtain⟨rfl,rfl⟩:=h
        have hs2:∀pend,hset (G7 p g G st2.H) (rb p g l) (.loop f2 (P7 p g s2) ps2 (K3 p g a2) (K3 p g b2) false pend)=G7 p g G (hset st2.H l (.loop f2 s2 ps2 a2 b2 false pend)):= by
         intro pend;rw[← N5 hG k5];simp only[L4]
        rw[hs2]
        refine⟨?_,B8l hp (by rw[I5];exact k5) _⟩
        have ht:∀pend,trunc (G7 p g G H).length [] (G7 p g G (hset st2.H l (.loop f2 s2 ps2 a2 b2 false pend)))=G7 p g G (trunc H.length [] (hset st2.H l (.loop f2 s2 ps2 a2 b2 false pend))):= by
         intro pend
         have:=B8m (p:=p) (g:=g) hp (A3w hG hp) (H:=hset st2.H l (.loop f2 s2 ps2 a2 b2 false pend)) (by rw[I5];exact k5) hG []
         simp only[renL]at this
         exact this
        rw[ht]
        cases e <;> simp[renL,ren]
       ·cases h
      ·cases h
     ·cases h
    ·cases h
   ·cases h
  ·cases h
 ·cases h
theorem C16 {T:Tab} (hT:∀i af,T i=some af→K3 p g af.body=af.body):∀n,RenM p g (mach T n)
 | 0=>by
  constructor
  ·intros;rename_i h;simp[mach]at h
  ·intros;rename_i h;simp[mach]at h
 | n+1=>by
  have ih:=C16 hT n
  constructor
  ·intro G hG hS c c' H f aq rs H' hc hp h
   rw[V8]at h ⊢
   exact B0p hT ih hG hS (.cons hc.cur hc.outer) hp h
  ·intro G hG hS ac st e st' c' hc hp h
   rw[U0]at h ⊢
   exact C6l ih hG hS hc hp h
end
mutual
def AV.free:AV→Bool
 | .lit _|.nils _|.undef=>true
 | .seq _ rows|.fresh _ rows|.xseq _ rows=>freeR rows
 | .agg cs|.tup cs|.cptr cs=>freeL cs
 | _=>false
def freeL:List AV→Bool
 | []=>true
 | v::l=>v.free&&freeL l
def freeR:List (List AV)→Bool
 | []=>true
 | r::l=>freeL r&&freeR l
end
mutual
theorem ren_free {p g:Nat}:(v:AV)→v.free=true→ren p g v=v
 | .lit _,_|.nils _,_|.undef,_=>by simp only[ren]
 | .seq _ rows,h|.fresh _ rows,h|.xseq _ rows,h=>by simp only[AV.free]at h;simp only[ren,renR_free rows h]
 | .agg cs,h|.tup cs,h|.cptr cs,h=>by simp only[AV.free]at h;simp only[ren,renL_free cs h]
 | .ptr _ _,h|.itr _,h|.eptr _ _ _ _,h|.asl _ _,h|.csl _ _ _ _,h|.mp _,h|.fn _ _ _,h=>by simp[AV.free]at h
theorem renL_free {p g:Nat}:(l:List AV)→freeL l=true→renL p g l=l
 | [],_=>by simp only[renL]
 | v::l,h=>by
  simp only[freeL,Zc]at h
  simp only[renL,ren_free v h.1,renL_free l h.2]
theorem renR_free {p g:Nat}:(l:List (List AV))→freeR l=true→renR p g l=l
 | [],_=>by simp only[renR]
 | v::l,h=>by
  simp only[freeR,Zc]at h
  simp only[renR,renL_free v h.1,renR_free l h.2]
end
def Opd.free:Opd→Bool
 | .c v=>v.free
 | _=>true
def D28:Option Opd→Bool
 | some x=>x.free
 | none=>true
theorem I9 {p g:Nat} {x:Opd} (h:x.free=true):F8 p g x=x:= by
 cases x with
 | c v=>simp only[F8];rw[ren_free v h]
 | _=>rfl
theorem S8 {p g:Nat} {x:Option Opd} (h:D28 x=true):A2x p g x=x:= by
 cases x with
 | none=>rfl
 | some x=>simp only[A2x];rw[I9 h]
theorem B59 {p g:Nat} {l:List Opd} (h:l.all Opd.free=true):l.map (F8 p g)=l:= by
 induction l with
 | nil=>rfl
 | cons x l ih =>
  simp only[ZS,Zc]at h
  rw[Zt,I9 h.1,ih h.2]
theorem D12 {p g:Nat} {l:List (Nat×Nat×Opd)} (h:(l.all fun q=>q.2.2.free)=true):l.map (fun q=>(q.1,q.2.1,F8 p g q.2.2))=l:= by
 induction l with
 | nil=>rfl
 | cons x l ih =>
  simp only[ZS,Zc]at h
  rw[Zt,I9 h.1,ih h.2]
theorem B89 {p g:Nat} {l:List (Nat×Opd)} (h:(l.all fun q=>q.2.free)=true):l.map (fun q=>(q.1,F8 p g q.2))=l:= by
 induction l with
 | nil=>rfl
 | cons x l ih =>
  simp only[ZS,Zc]at h
  rw[Zt,I9 h.1,ih h.2]
def E15:Fn→Bool
 | .func _=>true
 | _=>false
def AOp.free:AOp→Bool
 | .mv x|.mvz x|.storeN x _ _|.box _ x _|.load _ x|.nilck x|.un _ x|.conv _ x|.idc x|.nilq _ x|.fieldAddr _ x|.field _ _ x|.range x _|.rangeM x _|.next x|.entry x|.extract x _|.lenS x|.lenL x|.lenM x=>x.free
 | .nil _ _|.mkmap _=>true
 | .pick c a b=>c.free&&a.free&&b.free
 | .alloc zs _ _=>freeL zs
 | .build z parts=>freeL z&&parts.all fun q=>q.2.2.free
 | .lits _ z _ parts _|.xlits _ z _ parts=>freeL z&&parts.all fun q=>q.2.free
 | .store _ a v|.bin _ a v|.beq _ a v|.cmp _ _ a v|.idxS _ a v|.idxA _ _ a v|.idxStr a v|.idxAgg _ _ _ a v|.append _ _ a v _ _|.copy _ a v=>a.free&&v.free
 | .clear _ z x=>freeL z&&x.free
 | .mkfn f a c=>E15 f&&a.all Opd.free&&c.all Opd.free
 | .mkslice _ _ z l c _=>freeL z&&l.free&&c.free
 | .sliceS x lo hi|.sliceL _ x lo hi|.sliceQ _ x lo hi|.sub _ x lo hi=>x.free&&D28 lo&&D28 hi
 | .lookup z _ _ x i _=>z.free&&x.free&&i.free
 | .mupd _ _ m k v=>m.free&&k.free&&v.free
 | .mm _ xs=>xs.all Opd.free
 | .cut _ x hi _|.sliceA _ _ x hi=>x.free&&D28 hi
 | .call f args _ _=>f.free&&args.all Opd.free
theorem D5y {p g:Nat} {f:Fn} (h:E15 f=true):B6s p g f=f:= by cases f <;> first|rfl|cases h
theorem D2b {p g:Nat} {op:AOp} (h:op.free=true):K5 p g op=op:= by
 cases op <;> simp only[AOp.free,Zc]at h <;> simp only[K5]
 case mkfn=>rw[D5y h.1.1,B59 h.1.2,B59 h.2]
 case alloc=>rw[renL_free _ h]
 case build=>rw[renL_free _ h.1,D12 h.2]
 case lits=>rw[renL_free _ h.1,B89 h.2]
 case xlits=>rw[renL_free _ h.1,B89 h.2]
 case mkslice=>rw[renL_free _ h.1.1,I9 h.1.2,I9 h.2]
 case lookup=>rw[ren_free _ h.1.1,I9 h.1.2,I9 h.2]
 case sliceS=>rw[I9 h.1.1,S8 h.1.2,S8 h.2]
 case sliceL=>rw[I9 h.1.1,S8 h.1.2,S8 h.2]
 case sliceQ=>rw[I9 h.1.1,S8 h.1.2,S8 h.2]
 case sub=>rw[I9 h.1.1,S8 h.1.2,S8 h.2]
 case cut=>rw[I9 h.1,S8 h.2]
 case clear=>rw[renL_free _ h.1,I9 h.2]
 case sliceA=>rw[I9 h.1,S8 h.2]
 case call=>rw[I9 h.1,B59 h.2]
 case mm=>rw[B59 h]
 all_goals first
  | rw[I9 h]
  | rw[I9 h.1,I9 h.2]
  | rw[I9 h.1.1,I9 h.1.2,I9 h.2]
def ACode.free:ACode→Bool
 | .region _ _ _ ops _=>ops.all fun o=>o.op.free
 | .seq a b=>a.free&&b.free
 | .cond c a b=>c.free&&(a.free&&b.free)
 | .block _ a|.loop _ _ a|.scope a=>a.free
 | .loopM x _ _ _ _ _ a=>x.free&&a.free
 | .rangeFunc f _ _ a b=>f.free&&(a.free&&b.free)
 | _=>true
theorem D5q {p g:Nat} {l:List AOper} (h:(l.all fun o=>o.op.free)=true):l.map (A02 p g)=l:= by
 induction l with
 | nil=>rfl
 | cons x l ih =>
  simp only[ZS,Zc]at h
  rw[Zt,ih h.2]
  unfold A02;rw[D2b h.1]
theorem N1 {p g:Nat}:(ac:ACode)→ac.free=true→K3 p g ac=ac
 | .region _ _ _ ops _,h=>by simp only[ACode.free]at h;simp only[K3];rw[D5q h]
 | .seq a b,h=>by simp only[ACode.free,Zc]at h;simp only[K3,N1 a h.1,N1 b h.2]
 | .cond c a b,h=>by simp only[ACode.free,Zc]at h;simp only[K3,I9 h.1,N1 a h.2.1,N1 b h.2.2]
 | .block _ a,h|.loop _ _ a,h|.scope a,h=>by simp only[ACode.free]at h;simp only[K3,N1 a h]
 | .loopM x _ _ _ _ _ a,h=>by simp only[ACode.free,Zc]at h;simp only[K3,I9 h.1,N1 a h.2]
 | .rangeFunc f _ _ a b,h=>by simp only[ACode.free,Zc]at h;simp only[K3,I9 h.1,N1 a h.2.1,N1 b h.2.2]
 | .skip,_|.exit _,_|.ret,_=>by simp only[K3]
def B24 (T:Tab):Prop:=∀ i af,T i=some af→af.body.free=true
def T5 (c:Sc) (H:A2):Bool:=(c.cur::c.outer).all fun B=>ZH B H.length
theorem D4e {g:Nat}:∀{l:List Nat},(l.all fun B=>ZH B g)=true→ScBs 0 g [] l
 | [],_=>.nil
 | B::l,h=>by
  simp only[ZS,Zc]at h
  exact .extra (fun b=>by rw[A5e (Z2p b)];have:=Zp h.1;omega) (D4e h.2)
theorem E0k (G:A2) (g:Nat):G7 0 g G []=G:= by simp[G7]
theorem L5.shift {T:Tab} (hT:B24 T) {i:Nat} {aq rs:List AV} (h:L5 T ⟨0,[]⟩ [] (.fn (.func i) [] []) aq rs []) (ha:freeL aq=true) (hr:freeL rs=true) {c:Sc} {H:A2} (hc:T5 c H=true):L5 T c H (.fn (.func i) [] []) aq rs H:= by
 obtain⟨n,e⟩:=h
 cases n with
 | zero=>simp[mach]at e
 | succ n =>
  rw[V8]at e
  have:=(B0p (p:=0) (g:=H.length) (G:=H) (c:=⟨0,[]⟩) (c':=c) (fun i af h=>N1 _ (hT i af h)) (C16 (fun i af h=>N1 _ (hT i af h)) n) Z (fun _ _ _ h=>absurd h (Z2b _)) (.drop (D4e hc)) (Z2p _) e).1
  rw[E0k,renL_free _ ha,renL_free _ hr,ren]at this
  simp only[B6s,renL]at this
  exact⟨n+1,by rw[V8];exact this⟩
end Am
end
section
namespace Am
open Go Go.RowKit
theorem D1r {P:Program} (hmix:P.follows .mixedOrders=true) {T:Tab} (hT:C4j P T) {i:Nat} {args:List AV} {H':A2} (h:L5 T ⟨0,[]⟩ [] (.fn (.func i) [] []) args [.b true] H') (W:World) (hG:C7v fun β o=>W.cell? ⟨β,o,none⟩) {vs:Array Value} (hl:vs.size=args.length)
  (hV:∀(j:Nat) x,args[j]? = some x→V ⟨fun _=>.none,fun β o=>W.cell? ⟨β,o,none⟩,hG⟩ x (vs[j]?.getD undef)):Calls P i vs W fun e W'=>e=.returned (.bool true)∧Below W.heap.size W W':= by
 obtain⟨n,h⟩:=h
 cases n with
 | zero=>simp[mach]at h
 | succ m =>
  rw[V8]at h
  let g0:Ghost:=⟨fun _=>.none,fun β o=>W.cell? ⟨β,o,none⟩,hG⟩
  have hR:Rel (MCof P) P W.heap.size [] g0 W:=⟨fun _ _ _ h=>h,fun i β h=>by simp[g0,GB.blk]at h,fun i j β h=>by simp[g0,GB.blk]at h,fun i o h=>by simp at h,fun _ _=>rfl,Zn _⟩
  have hS:ScOk ⟨0,[]⟩ ([]:A2):=⟨by simp,by simp,fun B _ i _ o h=>by simp at h⟩
  obtain⟨_,hgo⟩:=B7l hT (B4w hmix hT m).1 h hR hS (by simpa using hl) (fun j x hj=>hV j x (by simpa using hj))
  intro cs
  obtain⟨us,w',g',fs,fr,h1,h2,h3,h4,h5,h6,h7,h8,h9⟩:=hgo cs
  have hus:us=[.bool true]:= by
   cases h4 with
   | cons _ u f _ us fs h k =>
    cases k
    cases h with
    | one _ _ _ _ h =>
     cases h with
     | val _ _ h=>have:=S5 h;subst this;rfl
  subst hus
  refine⟨.returned (.bool true),w',fr,⟨Z,?_⟩,h1,h2,h3⟩
  exact⟨h7.os,h7.tape,h7.output,h7.size,fun k hk=>(h7.frame k hk (fun i o hi=>by simp at hi)).1⟩
end Am
end
section
namespace Am
open Go
def WP (T:Tab) (ac:ACode) (s:C2) (H:A2) (c:Sc) (Q:Ex→C2→A2→Prop):Prop :=
 ∀ S,Sub s S→∃ e S' s' H',J5 T ac ⟨S,H,c⟩ e ⟨S',H',c⟩∧Sub s' S'∧Q e s' H'
section
variable {T:Tab} {s:C2} {H:A2} {c:Sc} {Q Q':Ex→C2→A2→Prop}
def D01 (T:Tab) (b:ACode) (c:Sc) (Q:Ex→C2→A2→Prop):Ex→C2→A2→Prop
 | .normal,s,H=>WP T b s H c Q
 | e,s,H=>Q e s H
def C0u (id:Nat) (Q:Ex→C2→A2→Prop):Ex→C2→A2→Prop
 | .exit j,s,H=>bif ZC j id then Q .normal s H else Q (.exit j) s H
 | e,s,H=>Q e s H
theorem A22 {ac:ACode} (h:WP T ac s H c Q) (k:∀e s' H',Q e s' H'→Q' e s' H'):WP T ac s H c Q':= by
 intro S hS
 obtain⟨e,S',s',H',h1,h2,h3⟩:=h S hS
 exact⟨e,S',s',H',h1,h2,k _ _ _ h3⟩
theorem E1z {ac:ACode} {Q1:Ex→C2→A2→Prop} (h:WP T ac s H c (fun e s' H'=>∃ s0,Sub s0 s'∧Q1 e s0 H')) (k:∀e s' H',Q1 e s' H'→Q e s' H'):WP T ac s H c Q:= by
 intro S hS
 obtain⟨e,S',s',H',h1,h2,s0,h3,h4⟩:=h S hS
 exact⟨e,S',s0,H',h1,h3.trans h2,k _ _ _ h4⟩
theorem D6d {ac:ACode} {s0:C2} (hs:Sub s0 s) (h:WP T ac s0 H c Q):WP T ac s H c Q:=fun S hS=>h S (hs.trans hS)
theorem E10 (h:Q .normal s H):WP T .skip s H c Q:=fun S hS=>⟨.normal,S,s,H,⟨1,Z⟩,hS,h⟩
theorem E1y {id:Nat} (h:Q (.exit id) s H):WP T (.exit id) s H c Q:=fun S hS=>⟨.exit id,S,s,H,⟨1,Z⟩,hS,h⟩
theorem E34 (h:Q .ret s H):WP T .ret s H c Q:=fun S hS=>⟨.ret,S,s,H,⟨1,Z⟩,hS,h⟩
theorem D2p {a b:ACode} (h:WP T a s H c (D01 T b c Q)):WP T (.seq a b) s H c Q:= by
 intro S hS
 obtain⟨e,S1,s1,H1,h1,h2,h3⟩:=h S hS
 cases e with
 | normal =>
  obtain⟨e2,S2,s2,H2,h4,h5,h6⟩:=h3 S1 h2
  exact⟨e2,S2,s2,H2,J5.seq Z h1 h4,h5,h6⟩
 | exit id=>exact⟨_,S1,s1,H1,J5.seqOut Z Z h1,h2,h3⟩
 | ret=>exact⟨_,S1,s1,H1,J5.seqOut Z Z h1,h2,h3⟩
theorem D0v {x:Opd} {t:Bool} {a b:ACode} (h:ev s x=some (.lit (.bool t))) (ht:t=true) (k:WP T a s H c Q):WP T (.cond x a b) s H c Q:= by
 subst ht
 intro S hS
 obtain⟨e,S1,s1,H1,h1,h2,h3⟩:=k S hS
 exact⟨e,S1,s1,H1,J5.condT Z (A3v hS h) h1,h2,h3⟩
theorem D0u {x:Opd} {t:Bool} {a b:ACode} (h:ev s x=some (.lit (.bool t))) (ht:t=false) (k:WP T b s H c Q):WP T (.cond x a b) s H c Q:= by
 subst ht
 intro S hS
 obtain⟨e,S1,s1,H1,h1,h2,h3⟩:=k S hS
 exact⟨e,S1,s1,H1,J5.condF Z (A3v hS h) h1,h2,h3⟩
theorem D9r {id:Nat} {a:ACode} (h:WP T a s H c (C0u id Q)):WP T (.block id a) s H c Q:= by
 intro S hS
 obtain⟨e,S1,s1,H1,h1,h2,h3⟩:=h S hS
 cases e with
 | normal=>exact⟨_,S1,s1,H1,J5.block Z Z h1,h2,h3⟩
 | ret=>exact⟨_,S1,s1,H1,J5.block Z Z h1,h2,h3⟩
 | exit j =>
  cases hb:ZC j id with
  | true =>
   have:=Zk hb
   subst this
   simp only[C0u,hb,cond_true]at h3
   exact⟨.normal,S1,s1,H1,J5.blockExit Z h1,h2,h3⟩
  | false =>
   simp only[C0u,hb,cond_false]at h3
   exact⟨.exit j,S1,s1,H1,J5.block Z (by simp only[Ex.not,hb,Z3p]) h1,h2,h3⟩
theorem D9s {a:ACode} (h:WP T a s H c Q):WP T (.scope a) s H c Q:= by
 intro S hS
 obtain⟨e,S1,s1,H1,h1,h2,h3⟩:=h S hS
 exact⟨e,S1,s1,H1,J5.scope Z h1,h2,h3⟩
def A7w {σ ρ:Type} (b:σ→Option (σ⊕ρ)) (n:Nat):σ→Option ρ :=
 Nat.rec (fun _=>none) (fun _ ih s=>match b s with
  | some (.inl s')=>ih s'
  | some (.inr r)=>some r
  | none=>none) n
def loop {σ ρ:Type} (b:σ→Option (σ⊕ρ)) (s:σ):Option ρ:=A7w b 9223372036854775808 s
theorem L8 {σ ρ:Type} (b:σ→Option (σ⊕ρ)) (n:Nat) (s:σ):A7w b (n+1) s=match b s with
  | some (.inl s')=>A7w b n s'
  | some (.inr r)=>some r
  | none=>none:=rfl
theorem Q8:∀{s:C2} {live:List Nat} (_:s.map (·.1)=live) (_:live.Nodup) {S:C2} (_:Sub s S),restrict S live=s
 | [],_,h,_,S,_=>by subst h;rfl
 | (t,v)::s,_,h,hn,S,hS=>by
  subst h
  simp only[Zt,List.nodup_cons]at hn ⊢
  have h1:sget S t=some v:=hS t v (by simp[N9,K8])
  have h2:Sub s S:= by
   intro u w hu
   refine hS u w ?_
   simp only[N9,K8]
   cases hb:ZC t u with
   | false=>exact hu
   | true =>
    have:=Zk hb
    subst this
    exfalso
    apply hn.1
    have:∀{s:C2} {u:Nat} {w:AV},sget s u=some w→u∈s.map (·.1):= by
     intro s
     induction s with
     | nil=>intro u w h;simp[N9,K8]at h
     | cons x s ih =>
      intro u w h
      simp only[N9,K8]at h
      cases hb:ZC x.1 u with
      | true=>simp[(Zk hb).symm]
      | false=>rw[hb]at h;simp only[Zt,Zu];exact .inr (ih h)
    exact this hu
  simp only[restrict,h1]
  rw[Q8 Z hn.2 h2]
def D2s {γ σ ρ:Type} (tr:Bool) (st:σ→C2) (hp:γ→σ→A2) (N:Nat) (P:ρ→Ex→C2→A2→Prop):σ⊕ρ→Ex→C2→A2→Prop
 | .inl x,e,s',H'=>e=.normal∧Sub (st x) s'∧∃ g',(bif tr then H'.take N else H')=hp g' x
 | .inr r,e,s',H'=>e.out=true∧∃ s0,Sub s0 s'∧P r e s0 H'
theorem D0w {γ σ ρ:Type} {tr:Bool} {live:List Nat} {bd:ACode} {body:σ→Option (σ⊕ρ)} (st:σ→C2) (hp:γ→σ→A2) (N:Nat) (P:ρ→Ex→C2→A2→Prop)
  (hN:∀g x,(hp g x).length=N) (hlive:∀x,(st x).map (·.1)=live) (hnd:live.Nodup) (hbd:∀x,tr=true→A1m N (st x)=true)
  (hstep:∀g x x',body x=some (.inl x')→WP T bd (st x) (hp g x) (bif tr then ⟨N,c.cur::c.outer⟩ else c) (fun e s' H'=>e=.normal∧Sub (st x') s'∧∃ g',(bif tr then H'.take N else H')=hp g' x'))
  (hexit:∀g x r,body x=some (.inr r)→WP T bd (st x) (hp g x) (bif tr then ⟨N,c.cur::c.outer⟩ else c) (fun e s' H'=>e.out=true∧∃ s0,Sub s0 s'∧P r e s0 H'))
  {x0:σ} {r:ρ} (h:loop body x0=some r) (g0:γ):WP T (.loop tr live bd) (st x0) (hp g0 x0) c (fun e s' H'=>e.out=true∧P r e s' H'):= by
 have key:∀n g0 x0,A7w body n x0=some r→WP T (.loop tr live bd) (st x0) (hp g0 x0) c (fun e s' H'=>e.out=true∧P r e s' H'):= by
  intro n
  induction n with
  | zero=>intro g0 x0 h;cases h
  | succ n ih =>
   intro g0 x0 h S hS
   rw[L8]at h
   have hr:restrict S live=st x0:=Q8 (hlive x0) hnd hS
   have hin:B2d tr live ⟨S,hp g0 x0,c⟩=⟨st x0,hp g0 x0,bif tr then ⟨N,c.cur::c.outer⟩ else c⟩:= by
    unfold B2d;cases tr <;> simp[hr,hN]
   split at h
   ·next x' hb =>
    obtain⟨e,S1,s1,H1,h1,h2,rfl,h4,g',h5⟩:=hstep g0 x0 x' hb _ (Sub.refl _)
    have hr1:restrict S1 live=st x':=Q8 (hlive x') hnd (h4.trans h2)
    obtain⟨e2,S2,s2,H2,g1,g2,g3⟩:=ih g' x' h _ (Sub.refl _)
    refine⟨e2,S2,s2,H2,J5.loop (st1:=⟨S1,H1,bif tr then ⟨N,c.cur::c.outer⟩ else c⟩) Z hin.symm h1 ?_ g1,g2,g3⟩
    unfold B58
    cases tr with
    | true =>
     have hb1:=hbd x' Z
     simp only[hr1,if_true,hN,hb1]
     simp only[cond_true]at h5
     rw[h5]
    | false =>
     simp only[cond_false]at h5
     simp only[Zj,if_false,hr1,h5]
   ·next r' hb =>
    simp only[Za]at h
    subst h
    obtain⟨e,S1,s1,H1,h1,h2,h3,s2,h4,h5⟩:=hexit g0 x0 _ hb _ (Sub.refl _)
    exact⟨e,S1,s2,H1,J5.loopOut (st1:=⟨S1,H1,bif tr then ⟨N,c.cur::c.outer⟩ else c⟩) Z hin.symm h3 h1 Z,h4.trans h2,h3,h5⟩
   ·cases h
 exact key _ _ _ h
theorem C3l {γ σ ρ:Type} {tr:Bool} {live:List Nat} {bd:ACode} {body:σ→Option (σ⊕ρ)} (st:σ→C2) (hp:γ→σ→A2) (N:Nat) (P:ρ→Ex→C2→A2→Prop)
  (hN:∀g x,(hp g x).length=N) (hlive:∀x,(st x).map (·.1)=live) (hnd:live.Nodup) (hbd:∀x,tr=true→A1m N (st x)=true)
  (hbody:∀g x o,body x=some o→WP T bd (st x) (hp g x) (bif tr then ⟨N,c.cur::c.outer⟩ else c) (D2s tr st hp N P o))
  {x0:σ} {r:ρ} (h:loop body x0=some r) (g0:γ):WP T (.loop tr live bd) (st x0) (hp g0 x0) c (fun e s' H'=>e.out=true∧P r e s' H') :=
 D0w st hp N P hN hlive hnd hbd (fun g x _ h=>hbody g x _ h) (fun g x _ h=>hbody g x _ h) h g0
inductive UnQ (T:Tab) (tr:Bool) (live:List Nat) (bd:ACode) (c:Sc) (N:Nat) (Q:Ex→C2→A2→Prop):Ex→C2→A2→Prop
 | next {s1:C2} {H1:A2} (sN:C2) (HN:A2) (hs:Sub sN s1) (hl:sN.map (·.1)=live) (nd:live.Nodup) (hH:(bif tr then H1.take N else H1)=HN) (hb:tr=true→A1m N sN=true) (h:WP T (.loop tr live bd) sN HN c Q):UnQ T tr live bd c N Q .normal s1 H1
 | out {e:Ex} {s1:C2} {H1:A2} (he:e.out=true) (h:Q e s1 H1):UnQ T tr live bd c N Q e s1 H1
theorem D6c {H0:A2} {l:List AO} {tr:Bool} {live:List Nat} {bd:ACode} (k:Nat) (hk:l.length=k) (s':C2) (hr:∀S,Sub s S→restrict S live=s') (h:WP T bd s' (H0++l) (bif tr then ⟨H0.length+k,c.cur::c.outer⟩ else c) (UnQ T tr live bd c (H0.length+k) Q)):WP T (.loop tr live bd) s (H0++l) c Q:= by
 intro S hS
 have hr':=hr S hS
 have hN:(H0++l).length=H0.length+k:= by rw[Zo,hk]
 have hin:B2d tr live ⟨S,H0++l,c⟩=⟨s',H0++l,bif tr then ⟨H0.length+k,c.cur::c.outer⟩ else c⟩:= by
  unfold B2d;cases tr <;> simp only[hr',hN,if_true,Zj,if_false,cond_true,cond_false]
 obtain⟨e,S1,s1,H1,h1,h2,h3⟩:=h s' (Sub.refl _)
 cases h3 with
 | next sN HN hs hl nd hH hb hw =>
  have hr1:restrict S1 live=sN:=Q8 hl nd (hs.trans h2)
  obtain⟨e2,S2,s2,H2,g1,g2,g3⟩:=hw sN (Sub.refl _)
  refine⟨e2,S2,s2,H2,J5.loop (st1:=⟨S1,H1,bif tr then ⟨H0.length+k,c.cur::c.outer⟩ else c⟩) Z hin.symm h1 ?_ g1,g2,g3⟩
  unfold B58
  cases tr with
  | true =>
   have hb1:=hb Z
   simp only[hr1,if_true,hN,hb1]
   simp only[cond_true]at hH
   rw[hH]
  | false =>
   simp only[cond_false]at hH
   simp only[Zj,if_false,hr1,hH]
 | out he hq=>exact⟨e,S1,s1,H1,J5.loopOut (st1:=⟨S1,H1,bif tr then ⟨H0.length+k,c.cur::c.outer⟩ else c⟩) Z hin.symm he h1 Z,h2,hq⟩
def N2 (T:Tab) (c:Sc) (n0:Nat) (ops:List AOper) (s:C2) (H:A2) (hc:List (Option (List Nat))) (R:C2→A2→Prop):Prop :=
 ∃ n s1 H1,opers (mach T n) c n0 ops s H hc=some (s1,H1)∧R s1 H1
abbrev C7x (T:Tab) (c:Sc) (n0:Nat) (ops:List AOper) (s:C2) (H:A2) (hc:List (Option (List Nat))) (s':C2) (H':A2):Prop :=
 N2 T c n0 ops s H hc fun s1 H1=>H1=H'∧Sub s' s1
end
section
variable {T:Tab} {s s':C2} {H0 H H':A2} {l l':List AO} {c:Sc} {n0 k0:Nat} {hc:List (Option (List Nat))} {ops:List AOper} {R:C2→A2→Prop}
theorem C59 {d:Bool} {nres:Nat} {live:List Nat} {Q:Ex→C2→A2→Prop} (k0:Nat) (s':C2) (H':A2) (hk:l.length=k0) (hl:(s'.all fun x=>live.contains x.1)=true)
  (h:C7x T c (H0.length+k0) ops s (H0++(l++Zv nres .dead)) [] s' H') (hQ:Q .normal s' H'):WP T (.region d nres [] ops live) s (H0++l) c Q:= by
 intro S hS
 obtain⟨n,s1,H1,h1,rfl,h2⟩:=h
 obtain⟨S1,h3,h4⟩:=B44 hS h1
 refine⟨.normal,restrict S1 live,s',H1,⟨n+1,?_⟩,?_,hQ⟩
 ·rw[U0]
  simp only[F1,publish,Zo,hk,← ZB]at h3 ⊢
  rw[h3]
 ·intro t v e
  rw[A3t]
  refine⟨?_,h4 _ _ (h2 _ _ e)⟩
  rw[Zq]at hl
  have:∀{s:C2},sget s t=some v→∃ x∈s,x.1=t:= by
   intro s
   induction s with
   | nil=>intro h;simp[N9,K8]at h
   | cons x s ih =>
    intro h
    simp only[N9,K8]at h
    cases hb:ZC x.1 t with
    | true=>exact⟨x,by simp,Zk hb⟩
    | false=>rw[hb]at h;obtain⟨y,h1,h2⟩:=ih h;exact⟨y,by simp[h1],h2⟩
  obtain⟨x,hx,rfl⟩:=this e
  simpa using hl x hx
def One (T:Tab) (c:Sc) (n0:Nat) (s:C2) (H:A2) (op:AOp) (v:AV) (H':A2):Prop:=∃ n,core (mach T n) c n0 s H op=some (v,H')
theorem C6o {M M':Mach} (h:M.le M') {op:AOp} {r:AV×A2} (e:core M c n0 s H op=some r):core M' c n0 s H op=some r:=C4o h e
theorem C2l {M:Mach} {op:AOp} {d:Option Nat} {src:Nat} {v:AV} {H':A2} (e:core M c n0 s H op=some (v,H')) :
  oper M c n0 s H hc ⟨d,op,none,[],[],0,src⟩=some (sput s d v,H',if writes op then some []::hc else hc):= by
 have h1:A4t n0 s H ⟨d,op,none,[],[],0,src⟩=some []:= by simp[A4t,ways]
 have h2:P8 s ⟨d,op,none,[],[],0,src⟩ hc=true:= by unfold P8;split <;> simp
 unfold oper
 simp only[wanted,h1,h2,hide,e,List.isEmpty_nil,Z3j,if_true,unhide]
theorem B3r {op:AOp} {d:Option Nat} {src:Nat} {v:AV} {H1:A2} {hc':List (Option (List Nat))} (h:One T c n0 s H op v H1) (hhc:(if writes op then some []::hc else hc)=hc') (k:N2 T c n0 ops (sput s d v) H1 hc' R) :
  N2 T c n0 (⟨d,op,none,[],[],0,src⟩::ops) s H hc R:= by
 obtain⟨n1,e1⟩:=h
 obtain⟨n2,s1,Hf,e2,h2⟩:=k
 refine⟨max n1 n2,s1,Hf,?_,h2⟩
 simp only[opers]
 rw[C2l (C6o (K7 T (Z0u n1 n2)) e1)]
 simp only[hhc]
 exact A0w (K7 T (Z0h n1 n2)) e2
theorem A0 {op:AOp} {d src:Nat} {v:AV} {H1:A2} (h:One T c n0 s H op v H1) (hw:writes op=false) (k:N2 T c n0 ops ((d,v)::s) H1 hc R):N2 T c n0 (⟨some d,op,none,[],[],0,src⟩::ops) s H hc R :=
 B3r h (by simp[hw]) k
theorem O7 {op:AOp} {d src:Nat} {v:AV} {H1:A2} (h:One T c n0 s H op v H1) (hw:writes op=true) (k:N2 T c n0 ops ((d,v)::s) H1 (some []::hc) R):N2 T c n0 (⟨some d,op,none,[],[],0,src⟩::ops) s H hc R :=
 B3r h (by simp[hw]) k
theorem O6 {op:AOp} {src:Nat} {v:AV} {H1:A2} (h:One T c n0 s H op v H1) (hw:writes op=true) (k:N2 T c n0 ops s H1 (some []::hc) R):N2 T c n0 (⟨none,op,none,[],[],0,src⟩::ops) s H hc R :=
 B3r (d:=none) h (by simp[hw]) k
theorem E2b {d:Option Nat} {op:AOp} {t:Nat} {w g:Bool} {hid:List Nat} {hida:List (Nat×List Nat)} {inc src:Nat} (hg:sget s t=some (.lit (.bool g))) (hw:(g==w)=true) (k:N2 T c n0 (⟨d,op,none,hid,hida,inc,src⟩::ops) s H hc R) :
  N2 T c n0 (⟨d,op,some (t,w),hid,hida,inc,src⟩::ops) s H hc R:= by
 obtain⟨n,s1,Hf,e,h⟩:=k
 refine⟨n,s1,Hf,?_,h⟩
 simp only[opers]at e ⊢
 have:oper (mach T n) c n0 s H hc ⟨d,op,some (t,w),hid,hida,inc,src⟩=oper (mach T n) c n0 s H hc ⟨d,op,none,hid,hida,inc,src⟩:= by
  unfold oper
  simp only[wanted,hg,hw]
  rfl
 rw[this];exact e
theorem D8y {d:Nat} {op:AOp} {t:Nat} {w:Bool} {hid:List Nat} {hida:List (Nat×List Nat)} {inc src:Nat} (hw:wanted s (some (t,w))=some false) (hwr:writes op=false) (k:N2 T c n0 ops ((d,.tup [])::s) H hc R) :
  N2 T c n0 (⟨some d,op,some (t,w),hid,hida,inc,src⟩::ops) s H hc R:= by
 obtain⟨n,s1,Hf,e,h⟩:=k
 refine⟨n,s1,Hf,?_,h⟩
 simp only[opers,oper,hw,hwr,Zj,if_false,sput]
 exact e
theorem G4 {d:Nat} {op:AOp} {t:Nat} {w:Bool} {hid:List Nat} {hida:List (Nat×List Nat)} {inc src:Nat} (hw:wanted s (some (t,w))=some false) (hwr:writes op=true) (k:N2 T c n0 ops ((d,.tup [])::s) H (none::hc) R) :
  N2 T c n0 (⟨some d,op,some (t,w),hid,hida,inc,src⟩::ops) s H hc R:= by
 obtain⟨n,s1,Hf,e,h⟩:=k
 refine⟨n,s1,Hf,?_,h⟩
 simp only[opers,oper,hw,hwr,if_true,sput]
 exact e
theorem gT {d:Option Nat} {op:AOp} {t:Nat} {g:Bool} {hid:List Nat} {hida:List (Nat×List Nat)} {inc src:Nat} (hg:sget s t=some (.lit (.bool g))) (hw:g=true) (k:N2 T c n0 (⟨d,op,none,hid,hida,inc,src⟩::ops) s H hc R) :
  N2 T c n0 (⟨d,op,some (t,true),hid,hida,inc,src⟩::ops) s H hc R:=E2b hg (by rw[hw];rfl) k
theorem gF {d:Option Nat} {op:AOp} {t:Nat} {g:Bool} {hid:List Nat} {hida:List (Nat×List Nat)} {inc src:Nat} (hg:sget s t=some (.lit (.bool g))) (hw:g=false) (k:N2 T c n0 (⟨d,op,none,hid,hida,inc,src⟩::ops) s H hc R) :
  N2 T c n0 (⟨d,op,some (t,false),hid,hida,inc,src⟩::ops) s H hc R:=E2b hg (by rw[hw];rfl) k
theorem nT {d:Nat} {op:AOp} {t:Nat} {g:Bool} {hid:List Nat} {hida:List (Nat×List Nat)} {inc src:Nat} (hg:sget s t=some (.lit (.bool g))) (hw:g=false) (hwr:writes op=false) (k:N2 T c n0 ops ((d,.tup [])::s) H hc R) :
  N2 T c n0 (⟨some d,op,some (t,true),hid,hida,inc,src⟩::ops) s H hc R:=D8y (by simp only[wanted,hg,hw];rfl) hwr k
theorem nF {d:Nat} {op:AOp} {t:Nat} {g:Bool} {hid:List Nat} {hida:List (Nat×List Nat)} {inc src:Nat} (hg:sget s t=some (.lit (.bool g))) (hw:g=true) (hwr:writes op=false) (k:N2 T c n0 ops ((d,.tup [])::s) H hc R) :
  N2 T c n0 (⟨some d,op,some (t,false),hid,hida,inc,src⟩::ops) s H hc R:=D8y (by simp only[wanted,hg,hw];rfl) hwr k
theorem nX {d:Nat} {op:AOp} {t:Nat} {w:Bool} {hid:List Nat} {hida:List (Nat×List Nat)} {inc src:Nat} (hg:sget s t=some (.tup [])) (hwr:writes op=false) (k:N2 T c n0 ops ((d,.tup [])::s) H hc R) :
  N2 T c n0 (⟨some d,op,some (t,w),hid,hida,inc,src⟩::ops) s H hc R:=D8y (by simp only[wanted,hg]) hwr k
theorem D2 {t:Nat} {w g:Bool} (hg:sget s t=some (.lit (.bool g))) (hw:(g==w)=false):wanted s (some (t,w))=some false:= by
 simp only[wanted,hg,hw]
theorem A4d {t:Nat} {w:Bool} (hg:sget s t=some (.tup [])):wanted s (some (t,w))=some false:= by
 simp only[wanted,hg]
def A0d (l:List AO):List Nat→List AO
 | []=>l
 | j::js=>(A0d l js).set j .dead
def V5 (l m:List AO):List Nat→List AO
 | []=>m
 | j::js=>match l[j]? with
  | some o=>(V5 l m js).set j o
  | none=>V5 l m js
theorem B52 (H0:A2) (l:List AO):∀js:List Nat,hide (H0++l) (js.map (H0.length + ·))=H0++A0d l js
 | []=>rfl
 | j::js=>by
  simp only[Zt,hide,B52 H0 l js,A0d,hset]
  rw[Z0s _ _ (ZL _ _)];congr 2;omega
theorem C3i (H0:A2) (l m:List AO):∀js:List Nat,unhide (H0++l) (H0++m) (js.map (H0.length + ·))=H0++V5 l m js
 | []=>rfl
 | j::js=>by
  have h1:hget (H0++l) (H0.length+j)=l[j]?:= by
   unfold hget;rw[ZI (ZL _ _)];congr 1;omega
  simp only[Zt,unhide,V5,h1,C3i H0 l m js]
  cases l[j]? with
  | none=>rfl
  | some o=>simp only[hset];rw[Z0s _ _ (ZL _ _)];congr 2;omega
theorem D8w {op:AOp} {d:Option Nat} {hid:List Nat} {hida:List (Nat×List Nat)} {inc src:Nat} {v:AV} {l1:List AO} (js:List Nat) (hhs:A4t n0 s (H0++l) ⟨d,op,none,hid,hida,inc,src⟩=some (js.map (H0.length + ·))) (hseen:P8 s ⟨d,op,none,hid,hida,inc,src⟩ hc=true)
  (h:One T c n0 s (H0++A0d l js) op v (H0++l1)) (hle:ZH l.length l1.length=true) (k:N2 T c n0 ops (sput s d v) (H0++V5 l l1 js) (bif writes op then some (js.map (H0.length + ·))::hc else hc) R) :
  N2 T c n0 (⟨d,op,none,hid,hida,inc,src⟩::ops) s (H0++l) hc R:= by
 obtain⟨n1,e1⟩:=h
 obtain⟨n2,s1,Hf,e2,h2⟩:=k
 refine⟨max n1 n2,s1,Hf,?_,h2⟩
 have e1':=C6o (K7 T (Z0u n1 n2)) e1
 have hle':ZH (H0++l).length (H0++l1).length=true:=Zl (by have:=Zp hle;simp;omega)
 simp only[opers,oper,wanted,hhs,hseen,B52,e1',hle',Z1w,if_true,C3i]
 cases hw:writes op with
 | true=>simp only[hw,cond_true]at e2;simp only[if_true];exact A0w (K7 T (Z0h n1 n2)) e2
 | false=>simp only[hw,cond_false]at e2;simp only[Zj,if_false];exact A0w (K7 T (Z0h n1 n2)) e2
theorem B00 (l:List AO):∀js:List Nat,(A0d l js).length=l.length
 | []=>rfl
 | j::js=>by simp only[A0d,Z0t,B00 l js]
theorem A8j (l m:List AO) (h:m.length=l.length):∀js:List Nat,(V5 l m js).length=l.length
 | []=>h
 | j::js=>by
  simp only[V5]
  cases l[j]? with
  | none=>exact A8j l m h js
  | some o=>simp only[Z0t];exact A8j l m h js
theorem C5b (l:List AO):∀(js:List Nat) (i:Nat),i ∉ js→(A0d l js)[i]? = l[i]?
 | [],_,_=>rfl
 | j::js,i,h=>by
  simp only[Zu,not_or]at h
  simp only[A0d]
  rw[Z2l (fun e=>h.1 e.symm)]
  exact C5b l js i h.2
theorem B9n (l m:List AO) (hm:m.length=l.length):∀(js:List Nat) (i:Nat),(i∈js→(V5 l m js)[i]? = l[i]?)∧(i ∉ js→(V5 l m js)[i]? = m[i]?)
 | [],_=>⟨fun h=>by simp at h,fun _=>rfl⟩
 | j::js,i=>by
  have ih:=B9n l m hm js i
  have hlen:=A8j l m hm js
  simp only[V5]
  by_cases hij:j=i
  ·subst hij
   constructor
   ·intro _
    cases hl:l[j]? with
    | none =>
     simp only
     rw[List.getElem?_eq_none]
     rw[hlen];exact List.getElem?_eq_none_iff.1 hl
    | some o =>
     simp only
     have:=(Ze.1 hl).1
     rw[List.getElem?_set_self (by rw[hlen];exact this)]
   ·intro h;simp at h
  ·have e:∀o,((V5 l m js).set j o)[i]? = (V5 l m js)[i]?:=fun o=>Z2l hij
   cases l[j]? with
   | none=>simp only[Zu];exact⟨fun h=>ih.1 (h.resolve_left fun e=>hij e.symm),fun h=>ih.2 fun k=>h (.inr k)⟩
   | some o=>simp only[Zu,e];exact⟨fun h=>ih.1 (h.resolve_left fun e=>hij e.symm),fun h=>ih.2 fun k=>h (.inr k)⟩
theorem D0r (l:List AO) (js:List Nat):V5 l (A0d l js) js=l:= by
 apply List.ext_getElem?
 intro i
 have h:=B9n l (A0d l js) (B00 l js) js i
 by_cases hi:i∈js
 ·exact h.1 hi
 ·rw[h.2 hi,C5b l js i hi]
theorem J3 {op:AOp} {d:Nat} {hid:List Nat} {hida:List (Nat×List Nat)} {inc src:Nat} {v:AV} (js:List Nat) (hhs:A4t n0 s (H0++l) ⟨some d,op,none,hid,hida,inc,src⟩=some (js.map (H0.length + ·))) (hseen:P8 s ⟨some d,op,none,hid,hida,inc,src⟩ hc=true)
  (h:One T c n0 s (H0++A0d l js) op v (H0++A0d l js)) (hw:writes op=false) (k:N2 T c n0 ops ((d,v)::s) (H0++l) hc R) :
  N2 T c n0 (⟨some d,op,none,hid,hida,inc,src⟩::ops) s (H0++l) hc R :=
 D8w js hhs hseen h (by rw[B00];exact Zl (Zn _)) (by rw[D0r,hw];exact k)
theorem C0o {op:AOp} {d:Option Nat} {hid:List Nat} {hida:List (Nat×List Nat)} {inc src:Nat} {v:AV} {l1:List AO} (js:List Nat) (l2:List AO) (hhs:A4t n0 s (H0++l) ⟨d,op,none,hid,hida,inc,src⟩=some (js.map (H0.length + ·))) (hseen:P8 s ⟨d,op,none,hid,hida,inc,src⟩ hc=true)
  (h:One T c n0 s (H0++A0d l js) op v (H0++l1)) (hle:ZH l.length l1.length=true) (hw:writes op=true) (e:V5 l l1 js=l2) (k:N2 T c n0 ops (sput s d v) (H0++l2) (some (js.map (H0.length + ·))::hc) R) :
  N2 T c n0 (⟨d,op,none,hid,hida,inc,src⟩::ops) s (H0++l) hc R :=
 D8w js hhs hseen h hle (by rw[e,hw];exact k)
theorem H7 {s:C2} {H:A2}:ways s H []=some []:=rfl
theorem B3z {s:C2} {H:A2} {t b b':Nat} {p:List Nat} {l:List (Nat×List Nat)} {bs:List Nat} (h:(sget s t).bind AV.box? = some b) (hf:follow H b p=some b') (k:ways s H l=some bs):ways s H ((t,p)::l)=some (b'::bs):= by
 simp only[ways,h,hf,k]
theorem B0w {H:A2} {b:Nat}:follow H b []=some b:=rfl
theorem D2v (H0:A2) (l:List AO) {js:List Nat} (h:(js.all fun j=>ZU j l.length)=true):((js.map (H0.length + ·)).all fun b=>ZU b (H0++l).length)=true:= by
 rw[Zq]at h ⊢
 intro b hb
 simp only[ZK]at hb
 obtain⟨j,hj,rfl⟩:=hb
 have:=Zp (h j hj)
 exact Zl (by simp;omega)
def C6e (l:List AO) (j:Nat):Bool:=match l[j]? with
 | some (.stk _ _ _)|some (.ro (.stk _ _ _))=>false
 | _=>true
theorem B66 (H0:A2) {l:List AO} {j:Nat} (h:C6e l j=true):∀{jh:List Nat},hstk (H0++A0d l jh) (H0.length+j)=none
 | []=>by
  unfold C6e at h
  unfold hstk hget
  rw[ZI (ZL _ _),Z27]
  simp only[A0d]
  split at h
  ·cases h
  ·cases h
  ·next h1 h2 =>
   split
   ·next hq=>exact absurd hq (h1 _ _ _)
   ·next hq=>exact absurd hq (h2 _ _ _)
   ·rfl
 | i::jh=>by
  have e:H0++A0d l (i::jh)=hset (H0++A0d l jh) (H0.length+i) .dead:= by
   simp only[A0d,hset]
   rw[Z0s _ _ (ZL _ _)];congr 2;omega
  rw[e]
  exact W6 Z (B66 H0 h)
theorem O2 {op:AOp} {d:Option Nat} {g:Option (Nat×Bool)} {hid:List Nat} {hida:List (Nat×List Nat)} {inc src:Nat} {bs js:List Nat} {k0:Nat} (jh:List Nat) (ejh:hid.map (H0.length+k0 + ·)=jh.map (H0.length + ·)) (hw:ways s (H0++A0d l jh) hida=some bs) (e:jh.map (H0.length + ·)++bs=js.map (H0.length + ·)) (hall:(js.all fun j=>ZU j l.length&&C6e l j)=true) :
  A4t (H0.length+k0) s (H0++l) ⟨d,op,g,hid,hida,inc,src⟩=some (js.map (H0.length + ·)):= by
 have h1:(js.all fun j=>ZU j l.length)=true:= by
  rw[Zq]at hall ⊢
  intro j hj
  have:=hall j hj
  rw[Zc]at this
  exact this.1
 have h2:(bs.all fun b=>(hstk (H0++A0d l jh) b).isNone)=true:= by
  rw[Zq]at hall ⊢
  intro b hb
  have hm:b∈js.map (H0.length + ·):= by rw[← e];exact Z0k _ hb
  obtain⟨j,hj,rfl⟩:=ZK.1 hm
  have:=hall j hj
  rw[Zc]at this
  rw[B66 H0 this.2];rfl
 unfold A4t
 simp only[ejh,B52,hw,e,D2v H0 l h1,h2,Z1w,Z18,if_true]
theorem seen0 {o:AOper} (h:o.inc=0):P8 s o hc=true:= by
 unfold P8;split
 ·rfl
 ·simp[h]
theorem C0r {o:AOper} {b:Nat} (hb:rbox s o.op=some b) (h:((hc.take o.inc).all fun e=>match e with|none=>true|some hs=>hs.contains b)=true):P8 s o hc=true:= by
 unfold P8;rw[hb];exact h
theorem A63 (N:Nat) {js:List Nat} {j:Nat} (h:js.contains j=true):(js.map (N + ·)).contains (N+j)=true:= by
 simp only[Z2g,ZK]at h ⊢
 exact⟨j,h,Z⟩
theorem E1c {α β:Type} {o:Option α} {f:α→Option β} {r:β} (h:o.bind f=some r):∃x,o=some x∧f x=some r:= by
 cases o with
 | none=>cases h
 | some x=>exact⟨x,Z,h⟩
def calm:List AOper→Bool
 | []=>true
 | o::l=>ZC o.inc 0&&calm l
theorem D5o {M:Mach} {o:AOper} (ho:ZC o.inc 0=true) (hc hc':List (Option (List Nat))) {x:C2×A2×List (Option (List Nat))} (e:oper M c n0 s H hc o=some x):∃hc1,oper M c n0 s H hc' o=some (x.1,x.2.1,hc1):= by
 have hz:o.inc=0:=Zk ho
 have h2:∀hc,P8 s o hc=true:= by intro hc;unfold P8;split <;> simp[hz]
 unfold oper at e ⊢
 split at e
 ·cases e
 ·simp only[Za]at e;subst e;exact⟨_,Z⟩
 ·rw[h2]at e ⊢
  split at e
  ·next hs _ e1 _ =>
   try simp only[e1]
   split at e
   ·next r e3 =>
    try simp only[e3]
    split at e
    ·next e4=>simp only[Za]at e;subst e;simp only[e4,if_true];exact⟨_,Z⟩
    ·cases e
   ·cases e
  ·cases e
theorem C2n {M:Mach}:∀{l:List AOper} (_:calm l=true) {s:C2} {H:A2} (hc hc':List (Option (List Nat))) {r:C2×A2},opers M c n0 l s H hc=some r→opers M c n0 l s H hc'=some r
 | [],_,_,_,_,_,_,e=>e
 | o::l,h,s,H,hc,hc',r,e=>by
  simp only[calm,Zc]at h
  simp only[opers]at e ⊢
  split at e
  ·cases e
  ·next s1 H1 hc1 e1 =>
   obtain⟨hc2,e2⟩:=D5o h.1 hc hc' e1
   simp only[e2]
   exact C2n h.2 _ _ e
theorem C5q (M:Mach):∀(l m:List AOper) (s:C2) (H:A2) (hc:List (Option (List Nat))),opers M c n0 (l++m) s H hc=(opers3 M c n0 l (s,H,hc)).bind fun x=>opers M c n0 m x.1 x.2.1 x.2.2
 | [],m,s,H,hc=>rfl
 | o::l,m,s,H,hc=>by
  simp only[Z0g,opers,opers3]
  cases oper M c n0 s H hc o with
  | none=>rfl
  | some y=>exact C5q M l m y.1 y.2.1 y.2.2
theorem B8a (n:Nat) (s1:C2) (H1:A2) (hq:calm (ops.drop n)=true) (h1:C7x T c n0 (ops.take n) s H hc s1 H1) (hR:∀a b H,Sub a b→R a H→R b H) (h2:N2 T c n0 (ops.drop n) s1 H1 [] R):N2 T c n0 ops s H hc R:= by
 obtain⟨n1,t1,_,e1,rfl,r1⟩:=h1
 obtain⟨n2,t2,H',e2,r2⟩:=h2
 have e1':=A0w (K7 T (Z0u n1 n2)) e1
 have e2':=A0w (K7 T (Z0h n1 n2)) e2
 obtain⟨S2,e3,r3⟩:=B44 r1 e2'
 refine⟨max n1 n2,S2,H',?_,hR _ _ _ r3 r2⟩
 have h3:=B77 (mach T (max n1 n2)) c n0 (ops.take n) (s,H,hc)
 simp only at h3
 rw[e1']at h3
 cases h4:opers3 (mach T (max n1 n2)) c n0 (ops.take n) (s,H,hc) with
 | none=>rw[h4]at h3;cases h3
 | some y =>
  rw[h4]at h3
  simp only[Zb,Za,Zf]at h3
  have h5:opers (mach T (max n1 n2)) c n0 (ops.take n++ops.drop n) s H hc=some (S2,H'):= by
   rw[C5q,h4]
   simp only[Zd,← h3.1,← h3.2]
   exact C2n hq _ _ e3
  rw[Z3a]at h5
  exact h5
def RG (live:List Nat) (Q:Ex→C2→A2→Prop) (s:C2) (H:A2):Prop:=∃ s',Sub s' s∧(s'.all fun x=>live.contains x.1)=true∧Q .normal s' H
theorem C3m {d:Bool} {nres:Nat} {live:List Nat} {Q:Ex→C2→A2→Prop} (k0:Nat) (hk:l.length=k0)
  (h:N2 T c (H0.length+k0) ops s (H0++(l++Zv nres .dead)) [] (RG live Q)):WP T (.region d nres [] ops live) s (H0++l) c Q:= by
 obtain⟨n,s1,H1,h1,s',h2,h3,h4⟩:=h
 exact C59 k0 s' H1 hk h3 ⟨n,s1,H1,h1,Z,h2⟩ h4
structure InlQ (T:Tab) (c:Sc) (n0 N:Nat) (rv:List ARes) (own:List (List (Nat×Nat))) (d:Nat) (ops:List AOper) (s:C2) (hc:List (Option (List Nat))) (R:C2→A2→Prop) (e:Ex) (s1:C2) (H2:A2):Prop where
 he:(match e with|.exit _=>False|_=>True)
 hr:∃rs0 rs H3 vs H4,results s1 H2 rv=some rs0∧S7 N H2 rs0=some (rs,H3)∧Z5 n0 (trunc N rs H3) rs own=(vs,H4)∧N2 T c n0 ops ((d,packed vs)::s) H4 (some []::hc) R
theorem C1o {own:List (List (Nat×Nat))} {H:A2} {aq:List AV} {r:List AV×A2} (hl:lend own=false) (hz:S6 H aq=some r):A1n own H aq=some r:= by
 unfold A1n;rw[hl];exact hz
theorem A7m {f:Opd} {args:List Opd} {own:List (List (Nat×Nat))} {d src i N:Nat} {first cap aq as' as2:List AV} {af:AFunc} {H1:A2} (hf:ev s f=some (.fn (.func i) first cap)) (ha:evs s args=some aq) (hz0:S6 H aq=some (as',H1)) (haf:T i=some af) (has:first++as'++cap=as2) (hn:(ZC as2.length af.nargs&&ZU af.nargs 1000)=true) (hN:H1.length=N)
  (h:WP T af.body (M0 0 as2) H1 ⟨N,c.cur::c.outer⟩ (InlQ T c n0 N af.results own d ops s hc R)) (hl0:lend own=false:= by rfl):N2 T c n0 (⟨some d,.call f args own false,none,[],[],0,src⟩::ops) s H hc R:= by
 have hz:=C1o hl0 hz0
 obtain⟨e,S',s',H',h1,h2,h3,rs0,rs,H3,vs,H4,h4,h5,h6,n2,s2,H5,h7,h8⟩:=h _ (Sub.refl _)
 subst hN
 have hcall:=L5.fn (c:=c) (H:=H1) (f:=.fn (.func i) first cap) (args:=as') (rs:=rs) (rs1:=rs) (rs0:=rs0) Z haf Z has.symm hn Z h1 (by cases e <;> first|rfl|exact h3.elim) (V3 h2 h4) h5 Z Z
 obtain⟨n1,e1⟩:=hcall
 refine⟨max n1 n2,s2,H5,?_,h8⟩
 have e1':=(K7 T (Z0u n1 n2)).call _ _ _ _ _ e1
 have e2':=A0w (K7 T (Z0h n1 n2)) h7
 simp only[opers]
 rw[C2l (v:=packed vs) (H':=H4) (by simp only[core,W2,hf,ha,Zj,if_false,hz,e1',h6])]
 simp only[writes,Z3p,if_true,sput]
 exact e2'
structure InlH (T:Tab) (c:Sc) (n0 N:Nat) (rv:List ARes) (own:List (List (Nat×Nat))) (d:Nat) (ops:List AOper) (s:C2) (hc:List (Option (List Nat))) (R:C2→A2→Prop) (js:List Nat) (H0:A2) (l l2:List AO) (e:Ex) (s1:C2) (H2:A2):Prop where
 he:(match e with|.exit _=>False|_=>True)
 hr:∃rs0 rs H3 vs l4,results s1 H2 rv=some rs0∧S7 N H2 rs0=some (rs,H3)∧Z5 n0 (trunc N rs H3) rs own=(vs,H0++l4)∧ZH l.length l4.length=true∧V5 l l4 js=l2∧N2 T c n0 ops ((d,packed vs)::s) (H0++l2) (some (js.map (H0.length + ·))::hc) R
end
section
variable {H0:A2} {l:List AO} {j:Nat}
theorem W4 (H0:A2) (l:List AO) (j:Nat):hget (H0++l) (H0.length+j)=l[j]?:= by
 unfold hget;rw[ZI (ZL _ _)];congr 1;omega
theorem I7 (H0:A2) (l:List AO) (j:Nat) (o:AO):hset (H0++l) (H0.length+j) o=H0++l.set j o:= by
 unfold hset;rw[Z0s _ _ (ZL _ _)];congr 2;omega
theorem C5a {b:Nat} {o:AO} (h:hget H0 b=some o) (l:List AO):hget (H0++l) b=some o:= by
 unfold hget at h ⊢
 have:=Ze.1 h
 rw[ZF this.1];exact h
theorem F7 {cs:List AV} (h:l[j]? = some (.cells cs)):hcells (H0++l) (H0.length+j)=some cs:= by
 unfold hcells;rw[W4,h]
theorem A8v {cs:List AV} (h:l[j]? = some (.cells cs)):X2 (H0++l) (H0.length+j)=some cs:= by
 unfold X2;rw[W4,h]
theorem F3 {b:Nat} {cs:List AV} (h:hcells H0 b=some cs) (l:List AO):hcells (H0++l) b=some cs:= by
 unfold hcells at h ⊢
 split at h
 ·next e=>rw[C5a e];exact h
 ·next e=>rw[C5a e];exact h
 ·cases h
theorem B7n (H:A2) (b:Nat):hcells (H.map AO.toRo) b=hcells H b:= by
 unfold hcells hget
 rw[ZN]
 cases h:H[b]? with
 | none=>rfl
 | some o=>cases o <;> first|rfl|(next o=>cases o <;> rfl)
theorem P9 {k:Nat} {p:Bool} {rows:List (List AV)} (h:l[j]? = some (.arr k p rows)):harr (H0++l) (H0.length+j)=some (k,p,rows):= by
 unfold harr;rw[W4,h]
theorem R0 {k:Nat} {p:Bool} {rows:List (List AV)} (h:l[j]? = some (.arr k p rows)):A05 (H0++l) (H0.length+j)=some (k,p,rows):= by
 unfold A05;rw[W4,h]
theorem B0j (H0:A2) (l:List AO) (k:Nat):(H0++l).take (H0.length+k)=H0++l.take k:= by
 rw[Z34,ZR (ZL _ _)];simp
end
def cI (n:Int):List AV:=[.lit (.int .i64 n)]
def cS (s:ByteArray):List AV:=[.lit (.string s)]
def cL (k:Nat) {α:Type} (f:α→List AV) (l:List α):List AV:=[.seq k (l.map f)]
structure IArr (n:Nat) where
 l:List Int
 h:l.length=n
theorem IArr.ext {n:Nat} {a b:IArr n} (h:a.l=b.l):a=b:= by cases a;cases b;simp only at h;subst h;rfl
instance {n:Nat}:DecidableEq (IArr n):=fun a b=>if h:a.l=b.l then isTrue (IArr.ext h) else isFalse fun e=>h (by rw[e])
def IArr.zero (n:Nat):IArr n:=⟨Zv n 0,Z1y⟩
def IArr.set {n:Nat} (a:IArr n) (i x:Int):IArr n:=⟨a.l.set i.toNat x,by rw[Z0t];exact a.h⟩
abbrev w64 (n:Int):Int:=IntKind.i64.wrap n
def idx {α:Type} (l:List α) (i:Int):Option α:=if 0≤i then l[i.toNat]? else none
def T6 {α:Type} (l:List α) (i:Int) (x:α):List α:=l.set i.toNat x
def app {α:Type} (bytes:Nat) (l m:List α):Option (List α):=if (l.length+m.length)*bytes≤1099511627776∧l.length+m.length≤1099511627776 then some (l++m) else none
def slc {α:Type} (l:List α) (lo hi:Int):Option (List α):=if 0≤lo∧lo≤hi∧hi≤l.length then some ((l.take hi.toNat).drop lo.toNat) else none
def B61 (s:ByteArray) (i:Int):Option Int:=if 0≤i then (s[i.toNat]?).map fun c=>(c.toNat:Int) else none
def B38 {α:Type} (bytes:Nat) (n:Int) (z:α):Option (List α):=if 0≤n∧n*bytes≤1099511627776∧n≤1099511627776 then some (Zv n.toNat z) else none
def C39 (a b:Int):Option Int:=if b=0 then none else some (w64 (a.tdiv b))
def B1u (a b:Int):Option Int:=if b=0 then none else some (a.tmod b)
def D9f (k:IntKind) (a b:Int):Option Int:=if b<0 then none else some (a.fdiv (2 ^ (min b.toNat k.bits)))
def A2k (a b:Int):Int:=w64 (BitVec.ofInt 64 a &&& ~~~ BitVec.ofInt 64 b).toNat
def C68 (x y:Int):Int:=if y>x then y else x
def A5b (x y:Int):Int:=if y<x then y else x
def eqS (x y:ByteArray):Bool:=x.data.toList==y.data.toList
section
variable {T:Tab} {s:C2} {H0 H:A2} {l:List AO} {c:Sc} {n0 k0:Nat} {R:C2→A2→Prop}
theorem E8d {x:Opd} {v:AV} (h:ev s x=some v):One T c n0 s H (.mv x) v H:=⟨0,by simp[core,prim,h]⟩
theorem C1 {x a b:Opd} {g:Bool} {v:AV} (h:ev s x=some (.lit (.bool g))) (hg:g=true) (ha:ev s a=some v):One T c n0 s H (.pick x a b) v H:=⟨0,by subst hg;simp[core,prim,h,ha]⟩
theorem C0 {x a b:Opd} {g:Bool} {v:AV} (h:ev s x=some (.lit (.bool g))) (hg:g=false) (ha:ev s b=some v):One T c n0 s H (.pick x a b) v H:=⟨0,by subst hg;simp[core,prim,h,ha]⟩
theorem qm {hc:List (Option (List Nat))} {ops:List AOper} {d src:Nat} {x:Opd} {v:AV} (h:ev s x=some v) (k:N2 T c n0 ops ((d,v)::s) H hc R):N2 T c n0 (⟨some d,.mv x,none,[],[],0,src⟩::ops) s H hc R:=A0 (E8d h) Z k
theorem A5d {k r:Nat}:One T c (H0.length+k0) s (H0++l) (.nil k r) (.asl (H0.length+(k0+r)) 0) (H0++l.set (k0+r) (.arr k false [])) :=
 ⟨0,by simp only[core,prim,Z03,I7]⟩
theorem J6 {zs:List AV} {r:Nat}:One T c (H0.length+k0) s (H0++l) (.alloc zs [] r) (.ptr (H0.length+(k0+r)) 0) (H0++l.set (k0+r) (.cells zs)) :=
 ⟨0,by simp only[core,prim,P3,Z03,I7]⟩
theorem C9d {zs:List AV} {j q k r:Nat}:One T c (H0.length+k0) s (H0++l) (.alloc zs [(j,q,k)] r) (.ptr (H0.length+(k0+r)) 0) (H0++(l.set (k0+q) (.arr k false [])).set (k0+r) (.cells (zs.set j (.asl (H0.length+(k0+q)) 0)))) :=
 ⟨0,by simp only[core,prim,P3,Z03,I7]⟩
theorem G1 {n r:Nat} {x:Opd} {v:AV} {cs:List AV} (h:ev s x=some v) (hc:v.cellsOf=cs) (hn:ZC cs.length n=true):One T c (H0.length+k0) s (H0++l) (.box n x r) (.ptr (H0.length+(k0+r)) 0) (H0++l.set (k0+r) (.cells cs)) :=
 ⟨0,by subst hc;simp only[core,prim,h,hn,if_true,Z03,I7]⟩
theorem R4 {z cs:List AV} {parts:List (Nat×Nat×Opd)} {ps:List (Nat×Nat×AV)} (h1:V0 s parts=some ps) (h2:B1l z ps=some cs):One T c n0 s H (.build z parts) (.agg cs) H:=⟨0,by simp[core,prim,h1,h2]⟩
theorem J2 {k n:Nat} {z:List AV} {parts:List (Nat×Opd)} {ps:List (Nat×AV)} {rows:List (List AV)} (h1:M6 s parts=some ps) (h2:A5c k (Zv n z) ps=some rows) (h3:B5y rows=true):One T c n0 s H (.lits k z n parts none) (.seq k rows) H :=
 ⟨0,by simp[core,prim,h1,h2,h3]⟩
theorem C0m {k n r:Nat} {z:List AV} {parts:List (Nat×Opd)} {ps:List (Nat×AV)} {rows:List (List AV)} (h1:M6 s parts=some ps) (h2:A5c k (Zv n z) ps=some rows) (h3:B5y rows=true) :
  One T c (H0.length+k0) s (H0++l) (.lits k z n parts (some r)) (.asl (H0.length+(k0+r)) n) (H0++l.set (k0+r) (.arr k false rows)) :=
 ⟨0,by simp[core,prim,h1,h2,h3,Z03,I7]⟩
theorem B4 {a:Opd} {j o:Nat} {cs:List AV} {x:AV} (h:ev s a=some (.ptr (H0.length+j) o)) (hl:l[j]? = some (.cells cs)) (hd:(cs.drop o).head? = some x):One T c n0 s (H0++l) (.load none a) x (H0++l) :=
 ⟨0,by
  simp only[core,prim,h,H6,F7 hl]
  cases hc:cs.drop o with
  | nil=>simp[hc]at hd
  | cons y t=>simp only[hc,Z2c,Za]at hd;subst hd;rfl⟩
theorem A6b {a:Opd} {j o k:Nat} {cs ds:List AV} (h:ev s a=some (.ptr (H0.length+j) o)) (hl:l[j]? = some (.cells cs)) (hk:ZH k (cs.drop o).length=true) (hd:(cs.drop o).take k=ds):One T c n0 s (H0++l) (.load (some k) a) (.agg ds) (H0++l) :=
 ⟨0,by simp only[core,prim,h,H6,F7 hl,hk,if_true,hd]⟩
theorem I6 {a:Opd} {b o:Nat} {cs:List AV} {x:AV} (h:ev s a=some (.ptr b o)) (hl:hcells H0 b=some cs) (hd:(cs.drop o).head? = some x):One T c n0 s (H0++l) (.load none a) x (H0++l) :=
 ⟨0,by
  simp only[core,prim,h,H6,F3 hl]
  cases hc:cs.drop o with
  | nil=>simp[hc]at hd
  | cons y t=>simp only[hc,Z2c,Za]at hd;subst hd;rfl⟩
theorem C2c {a:Opd} {b o k:Nat} {cs ds:List AV} (h:ev s a=some (.ptr b o)) (hl:hcells H0 b=some cs) (hk:ZH k (cs.drop o).length=true) (hd:(cs.drop o).take k=ds):One T c n0 s (H0++l) (.load (some k) a) (.agg ds) (H0++l) :=
 ⟨0,by simp only[core,prim,h,H6,F3 hl,hk,if_true,hd]⟩
theorem G2 {a:Opd} {cs:List AV} {x:AV} (h:ev s a=some (.cptr cs)) (hd:cs.head? = some x):One T c n0 s H (.load none a) x H :=
 ⟨0,by
  simp only[core,prim,h,H6]
  cases cs with
  | nil=>simp at hd
  | cons y t=>simp only[Z2c,Za]at hd;subst hd;rfl⟩
theorem C9e {a:Opd} {k:Nat} {cs ds:List AV} (h:ev s a=some (.cptr cs)) (hk:ZH k cs.length=true) (hd:cs.take k=ds):One T c n0 s H (.load (some k) a) (.agg ds) H :=
 ⟨0,by simp only[core,prim,h,H6,hk,if_true,hd]⟩
theorem A1p {a:Opd} {j n i o k:Nat} {p:Bool} {rows:List (List AV)} {r:List AV} {x:AV} (h:ev s a=some (.eptr (H0.length+j) n i o)) (hl:l[j]? = some (.arr k p rows)) (hn:rows.length=n) (hr:rows[i]? = some r) (hd:(r.drop o).head? = some x):One T c n0 s (H0++l) (.load none a) x (H0++l) :=
 ⟨0,by
  simp only[core,prim,h,H6,P9 hl,hn,Z17,if_true,hr]
  cases hc:r.drop o with
  | nil=>simp[hc]at hd
  | cons y t=>simp only[hc,Z2c,Za]at hd;subst hd;rfl⟩
theorem E0 {b:Nat}:∀{vs:List AV},vs.all AV.plain=true→c.okL b vs=true
 | [],_=>rfl
 | v::vs,h=>by
  simp only[ZS,Zc]at h
  simp only[Sc.okL,Sc.ok,h.1,E0 h.2,Z1w,Z3j,Z18]
theorem A2p {b:Nat} (hb:c.cur≤b):∀{vs:List AV},c.okL b vs=true
 | []=>rfl
 | v::vs=>by simp only[Sc.okL,Sc.ok,Zl hb,Z3j,A2p hb,Z18]
theorem G0 {a x:Opd} {j o k:Nat} {cs ds:List AV} {v:AV} (h:ev s a=some (.ptr (H0.length+j) o)) (hv:ev s x=some v) (hl:l[j]? = some (.cells cs)) (hk:(ZC v.cellsOf.length k&&ZH (o+k) cs.length)=true) (hok:c.okL (H0.length+j) v.cellsOf=true) (hd:splice cs o v.cellsOf=ds) :
  One T c n0 s (H0++l) (.store k a x) (.tup []) (H0++l.set j (.cells ds)) :=
 ⟨0,by simp only[core,prim,h,hv,A8v hl,hk,hok,Z18,if_true,hd,I7]⟩
theorem B4s {H:A2}:∀{vs:List AV},vs.all AV.plain=true→Z4 H vs=some (vs,H)
 | [],_=>rfl
 | v::vs,h=>by
  simp only[ZS,Zc]at h
  have:frv H v=some (v,H):= by cases v <;> first|rfl|(simp[AV.plain]at h)
  simp only[Z4,this,B4s h.2]
theorem B2j {a x:Opd} {j n i o k kk:Nat} {rows:List (List AV)} {r ds:List AV} {v:AV} (h:ev s a=some (.eptr (H0.length+j) n i o)) (hv:ev s x=some v) (hp:v.cellsOf.all AV.plain=true) (hz:v.cellsOf.all AV.frz=true) (hl:l[j]? = some (.arr kk false rows)) (hn:rows.length=n) (hr:rows[i]? = some r)
  (hk:(ZC v.cellsOf.length k&&ZH (o+k) r.length)=true) (hd:splice r o v.cellsOf=ds) :
  One T c n0 s (H0++l) (.store k a x) (.tup []) (H0++l.set j (.arr kk false (rows.set i ds))) :=
 ⟨0,by
  rw[Zc]at hk
  simp only[core,prim,h,hv,B4s hp,R0 hl,hr,hn,Z17,hk.1,hk.2,hz,Z18,if_true,hd,I7]⟩
def D76:AV→Bool
 | .ptr _ _|.eptr _ _ _ _|.cptr _|.fn (.func _) _ _=>true
 | _=>false
theorem N3 {x:Opd} {v:AV} (h:ev s x=some v) (hv:D76 v=true):One T c n0 s H (.nilck x) v H:=⟨0,by
 cases v with
 | fn f a b=>cases f <;> first|(simp[core,prim,h];done)|(simp[D76]at hv)
 | _=>first|(simp[core,prim,h];done)|(simp[D76]at hv)⟩
theorem R8 {op:BinOp} {x y:Opd} {a b v:AV} (hx:ev s x=some a) (hy:ev s y=some b) (hv:A9c op a b=some v):One T c n0 s H (.bin op x y) v H:=⟨0,by simp[core,prim,hx,hy,hv]⟩
theorem E17 {ng:Bool} {x y:Opd} {a b:Bool} (hx:ev s x=some (.lit (.bool a))) (hy:ev s y=some (.lit (.bool b))):One T c n0 s H (.beq ng x y) (.lit (.bool (if ng then !(a==b) else a==b))) H:=⟨0,by simp[core,prim,hx,hy]⟩
theorem D8e {ng:Bool} {ks:List Nat} {x y:Opd} {a b:List AV} {t:Bool} (hx:ev s x=some (.agg a)) (hy:ev s y=some (.agg b)) (ha:kinds ks a=true) (hb:kinds ks b=true) (ht:I4 a b=some t):One T c n0 s H (.cmp ng ks x y) (.lit (.bool (if ng then !t else t))) H :=
 ⟨0,by simp[core,prim,hx,hy,ha,hb,ht]⟩
theorem B29:I4 [] []=some true:=rfl
theorem U9 {k:IntKind} {a b:Int} {l m:List AV} {t:Bool} (h:I4 l m=some t):I4 (.lit (.int k a)::l) (.lit (.int k b)::m)=some ((a==b)&&t):= by
 simp only[I4,A4s,if_true]
 cases a==b <;> simp[h]
theorem C9i {op:UnOp} {x:Opd} {a v:AV} (hx:ev s x=some a) (hv:unV op a=some v):One T c n0 s H (.un op x) v H:=⟨0,by simp[core,prim,hx,hv]⟩
theorem A9j {k k':IntKind} {x:Opd} {n:Int} (h:ev s x=some (.lit (.int k' n))):One T c n0 s H (.conv k x) (.lit (.int k (k.wrap n))) H:=⟨0,by simp[core,prim,h]⟩
theorem A5r {f:Fn} {a b:List Opd} {u w:List AV} (h1:evs s a=some u) (h2:evs s b=some w):One T c n0 s H (.mkfn f a b) (.fn f u w) H:=⟨0,by simp[core,prim,h1,h2]⟩
theorem C5l {α:Type} {bytes:Nat} {n:Int} {z:α} {r:List α} (h:B38 bytes n z=some r):(0≤n∧n*bytes≤1099511627776∧n≤1099511627776)∧r=Zv n.toNat z:= by
 unfold B38 at h;split at h
 ·next e=>simp only[Za]at h;exact⟨e,h.symm⟩
 ·cases h
theorem B73 {α:Type} {f:α→List AV} {k bytes r:Nat} {z:List AV} {x y:Opd} {n:Int} {zt:α} {e:List α} (hx:ev s x=some (.lit (.int .i64 n))) (hy:ev s y=some (.lit (.int .i64 n))) (hz:f zt=z) (h:B38 bytes n zt=some e) :
  One T c (H0.length+k0) s (H0++l) (.mkslice k bytes z x y r) (.asl (H0.length+(k0+r)) e.length) (H0++l.set (k0+r) (.arr k false (e.map f))):=⟨0,by
 obtain⟨h1,h2⟩:=C5l h
 subst h2;subst hz
 simp only[core,prim,hx,hy,h1,and_self,if_true,Z03,I7,Z1y,Z2a]⟩
theorem A6g {α:Type} {e m:List α} {lo hi:Int} (h:slc e lo hi=some m):(0≤lo∧lo≤hi∧hi≤e.length)∧m=(e.take hi.toNat).drop lo.toNat:= by
 unfold slc at h;split at h
 ·next e1=>simp only[Za]at h;exact⟨e1,h.symm⟩
 ·cases h
theorem B6a {α:Type} {f:α→List AV} {k:Nat} {x:Opd} {lo hi:Option Opd} {e m:List α} {a b:Int} (h:ev s x=some (.seq k (e.map f))) (h1:bnd s 0 lo=some a) (h2:bnd s e.length hi=some b) (hm:slc e a b=some m):One T c n0 s H (.sliceQ k x lo hi) (.seq k (m.map f)) H:=⟨0,by
 obtain⟨h3,rfl⟩:=A6g hm
 simp only[core,prim,h,Zd,A8e,h1,Zi,h2,h3,and_self,if_true,Z10,Z0p]⟩
theorem E5j {α:Type} {f:α→List AV} {kk k j n r:Nat} {x:Opd} {hi:Option Opd} {e m:List α} {b:Int} (h:ev s x=some (.asl (H0.length+j) n)) (hl:l[j]? = some (.arr k false (e.map f))) (hn:e.length=n) (h2:bnd s e.length hi=some b) (hm:slc e 0 b=some m) :
  One T c (H0.length+k0) s (H0++l) (.cut kk x hi r) (.asl (H0.length+(k0+r)) m.length) (H0++(l.set j .dead).set (k0+r) (.arr k false (m.map f))):=⟨0,by
 obtain⟨h3,rfl⟩:=A6g hm
 subst hn
 have h4:(e.take b.toNat).length=b.toNat:= by rw[ZD];omega
 have h5:(ZC (e.map f).length e.length&&decide (0≤b∧b≤(e.length:Int)))=true:= by rw[Zi,Z17,decide_eq_true ⟨h3.2.1,h3.2.2⟩];rfl
 simp only[core,prim,h,R0 hl,h2,h5,if_true,I7,Z03,Int.toNat_zero,Z12,h4,Z0p]⟩
theorem E5z {α:Type} {f:α→List AV} {k:Nat} {x:Opd} {lo hi:Option Opd} {e m:List α} {a b:Int} (h:ev s x=some (.seq k (e.map f))) (h1:bnd s 0 lo=some a) (h2:bnd s e.length hi=some b) (hm:slc e a b=some m):One T c n0 s H (.sub k x lo hi) (.seq k (m.map f)) H:=⟨0,by
 obtain⟨h3,rfl⟩:=A6g hm
 simp only[core,prim,h,h1,Zi,h2,h3,and_self,if_true,Z10,Z0p]⟩
theorem E3c {α:Type} {f:α→List AV} {k j m:Nat} {p:Bool} {x:Opd} {lo hi:Option Opd} {e:List α} {a b:Int} (h:ev s x=some (.asl (H0.length+j) m)) (hl:l[j]? = some (.arr k p (e.map f))) (hm:e.length=m) (h1:bnd s 0 lo=some a) (h2:bnd s m hi=some b) (h3:0≤a∧a≤b∧b≤m) :
  One T c n0 s (H0++l) (.sub k x lo hi) (if a=b then .seq k [] else .csl (H0.length+j) a.toNat m (b.toNat-a.toNat)) (H0++l):=⟨0,by
 simp only[core,prim,h,P9 hl,h1,h2,h3,hm,Zi,and_self,if_true]⟩
theorem D1x {α:Type} {f:α→List AV} {k j o m q:Nat} {p:Bool} {kk:IntKind} {x i:Opd} {e:List α} {n:Int} (h:ev s x=some (.csl (H0.length+j) o m q)) (hi:ev s i=some (.lit (.int kk n))) (hl:l[j]? = some (.arr k p (e.map f))) (hm:e.length=m) (h1:0≤n) (h2:n<q) :
  One T c n0 s (H0++l) (.idxS k x i) (.eptr (H0.length+j) m (o+n.toNat) 0) (H0++l):=⟨0,by simp[core,prim,h,hi,P9 hl,h1,h2,hm]⟩
theorem E01 {α:Type} {f:α→List AV} {k j o m q:Nat} {z:List AV} {x:Opd} {e:List α} {a:α} (h:ev s x=some (.csl (H0.length+j) o m q)) (hl:l[j]? = some (.arr k false (e.map f))) (hm:e.length=m) (hz:f a=z) (ho:o+q≤m) (hq:0<q) :
  One T c n0 s (H0++l) (.clear k z x) (.tup []) (H0++l.set j (.arr k false ((e.take o++(Zv q a++e.drop (o+q))).map f))):=⟨0,by
 subst hz
 simp only[core,prim,h,R0 hl,Zi,hm,ho,hq,and_self,if_true,I7,Z00,Z0p,Z10,Z2a]⟩
theorem C3 {off b o:Nat} {x:Opd} (h:ev s x=some (.ptr b o)):One T c n0 s H (.fieldAddr off x) (.ptr b (o+off)) H:=⟨0,by simp[core,prim,h]⟩
theorem R1 {off:Nat} {x:Opd} {cs ds:List AV} (h:ev s x=some (.cptr cs)) (hd:cs.drop off=ds):One T c n0 s H (.fieldAddr off x) (.cptr ds) H:=⟨0,by simp[core,prim,h,hd]⟩
theorem A8x {α:Type} {e:List α} {n:Int} {a:α} (h:idx e n=some a):0≤n∧e[n.toNat]? = some a:= by
 unfold idx at h;split at h
 ·next h1=>exact⟨h1,h⟩
 ·cases h
theorem D4 {α:Type} {f:α→List AV} {k:Nat} {kk:IntKind} {x i:Opd} {e:List α} {n:Int} {a:α} (h:ev s x=some (.seq k (e.map f))) (hi:ev s i=some (.lit (.int kk n))) (ha:idx e n=some a):One T c n0 s H (.idxS k x i) (.cptr (f a)) H:=⟨0,by
 obtain⟨h1,h2⟩:=A8x ha
 simp[core,prim,h,hi,h1,h2]⟩
theorem A24 {α:Type} {f:α→List AV} {k j m:Nat} {p:Bool} {kk:IntKind} {x i:Opd} {e:List α} {n:Int} {a:α} (h:ev s x=some (.asl (H0.length+j) m)) (hi:ev s i=some (.lit (.int kk n))) (hl:l[j]? = some (.arr k p (e.map f))) (hm:e.length=m) (ha:idx e n=some a) :
  One T c n0 s (H0++l) (.idxS k x i) (.eptr (H0.length+j) m n.toNat 0) (H0++l):=⟨0,by
 obtain⟨h1,h2⟩:=A8x ha
 have h3:n<m:= by
  have:=(Ze.1 h2).1
  omega
 simp[core,prim,h,hi,P9 hl,h1,h3,hm]⟩
theorem A2j {α:Type} {f:α→List AV} {e:List α} {n:Int} {a:α} (ha:idx e n=some a):(e.map f)[n.toNat]? = some (f a):= by
 rw[ZN,(A8x ha).2];rfl
theorem B3q {k n b o:Nat} {kk:IntKind} {x i:Opd} {m:Int} (h:ev s x=some (.ptr b o)) (hi:ev s i=some (.lit (.int kk m))) (h0:0≤m∧m<n):One T c n0 s H (.idxA k n x i) (.ptr b (o+m.toNat*k)) H:=⟨0,by simp[core,prim,h,hi,h0]⟩
theorem B2i {kk:IntKind} {x i:Opd} {b:ByteArray} {n a:Int} (h:ev s x=some (.lit (.string b))) (hi:ev s i=some (.lit (.int kk n))) (ha:B61 b n=some a):One T c n0 s H (.idxStr x i) (.lit (.int .u8 a)) H:=⟨0,by
 unfold B61 at ha
 split at ha
 ·next h1 =>
  simp only[Zz]at ha
  obtain⟨c',h2,rfl⟩:=ha
  simp[core,prim,h,hi,h1,h2]
 ·cases ha⟩
theorem A7 {x:Opd} {i:Nat} {cs:List AV} {v:AV} (h:ev s x=some (.tup cs)) (hv:cs[i]? = some v):One T c n0 s H (.extract x i) v H:=⟨0,by simp[core,prim,h,hv]⟩
theorem C7e {x:Opd} {b:ByteArray} (h:ev s x=some (.lit (.string b))):One T c n0 s H (.lenS x) (.lit (.int .i64 b.size)) H:=⟨0,by simp[core,prim,h]⟩
theorem F2 {α:Type} {f:α→List AV} {k:Nat} {x:Opd} {e:List α} (h:ev s x=some (.seq k (e.map f))):One T c n0 s H (.lenL x) (.lit (.int .i64 e.length)) H:=⟨0,by simp[core,prim,h]⟩
theorem E08 {r:Nat}:One T c (H0.length+k0) s (H0++l) (.mkmap r) (.mp (H0.length+(k0+r))) (H0++l.set (k0+r) (.map [])):=⟨0,by simp only[core,prim,Z03,I7]⟩
theorem B71 {α:Type} {f:α→List AV} {k j n:Nat} {p:Bool} {x:Opd} {e:List α} (h:ev s x=some (.asl (H0.length+j) n)) (hl:l[j]? = some (.arr k p (e.map f))) (hn:e.length=n):One T c n0 s (H0++l) (.lenL x) (.lit (.int .i64 e.length)) (H0++l):=⟨0,by
 simp[core,prim,h,P9 hl,hn]⟩
theorem C9g {mx:Bool} {xs:List Opd} {x v:AV} {vs:List AV} (h:evs s xs=some (x::vs)) (hv:mmV mx x vs=some v):One T c n0 s H (.mm mx xs) v H:=⟨0,by simp[core,prim,h,hv]⟩
theorem B5k {α:Type} {b:Nat} {e m r:List α} (h:app b e m=some r):((e.length+m.length)*b≤1099511627776∧e.length+m.length≤1099511627776)∧r=e++m:= by
 unfold app at h;split at h
 ·next h1=>simp only[Za]at h;exact⟨h1,h.symm⟩
 ·cases h
theorem D9 {α:Type} {f:α→List AV} (hf:∀a,(f a).all AV.frz=true) (e:List α):B5y (e.map f)=true:= by
 simp[B5y,Z1p]
 intro a _ x hx
 have:=hf a
 rw[Zq]at this
 exact this x hx
def rd (H:A2) (v:AV) (k:Nat) (rows:List (List AV)):Prop:=A0n H v=some rows∧kOf H v=some k
theorem X8 {H:A2} {k:Nat} {rows:List (List AV)}:rd H (.seq k rows) k rows:=⟨Z,Z⟩
theorem A0u {α:Type} {f:α→List AV} {k bytes j n:Nat} {p:Bool} {r:Option Nat} {x y:Opd} {e m d:List α} {v:AV} (hd:ev s x=some (.asl (H0.length+j) n)) (hx:ev s y=some v) (hl:l[j]? = some (.arr k p (d.map f))) (hn:d.length=n) (hr:rd (H0++l) v k (m.map f)) (hf:∀a,(f a).all AV.frz=true) (h:app bytes d m=some e) :
  One T c n0 s (H0++l) (.append k bytes x y r false) (.asl (H0.length+j) e.length) (H0++l.set j (.arr k p (e.map f))):=⟨0,by
 obtain⟨h1,rfl⟩:=B5k h
 subst hn
 simp[core,prim,hd,hx,hr.1,hr.2,D9 hf,R0 hl,h1,I7]⟩
theorem C7c {α:Type} {f:α→List AV} {k bytes j n:Nat} {p:Bool} {x y:Opd} {e m d:List α} {v:AV} (hd:ev s x=some (.asl (H0.length+j) n)) (hx:ev s y=some v) (hl:l[j]? = some (.arr k p (d.map f))) (hn:d.length=n) (hr:rd (H0++l) v k (m.map f)) (hf:∀a,(f a).all AV.frz=true) (h:app bytes d m=some e) :
  One T c n0 s (H0++l) (.append k bytes x y none true) (.seq k (e.map f)) (H0++l.set j .dead):=⟨0,by
 obtain⟨h1,rfl⟩:=B5k h
 subst hn
 simp[core,prim,hd,hx,hr.1,hr.2,D9 hf,R0 hl,h1,I7]⟩
theorem E29 {α:Type} {f:α→List AV} {k j n:Nat} {x y:Opd} {m d:List α} {v:AV} (hd:ev s x=some (.asl (H0.length+j) n)) (hx:ev s y=some v) (hl:l[j]? = some (.arr k false (d.map f))) (hn:d.length=n) (hr:rd (H0++l) v k (m.map f)) (hf:∀a,(f a).all AV.frz=true) :
  One T c n0 s (H0++l) (.copy k x y) (.lit (.int .i64 (min m.length n:Nat))) (H0++l.set j (.arr k false ((m.take (min m.length n)++d.drop (min m.length n)).map f))):=⟨0,by
 subst hn
 simp[core,prim,hd,hx,hr.1,hr.2,D9 hf,R0 hl,I7]⟩
theorem E1b {x:Opd} {b:ByteArray} {r:Nat} (h:ev s x=some (.lit (.string b))):One T c (H0.length+k0) s (H0++l) (.range x r) (.itr (H0.length+(k0+r))) (H0++l.set (k0+r) (.iter b 0)):=⟨0,by simp only[core,prim,h,Z03,I7]⟩
theorem E1a {x:Opd} {b:ByteArray} {j pos:Nat} (h:ev s x=some (.itr (H0.length+j))) (hl:l[j]? = some (.iter b pos)) (hp:pos<b.size) :
  One T c n0 s (H0++l) (.next x) (.tup [.lit (.bool true),.lit (.int .i64 pos),.lit (.int .i32 (Utf8.decode b pos).1)]) (H0++l.set j (.iter b (pos+(Utf8.decode b pos).2))):=⟨0,by simp only[core,prim,h,W4,hl,hp,if_true,I7]⟩
theorem E09 {x:Opd} {b:ByteArray} {j pos:Nat} (h:ev s x=some (.itr (H0.length+j))) (hl:l[j]? = some (.iter b pos)) (hp:¬ pos<b.size) :
  One T c n0 s (H0++l) (.next x) (.tup [.lit (.bool false)]) (H0++l):=⟨0,by simp only[core,prim,h,W4,hl,hp,if_false]⟩
theorem C9h {x y:Opd} {a b r:Int} (hx:ev s x=some (.lit (.int .i64 a))) (hy:ev s y=some (.lit (.int .i64 b))) (h:C39 a b=some r):One T c n0 s H (.bin .quo x y) (.lit (.int .i64 r)) H:=R8 hx hy (by
 unfold C39 at h
 split at h
 ·cases h
 ·next hb=>simp only[Za]at h;subst h;simp[A9c,B1x,hb])
theorem C5o {x y:Opd} {a b r:Int} (hx:ev s x=some (.lit (.int .i64 a))) (hy:ev s y=some (.lit (.int .i64 b))) (h:B1u a b=some r):One T c n0 s H (.bin .rem x y) (.lit (.int .i64 r)) H:=R8 hx hy (by
 unfold B1u at h
 split at h
 ·cases h
 ·next hb=>simp only[Za]at h;subst h;simp[A9c,B1x,hb])
theorem D8l {k k':IntKind} {x y:Opd} {a b r:Int} (hx:ev s x=some (.lit (.int k a))) (hy:ev s y=some (.lit (.int k' b))) (h:D9f k a b=some r):One T c n0 s H (.bin .shr x y) (.lit (.int k r)) H:=R8 hx hy (by
 unfold D9f at h
 split at h
 ·cases h
 ·next hb=>simp only[Za]at h;subst h;simp only[A9c,hb,if_false])
theorem B2f {α β:Type} {f:α→β} (l:List α) (i:Int) (x:α):(l.map f).set i.toNat (f x)=(T6 l i x).map f:= by
 unfold T6;rw[Z2h]
theorem Z2 {α:Type} (l:List α) (i:Int) (x:α):(T6 l i x).length=l.length:=Z0t ..
def fz1:AV→AV
 | .fresh k rows=>.seq k rows
 | v=>v
def fzA:AV→AV
 | .agg cs=>.agg (cs.map fz1)
 | v=>fz1 v
def F0 (T:Tab) (c:Sc) (H:A2) (f:AV) (aq rs:List AV):Prop:=L5 T c H f aq rs H∧bdL H.length rs=true
def A0f (T:Tab) (c:Sc) (H:A2) (f:AV) (aq rs:List AV):Prop:=∃ rs',F0 T c H f aq rs'∧rs'.map fzA=rs
theorem F0.frz {H:A2} {f:AV} {aq rs:List AV} (h:F0 T c H f aq rs):A0f T c H f aq (rs.map fzA):=⟨rs,h,Z⟩
theorem C80 {n0:Nat} {H:A2}:∀(cs:List AV) (j:Nat),A4u n0 H [] j cs=(cs.map fz1,H)
 | [],_=>rfl
 | v::cs,j=>by
  have:inC n0 H [] j v=(fz1 v,H):= by cases v <;> rfl
  simp only[A4u,this,C80 cs,Zt]
theorem C61 {n0:Nat} {H:A2} (v:AV):inV n0 H [] v=(fzA v,H):= by
 cases v <;> simp[inV,fzA,C80,inC,A0k,fz1]
theorem A11 {n0:Nat} {H:A2}:∀(rs:List AV),Z5 n0 H rs []=(rs.map fzA,H)
 | []=>rfl
 | v::rs=>by simp only[Z5,List.headD_nil,C61,List.tail_nil,A11 rs,Zt]
theorem B2 {f:Opd} {args:List Opd} {d src:Nat} {fv:AV} {aq as' rs:List AV} {H1:A2} {hc:List (Option (List Nat))} {ops:List AOper} (hf:ev s f=some fv) (ha:evs s args=some aq) (hz:S6 H aq=some (as',H1)) (hcall:A0f T c H1 fv as' rs)
  (k:N2 T c n0 ops ((d,packed rs)::s) H1 (some []::hc) R):N2 T c n0 (⟨some d,.call f args [] false,none,[],[],0,src⟩::ops) s H hc R:= by
 obtain⟨rs',⟨⟨n,e⟩,hb⟩,rfl⟩:=hcall
 have hz':A1n [] H aq=some (as',H1):=hz
 refine B3r (v:=packed (rs'.map fzA)) (H1:=H1) ⟨n,?_⟩ (by simp[writes]) k
 simp only[core,W2,hf,ha,Zj,if_false,hz',e,A11]
theorem B7m:Zg fzA []=[]:=rfl
theorem B3g {v v':AV} {l l':List AV} (h:fzA v=v') (k:l.map fzA=l'):(v::l).map fzA=v'::l':= by rw[Zt,h,k]
theorem T3 {f:Opd} {args:List Opd} {d src:Nat} {fv:AV} {aq as' rs:List AV} {hc:List (Option (List Nat))} {ops:List AOper} {H1:A2} (hf:ev s f=some fv) (ha:evs s args=some aq) (hp:aq.all (R6 H)=true) (hz:S6 H aq=some (as',H1)) (hcall:A0f T c (H.map AO.toRo) fv as' rs)
  (k:N2 T c n0 ops ((d,packed rs)::s) H hc R):N2 T c n0 (⟨some d,.call f args [] true,none,[],[],0,src⟩::ops) s H hc R:= by
 obtain⟨rs',⟨⟨n,e⟩,hb⟩,rfl⟩:=hcall
 have hz':A1n [] H aq=some (as',H1):=hz
 refine B3r (v:=packed (rs'.map fzA)) (H1:=H) ⟨n,?_⟩ (by simp[writes]) k
 rw[Zi]at hb
 simp only[core,W2,hf,ha,if_true,hp,Z1w,hz',e,hb,A11]
theorem A0j {H:A2}:([]:List AV).all (R6 H)=true:=rfl
theorem R5 {H:A2} {v:AV} {l:List AV} (h:R6 H v=true) (k:l.all (R6 H)=true):(v::l).all (R6 H)=true:= by rw[ZS,h,k];rfl
theorem B3 {H:A2}:S6 H []=some ([],H):=rfl
theorem A1 {H H1 H2:A2} {v v':AV} {vs vs':List AV} (h:U4 H v=some (v',H1)) (k:S6 H1 vs=some (vs',H2)):S6 H (v::vs)=some (v'::vs',H2):= by
 simp only[S6,h,k]
theorem D0 {H:A2} {cs:List AV} (h:cs.all AV.plain=true):U4 H (.agg cs)=some (.agg cs,H):= by
 simp only[U4,B4s h,Zb]
theorem B4p {j n k:Nat} {p:Bool} {rows:List (List AV)} (hl:l[j]? = some (.arr k p rows)) (hn:rows.length=n):U4 (H0++l) (.asl (H0.length+j) n)=some (.seq k rows,H0++l.set j (.arr k true rows)):= by
 cases p with
 | false=>simp[U4,frv,P9 hl,R0 hl,hn,I7]
 | true =>
  have:l.set j (.arr k true rows)=l:= by
   obtain⟨hj,e1⟩:=Ze.1 hl
   rw[← e1];exact Z3b hj
  simp[U4,frv,P9 hl,hn,this]
theorem D8s {k:Option Nat} {a:Opd} {v:AV} {H':A2} (h:One T c n0 s H (.load k a) v H'):prim c n0 s H (.load k a)=some (v,H'):= by
 obtain⟨n,e⟩:=h;exact e
theorem B6 {H:A2}:results s H []=some []:=rfl
theorem A8 {H:A2} {t:Nat} {v:AV} {l:List ARes} {vs:List AV} (h:sget s t=some v) (k:results s H l=some vs):results s H (.tmp t::l)=some (v::vs):= by
 simp only[results,h,k,Zd,Zb]
theorem B3v {H H':A2} {t:Nat} {q:Option Nat} {v:AV} {l:List ARes} {vs:List AV} (h:One (fun _=>none) ⟨0,[]⟩ 0 s H (.load q (.t t)) v H') (k:results s H l=some vs):results s H (.cell t q::l)=some (v::vs):= by
 simp only[results,D8s h,k,Zd,Zb]
theorem E2s {j n k:Nat} {p:Bool} {rows:List (List AV)} (hl:l[j]? = some (.arr k p rows)) (hn:rows.length=n):frv (H0++l) (.asl (H0.length+j) n)=some (.seq k rows,H0++l.set j (.arr k true rows)):=B4p hl hn
structure RetQ (H0:A2) (rv:List ARes) (rs:List AV) (e:Ex) (s:C2) (H:A2):Prop where
 he:(match e with|.exit _=>False|_=>True)
 hr:∃rs0 H1,results s H rv=some rs0∧S7 H0.length H rs0=some (rs,H1)∧bdL H0.length rs=true∧H1.take H0.length=H0
theorem D6u {i:Nat} {af:AFunc} {first cap args aq rs:List AV} (haf:T i=some af) (has:first++args++cap=aq) (hn:(ZC aq.length af.nargs&&ZU af.nargs 1000)=true)
  (h:WP T af.body (M0 0 aq) H0 ⟨H0.length,c.cur::c.outer⟩ (RetQ H0 af.results rs)):F0 T c H0 (.fn (.func i) first cap) args rs:= by
 obtain⟨e,S',s',H',h1,h2,h3,rs0,H1,h4,h5,h6,h7⟩:=h _ (Sub.refl _)
 refine⟨?_,h6⟩
 have ht:trunc H0.length rs H1=H0:= by simp[trunc,h6,h7]
 have:=L5.fn (c:=c) (H:=H0) (f:=.fn (.func i) first cap) (args:=args) (rs:=rs) (rs1:=rs) (rs0:=rs0) Z haf Z has.symm hn Z h1 (by cases e <;> first|rfl|exact h3.elim) (V3 h2 h4) h5 Z Z
 rw[ht]at this
 exact this
theorem B5 {B:Nat} {H:A2}:S7 B H []=some ([],H):=rfl
theorem A5 {B:Nat} {H H1 H2:A2} {v v':AV} {vs vs':List AV} (h:X7 B H v=some (v',H1)) (k:S7 B H1 vs=some (vs',H2)):S7 B H (v::vs)=some (v'::vs',H2):= by
 simp only[S7,h,k]
theorem B79 {B:Nat} {H:A2} {cs:List AV} (h:cs.all (fun v=>match v with|.lit _|.seq _ _=>true|_=>false)=true):X7 B H (.agg cs)=some (.agg cs,H):= by
 have h1:W8 B H cs=some (cs,H):= by
  induction cs with
  | nil=>rfl
  | cons v cs ih =>
   simp only[ZS,Zc]at h
   have:=ih h.2
   cases v with
   | lit|seq=>simp only[W8,A1u,this]
   | _=>simp at h
 simp only[X7,h1,Zb]
theorem A5u {j n k:Nat} {rows:List (List AV)} (hl:l[j]? = some (.arr k false rows)) (hn:rows.length=n):X7 H0.length (H0++l) (.asl (H0.length+j) n)=some (.fresh k rows,H0++l.set j .dead):= by
 have:ZH H0.length (H0.length+j)=true:=Zl (ZL _ _)
 simp[X7,A1u,R0 hl,this,hn,I7]
theorem E3k {j n k:Nat} {rows:List (List AV)} (hl:l[j]? = some (.arr k true rows)) (hn:rows.length=n):X7 H0.length (H0++l) (.asl (H0.length+j) n)=some (.seq k rows,H0++l):= by
 simp[X7,A1u,R0 hl,frv,P9 hl,hn]
theorem A54 {o:AOper} (h:rbox s o.op=none) {hc:List (Option (List Nat))}:P8 s o hc=true:= by unfold P8;rw[h]
theorem E2p {H:A2}:Z4 H []=some ([],H):=rfl
theorem B0s {H H1 H2:A2} {v v':AV} {vs vs':List AV} (h:frv H v=some (v',H1)) (k:Z4 H1 vs=some (vs',H2)):Z4 H (v::vs)=some (v'::vs',H2):= by simp only[Z4,h,k]
theorem E0a {H H1:A2} {cs cs':List AV} (h:Z4 H cs=some (cs',H1)):U4 H (.agg cs)=some (.agg cs',H1):= by simp only[U4,h,Zb]
theorem B6x {b:Nat}:(([]:List (Option (List Nat))).all fun e=>match e with|none=>true|some hs=>hs.contains b)=true:=rfl
theorem B3x {b:Nat} {hs:List Nat} {r:List (Option (List Nat))} (h:hs.contains b=true) (k:(r.all fun e=>match e with|none=>true|some hs=>hs.contains b)=true):((some hs::r).all fun e=>match e with|none=>true|some hs=>hs.contains b)=true:= by
 rw[ZS,k];simp only[h,Z18]
theorem D6v {i:Nat} {af:AFunc} {first cap args aq rs:List AV} (haf:T i=some af) (has:first++args++cap=aq) (hn:(ZC aq.length af.nargs&&ZU af.nargs 1000)=true)
  (h:WP T af.body (M0 0 aq) H0 ⟨H0.length,c.cur::c.outer⟩ (fun e s H=>∃ rs',RetQ H0 af.results rs' e s H∧rs'.map fzA=rs)):A0f T c H0 (.fn (.func i) first cap) args rs:= by
 obtain⟨e,S',s',H',h1,h2,rs',⟨h3,rs0,H1,h4,h5,h6,h7⟩,h8⟩:=h _ (Sub.refl _)
 refine⟨rs',⟨?_,h6⟩,h8⟩
 have ht:trunc H0.length rs' H1=H0:= by simp[trunc,h6,h7]
 have:=L5.fn (c:=c) (H:=H0) (f:=.fn (.func i) first cap) (args:=args) (rs:=rs') (rs1:=rs') (rs0:=rs0) Z haf Z has.symm hn Z h1 (by cases e <;> first|rfl|exact h3.elim) (V3 h2 h4) h5 Z Z
 rw[ht]at this
 exact this
theorem Z3 {ac:ACode} {Q:Ex→C2→A2→Prop} (h:WP T ac s (H0++[]) c Q):WP T ac s H0 c Q:= by rwa [ZY]at h
theorem bdn {N:Nat}:A1m N []=true:=rfl
theorem bdc {N:Nat} {t:Nat} {v:AV} {s:C2} (h:v.bd N=true) (k:A1m N s=true):A1m N ((t,v)::s)=true:= by simp only[A1m,h,k,Z18]
theorem A4 {N:Nat} {v:Value}:(AV.lit v).bd N=true:= by simp only[AV.bd]
theorem G6 {N k:Nat} {rows:List (List AV)}:(AV.seq k rows).bd N=true:= by simp only[AV.bd]
theorem Y2 {N k:Nat} {rows:List (List AV)}:(AV.fresh k rows).bd N=true:= by simp only[AV.bd]
theorem J7 {N j k o:Nat} (h:ZH (j+1) k=true):(AV.ptr (N+j) o).bd (N+k)=true:= by simp only[AV.bd];exact Zl (by have:=Zp h;omega)
theorem E2j {N j k:Nat} (h:ZH (j+1) k=true):(AV.itr (N+j)).bd (N+k)=true:= by simp only[AV.bd];exact Zl (by have:=Zp h;omega)
theorem R3 {N j k n:Nat} (h:ZH (j+1) k=true):(AV.asl (N+j) n).bd (N+k)=true:= by simp only[AV.bd];exact Zl (by have:=Zp h;omega)
theorem A65 {H:A2} {b:Nat} {cs:List AV} (h:hcells H b=some cs):b<H.length:= by
 unfold hcells hget at h
 cases e:H[b]? with
 | none=>simp[e]at h
 | some o=>exact(Ze.1 e).1
theorem A8q {H:A2} {b o k:Nat} {cs:List AV} (h:hcells H b=some cs):(AV.ptr b o).bd (H.length+k)=true:= by
 have:=A65 h
 simp only[AV.bd];exact Zl (by omega)
mutual
theorem bd_more {N M:Nat} (h:N≤M):(v:AV)→v.bd N=true→v.bd M=true
 | .lit _,_|.nils _,_|.seq _ _,_|.fresh _ _,_|.undef,_=>by simp only[AV.bd]
 | .xseq _ rows,k=>by simp only[AV.bd]at k ⊢; exact bdR_more h rows k
 | .ptr b _,k|.itr b,k|.eptr b _ _ _,k|.asl b _,k|.csl b _ _ _,k|.mp b,k=>by
  simp only[AV.bd]at k ⊢
  exact Zl (Z01 (Zp k) h)
 | .cptr cs,k|.agg cs,k|.tup cs,k=>by simp only[AV.bd]at k ⊢; exact bdL_more h k
 | .fn f a c,k=>by
  cases f <;> simp only[AV.bd,Zc]at k ⊢
  all_goals first|exact⟨bdL_more h k.1,bdL_more h k.2⟩|exact⟨Zl (Z01 (Zp k.1) h),bdL_more h k.2.1,bdL_more h k.2.2⟩|exact⟨⟨Zl (Z01 (Zp k.1.1) h),bdL_more h k.1.2⟩,bdL_more h k.2⟩
theorem bdL_more {N M:Nat} (h:N≤M):{vs:List AV}→bdL N vs=true→bdL M vs=true
 | [],_=>rfl
 | v::vs,k=>by
  simp only[bdL,Zc]at k ⊢
  exact⟨bd_more h v k.1,bdL_more h k.2⟩
theorem bdR_more {N M:Nat} (h:N≤M):(rows:List (List AV))→bdR N rows=true→bdR M rows=true
 | [],_=>rfl
 | r::rows,k=>by
  simp only[bdR,Zc]at k ⊢
  exact⟨bdL_more h k.1,bdR_more h rows k.2⟩
end
theorem C79 {N k i:Nat} {a b:List AV} (h:bdL N a=true∧bdL N b=true):(AV.fn (.func i) a b).bd (N+k)=true:= by
 simp only[AV.bd,bdL_more (ZL N k) h.1,bdL_more (ZL N k) h.2,Z18]
theorem E2i {N i:Nat} {a b:List AV} (ha:bdL N a=true) (hb:bdL N b=true):(AV.fn (.func i) a b).bd N=true:= by simp only[AV.bd,ha,hb,Z18]
theorem B69 {N:Nat} {cs:List AV} (h:cs.all (fun v=>match v with|.lit _|.seq _ _|.nils _|.fresh _ _=>true|_=>false)=true):(AV.agg cs).bd N=true:= by
 simp only[AV.bd]
 induction cs with
 | nil=>rfl
 | cons v cs ih =>
  simp only[ZS,Zc]at h
  simp only[bdL,ih h.2,Z32]
  cases v with
  | lit|seq|nils|fresh=>simp only[AV.bd]
  | _=>simp at h
theorem A1w {H:A2} {l:List AO} {c:Sc} (h:T5 c H=true):T5 ⟨H.length,c.cur::c.outer⟩ (H++l)=true:= by
 unfold T5 at h ⊢
 rw[ZS,Zl (by simp),Z1h]
 rw[Zq]at h ⊢
 intro B hB
 have:=Zp (h B hB)
 exact Zl (by simp;omega)
theorem B1 {N:Nat}:bdL N []=true:=rfl
theorem A3 {N:Nat} {v:AV} {vs:List AV} (h:v.bd N=true) (k:bdL N vs=true):bdL N (v::vs)=true:= by simp only[bdL,h,k,Z18]
def Impl {α β:Type} (T:Tab) (H:A2) (i:Nat) (ff fc:List AV) (g:α→Option β) (ea:α→List AV) (er:β→List AV):Prop :=
 (bdL H.length ff=true∧bdL H.length fc=true)∧∀ (H':A2),H.length≤H'.length→(∀ b cs,hcells H b=some cs→hcells H' b=some cs)→∀ c x r,g x=some r→A0f T c H' (.fn (.func i) ff fc) (ea x) (er r)
theorem Impl.mono {α β:Type} {H H1:A2} {i:Nat} {ff fc:List AV} {g:α→Option β} {ea:α→List AV} {er:β→List AV} (h:Impl T H i ff fc g ea er) (hl:H.length≤H1.length) (hag:∀b cs,hcells H b=some cs→hcells H1 b=some cs):Impl T H1 i ff fc g ea er :=
 ⟨⟨bdL_more hl h.1.1,bdL_more hl h.1.2⟩,fun H' hl' k c x r e=>h.2 H' (Z01 hl hl') (fun b cs hb=>k b cs (hag b cs hb)) c x r e⟩
theorem Impl.app {α β:Type} {H:A2} {i:Nat} {ff fc:List AV} {g:α→Option β} {ea:α→List AV} {er:β→List AV} (h:Impl T H i ff fc g ea er) (l:List AO):Impl T (H++l) i ff fc g ea er :=
 h.mono (by simp) (fun b cs hb=>F3 hb l)
theorem Impl.call {α β:Type} {H:A2} {i:Nat} {ff fc:List AV} {g:α→Option β} {ea:α→List AV} {er:β→List AV} (h:Impl T H i ff fc g ea er) {x:α} {r:β} (e:g x=some r) (l:List AO):A0f T c (H++l) (.fn (.func i) ff fc) (ea x) (er r) :=
 h.2 _ (by simp) (fun b cs hb=>F3 hb l) c x r e
theorem retq {rv:List ARes} {rs rs0:List AV} {H1:List AO} {e:Ex} (he:(match e with|.exit _=>False|_=>True)) (h1:results s (H0++l) rv=some rs0) (h2:S7 H0.length (H0++l) rs0=some (rs,H0++H1)) (h3:bdL H0.length rs=true):RetQ H0 rv rs e s (H0++l) :=
 ⟨he,rs0,_,h1,h2,h3,by simp⟩
theorem A5g {i:Nat} {first cap args rs aq:List AV} {H:A2} (h:F0 T c H (.fn (.func i) [] []) aq rs) (has:aq=first++args++cap:= by rfl):F0 T c H (.fn (.func i) first cap) args rs:= by
 subst has
 obtain⟨⟨n,e⟩,hb⟩:=h
 refine⟨⟨n,?_⟩,hb⟩
 cases n with
 | zero=>simp[mach]at e
 | succ m =>
  rw[V8]at e ⊢
  simpa [N0] using e
theorem E2w {B j n k:Nat} {rows:List (List AV)} (hl:l[j]? = some (.arr k false rows)) (hn:rows.length=n) (hB:ZH B j=true):X7 (H0.length+B) (H0++l) (.asl (H0.length+j) n)=some (.fresh k rows,H0++l.set j .dead):= by
 have:ZH (H0.length+B) (H0.length+j)=true:=Zl (Nat.add_le_add_left (Zp hB) _)
 simp[X7,A1u,R0 hl,this,hn,I7]
theorem E0i {B j n k:Nat} {rows:List (List AV)} (hl:l[j]? = some (.arr k false rows)) (hn:rows.length=n) (hB:ZH B j=false):X7 (H0.length+B) (H0++l) (.asl (H0.length+j) n)=some (.seq k rows,H0++l.set j (.arr k true rows)):= by
 have:ZH (H0.length+B) (H0.length+j)=false:= by
  cases h:ZH (H0.length+B) (H0.length+j) with
  | false=>rfl
  | true =>
   have h1:=Zp h
   have:=Zl (show B≤j by omega)
   rw[hB]at this;cases this
 simp[X7,A1u,R0 hl,this,frv,P9 hl,hn,I7]
theorem B3h {N:Nat} {rs vs:List AV} {H3:A2} (hb:bdL N rs=false) (hv:rs.map fzA=vs):Z5 n0 (trunc N rs H3) rs []=(vs,H3):= by
 rw[A11,hv];simp[trunc,hb]
theorem Y3 {N:Nat} {v:AV} {vs:List AV} (h:v.bd N=false):bdL N (v::vs)=false:= by simp only[bdL,h,Bool.false_and]
theorem A8r {N B j o:Nat} (h:ZH B j=true):(AV.ptr (N+j) o).bd (N+B)=false:= by
 simp only[AV.bd]
 cases e:ZU (N+j) (N+B) with
 | false=>rfl
 | true=>have:=Zp e;have:=Zp h;omega
theorem B7a {N i:Nat} {a b:List AV} (h:bdL N b=false):(AV.fn (.func i) a b).bd N=false:= by simp only[AV.bd,h,Bool.and_false]
theorem B3l {k:Nat} (h:l.length=k):(H0++l).length=H0.length+k:= by rw[Zo,h]
theorem Impl.callP {α β:Type} {H:A2} {i:Nat} {ff fc:List AV} {g:α→Option β} {ea:α→List AV} {er:β→List AV} (h:Impl T H i ff fc g ea er) {x:α} {r:β} (e:g x=some r) (l:List AO):A0f T c ((H++l).map AO.toRo) (.fn (.func i) ff fc) (ea x) (er r) :=
 h.2 _ (by simp) (fun b cs hb=>by rw[B7n];exact F3 hb l) c x r e
end
section
variable {T:Tab} {s s' S:C2} {H0 H H':A2} {l l':List AO} {c:Sc} {n0 k0:Nat} {hc:List (Option (List Nat))} {ops:List AOper} {Q:Ex→C2→A2→Prop} {R:C2→A2→Prop}
inductive RL (s:C2):List Nat→C2→Prop
 | n:RL s [] []
 | k {t:Nat} {v:AV} {l:List Nat} {s':C2} (h:sget s t=some v) (r:RL s l s'):RL s (t::l) ((t,v)::s')
 | x {t:Nat} {l:List Nat} {s':C2} (r:RL s l s'):RL s (t::l) s'
theorem RL.sub {l:List Nat} {s':C2} (h:RL s l s'):Sub s' s:= by
 induction h with
 | n=>exact Sub.nil _
 | k h _ ih=>exact Sub.cons h ih
 | x _ ih=>exact ih
theorem RL.ok {l:List Nat} {s':C2} (h:RL s l s'):(s'.all fun x=>l.contains x.1)=true:= by
 have:∀x∈s',x.1∈l:= by
  induction h with
  | n=>intro x hx;simp at hx
  | k h _ ih =>
   intro x hx
   rcases Zu.1 hx with rfl|hx
   ·exact Zy
   ·exact Zx _ (ih x hx)
  | x _ ih=>intro y hy;exact Zx _ (ih y hy)
 rw[Zq]
 intro x hx
 simpa using this x hx
theorem en {live:List Nat} (h:RL s live s') (k:Q .normal s' H):N2 T c n0 [] s H hc (RG live Q):=⟨0,s,H,Z,s',h.sub,h.ok,k⟩
theorem es {live:List Nat} {b:ACode} (h:RL s live s') (k:WP T b s' H c Q):N2 T c n0 [] s H hc (RG live (D01 T b c Q)):=en h k
theorem rg {d:Bool} {nres:Nat} {live:List Nat} (k0:Nat) (hk:l.length=k0) (h:N2 T c (H0.length+k0) ops s (H0++(l++Zv nres .dead)) [] (RG live Q)):WP T (.region d nres [] ops live) s (H0++l) c Q:=C3m k0 hk h
theorem r0 {d:Bool} {live:List Nat} (h:N2 T c (H0.length+l.length) ops s (H0++l) [] (RG live Q)):WP T (.region d 0 [] ops live) s (H0++l) c Q :=
 C3m l.length Z (by rw[List.replicate_zero,ZY];exact h)
theorem sg {d:Bool} {nres:Nat} {live:List Nat} {b:ACode} (k0:Nat) (hk:l.length=k0) (h:N2 T c (H0.length+k0) ops s (H0++(l++Zv nres .dead)) [] (RG live (D01 T b c Q))):WP T (.seq (.region d nres [] ops live) b) s (H0++l) c Q:=D2p (rg k0 hk h)
theorem s0 {d:Bool} {live:List Nat} {b:ACode} (h:N2 T c (H0.length+l.length) ops s (H0++l) [] (RG live (D01 T b c Q))):WP T (.seq (.region d 0 [] ops live) b) s (H0++l) c Q:=D2p (r0 h)
theorem B9 {a b:ACode} (h:WP T a s H c (D01 T b c Q)):WP T (.seq a b) s H c Q:=D2p h
theorem B8 (h:Q .normal s H):WP T .skip s H c Q:=E10 h
theorem G5 {id:Nat} (h:Q (.exit id) s H):WP T (.exit id) s H c Q:=E1y h
theorem C6 (h:Q .ret s H):WP T .ret s H c Q:=E34 h
theorem C5 {id:Nat} {a:ACode} (h:WP T a s H c (C0u id Q)):WP T (.block id a) s H c Q:=D9r h
theorem D4k {a:ACode} (h:WP T a s H c Q):WP T (.scope a) s H c Q:=D9s h
theorem Q5 {x:Opd} {t:Bool} {a b:ACode} (h:ev s x=some (.lit (.bool t))) (ht:t=true) (k:WP T a s H c Q):WP T (.cond x a b) s H c Q:=D0v h ht k
theorem T0 {x:Opd} {t:Bool} {a b:ACode} (h:ev s x=some (.lit (.bool t))) (ht:t=false) (k:WP T b s H c Q):WP T (.cond x a b) s H c Q:=D0u h ht k
theorem A59 {ac:ACode} {Q1:Ex→C2→A2→Prop} (h:WP T ac s H c (fun e s' H'=>∃ s0,Sub s0 s'∧Q1 e s0 H')) (k:∀e s' H',Q1 e s' H'→Q e s' H'):WP T ac s H c Q:=E1z h k
theorem D9p {tr:Bool} {live:List Nat} {bd:ACode} (k:Nat) (hk:l.length=k) (s':C2) (hr:∀S,Sub s S→restrict S live=s') (h:WP T bd s' (H0++l) (bif tr then ⟨H0.length+k,c.cur::c.outer⟩ else c) (UnQ T tr live bd c (H0.length+k) Q)):WP T (.loop tr live bd) s (H0++l) c Q:=D6c k hk s' hr h
theorem wi {ρ:Type} {x:Opd} {e:Bool} {A B:Option ρ} {r:ρ} {a b:ACode} (h:(if e=true then A else B)=some r) (hx:ev s x=some (.lit (.bool e))) (k1:e=true→A=some r→WP T a s H c Q) (k2:e=false→B=some r→WP T b s H c Q):WP T (.cond x a b) s H c Q:= by
 cases e with
 | true=>exact D0v hx Z (k1 Z h)
 | false=>exact D0u hx Z (k2 Z h)
theorem oB {α β:Type} {o:Option α} {f:α→Option β} {r:β} {P:Prop} (h:o.bind f=some r) (k:∀x,o=some x→f x=some r→P):P:= by
 obtain⟨x,h1,h2⟩:=E1c h
 exact k x h1 h2
theorem os {α:Type} {a b:α} (h:some a=some b):a=b:=Z0b h
def GQ (d:Nat) (v:AV) (s:C2) (H:A2) (s1:C2) (H1:A2):Prop:=H1=H∧Sub ((d,v)::s) s1
theorem D0h:∀{s:C2} {t:Nat} {v:AV},sget s t=some v→∃ x∈s,x.1=t
 | [],_,_,h=>by simp[N9,K8]at h
 | x::s,t,v,h=>by
  simp only[N9,K8]at h
  cases hb:ZC x.1 t with
  | true=>exact⟨x,by simp,Zk hb⟩
  | false=>rw[hb]at h;obtain⟨y,h1,h2⟩:=D0h h;exact⟨y,by simp[h1],h2⟩
theorem D0m:∀{n:Nat} {s s1:C2},s1.drop n=s→((s1.take n).all fun y=>s.all fun x=>!Nat.beq y.1 x.1)=true→Sub s s1
 | 0,s,s1,h,_=>by rw[Z12]at h;subst h;exact Sub.refl _
 | n+1,s,[],h,_=>by simp at h;subst h;exact Sub.refl _
 | n+1,s,y::s1,h,k=>by
  simp only[List.drop_succ_cons]at h
  simp only[List.take_succ_cons,ZS,Zc]at k
  have ih:=D0m h k.2
  intro t v e
  obtain⟨x,hx,rfl⟩:=D0h e
  have:=Zq.1 k.1 x hx
  simp only[Z05]at this
  simp only[N9,K8,this,cond_false]
  exact ih _ _ e
theorem ge (n:Nat) {d:Nat} {v:AV} {s1:C2} (hv:sget s1 d=some v) (hd:s1.drop n=s) (hk:((s1.take n).all fun y=>s.all fun x=>!Nat.beq y.1 x.1)=true):N2 T c n0 [] s1 H hc (GQ d v s H):=⟨0,s1,H,Z,Z,Sub.cons hv (D0m hd hk)⟩
theorem gpR (n d:Nat) (v:AV) (t:Nat) {g:Bool} (_hg:sget s t=some (.lit (.bool g))) (hq:calm (ops.drop n)=true) (h1:g=true→N2 T c n0 (ops.take n) s H hc (GQ d v s H)) (h2:g=false→N2 T c n0 (ops.take n) s H hc (GQ d v s H))
  (hR:∀a b H,Sub a b→R a H→R b H) (k:N2 T c n0 (ops.drop n) ((d,v)::s) H [] R):N2 T c n0 ops s H hc R:= by
 have:N2 T c n0 (ops.take n) s H hc (GQ d v s H):= by
  cases g
  ·exact h2 Z
  ·exact h1 Z
 exact B8a n ((d,v)::s) H hq this hR k
theorem gp {live:List Nat} (n d:Nat) (v:AV) (t:Nat) {g:Bool} (hg:sget s t=some (.lit (.bool g))) (hq:calm (ops.drop n)=true) (h1:g=true→N2 T c n0 (ops.take n) s H hc (GQ d v s H)) (h2:g=false→N2 T c n0 (ops.take n) s H hc (GQ d v s H))
  (k:N2 T c n0 (ops.drop n) ((d,v)::s) H [] (RG live Q)):N2 T c n0 ops s H hc (RG live Q) :=
 gpR n d v t hg hq h1 h2 (fun _ _ _ h ⟨s',a,b,d⟩=>⟨s',a.trans h,b,d⟩) k
theorem gq {d1:Nat} {v1:AV} {s1:C2} {H1:A2} (n d:Nat) (v:AV) (t:Nat) {g:Bool} (hg:sget s t=some (.lit (.bool g))) (hq:calm (ops.drop n)=true) (h1:g=true→N2 T c n0 (ops.take n) s H hc (GQ d v s H)) (h2:g=false→N2 T c n0 (ops.take n) s H hc (GQ d v s H))
  (k:N2 T c n0 (ops.drop n) ((d,v)::s) H [] (GQ d1 v1 s1 H1)):N2 T c n0 ops s H hc (GQ d1 v1 s1 H1) :=
 gpR n d v t hg hq h1 h2 (fun _ _ _ h q=>⟨q.1,q.2.trans h⟩) k
theorem bt {e:Bool} {α:Type} {A B:Option α} {r:α} (h:(if e=true then A else B)=some r) (he:e=true):A=some r:= by rw[if_pos he]at h;exact h
theorem bf {e:Bool} {α:Type} {A B:Option α} {r:α} (h:(if e=true then A else B)=some r) (he:e=false):B=some r:= by rw[if_neg (by rw[he];decide)]at h;exact h
def PX (i:Nat) (s0:C2) (H0:A2) (e:Ex) (s':C2) (H':A2):Prop:=e=.exit i∧s'=s0∧H'=H0
theorem wl {γ σ ρ:Type} {live:List Nat} {bd:ACode} {body:σ→Option (σ⊕ρ)} {x0:σ} {r:ρ} (st:σ→C2) (lh:γ→σ→List AO) (N:Nat) (P:ρ→Ex→C2→A2→Prop) (g0:γ) (h:loop body x0=some r) (hs:st x0=s) (hl:lh g0 x0=l)
  (hN:∀g x,(lh g x).length=N) (hlive:∀x,(st x).map (·.1)=live) (hnd:B4z live=true) (hbd:∀x,A1m (H0.length+N) (st x)=true)
  (hbody:∀g x o,body x=some o→WP T bd (st x) (H0++lh g x) ⟨H0.length+N,c.cur::c.outer⟩ (D2s true st (fun g x=>H0++lh g x) (H0.length+N) P o))
  (k:∀e s' H',e.out=true→P r e s' H'→Q e s' H'):WP T (.loop true live bd) s (H0++l) c Q:= by
 subst hs;subst hl
 exact A22 (C3l st (fun g x=>H0++lh g x) (H0.length+N) P (fun g x=>by rw[Zo,hN]) hlive (A7z hnd) (fun x _=>hbd x) hbody h g0) fun e s' H' q=>k e s' H' q.1 q.2
theorem lnT {γ:Type} {s0:C2} {L:γ→List AO} {N:Nat} (g:γ) (hl:l.take N=L g) (hs:Sub s0 s'):Ex.normal=Ex.normal∧Sub s0 s'∧∃ g',(bif true then (H0++l).take (H0.length+N) else H0++l)=H0++L g' :=
 ⟨Z,hs,g,by rw[cond_true,B0j,hl]⟩
theorem lx {R:C2→Prop} {o:Bool} {s0:C2} (ho:o=true) (hr:R s0) (hs:Sub s0 s'):o=true∧∃ s0,Sub s0 s'∧R s0:=⟨ho,s0,hs,hr⟩
theorem me {R:C2→Prop} {s0:C2} (hr:R s0) (hs:Sub s0 s'):∃s0,Sub s0 s'∧R s0:=⟨s0,hs,hr⟩
theorem px {i:Nat} {s0:C2} {H:A2}:PX i s0 H (.exit i) s0 H:=⟨Z,Z,Z⟩
theorem E5t {x:Opd} {v v':AV} {H':A2} (h:ev s x=some v) (hf:U4 H v=some (v',H')):One T c n0 s H (.mvz x) v' H':=⟨0,by simp only[core,prim,h,hf]⟩
theorem E3b {x:Opd} {j n k:Nat} {p:Bool} {rows:List (List AV)} (h:ev s x=some (.asl (H0.length+j) n)) (hl:l[j]? = some (.arr k p rows)) (hn:rows.length=n):One T c n0 s (H0++l) (.mvz x) (.seq k rows) (H0++l.set j (.arr k true rows)):=E5t h (B4p hl hn)
theorem D8 {x y:Opd} {a b:Int} (hx:ev s x=some (.lit (.int .i64 a))) (hy:ev s y=some (.lit (.int .i64 b))):One T c n0 s H (.bin .add x y) (.lit (.int .i64 (w64 (a+b)))) H:=R8 hx hy Z
theorem W1 {x y:Opd} {a b:Int} (hx:ev s x=some (.lit (.int .i64 a))) (hy:ev s y=some (.lit (.int .i64 b))):One T c n0 s H (.bin .sub x y) (.lit (.int .i64 (w64 (a-b)))) H:=R8 hx hy Z
theorem B33 {x y:Opd} {a b:Int} (hx:ev s x=some (.lit (.int .i64 a))) (hy:ev s y=some (.lit (.int .i64 b))):One T c n0 s H (.bin .mul x y) (.lit (.int .i64 (w64 (a*b)))) H:=R8 hx hy Z
section
variable {x y:Opd} {a b:Int} {kk:IntKind}
theorem A9v {op:BinOp} {v:Value} (h:B1x op kk a b=some v):A9c op (.lit (.int kk a)) (.lit (.int kk b))=some (.lit v):= by
 cases op <;> first|(simp only[A9c,if_true,h,Zb];done)|(simp[B1x]at h)
theorem F9 (hx:ev s x=some (.lit (.int kk a))) (hy:ev s y=some (.lit (.int kk b))):One T c n0 s H (.bin .eql x y) (.lit (.bool (a==b))) H:=R8 hx hy (A9v Z)
theorem H9 (hx:ev s x=some (.lit (.int kk a))) (hy:ev s y=some (.lit (.int kk b))):One T c n0 s H (.bin .neq x y) (.lit (.bool (a != b))) H:=R8 hx hy (A9v Z)
theorem I3 (hx:ev s x=some (.lit (.int kk a))) (hy:ev s y=some (.lit (.int kk b))):One T c n0 s H (.bin .lss x y) (.lit (.bool (decide (a<b)))) H:=R8 hx hy (A9v Z)
theorem A4p (hx:ev s x=some (.lit (.int kk a))) (hy:ev s y=some (.lit (.int kk b))):One T c n0 s H (.bin .leq x y) (.lit (.bool (decide (a≤b)))) H:=R8 hx hy (A9v Z)
theorem W0 (hx:ev s x=some (.lit (.int kk a))) (hy:ev s y=some (.lit (.int kk b))):One T c n0 s H (.bin .gtr x y) (.lit (.bool (decide (a>b)))) H:=R8 hx hy (A9v Z)
theorem A8p (hx:ev s x=some (.lit (.int kk a))) (hy:ev s y=some (.lit (.int kk b))):One T c n0 s H (.bin .geq x y) (.lit (.bool (decide (a≥b)))) H:=R8 hx hy (A9v Z)
end
theorem D8d {x y:Opd} {a b:Bool} (hx:ev s x=some (.lit (.bool a))) (hy:ev s y=some (.lit (.bool b))):One T c n0 s H (.beq true x y) (.lit (.bool (!(a==b)))) H:=E17 hx hy
theorem D8g {ks:List Nat} {x y:Opd} {a b:List AV} {t:Bool} (hx:ev s x=some (.agg a)) (hy:ev s y=some (.agg b)) (ha:kinds ks a=true) (hb:kinds ks b=true) (ht:I4 a b=some t):One T c n0 s H (.cmp true ks x y) (.lit (.bool (!t))) H:=D8e hx hy ha hb ht
theorem C7d {ks:List Nat} {x y:Opd} {a b:List AV} {t:Bool} (hx:ev s x=some (.agg a)) (hy:ev s y=some (.agg b)) (ha:kinds ks a=true) (hb:kinds ks b=true) (ht:I4 a b=some t):One T c n0 s H (.cmp false ks x y) (.lit (.bool t)) H:=D8e hx hy ha hb ht
theorem D6n {x y:Opd} {a b:ByteArray} (hx:ev s x=some (.lit (.string a))) (hy:ev s y=some (.lit (.string b))):One T c n0 s H (.bin .eql x y) (.lit (.bool (eqS a b))) H:=R8 hx hy Z
theorem E4r {x y:Opd} {a b:ByteArray} (hx:ev s x=some (.lit (.string a))) (hy:ev s y=some (.lit (.string b))):One T c n0 s H (.bin .neq x y) (.lit (.bool (!eqS a b))) H:=R8 hx hy Z
theorem M9 {x:Opd} {b:Bool} (hx:ev s x=some (.lit (.bool b))):One T c n0 s H (.un .not x) (.lit (.bool (!b))) H:=C9i hx Z
theorem C9 {a:Opd} {j k:Nat} {cs:List AV} (h:ev s a=some (.ptr (H0.length+j) 0)) (hl:l[j]? = some (.cells cs)) (hk:ZC cs.length k=true):One T c n0 s (H0++l) (.load (some k) a) (.agg cs) (H0++l):= by
 have hk:=Zk hk
 exact A6b h hl (by rw[Z12,hk];exact Zl (Zn _)) (by rw[Z12,ZR (by omega)])
theorem I0 {a:Opd} {k:Nat} {cs:List AV} (h:ev s a=some (.cptr cs)) (hk:ZC cs.length k=true):One T c n0 s H (.load (some k) a) (.agg cs) H:= by
 have hk:=Zk hk
 exact C9e h (by rw[hk];exact Zl (Zn _)) (ZR (by omega))
end
section
variable {T:Tab} {H0:A2} {c:Sc}
theorem cE {i:Nat} {af:AFunc} {args rs:List AV} (haf:T i=some af) (hn:(ZC args.length af.nargs&&ZU af.nargs 1000)=true)
  (h:WP T af.body (M0 0 args) (H0++[]) ⟨H0.length,c.cur::c.outer⟩ (RetQ H0 af.results rs)):F0 T c H0 (.fn (.func i) [] []) args rs :=
 D6u haf (ZY _) hn (Z3 h)
theorem cF {i:Nat} {af:AFunc} {args rs:List AV} (haf:T i=some af) (hn:(ZC args.length af.nargs&&ZU af.nargs 1000)=true)
  (h:WP T af.body (M0 0 args) (H0++[]) ⟨H0.length,c.cur::c.outer⟩ (fun e s H=>∃ rs',RetQ H0 af.results rs' e s H∧rs'.map fzA=rs)):A0f T c H0 (.fn (.func i) [] []) args rs :=
 D6v haf (ZY _) hn (Z3 h)
end
section
variable {S:C2} {t1 t2 t3 t4 t5 t6 t7 t8 t9 t10 t11 t12 t13 t14:Nat} {v1 v2 v3 v4 v5 v6 v7 v8 v9 v10 v11 v12 v13 v14:AV}
theorem ra1 (h1:sget S t1=some v1):RL S [t1] [(t1,v1)]:=.k h1 .n
theorem su1 (h1:sget S t1=some v1):Sub [(t1,v1)] S:=.cons h1 (.nil _)
theorem ra2 (h1:sget S t1=some v1) (h2:sget S t2=some v2):RL S [t1,t2] [(t1,v1),(t2,v2)]:=.k h1 (.k h2 .n)
theorem su2 (h1:sget S t1=some v1) (h2:sget S t2=some v2):Sub [(t1,v1),(t2,v2)] S:=.cons h1 (.cons h2 (.nil _))
theorem ra3 (h1:sget S t1=some v1) (h2:sget S t2=some v2) (h3:sget S t3=some v3):RL S [t1,t2,t3] [(t1,v1),(t2,v2),(t3,v3)]:=.k h1 (.k h2 (.k h3 .n))
theorem su3 (h1:sget S t1=some v1) (h2:sget S t2=some v2) (h3:sget S t3=some v3):Sub [(t1,v1),(t2,v2),(t3,v3)] S:=.cons h1 (.cons h2 (.cons h3 (.nil _)))
theorem ra4 (h1:sget S t1=some v1) (h2:sget S t2=some v2) (h3:sget S t3=some v3) (h4:sget S t4=some v4):RL S [t1,t2,t3,t4] [(t1,v1),(t2,v2),(t3,v3),(t4,v4)]:=.k h1 (.k h2 (.k h3 (.k h4 .n)))
theorem su4 (h1:sget S t1=some v1) (h2:sget S t2=some v2) (h3:sget S t3=some v3) (h4:sget S t4=some v4):Sub [(t1,v1),(t2,v2),(t3,v3),(t4,v4)] S:=.cons h1 (.cons h2 (.cons h3 (.cons h4 (.nil _))))
theorem ra5 (h1:sget S t1=some v1) (h2:sget S t2=some v2) (h3:sget S t3=some v3) (h4:sget S t4=some v4) (h5:sget S t5=some v5):RL S [t1,t2,t3,t4,t5] [(t1,v1),(t2,v2),(t3,v3),(t4,v4),(t5,v5)]:=.k h1 (.k h2 (.k h3 (.k h4 (.k h5 .n))))
theorem su5 (h1:sget S t1=some v1) (h2:sget S t2=some v2) (h3:sget S t3=some v3) (h4:sget S t4=some v4) (h5:sget S t5=some v5):Sub [(t1,v1),(t2,v2),(t3,v3),(t4,v4),(t5,v5)] S:=.cons h1 (.cons h2 (.cons h3 (.cons h4 (.cons h5 (.nil _)))))
theorem ra6 (h1:sget S t1=some v1) (h2:sget S t2=some v2) (h3:sget S t3=some v3) (h4:sget S t4=some v4) (h5:sget S t5=some v5) (h6:sget S t6=some v6):RL S [t1,t2,t3,t4,t5,t6] [(t1,v1),(t2,v2),(t3,v3),(t4,v4),(t5,v5),(t6,v6)]:=.k h1 (.k h2 (.k h3 (.k h4 (.k h5 (.k h6 .n)))))
theorem su6 (h1:sget S t1=some v1) (h2:sget S t2=some v2) (h3:sget S t3=some v3) (h4:sget S t4=some v4) (h5:sget S t5=some v5) (h6:sget S t6=some v6):Sub [(t1,v1),(t2,v2),(t3,v3),(t4,v4),(t5,v5),(t6,v6)] S:=.cons h1 (.cons h2 (.cons h3 (.cons h4 (.cons h5 (.cons h6 (.nil _))))))
theorem ra7 (h1:sget S t1=some v1) (h2:sget S t2=some v2) (h3:sget S t3=some v3) (h4:sget S t4=some v4) (h5:sget S t5=some v5) (h6:sget S t6=some v6) (h7:sget S t7=some v7):RL S [t1,t2,t3,t4,t5,t6,t7] [(t1,v1),(t2,v2),(t3,v3),(t4,v4),(t5,v5),(t6,v6),(t7,v7)]:=.k h1 (.k h2 (.k h3 (.k h4 (.k h5 (.k h6 (.k h7 .n))))))
theorem su7 (h1:sget S t1=some v1) (h2:sget S t2=some v2) (h3:sget S t3=some v3) (h4:sget S t4=some v4) (h5:sget S t5=some v5) (h6:sget S t6=some v6) (h7:sget S t7=some v7):Sub [(t1,v1),(t2,v2),(t3,v3),(t4,v4),(t5,v5),(t6,v6),(t7,v7)] S:=.cons h1 (.cons h2 (.cons h3 (.cons h4 (.cons h5 (.cons h6 (.cons h7 (.nil _)))))))
theorem ra8 (h1:sget S t1=some v1) (h2:sget S t2=some v2) (h3:sget S t3=some v3) (h4:sget S t4=some v4) (h5:sget S t5=some v5) (h6:sget S t6=some v6) (h7:sget S t7=some v7) (h8:sget S t8=some v8):RL S [t1,t2,t3,t4,t5,t6,t7,t8] [(t1,v1),(t2,v2),(t3,v3),(t4,v4),(t5,v5),(t6,v6),(t7,v7),(t8,v8)]:=.k h1 (.k h2 (.k h3 (.k h4 (.k h5 (.k h6 (.k h7 (.k h8 .n)))))))
theorem su8 (h1:sget S t1=some v1) (h2:sget S t2=some v2) (h3:sget S t3=some v3) (h4:sget S t4=some v4) (h5:sget S t5=some v5) (h6:sget S t6=some v6) (h7:sget S t7=some v7) (h8:sget S t8=some v8):Sub [(t1,v1),(t2,v2),(t3,v3),(t4,v4),(t5,v5),(t6,v6),(t7,v7),(t8,v8)] S:=.cons h1 (.cons h2 (.cons h3 (.cons h4 (.cons h5 (.cons h6 (.cons h7 (.cons h8 (.nil _))))))))
theorem ra9 (h1:sget S t1=some v1) (h2:sget S t2=some v2) (h3:sget S t3=some v3) (h4:sget S t4=some v4) (h5:sget S t5=some v5) (h6:sget S t6=some v6) (h7:sget S t7=some v7) (h8:sget S t8=some v8) (h9:sget S t9=some v9):RL S [t1,t2,t3,t4,t5,t6,t7,t8,t9] [(t1,v1),(t2,v2),(t3,v3),(t4,v4),(t5,v5),(t6,v6),(t7,v7),(t8,v8),(t9,v9)]:=.k h1 (.k h2 (.k h3 (.k h4 (.k h5 (.k h6 (.k h7 (.k h8 (.k h9 .n))))))))
theorem ra10 (h1:sget S t1=some v1) (h2:sget S t2=some v2) (h3:sget S t3=some v3) (h4:sget S t4=some v4) (h5:sget S t5=some v5) (h6:sget S t6=some v6) (h7:sget S t7=some v7) (h8:sget S t8=some v8) (h9:sget S t9=some v9) (h10:sget S t10=some v10):RL S [t1,t2,t3,t4,t5,t6,t7,t8,t9,t10] [(t1,v1),(t2,v2),(t3,v3),(t4,v4),(t5,v5),(t6,v6),(t7,v7),(t8,v8),(t9,v9),(t10,v10)]:=.k h1 (.k h2 (.k h3 (.k h4 (.k h5 (.k h6 (.k h7 (.k h8 (.k h9 (.k h10 .n)))))))))
theorem ra11 (h1:sget S t1=some v1) (h2:sget S t2=some v2) (h3:sget S t3=some v3) (h4:sget S t4=some v4) (h5:sget S t5=some v5) (h6:sget S t6=some v6) (h7:sget S t7=some v7) (h8:sget S t8=some v8) (h9:sget S t9=some v9) (h10:sget S t10=some v10) (h11:sget S t11=some v11):RL S [t1,t2,t3,t4,t5,t6,t7,t8,t9,t10,t11] [(t1,v1),(t2,v2),(t3,v3),(t4,v4),(t5,v5),(t6,v6),(t7,v7),(t8,v8),(t9,v9),(t10,v10),(t11,v11)]:=.k h1 (.k h2 (.k h3 (.k h4 (.k h5 (.k h6 (.k h7 (.k h8 (.k h9 (.k h10 (.k h11 .n))))))))))
theorem ra12 (h1:sget S t1=some v1) (h2:sget S t2=some v2) (h3:sget S t3=some v3) (h4:sget S t4=some v4) (h5:sget S t5=some v5) (h6:sget S t6=some v6) (h7:sget S t7=some v7) (h8:sget S t8=some v8) (h9:sget S t9=some v9) (h10:sget S t10=some v10) (h11:sget S t11=some v11) (h12:sget S t12=some v12):RL S [t1,t2,t3,t4,t5,t6,t7,t8,t9,t10,t11,t12] [(t1,v1),(t2,v2),(t3,v3),(t4,v4),(t5,v5),(t6,v6),(t7,v7),(t8,v8),(t9,v9),(t10,v10),(t11,v11),(t12,v12)]:=.k h1 (.k h2 (.k h3 (.k h4 (.k h5 (.k h6 (.k h7 (.k h8 (.k h9 (.k h10 (.k h11 (.k h12 .n)))))))))))
theorem ra14 (h1:sget S t1=some v1) (h2:sget S t2=some v2) (h3:sget S t3=some v3) (h4:sget S t4=some v4) (h5:sget S t5=some v5) (h6:sget S t6=some v6) (h7:sget S t7=some v7) (h8:sget S t8=some v8) (h9:sget S t9=some v9) (h10:sget S t10=some v10) (h11:sget S t11=some v11) (h12:sget S t12=some v12) (h13:sget S t13=some v13) (h14:sget S t14=some v14):RL S [t1,t2,t3,t4,t5,t6,t7,t8,t9,t10,t11,t12,t13,t14] [(t1,v1),(t2,v2),(t3,v3),(t4,v4),(t5,v5),(t6,v6),(t7,v7),(t8,v8),(t9,v9),(t10,v10),(t11,v11),(t12,v12),(t13,v13),(t14,v14)]:=.k h1 (.k h2 (.k h3 (.k h4 (.k h5 (.k h6 (.k h7 (.k h8 (.k h9 (.k h10 (.k h11 (.k h12 (.k h13 (.k h14 .n)))))))))))))
end
end Am
end
section
namespace Am
open Go
mutual
def AV.cl (N:Nat):AV→Bool
 | .lit _|.nils _|.undef=>true
 | .seq _ rows|.fresh _ rows=>freeR rows
 | .xseq _ rows=>clR N rows
 | .ptr b _|.itr b|.eptr b _ _ _|.asl b _|.csl b _ _ _|.mp b=>ZU b N
 | .cptr cs|.agg cs|.tup cs=>clL N cs
 | .fn (.yield l) a c=>ZU l N&&clL N a&&clL N c
 | .fn _ a c=>clL N a&&clL N c
def clL (N:Nat):List AV→Bool
 | []=>true
 | x::l=>x.cl N&&clL N l
def clR (N:Nat):List (List AV)→Bool
 | []=>true
 | x::l=>clL N x&&clR N l
end
section
variable {p g:Nat}
end
def clS (N:Nat) (s:C2):Bool:=s.all fun x=>x.2.cl N
def clM (N:Nat) (es:List (AV×AV)):Bool:=es.all fun x=>x.1.cl N&&x.2.cl N
def AO.cl (N:Nat):AO→Bool
 | .dead|.iter _ _=>true
 | .cells cs=>clL N cs
 | .arr _ _ rows=>clR N rows
 | .stk _ rows anc=>clR N rows&&anc.all fun b=>ZU b N
 | .map es=>clM N es
 | .loop _ s _ a b _ _=>clS N s&&a.free&&b.free
 | .mit m _ _=>ZU m N
 | .ro o=>o.cl N
section
variable {p g:Nat}
end
theorem E2d {T:Tab} {d:Bool} {nres:Nat} {pre live:List Nat} {ops:List AOper} {s:C2} {H H1:A2} {c:Sc} {Q:Ex→C2→A2→Prop} (hp:publish s H pre=some H1) (h:WP T (.region d nres [] ops live) s H1 c Q):WP T (.region d nres pre ops live) s H c Q:= by
 intro S hS
 obtain⟨e,S',s',H',⟨n,hn⟩,h1,h2⟩:=h S hS
 refine⟨e,S',s',H',⟨n,?_⟩,h1,h2⟩
 cases n with
 | zero=>simp[mach]at hn
 | succ n =>
  rw[U0]at hn ⊢
  unfold F1 at hn ⊢
  simp only[publish]at hn
  simp only[B6l hS hp]
  exact hn
theorem D4a {s:C2} {H0:A2} {l l1:List AO} {t b n:Nat} {v':AV} (h:sget s t=some (.asl b n)) (hf:U4 (H0++l) (.asl b n)=some (v',H0++l1)):publish s (H0++l) [t]=some (H0++l1):= by
 simp only[publish,h,Y4,hf,Zb]
def grL (N:Nat) (L:A2):Bool:=L.all fun o=>o.anc.all fun b=>ZH N b
def E4o {α:Type} (T:Tab) (i:Nat) (fc:List AV) (ea:α→AV) (pre:A2→Prop) (it:∀(σ ρ:Type),(α→σ→Option (σ⊕ρ))→σ→Option (σ⊕ρ)):Prop :=
 ∀ {σ ρ:Type} (Hm:σ⊕ρ→A2) (N:Nat),(∀ x,(Hm x).length=N)→(∀ x,pre (Hm x))→∀ (y:AV),y.bd N=true→y.cellsOf=[y]→∀ (body:α→σ→Option (σ⊕ρ)),
  (∀ {L:A2} {c:Sc} {x:α} {s:σ} {o:σ⊕ρ},T5 c (Hm (.inl s)++L)=true→grL N L=true→body x s=some o→L5 T c (Hm (.inl s)++L) y [ea x] [.b o.isLeft] (Hm o++L)) →
  ∀ {s0:σ} {o:σ⊕ρ},it σ ρ body s0=some o→∀ {c:Sc},T5 c (Hm (.inl s0))=true→L5 T c (Hm (.inl s0)) (.fn (.func i) [] fc) [y] [] (Hm o)
section
variable {T:Tab} {s:C2} {H0:A2} {l:List AO} {c:Sc} {Q:Ex→C2→A2→Prop}
def C7k {σ ρ:Type} (ex:ρ→Ex):σ⊕ρ→Option Ex
 | .inl _=>none
 | .inr r=>some (ex r)
def E42 {σ ρ:Type} (ex:ρ→Ex):σ⊕ρ→Ex
 | .inl _=>.normal
 | .inr r=>ex r
end
end Am
namespace Am
open Go
section
variable {T:Tab} {s:C2} {H0 H:A2} {l:List AO} {c:Sc} {n0 N:Nat}
theorem U1 {f:Opd} {args:List Opd} {fv:AV} {aq as' rs rs':List AV} {H1 H2:A2} (hf:ev s f=some fv) (ha:evs s args=some aq) (hz:S6 H aq=some (as',H1)) (hcall:L5 T c H1 fv as' rs H2) (hr:rs.map fzA=rs'):One T c n0 s H (.call f args [] false) (packed rs') H2:= by
 obtain⟨n,e⟩:=hcall
 have hz':A1n [] H aq=some (as',H1):=hz
 exact⟨n,by simp only[core,W2,hf,ha,Zj,if_false,hz',e,A11,hr]⟩
def B1s (H0 H':A2) (rv:List ARes) (rs:List AV) (e:Ex) (s:C2) (H:A2):Prop :=
 (match e with|.exit _=>False|_=>True)∧∃ rs0 H1,results s H rv=some rs0∧S7 H0.length H rs0=some (rs,H1)∧bdL H0.length rs=true∧H1.take H0.length=H'
theorem A1x {i:Nat} {af:AFunc} {first cap args aq rs:List AV} {H':A2} (haf:T i=some af) (has:first++args++cap=aq) (hn:(ZC aq.length af.nargs&&ZU af.nargs 1000)=true)
  (h:WP T af.body (M0 0 aq) H ⟨H.length,c.cur::c.outer⟩ (B1s H H' af.results rs)):L5 T c H (.fn (.func i) first cap) args rs H':= by
 obtain⟨e,S',s',H2,h1,h2,h3,rs0,H1,h4,h5,h6,h7⟩:=h _ (Sub.refl _)
 refine L5.fn (af:=af) (bd:=af.body) (aq:=aq) (rs0:=rs0) (rs1:=rs) (H1:=H1) (e:=e) (st':=⟨S',H2,⟨H.length,c.cur::c.outer⟩⟩) Z haf Z has.symm hn Z h1 (by cases e <;> first|rfl|exact h3.elim) (V3 h2 h4) h5 Z ?_
 unfold trunc
 rw[h6,if_pos Z,h7]
theorem B2z {H H':A2} {n:Nat} (h:T5 c H=true) (hl:H.length≤H'.length) (hn:n≤H'.length):T5 ⟨n,c.cur::c.outer⟩ H'=true:= by
 unfold T5 at h ⊢
 rw[ZS,Zl hn,Z1h]
 rw[Zq]at h ⊢
 intro B hB
 have:=Zp (h B hB)
 exact Zl (by omega)
theorem C25 {H0 H1 H':A2} {rv:List ARes} {rs rs0:List AV} {e:Ex} (he:(match e with|.exit _=>False|_=>True)) (h1:results s H1 rv=some rs0) (h2:S7 H0.length H1 rs0=some (rs,H1)) (h3:bdL H0.length rs=true) (h4:H1.take H0.length=H'):B1s H0 H' rv rs e s H1 :=
 ⟨he,rs0,H1,h1,h2,h3,h4⟩
end
end Am
end
section
namespace Am
open Go
section
variable {β:Type} {n:Nat}
end
section
variable {T:Tab} {s:C2} {H0 H:A2} {l:List AO} {c:Sc} {n0 k0:Nat} {β:Type} {n:Nat} {kk:IntKind} {g:β→List AV} {es:List (IArr n×β)} {k:IArr n} {ks:List Nat}
theorem C5e {b:Nat} {o:AO} (h:b<H0.length):hset (H0++l) b o=hset H0 b o++l:= by
 unfold hset
 exact Z4u _ _ h
theorem D45 {b:Nat} {o:AO} (h:hget H0 b=some o) (l:List AO):hget (H0++l) b=some o:= by
 have hb:b<H0.length:= by
  unfold hget at h
  exact(Ze.1 h).1
 unfold hget at h ⊢
 rw[ZF hb];exact h
theorem C5c (H0:A2) (l:List AO) {b:Nat} (hb:b<H0.length):∀js:List Nat,hide (H0++l) (js.map (H0.length + ·)++[b])=hset H0 b .dead++A0d l js
 | []=>by simp only[Z0z,Z06,hide,A0d];exact C5e hb
 | j::js=>by
  simp only[Zt,Z0g,hide,C5c H0 l hb js,A0d]
  have:=I7 (hset H0 b .dead) (A0d l js) j .dead
  rw[I5]at this
  exact this
theorem B9o (H0:A2) (l m:List AO) {b:Nat} (hb:b<H0.length):∀js:List Nat,unhide (H0++l) (hset H0 b .dead++m) (js.map (H0.length + ·)++[b])=H0++V5 l m js
 | []=>by
  have h1:hget (H0++l) b=some H0[b]:= by
   unfold hget;rw[ZF hb];simp[hb]
  simp only[Z0z,Z06,unhide,V5,h1]
  rw[C5e (by rw[I5];exact hb)]
  congr 1
  unfold hset
  rw[List.set_set]
  exact Z3b hb
 | j::js=>by
  have h1:hget (H0++l) (H0.length+j)=l[j]?:= by rw[W4]
  simp only[Zt,Z0g,unhide,V5,h1,B9o H0 l m hb js]
  cases l[j]? with
  | none=>rfl
  | some o=>exact I7 _ _ _ _
theorem C3t (N b:Nat) {js:List Nat}:(js.map (N + ·)++[b]).contains b=true:= by
 simp only[Z2g,ZA,Z16,or_true]
theorem E2v {op:AOp} {d:Option Nat} {gd:Option (Nat×Bool)} {hid:List Nat} {hida:List (Nat×List Nat)} {inc src:Nat} {bs js:List Nat} {k0 b:Nat} (jh:List Nat) (ejh:hid.map (H0.length+k0 + ·)=jh.map (H0.length + ·)) (hw:ways s (H0++A0d l jh) hida=some bs) (e:jh.map (H0.length + ·)++bs=js.map (H0.length + ·)++[b]) (hall:(js.all fun j=>ZU j l.length&&C6e l j)=true) (hb:b<H0.length) (hbn:hstk H0 b=none) :
  A4t (H0.length+k0) s (H0++l) ⟨d,op,gd,hid,hida,inc,src⟩=some (js.map (H0.length + ·)++[b]):= by
 have h0:(js.all fun j=>ZU j l.length)=true:= by
  rw[Zq]at hall ⊢
  intro x hx
  have:=hall x hx
  rw[Zc]at this
  exact this.1
 have h1:((js.map (H0.length + ·)++[b]).all fun b=>ZU b (H0++l).length)=true:= by
  rw[Z29,D2v H0 l h0]
  simp only[ZS,List.all_nil,Z32,Z1h]
  exact Zl (by rw[Zo];omega)
 have h2:(bs.all fun b=>(hstk (H0++A0d l jh) b).isNone)=true:= by
  rw[Zq]
  intro x hx
  have hm:x∈js.map (H0.length + ·)++[b]:=e▸Z0k _ hx
  rcases ZA.1 hm with hm|hm
  ·obtain⟨j,hj,rfl⟩:=ZK.1 hm
   have:=Zq.1 hall j hj
   rw[Zc]at this
   rw[B66 H0 this.2];rfl
  ·rw[Z16.1 hm,A7v (H:=H0) (ZF hb),hbn];rfl
 unfold A4t
 simp only[ejh,B52,hw,e,h1,h2,Z1w,Z32,if_true]
theorem D8x {R:C2→A2→Prop} {hc:List (Option (List Nat))} {ops:List AOper} {op:AOp} {d:Option Nat} {hid:List Nat} {hida:List (Nat×List Nat)} {inc src b:Nat} {v:AV} {l1:List AO} (js:List Nat) (l2:List AO) (hb:b<H0.length) (hhs:A4t n0 s (H0++l) ⟨d,op,none,hid,hida,inc,src⟩=some (js.map (H0.length + ·)++[b])) (hseen:P8 s ⟨d,op,none,hid,hida,inc,src⟩ hc=true)
  (h:One T c n0 s (hset H0 b .dead++A0d l js) op v (hset H0 b .dead++l1)) (hle:ZH l.length l1.length=true) (hw:writes op=true) (e:V5 l l1 js=l2) (k:N2 T c n0 ops (sput s d v) (H0++l2) (some (js.map (H0.length + ·)++[b])::hc) R) :
  N2 T c n0 (⟨d,op,none,hid,hida,inc,src⟩::ops) s (H0++l) hc R:= by
 subst e
 obtain⟨n1,e1⟩:=h
 obtain⟨n2,s1,Hf,e2,h2⟩:=k
 refine⟨max n1 n2,s1,Hf,?_,h2⟩
 have e1':=C6o (K7 T (Z0u n1 n2)) e1
 have hle':ZH (H0++l).length (hset H0 b .dead++l1).length=true:=Zl (by have:=Zp hle;rw[Zo,Zo,I5];omega)
 simp only[opers,oper,wanted,hhs,hseen,C5c H0 l hb,e1',hle',Z1w,if_true,B9o H0 l l1 hb,hw]
 exact A0w (K7 T (Z0h n1 n2)) e2
def cpy {α:Type} (d m:List α):List α:=m.take (min m.length d.length)++d.drop (min m.length d.length)
theorem E02 {α:Type} {f:α→List AV} {k j n:Nat} {x y:Opd} {m d:List α} {v:AV} (hd:ev s x=some (.asl (H0.length+j) n)) (hx:ev s y=some v) (hl:l[j]? = some (.arr k false (d.map f))) (hn:d.length=n) (hr:rd (H0++l) v k (m.map f)) (hf:∀a,(f a).all AV.frz=true) :
  One T c n0 s (H0++l) (.copy k x y) (.lit (.int .i64 (min m.length n:Nat))) (H0++l.set j (.arr k false ((cpy d m).map f))):= by
 have:=E29 (T:=T) (c:=c) (n0:=n0) hd hx hl hn hr hf
 subst hn
 exact this
theorem D8c {a x:Opd} {j o k N:Nat} {cs ds:List AV} {v:AV} (hN:H0.length=N) (h:ev s a=some (.ptr (N+j) o)) (hv:ev s x=some v) (hl:l[j]? = some (.cells cs)) (hk:(ZC v.cellsOf.length k&&ZH (o+k) cs.length)=true) (hok:v.cellsOf.all AV.plain=true) (hd:splice cs o v.cellsOf=ds) :
  One T c n0 s (H0++l) (.store k a x) (.tup []) (H0++l.set j (.cells ds)):= by subst hN;exact G0 h hv hl hk (E0 hok) hd
end
theorem A9f {α:Type} {l:List α} {i:Int} {w:α} (h:idx l i=some w):0≤i∧i<l.length:= by
 unfold idx at h
 split at h
 ·have:=(Ze.1 h).1
  exact⟨by assumption,by omega⟩
 ·cases h
theorem B4t {α:Type} {l:List α} {i:Int} {w:α} (h:idx l i=some w):l[i.toNat]? = some w:= by
 unfold idx at h
 split at h
 ·exact h
 ·cases h
theorem A9z {α:Type} {f:α→List AV} {k:Nat} (hk:∀a,(f a).length=k):∀e:List α,((e.map f).flatten).length=e.length*k
 | []=>by simp
 | a::e=>by rw[Zt,Z1b,Zo,hk a,A9z hk e,List.length_cons,Z1m,Z2u]
theorem A5j {α:Type} {f:α→List AV} {k:Nat} (hk:∀a,(f a).length=k) (post:List AV):∀{e:List α} {i:Nat} {y:α},e[i]? = some y→((e.map f).flatten++post).drop (i*k)=f y++(((e.drop (i+1)).map f).flatten++post)
 | [],_,_,h=>by simp at h
 | a::e,0,y,h=>by
  simp only[List.getElem?_cons_zero,Za]at h
  subst h
  simp
 | a::e,i+1,y,h=>by
  simp only[Z26]at h
  have ih:=A5j hk post h
  rw[Zt,Z1b,ZB,Z1m,Z2u,← Z19,Z4f (hk a),ih]
  rfl
theorem C8p {α:Type} {f:α→List AV} {k:Nat} (hk:∀a,(f a).length=k) (post:List AV) (z:α):∀{e:List α} {i:Nat} {y:α},e[i]? = some y→splice ((e.map f).flatten++post) (i*k) (f z)=((e.set i z).map f).flatten++post
 | [],_,_,h=>by simp at h
 | a::e,0,y,h=>by
  unfold splice
  simp only[Nat.zero_mul,List.take_zero,Z06,Nat.zero_add,Zt,Z1b,List.set_cons_zero,ZB]
  rw[hk z,Z4f (hk a)]
 | a::e,i+1,y,h=>by
  simp only[Z26]at h
  have ih:=C8p hk post z h
  unfold splice at ih ⊢
  simp only[Zt,Z1b,List.set_cons_succ,ZB]at ih ⊢
  rw[← ih,Z1m,Z2u (i*k) k,← hk a,Z34,ZR (ZL _ _),Z27,Z03,← Z19,List.drop_left,ZB]
section
variable {T:Tab} {s:C2} {H0 H:A2} {l:List AO} {c:Sc} {n0 k0:Nat} {α:Type} {f:α→List AV} {k o n:Nat} {kk:IntKind} {x i a:Opd} {m:Int} {y z:α} {e e2:List α} {cs ds post:List AV}
theorem D8h {b:Nat} (h:ev s x=some (.ptr b o)) (hi:ev s i=some (.lit (.int kk m))) (hn:e.length=n) (hy:idx e m=some y):One T c n0 s H (.idxA k n x i) (.ptr b (o+m.toNat*k)) H :=
 ⟨0,by
  have hb:=A9f hy
  rw[hn]at hb
  simp only[core,prim,h,hi,if_pos hb]⟩
theorem D3s {b:Nat} (h:ev s a=some (.ptr b (o+m.toNat*k))) (hc:hcells H b=some cs) (hcs:cs.drop o=(e.map f).flatten++post) (hk:∀a,(f a).length=k) (hy:idx e m=some y):∃r,cs.drop (o+m.toNat*k)=f y++r :=
 ⟨_,by rw[← Z19,hcs,A5j hk post (B4t hy)]⟩
theorem D8j {b:Nat} {g:α→AV} (hf:∀a,f a=[g a]) (h:ev s a=some (.ptr b (o+m.toNat*1))) (hc:hcells H b=some cs) (hcs:cs.drop o=(e.map f).flatten++post) (hy:idx e m=some y):One T c n0 s H (.load none a) (g y) H :=
 ⟨0,by
  obtain⟨r,hr⟩:=D3s h hc hcs (fun a=>by rw[hf];rfl) hy
  rw[hf]at hr
  simp only[core,prim,h,H6,hc,hr,List.singleton_append]⟩
theorem D8m {j:Nat} {v:AV} (h:ev s a=some (.ptr (H0.length+j) (o+m.toNat*k))) (hv:ev s x=some v) (hvc:v.cellsOf=f z) (hl:l[j]? = some (.cells cs)) (ho:ZH o cs.length=true) (hcs:cs.drop o=(e.map f).flatten++post) (hk:∀a,(f a).length=k) (hy:idx e m=some y) (he2:e2=T6 e m z) (hds:cs.take o++((e2.map f).flatten++post)=ds) (hok:c.okL (H0.length+j) v.cellsOf=true) :
  One T c n0 s (H0++l) (.store k a x) (.tup []) (H0++l.set j (.cells ds)):= by
 have hb:=B4t hy
 have hlt:=(Ze.1 hb).1
 have ho:=Zp ho
 have hzk:=hk z
 have hmul:m.toNat*k+k≤e.length*k:= by
  have:=Nat.mul_le_mul_right k (show m.toNat+1≤e.length by omega)
  rw[Z1m]at this;exact this
 have hle:o+m.toNat*k+k≤cs.length:= by
  have:=congrArg List.length hcs
  rw[List.length_drop,Zo,A9z hk]at this
  omega
 refine G0 h hv hl ?_ hok ?_
 ·rw[hvc,hzk,Z17,Z1h]
  exact Zl (by omega)
 ·rw[← hds,hvc,he2]
  have h1:=C8p hk post z hb
  have e1:splice cs (o+m.toNat*k) (f z)=cs.take o++splice (cs.drop o) (m.toNat*k) (f z):= by
   unfold splice
   rw[List.take_add,Z03,← Z19]
   simp only[ZB]
  rw[e1,hcs,h1];rfl
theorem E06 {b:Nat} (h:ev s x=some (.csl b o k n)):One T c n0 s H (.lenL x) (.lit (.int .i64 n)) H:=⟨0,by simp only[core,prim,h]⟩
end
structure Ar2 (α:Type) where
 mk ::
 (x0 x1:α)
 deriving DecidableEq
def Ar2.l {α:Type} (a:Ar2 α):List α:=[a.x0,a.x1]
def Ar2.set {α:Type} (a:Ar2 α) (i:Int) (v:α):Ar2 α:=⟨if i=0 then v else a.x0,if i=1 then v else a.x1⟩
theorem Ar2.set_l {α:Type} {a:Ar2 α} {i:Int} {v w:α} (h:idx a.l i=some w):(a.set i v).l=T6 a.l i v:= by
 obtain⟨h0,h1⟩:=A9f h
 have h1:i<2:=h1
 rcases (by omega:i=0∨i=1) with rfl|rfl
 all_goals rfl
structure Ar3 (α:Type) where
 mk ::
 (x0 x1 x2:α)
 deriving DecidableEq
def Ar3.l {α:Type} (a:Ar3 α):List α:=[a.x0,a.x1,a.x2]
def Ar3.set {α:Type} (a:Ar3 α) (i:Int) (v:α):Ar3 α:=⟨if i=0 then v else a.x0,if i=1 then v else a.x1,if i=2 then v else a.x2⟩
def C8c {α:Type} (f:α→List AV) (a:Ar3 α):List AV:=f a.x0++(f a.x1++(f a.x2++[]))
theorem Ar3.set_l {α:Type} {a:Ar3 α} {i:Int} {v w:α} (h:idx a.l i=some w):(a.set i v).l=T6 a.l i v:= by
 obtain⟨h0,h1⟩:=A9f h
 have h1:i<3:=h1
 rcases (by omega:i=0∨i=1∨i=2) with rfl|rfl|rfl
 all_goals rfl
structure Ar4 (α:Type) where
 mk ::
 (x0 x1 x2 x3:α)
 deriving DecidableEq
def Ar4.l {α:Type} (a:Ar4 α):List α:=[a.x0,a.x1,a.x2,a.x3]
def Ar4.set {α:Type} (a:Ar4 α) (i:Int) (v:α):Ar4 α:=⟨if i=0 then v else a.x0,if i=1 then v else a.x1,if i=2 then v else a.x2,if i=3 then v else a.x3⟩
theorem Ar4.set_l {α:Type} {a:Ar4 α} {i:Int} {v w:α} (h:idx a.l i=some w):(a.set i v).l=T6 a.l i v:= by
 obtain⟨h0,h1⟩:=A9f h
 have h1:i<4:=h1
 rcases (by omega:i=0∨i=1∨i=2∨i=3) with rfl|rfl|rfl|rfl
 all_goals rfl
structure Ar5 (α:Type) where
 mk ::
 (x0 x1 x2 x3 x4:α)
 deriving DecidableEq
def Ar5.l {α:Type} (a:Ar5 α):List α:=[a.x0,a.x1,a.x2,a.x3,a.x4]
def Ar5.set {α:Type} (a:Ar5 α) (i:Int) (v:α):Ar5 α:=⟨if i=0 then v else a.x0,if i=1 then v else a.x1,if i=2 then v else a.x2,if i=3 then v else a.x3,if i=4 then v else a.x4⟩
theorem Ar5.set_l {α:Type} {a:Ar5 α} {i:Int} {v w:α} (h:idx a.l i=some w):(a.set i v).l=T6 a.l i v:= by
 obtain⟨h0,h1⟩:=A9f h
 have h1:i<5:=h1
 rcases (by omega:i=0∨i=1∨i=2∨i=3∨i=4) with rfl|rfl|rfl|rfl|rfl
 all_goals rfl
structure Ar6 (α:Type) where
 mk ::
 (x0 x1 x2 x3 x4 x5:α)
 deriving DecidableEq
def Ar6.l {α:Type} (a:Ar6 α):List α:=[a.x0,a.x1,a.x2,a.x3,a.x4,a.x5]
def Ar6.set {α:Type} (a:Ar6 α) (i:Int) (v:α):Ar6 α:=⟨if i=0 then v else a.x0,if i=1 then v else a.x1,if i=2 then v else a.x2,if i=3 then v else a.x3,if i=4 then v else a.x4,if i=5 then v else a.x5⟩
theorem Ar6.set_l {α:Type} {a:Ar6 α} {i:Int} {v w:α} (h:idx a.l i=some w):(a.set i v).l=T6 a.l i v:= by
 obtain⟨h0,h1⟩:=A9f h
 have h1:i<6:=h1
 rcases (by omega:i=0∨i=1∨i=2∨i=3∨i=4∨i=5) with rfl|rfl|rfl|rfl|rfl|rfl
 all_goals rfl
structure Ar10 (α:Type) where
 mk ::
 (x0 x1 x2 x3 x4 x5 x6 x7 x8 x9:α)
 deriving DecidableEq
def Ar10.l {α:Type} (a:Ar10 α):List α:=[a.x0,a.x1,a.x2,a.x3,a.x4,a.x5,a.x6,a.x7,a.x8,a.x9]
def Ar10.set {α:Type} (a:Ar10 α) (i:Int) (v:α):Ar10 α:=⟨if i=0 then v else a.x0,if i=1 then v else a.x1,if i=2 then v else a.x2,if i=3 then v else a.x3,if i=4 then v else a.x4,if i=5 then v else a.x5,if i=6 then v else a.x6,if i=7 then v else a.x7,if i=8 then v else a.x8,if i=9 then v else a.x9⟩
theorem Ar10.set_l {α:Type} {a:Ar10 α} {i:Int} {v w:α} (h:idx a.l i=some w):(a.set i v).l=T6 a.l i v:= by
 obtain⟨h0,h1⟩:=A9f h
 have h1:i<10:=h1
 rcases (by omega:i=0∨i=1∨i=2∨i=3∨i=4∨i=5∨i=6∨i=7∨i=8∨i=9) with rfl|rfl|rfl|rfl|rfl|rfl|rfl|rfl|rfl|rfl
 all_goals rfl
structure KeyOk {κ:Type} [DecidableEq κ] (ag:Bool) (ks:List Nat) (av:κ→AV) (kc:κ→List AV):Prop where
 cells:∀a,J9 ag (av a)=some (kc a)
 kinds:∀a,kinds ks (kc a)=true
 eql:∀a b,I4 (kc a) (kc b)=some (decide (a=b))
theorem D1f (k:IntKind) (x y:Int) (l m:List AV):I4 (.lit (.int k x)::l) (.lit (.int k y)::m)=bif decide (x=y) then I4 l m else some false:= by
 simp only[I4,A4s,if_true]
 by_cases h:x=y
 ·subst h;simp
 ·rw[show (x==y)=false from beq_eq_false_iff_ne.mpr h,decide_eq_false h];rfl
section
variable {κ β:Type} [DecidableEq κ]
def kfind (k:κ):List (κ×β)→Nat→Option (Nat×β)
 | [],_=>none
 | e::es,i=>if k=e.1 then some (i,e.2) else kfind k es (i+1)
def kget (es:List (κ×β)) (k:κ):Option β:=(kfind k es 0).map (·.2)
def kset (es:List (κ×β)) (k:κ) (v:β):List (κ×β):=match kfind k es 0 with
 | some (i,_)=>es.set i (k,v)
 | none=>es++[(k,v)]
def kE (av:κ→AV) (gv:β→AV) (e:κ×β):AV×AV:=(av e.1,gv e.2)
theorem B3c {ag:Bool} {ks:List Nat} {av:κ→AV} {kc:κ→List AV} (hK:KeyOk ag ks av kc) (gv:β→AV) (k:κ):∀(es:List (κ×β)) (i:Nat),findKey ag ks (kc k) (es.map (kE av gv)) i=some ((kfind k es i).map fun x=>(x.1,gv x.2))
 | [],_=>rfl
 | e::es,i=>by
  simp only[Zt,kE,findKey,hK.cells,hK.kinds,if_true,hK.eql]
  by_cases h:k=e.1
  ·simp only[kfind,h,decide_true,if_true,Zb]
  ·simp only[kfind,h,decide_false,if_false]
   exact B3c hK gv k es (i+1)
end
section
variable {T:Tab} {s:C2} {H0 H:A2} {l:List AO} {c:Sc} {n0 k0:Nat} {κ β:Type} [DecidableEq κ] {ag:Bool} {ks:List Nat} {av:κ→AV} {kc:κ→List AV} {gv:β→AV} {es:List (κ×β)} {k:κ} {x i:Opd} {b:Nat} {z:β}
theorem E04 {zz:AV} (hK:KeyOk ag ks av kc) (hx:ev s x=some (.mp b)) (hm:hmap H b=some (es.map (kE av gv))) (hi:ev s i=some (av k)) (hz:zz=gv z):One T c n0 s H (.lookup zz ag ks x i true) (.tup [gv ((kget es k).getD z),.lit (.bool (kget es k).isSome)]) H:= by
 subst hz
 refine⟨0,?_⟩
 simp only[core,prim,hx,hm,hi,hK.cells,hK.kinds,if_true,B3c hK]
 unfold kget
 cases kfind k es 0 with
 | none=>rfl
 | some y=>rfl
theorem E3a {m:Opd} {v:β} (hK:KeyOk ag ks av kc) (hx:ev s m=some (.mp b)) (hm:B18 H b=some (es.map (kE av gv))) (hi:ev s i=some (av k)) (hv:ev s x=some (gv v)) (hg:((gv v).cellsOf.all AV.frz&&!(gv v).cellsOf.isEmpty)=true):One T c n0 s H (.mupd ag ks m i x) (.tup []) (hset H b (.map ((kset es k v).map (kE av gv)))):= by
 refine⟨0,?_⟩
 have h3:(Am.kinds ks (kc k)&&(gv v).cellsOf.all AV.frz&&!(gv v).cellsOf.isEmpty)=true:= by
  rw[hK.kinds,Z1h];exact hg
 simp only[core,prim,hx,hi,hv,hm,hK.cells,h3,if_true,B3c hK]
 unfold kset
 cases kfind k es 0 with
 | none=>simp[kE]
 | some y=>simp[kE,Z2h]
omit [DecidableEq κ] in
theorem D8i (hx:ev s x=some (.mp b)) (hm:hmap H b=some (es.map (kE av gv))):One T c n0 s H (.lenM x) (.lit (.int .i64 es.length)) H:=⟨0,by simp only[core,prim,hx,hm,Zi]⟩
theorem B2a {j:Nat} {es:List (AV×AV)} (h:l[j]? = some (.map es)):hmap (H0++l) (H0.length+j)=some es:= by
 unfold hmap;rw[W4,h]
theorem D44 {j:Nat} {es:List (AV×AV)} (h:l[j]? = some (.map es)):B18 (H0++l) (H0.length+j)=some es:= by
 unfold B18;rw[W4,h]
theorem E05 {m:Opd} {v:β} {j:Nat} (hK:KeyOk ag ks av kc) (hx:ev s m=some (.mp (H0.length+j))) (hm:l[j]? = some (.map (es.map (kE av gv)))) (hi:ev s i=some (av k)) (hv:ev s x=some (gv v)) (hg:((gv v).cellsOf.all AV.frz&&!(gv v).cellsOf.isEmpty)=true):One T c n0 s (H0++l) (.mupd ag ks m i x) (.tup []) (H0++l.set j (.map ((kset es k v).map (kE av gv)))):= by
 have:=E3a (T:=T) (c:=c) (n0:=n0) hK hx (D44 hm) hi hv hg
 rwa [I7]at this
end
def first {ρ:Type} (f:Nat→Option ρ):Nat→Option ρ
 | 0=>none
 | n+1=>match first f n with
  | some r=>some r
  | none=>f n
def iter {τ:Type} (g:Nat→τ→τ):Nat→τ→τ
 | 0,t=>t
 | n+1,t=>g n (iter g n t)
theorem L7 {ρ:Type} {f:Nat→Option ρ}:∀{n:Nat},first f n=none↔∀ i,i<n→f i=none
 | 0=>⟨fun _ i hi=>absurd hi (Z2b i),fun _=>rfl⟩
 | n+1=>by
  unfold first
  cases hf:first f n with
  | none =>
   have h0:=L7.mp hf
   constructor
   ·intro h i hi
    by_cases e:i=n
    ·rw[e];exact h
    ·exact h0 i (by omega)
   ·intro h;exact h n (Z35 n)
  | some r =>
   constructor
   ·intro h;exact absurd h (by simp)
   ·intro h
    rw[L7.mpr fun i hi=>h i (Z59 hi)]at hf
    exact absurd hf (by simp)
theorem W3 {ρ:Type} {f:Nat→Option ρ} {r:ρ}:∀{n:Nat},first f n=some r→∃ i,i<n∧f i=some r∧∀ j,j<i→f j=none
 | 0,h=>absurd h (by simp[first])
 | n+1,h=>by
  unfold first at h
  cases hf:first f n with
  | none =>
   rw[hf]at h
   exact⟨n,Z35 n,h,L7.mp hf⟩
  | some q =>
   rw[hf]at h
   obtain⟨i,hi,h1,h2⟩:=W3 (hf.trans (by simpa using h))
   exact⟨i,Z59 hi,h1,h2⟩
theorem A9y {ρ:Type} {f:Nat→Option ρ} {r:ρ} {n i:Nat} (hi:i<n) (h:f i=some r) (hj:∀j,j<i→f j=none):first f n=some r:= by
 cases hf:first f n with
 | none=>rw[L7.mp hf i hi]at h;exact absurd h (by simp)
 | some q =>
  obtain⟨k,hk,h1,h2⟩:=W3 hf
  have e:k=i:= by
   rcases Nat.lt_trichotomy k i with l|l|l
   ·rw[hj k l]at h1;exact absurd h1 (by simp)
   ·exact l
   ·rw[h2 i l]at h;exact absurd h (by simp)
  rw[e,h]at h1;exact h1.symm
theorem C5j {σ ρ:Type} {b:σ→Option (σ⊕ρ)} {u:Nat→σ} {n:Nat} {r:ρ} (hs:∀i,i<n→b (u i)=some (.inl (u (i+1)))) (he:b (u n)=some (.inr r)) :
  ∀ k j m,j+k=n→k<m→A7w b m (u j)=some r
 | 0,j,0,_,h=>absurd h (Z2b _)
 | 0,j,m+1,hj,_=>by
  rw[L8]
  have:j=n:= by omega
  rw[this,he]
 | k+1,j,0,_,h=>absurd h (Z2b _)
 | k+1,j,m+1,hj,hm=>by
  rw[L8,hs j (by omega)]
  exact C5j hs he k (j+1) m (by omega) (by omega)
theorem N6 {σ ρ:Type} {b:σ→Option (σ⊕ρ)} (u:Nat→σ) (n:Nat) {r:ρ} (hn:n<9223372036854775808) (hs:∀i,i<n→b (u i)=some (.inl (u (i+1)))) (he:b (u n)=some (.inr r)) :
  loop b (u 0)=some r:=C5j hs he n 0 _ (by omega) (by omega)
theorem B3m {σ ρ:Type} {b:σ→Option (σ⊕ρ)} (u:Nat→σ) (n:Nat) (f:Nat→Option ρ) (z:ρ) (hn:n<9223372036854775808)
  (hs:∀i,i<n→(∀ j,j<i→f j=none)→b (u i)=some (match f i with|some r=>.inr r|none=>.inl (u (i+1))))
  (he:(∀ j,j<n→f j=none)→b (u n)=some (.inr z)) :
  loop b (u 0)=some ((first f n).getD z):= by
 cases hf:first f n with
 | none =>
  have h0:=L7.mp hf
  refine N6 u n hn ?_ (he h0)
  intro i hi
  rw[hs i hi fun j hj=>h0 j (by omega),h0 i hi]
 | some r =>
  obtain⟨i,hi,h1,h2⟩:=W3 hf
  refine N6 u i (by omega) ?_ ?_
  ·intro j hj
   rw[hs j (by omega) fun k hk=>h2 k (by omega),h2 j hj]
  ·rw[hs i hi h2,h1];rfl
theorem D6 {n:Int} (h:-9223372036854775808≤n∧n≤9223372036854775807):w64 n=n :=
 Go.IntWalk.i64_in n h
theorem G9 {α:Type} [Inhabited α] {l:List α} {i:Nat} (h:i<l.length):idx l (i:Int)=some l[i]!:= by
 unfold idx
 rw[if_pos (Z0v i),ZG,Zm h,getElem!_pos l i h]
theorem A0r {α:Type} [Inhabited α] {l:List α} {i:Int} (h0:0≤i) (h:i<l.length):idx l i=some l[i.toNat]!:= by
 have e:i=(i.toNat:Int):= by omega
 rw[e,G9 (by omega)];rfl
theorem A0p {α:Type} {k:Nat} {l m:List α} (hk:k≤64) (h:l.length+m.length≤1073741824):app k l m=some (l++m):= by
 unfold app
 rw[if_pos]
 refine⟨Z01 (Nat.mul_le_mul h hk) (by decide),by omega⟩
theorem B6z {α:Type} {l:List α} {i:Nat} (h:i≤l.length):slc l 0 (i:Int)=some (l.take i):= by
 unfold slc
 rw[if_pos ⟨Int.le_refl 0,Z0v i,by omega⟩,ZG];rfl
theorem A8z {ρ:Type} {b:Int→Option (Int⊕ρ)} (n:Nat) (f:Nat→Option ρ) (z:ρ) (hn:n<9223372036854775808)
  (hs:∀i:Nat,i<n→(∀ j,j<i→f j=none)→b (i:Int)=some (match f i with|some r=>.inr r|none=>.inl (w64 ((i:Int)+1))))
  (he:b (n:Int)=some (.inr z)) :
  loop b 0=some ((first f n).getD z):= by
 refine B3m (fun i=>(i:Int)) n f z hn ?_ (fun _=>he)
 intro i hi hj
 rw[hs i hi hj,D6 (by omega)]
 rfl
theorem A6l {α:Type} {m:List α} {i:Nat} {x:α} (h:m[i]? = some x):idx m (i:Int)=some x:= by
 unfold idx
 rw[if_pos (Z0v i),ZG,h]
section
variable {σ ρ:Type}
end
def C0x (H:A2) (k:Nat) (v:AV) (rows:List (List AV)):Prop :=
 (v=.nils k∧rows=[])∨∃ b anc,v=.asl b rows.length∧hget H b=some (.stk k rows anc)
def Young (H:A2) (v:AV):Prop:=∀ b n,v=.asl b n→((H.drop (b+1)).all fun o=>!o.grew b)=true
theorem C0x.rd {H:A2} {k:Nat} {v:AV} {rows:List (List AV)} (h:C0x H k v rows):rd H v k rows:= by
 rcases h with⟨rfl,rfl⟩|⟨b,anc,rfl,h⟩
 ·exact⟨Z,Z⟩
 ·have h1:harr H b=none:= by unfold harr;rw[h]
  have h2:hstk H b=some (k,rows,anc):= by unfold hstk;rw[h]
  exact⟨by simp only[A0n,h1,h2,Z17,if_true],by simp only[kOf,h1,h2,Zb]⟩
theorem C0x.len {T:Tab} {s:C2} {H:A2} {c:Sc} {n0 k:Nat} {x:Opd} {v:AV} {rows:List (List AV)} (h:C0x H k v rows) (hx:ev s x=some v):One T c n0 s H (.lenL x) (.lit (.int .i64 rows.length)) H:=⟨0,by
 rcases h with⟨rfl,rfl⟩|⟨b,anc,rfl,h⟩
 ·simp only[core,prim,hx,List.length_nil]
 ·have h1:harr H b=none:= by unfold harr;rw[h]
  have h2:hstk H b=some (k,rows,anc):= by unfold hstk;rw[h]
  simp only[core,prim,hx,h1,h2,if_true]⟩
theorem D7h {H L:A2} {b:Nat} {o:AO} (h:hget H b=some o):hget (H++L) b=some o:= by
 unfold hget at h ⊢
 rw[ZF (Ze.1 h).1,h]
theorem C0x.app {H L:A2} {k:Nat} {v:AV} {rows:List (List AV)} (h:C0x H k v rows):C0x (H++L) k v rows:= by
 rcases h with h|⟨b,anc,e,h⟩
 ·exact .inl h
 ·exact .inr ⟨b,anc,e,D7h h⟩
theorem C0x.lt {H:A2} {k:Nat} {v:AV} {rows:List (List AV)} (h:C0x H k v rows) {b n:Nat} (e:v=.asl b n):b<H.length:= by
 rcases h with⟨rfl,_⟩|⟨b',anc,rfl,h⟩
 ·cases e
 ·cases e;exact(Ze.1 h).1
theorem Young.app {H L:A2} {k:Nat} {v:AV} {rows:List (List AV)} (hs:C0x H k v rows) (h:Young H v) (hL:(L.all fun o=>!o.isS)=true):Young (H++L) v:= by
 intro b n e
 have hb:=hs.lt e
 rw[Z2e hb,Z29,h b n e,Z1h]
 rw[Zq]at hL ⊢
 intro o ho
 have:=hL o ho
 cases o with
 | stk=>cases this
 | ro o=>cases o <;> first|rfl|cases this
 | _=>rfl
theorem B7q {n0:Nat} {H:A2}:∀(rs:List AV) (n:Nat),Z5 n0 H rs (Zv n [])=(rs.map fzA,H)
 | [],_=>rfl
 | v::rs,0=>A11 _
 | v::rs,n+1=>by simp only[Z5,List.replicate_succ,List.headD_cons,C61,List.tail_cons,B7q rs n,Zt]
section
variable {T:Tab} {s:C2} {H0:A2} {l:List AO} {c:Sc} {k0:Nat}
theorem A4j {f:Opd} {args:List Opd} {fv:AV} {aq rs rs':List AV} {n0:Nat} {H H2:A2} (hf:ev s f=some fv) (ha:evs s args=some aq) (hcall:L5 T c H fv aq rs H2) (hr:rs.map fzA=rs'):One T c n0 s H (.call f args (Zv 9 []) false) (packed rs') H2:= by
 obtain⟨n,e⟩:=hcall
 have hz:A1n (Zv 9 []) H aq=some (aq,H):=rfl
 have hi:Z5 n0 H2 rs (Zv 9 [])=(rs.map fzA,H2):=B7q rs 9
 exact⟨n,by simp only[core,W2,hf,ha,Zj,if_false,hz,e,hi,hr]⟩
theorem Z7 {f:Opd} {args:List Opd} {fv:AV} {aq rs:List AV} {n0:Nat} {H:A2} (hf:ev s f=some fv) (ha:evs s args=some aq) (hcall:A0f T c H fv aq rs):One T c n0 s H (.call f args (Zv 9 []) false) (packed rs) H:= by
 obtain⟨rs',⟨h,hb⟩,rfl⟩:=hcall
 exact A4j hf ha h Z
end
end Am
end
