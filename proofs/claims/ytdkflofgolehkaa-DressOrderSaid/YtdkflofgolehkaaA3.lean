/- Texts that the claim stands on, one behind another. -/
import Derived.Test.YtdkflofgolehkaaA2
import Derived.IntWalk
import Derived.Below
import Derived.ChangeArms
import Derived.ChangeReads
import Derived.OpenShut
import Derived.WideShapes
set_option linter.unusedVariables false
set_option linter.unusedSimpArgs false
set_option linter.unnecessarySimpa false
section
namespace Am
open Go
structure Mach.le (M M':Mach):Prop where
 call:∀c H f args r,M.call c H f args = some r→M'.call c H f args = some r
 code:∀ac st r,M.code ac st = some r→M'.code ac st = some r
section
variable {M M':Mach}
theorem C37 (h:M.le M') {c:Sc} {n0:Nat} {s:B3} {H:A1} {f:Opd} {args:List Opd} {own:List (List (Nat × Nat))} {pure:Bool} {r:AV × A1} (hr:U4 M c n0 s H f args own pure = some r):U4 M' c n0 s H f args own pure = some r:= by
 unfold U4 at hr ⊢
 split at hr
 ·next fv aq e1 e2 =>
  simp only [e1,e2]
  split at hr
  ·next hp =>
   simp only [hp,if_true]
   split at hr
   ·next hpub =>
    simp only [hpub,if_true]
    split at hr
    ·cases hr
    ·next as' H1 e3 =>
     try simp only [e3]
     split at hr
     ·cases hr
     ·next rs H2 e4=>simp only [h.call _ _ _ _ _ e4]; exact hr
   ·cases hr
  ·next hp =>
   simp only [hp]
   split at hr
   ·cases hr
   ·next as' H1 e3 =>
    try simp only [e3]
    split at hr
    ·cases hr
    ·next rs H2 e4=>simp only [h.call _ _ _ _ _ e4]; exact hr
 ·cases hr
theorem C0r (h:M.le M') {c:Sc} {n0:Nat} {s:B3} {H:A1} {op:AOp} {r:AV × A1} (hr:core M c n0 s H op = some r):core M' c n0 s H op = some r:= by
 cases op with
 | call=>exact C37 h hr
 | _=>exact hr
theorem C1r (h:M.le M') {c:Sc} {n0:Nat} {s:B3} {H:A1} {hc:List (Option (List Nat))} {o:AOper} {r:B3 × A1 × List (Option (List Nat))} (hr:oper M c n0 s H hc o = some r):oper M' c n0 s H hc o = some r:= by
 unfold oper at hr ⊢
 split at hr
 ·cases hr
 ·next hw=>(try simp only [hw]); exact hr
 ·next hw =>
  try simp only [hw]
  split at hr
  ·next hs e1 e2 =>
   try simp only [e1,e2]
   split at hr
   ·next q e3=>simp only [C0r h e3]; exact hr
   ·cases hr
  ·cases hr
theorem Z7 (h:M.le M') {c:Sc} {n0:Nat}:∀{l:List AOper} {s:B3} {H:A1} {hc:List (Option (List Nat))} {r:B3 × A1},opers M c n0 l s H hc = some r→opers M' c n0 l s H hc = some r
 | [],s,H,hc,r,hr=>hr
 | o :: l,s,H,hc,r,hr=>by
  simp only [opers] at hr ⊢
  split at hr
  ·cases hr
  ·next s1 H1 hc1 e1=>simp only [C1r h e1]; exact Z7 h hr
theorem B9w (h:M.le M') {ac:ACode} {st:St} {r:Ex × St} (hr:E1 M st ac = some r):E1 M' st ac = some r:= by
 cases ac with
 | region d nres pre ops live =>
  simp only [E1] at hr ⊢
  split at hr
  ·next H e1 =>
   split at hr
   ·next q e2=>simp only [Z7 h e2]; exact hr
   ·cases hr
  ·cases hr
 | seq a b =>
  simp only [E1] at hr ⊢
  cases ha:M.code a st with
  | none=>simp [ha] at hr
  | some p =>
   obtain ⟨e,st1⟩:=p
   rw [h.code _ _ _ ha]
   rw [ha] at hr
   cases e with
   | normal=>exact h.code _ _ _ hr
   | _=>exact hr
 | cond c a b =>
  simp only [E1] at hr ⊢
  split at hr
  ·exact h.code _ _ _ hr
  ·exact h.code _ _ _ hr
  ·cases hr
 | block id a =>
  simp only [E1] at hr ⊢
  cases ha:M.code a st with
  | none=>simp [ha] at hr
  | some p=>rw [h.code _ _ _ ha]; rw [ha] at hr; exact hr
 | loop tr live a =>
  simp only [E1] at hr ⊢
  cases ha:M.code a (if tr then { s:=restrict st.s live,H:=st.H,c:=⟨st.H.length,st.c.cur :: st.c.outer⟩ } else { st with s:=restrict st.s live }) with
  | none=>simp [ha] at hr
  | some p =>
   obtain ⟨e,st1⟩:=p
   rw [h.code _ _ _ ha]
   rw [ha] at hr
   cases e with
   | normal =>
    cases tr with
    | true =>
     simp only [if_true] at hr ⊢
     split at hr
     ·next hb=>simp only [hb,if_true]; exact h.code _ _ _ hr
     ·cases hr
    | false=>exact h.code _ _ _ hr
   | _=>exact hr
 | rangeFunc f ps live a b =>
  simp only [E1] at hr ⊢
  split at hr
  ·next i fa fc e1 =>
   split at hr
   ·next rs H' e2=>simp only [h.call _ _ _ _ _ e2]; exact hr
   ·cases hr
  ·cases hr
 | scope a=>exact h.code _ _ _ hr
 | skip=>exact hr
 | exit id=>exact hr
 | ret=>exact hr
theorem B9u {T:Tab} (h:M.le M') {c:Sc} {H:A1} {f:AV} {args:List AV} {r:List AV × A1} (hr:K7 T M c H f args = some r):K7 T M' c H f args = some r:= by
 unfold K7 at hr ⊢
 split at hr
 ·split at hr
  ·cases hr
  ·next af e1 =>
   simp only at hr ⊢
   split at hr
   ·next hl =>
    simp only [hl,if_true]
    split at hr
    ·next st e2=>simp only [h.code _ _ _ e2]; exact hr
    ·next st e2=>simp only [h.code _ _ _ e2]; exact hr
    ·cases hr
   ·next hl =>
    simp only [hl]
    split at hr
    ·next hl2 =>
     simp only [hl2,if_true]
     split at hr
     ·next st e2=>simp only [h.code _ _ _ e2]; exact hr
     ·next st e2=>simp only [h.code _ _ _ e2]; exact hr
     ·cases hr
    ·cases hr
 ·split at hr
  ·next e1 =>
   split at hr
   ·next hl =>
    simp only [hl,if_true]
    split at hr
    ·next st e2 =>
     simp only [h.code _ _ _ e2]
     split at hr
     ·next e3 =>
      split at hr
      ·next e st' e4=>simp only [h.code _ _ _ e4]; exact hr
      ·cases hr
     ·cases hr
    ·cases hr
   ·cases hr
  ·cases hr
 ·cases hr
end
theorem B6v (T:Tab):∀n,(mach T n).le (mach T (n + 1))
 | 0=>⟨fun _ _ _ _ _ h=>by simp [mach] at h,fun _ _ _ h=>by simp [mach] at h⟩
 | n + 1=>⟨fun _ _ _ _ _ h=>B9u (B6v T n) h,fun _ _ _ h=>B9w (B6v T n) h⟩
theorem A9f (T:Tab) (n:Nat):∀k,(mach T n).le (mach T (n + k))
 | 0=>⟨fun _ _ _ _ _ h=>h,fun _ _ _ h=>h⟩
 | k + 1=>⟨fun c H f a r h=>(B6v T (n + k)).call _ _ _ _ _ ((A9f T n k).call _ _ _ _ _ h),fun ac st r h=>(B6v T (n + k)).code _ _ _ ((A9f T n k).code _ _ _ h)⟩
theorem K3 (T:Tab) {n m:Nat} (h:n≤m):(mach T n).le (mach T m):= by
 obtain ⟨k,rfl⟩:=Nat.exists_eq_add_of_le h
 exact A9f T n k
theorem V7 (T:Tab) (n:Nat) (ac:ACode) (st:St):(mach T (n + 1)).code ac st = E1 (mach T n) st ac:=rfl
theorem S9 (T:Tab) (n:Nat) (c:Sc) (H:A1) (f:AV) (args:List AV):(mach T (n + 1)).call c H f args = K7 T (mach T n) c H f args:=rfl
def I5 (T:Tab) (ac:ACode) (st:St) (e:Ex) (st':St):Prop:=∃ n,(mach T n).code ac st = some (e,st')
def G8 (T:Tab) (c:Sc) (H:A1) (f:AV) (args:List AV) (rs:List AV) (H':A1):Prop:=∃ n,(mach T n).call c H f args = some (rs,H')
def opers3 (M:Mach) (c:Sc) (n0:Nat):List AOper→B3 × A1 × List (Option (List Nat))→Option (B3 × A1 × List (Option (List Nat)))
 | [],x=>some x
 | o :: l,x=>match oper M c n0 x.1 x.2.1 x.2.2 o with
  | none=>none
  | some y=>opers3 M c n0 l y
abbrev OS:=B3 × A1 × List (Option (List Nat))
def C6v (T:Tab) (c:Sc) (n0:Nat) (l:List AOper) (x y:OS):Prop:=∃ n,opers3 (mach T n) c n0 l x = some y
theorem A9r {M M':Mach} (h:M.le M') {c:Sc} {n0:Nat}:∀{l:List AOper} {x y:OS},opers3 M c n0 l x = some y→opers3 M' c n0 l x = some y
 | [],x,y,hr=>hr
 | o :: l,x,y,hr=>by
  simp only [opers3] at hr ⊢
  split at hr
  ·cases hr
  ·next z e1=>simp only [C1r h e1]; exact A9r h hr
theorem B4t (M:Mach) (c:Sc) (n0:Nat):∀(l:List AOper) (x:OS),opers M c n0 l x.1 x.2.1 x.2.2 = (opers3 M c n0 l x).map fun y=>(y.1,y.2.1)
 | [],x=>rfl
 | o :: l,x=>by
  simp only [opers,opers3]
  cases oper M c n0 x.1 x.2.1 x.2.2 o with
  | none=>rfl
  | some y=>exact B4t M c n0 l y
theorem B8n (M:Mach) (c:Sc) (n0:Nat):∀(l m:List AOper) (x:OS),opers3 M c n0 (l++m) x = (opers3 M c n0 l x).bind (opers3 M c n0 m)
 | [],m,x=>rfl
 | o :: l,m,x=>by
  simp only [List.cons_append,opers3]
  cases oper M c n0 x.1 x.2.1 x.2.2 o with
  | none=>rfl
  | some y=>exact B8n M c n0 l m y
variable {T:Tab}
theorem C6v.app {c:Sc} {n0:Nat} {l l1 l2:List AOper} {x y z:OS} (hl:l = l1++l2) (h1:C6v T c n0 l1 x y) (h2:C6v T c n0 l2 y z):C6v T c n0 l x z:= by
 obtain ⟨n1,e1⟩:=h1
 obtain ⟨n2,e2⟩:=h2
 refine ⟨max n1 n2,?_⟩
 rw [hl,B8n,A9r (K3 T (Nat.le_max_left n1 n2)) e1]
 exact A9r (K3 T (Nat.le_max_right n1 n2)) e2
theorem I5.region {ac:ACode} {d:Bool} {nres:Nat} {pre live:List Nat} {ops:List AOper} {st st':St} {H:A1} {n0:Nat} {x y:OS} (hac:ac = .region d nres pre ops live) (h1:publish st.s st.H pre = some H) (hn:n0 = H.length)
  (hx:x = (st.s,H++List.replicate nres .dead,[])) (hr:C6v T st.c n0 ops x y) (hst:st' = ⟨restrict y.1 live,y.2.1,st.c⟩):I5 T ac st .normal st':= by
 obtain ⟨n,e⟩:=hr
 refine ⟨n + 1,?_⟩
 subst hac; subst hn; subst hx; subst hst
 have:=B4t (mach T n) st.c H.length ops (st.s,H++List.replicate nres .dead,[])
 rw [e] at this
 rw [V7]
 simp only [E1,h1]
 simp only at this
 rw [this]; rfl
theorem I5.seq {ac a b:ACode} {st st1 st':St} {e:Ex} (hac:ac = .seq a b) (h1:I5 T a st .normal st1) (h2:I5 T b st1 e st'):I5 T ac st e st':= by
 obtain ⟨n1,e1⟩:=h1
 obtain ⟨n2,e2⟩:=h2
 refine ⟨max n1 n2 + 1,?_⟩
 subst hac
 rw [V7]
 simp only [E1,(K3 T (Nat.le_max_left n1 n2)).code _ _ _ e1]
 exact (K3 T (Nat.le_max_right n1 n2)).code _ _ _ e2
def Ex.out:Ex→Bool
 | .normal=>false
 | _=>true
theorem I5.seqOut {ac a b:ACode} {st st':St} {e:Ex} (hac:ac = .seq a b) (he:e.out = true) (h1:I5 T a st e st'):I5 T ac st e st':= by
 obtain ⟨n1,e1⟩:=h1
 refine ⟨n1 + 1,?_⟩
 subst hac
 rw [V7]
 simp only [E1,e1]
 cases e <;> first | rfl | cases he
theorem I5.cond {ac a b:ACode} {c:Opd} {t:Bool} {st st':St} {e:Ex} (hac:ac = .cond c a b) (hc:ev st.s c = some (.lit (.bool t))) (h1:I5 T (if t then a else b) st e st'):I5 T ac st e st':= by
 obtain ⟨n1,e1⟩:=h1
 refine ⟨n1 + 1,?_⟩
 subst hac
 rw [V7]
 simp only [E1,hc]
 cases t <;> exact e1
theorem I5.condT {ac a b:ACode} {c:Opd} {st st':St} {e:Ex} (hac:ac = .cond c a b) (hc:ev st.s c = some (.lit (.bool true))) (h1:I5 T a st e st'):I5 T ac st e st':=I5.cond hac hc h1
theorem I5.condF {ac a b:ACode} {c:Opd} {st st':St} {e:Ex} (hac:ac = .cond c a b) (hc:ev st.s c = some (.lit (.bool false))) (h1:I5 T b st e st'):I5 T ac st e st':=I5.cond hac hc h1
theorem C6v.nil {c:Sc} {n0:Nat} {l:List AOper} {x:OS} (hl:l = []):C6v T c n0 l x x:=⟨0,by rw [hl]; rfl⟩
theorem I5.blockExit {ac a:ACode} {id:Nat} {st st':St} (hac:ac = .block id a) (h1:I5 T a st (.exit id) st'):I5 T ac st .normal st':= by
 obtain ⟨n1,e1⟩:=h1
 refine ⟨n1 + 1,?_⟩
 subst hac
 rw [V7]
 simp [E1,e1]
def Ex.not (id:Nat):Ex→Bool
 | .exit j=>!Nat.beq j id
 | _=>true
theorem I5.block {ac a:ACode} {id:Nat} {st st':St} {e:Ex} (hac:ac = .block id a) (he:e.not id = true) (h1:I5 T a st e st'):I5 T ac st e st':= by
 obtain ⟨n1,e1⟩:=h1
 refine ⟨n1 + 1,?_⟩
 subst hac
 rw [V7]
 simp only [E1,e1]
 cases e with
 | exit j=>simp only [Ex.not,Bool.not_eq_true'] at he; simp only [he,Bool.false_eq_true,if_false]
 | _=>rfl
theorem I5.scope {ac a:ACode} {st st':St} {e:Ex} (hac:ac = .scope a) (h1:I5 T a st e st'):I5 T ac st e st':= by
 obtain ⟨n1,e1⟩:=h1
 refine ⟨n1 + 1,?_⟩
 subst hac
 exact e1
def A4v (tr:Bool) (live:List Nat) (st:St):St:=if tr then { s:=restrict st.s live,H:=st.H,c:=⟨st.H.length,st.c.cur :: st.c.outer⟩ } else { st with s:=restrict st.s live }
def A7g (tr:Bool) (live:List Nat) (st st1:St):Option St :=
 if tr then (if A21 st.H.length (restrict st1.s live) then some { s:=restrict st1.s live,H:=st1.H.take st.H.length,c:=st.c } else none)
 else some { s:=restrict st1.s live,H:=st1.H,c:=st.c }
theorem I5.loop {ac body:ACode} {tr:Bool} {live:List Nat} {st st0 st1 st2 st':St} {e:Ex} (hac:ac = .loop tr live body) (h0:st0 = A4v tr live st) (h1:I5 T body st0 .normal st1) (h2:A7g tr live st st1 = some st2)
  (h3:I5 T ac st2 e st'):I5 T ac st e st':= by
 obtain ⟨n1,e1⟩:=h1
 obtain ⟨n2,e2⟩:=h3
 refine ⟨max n1 n2 + 1,?_⟩
 subst hac; subst h0
 have e1':=(K3 T (Nat.le_max_left n1 n2)).code _ _ _ e1
 have e2':=(K3 T (Nat.le_max_right n1 n2)).code _ _ _ e2
 rw [V7]
 unfold A4v at e1'
 unfold A7g at h2
 simp only [E1,e1']
 cases tr with
 | true =>
  simp only [if_true] at h2 ⊢
  split at h2
  ·next hb=>simp only [Option.some.injEq] at h2; subst h2; simp only [hb,if_true]; exact e2'
  ·cases h2
 | false =>
  simp only [Bool.false_eq_true,if_false,Option.some.injEq] at h2 ⊢
  subst h2; exact e2'
theorem I5.loopOut {ac body:ACode} {tr:Bool} {live:List Nat} {st st0 st1 st':St} {e:Ex} (hac:ac = .loop tr live body) (h0:st0 = A4v tr live st) (he:e.out = true) (h1:I5 T body st0 e st1) (hst:st' = { st1 with c:=st.c }):I5 T ac st e st':= by
 obtain ⟨n1,e1⟩:=h1
 refine ⟨n1 + 1,?_⟩
 subst hac; subst h0; subst hst
 rw [V7]
 unfold A4v at e1
 simp only [E1,e1]
 cases e <;> first | rfl | cases he
theorem G8.fn {c:Sc} {H H1 H':A1} {f:AV} {i:Nat} {fa fc args aq rs0 rs1 rs:List AV} {af:AFunc} {bd:ACode} {st st':St} {e:Ex} (hf:f = .fn (.func i) fa fc) (haf:T i = some af) (hb:af.body = bd) (has:aq = fa++args++fc) (hn:(Nat.beq aq.length af.nargs && Nat.blt af.nargs 1000) = true)
  (hst:st = { s:=J0 0 aq,H,c:=⟨H.length,c.cur :: c.outer⟩ }) (h1:I5 T bd st e st') (he:(match e with | .exit _=>false | _=>true) = true) (h2:results st'.s st'.H af.results = some rs0) (h3:Q7 H.length st'.H rs0 = some (rs1,H1))
  (hr:rs = rs1) (hH:H' = trunc H.length rs1 H1):G8 T c H f args rs H':= by
 obtain ⟨n1,e1⟩:=h1
 refine ⟨n1 + 1,?_⟩
 subst hf; subst has; subst hst; subst hr; subst hH
 rw [S9]
 subst hb
 simp only [K7,haf,hn,if_true]
 simp only [e1]
 cases e with
 | exit id=>cases he
 | _=>simp only [h2,h3]
theorem G8.yield {c:Sc} {H H':A1} {f:AV} {l:Nat} {args rs:List AV} {f0 f1 f2:Nat} {s0 s1 s2:B3} {ps ps1 ps2:List Nat} {aq as1 as2 bd bd1 bd2:ACode} {st0 st1 st1' st2:St} {e:Ex} (hf:f = .fn (.yield l) [] []) (h0:hget H l = some (.loop f0 s0 ps aq bd false none))
  (hn:Nat.beq ps.length args.length = true) (hst:st0 = { s:=(ps.zip args).foldl (fun s x=>sput s (some x.1) x.2) s0,H,c:=⟨H.length,c.cur :: c.outer⟩ }) (h1:I5 T aq st0 .normal st1) (h2:hget st1.H l = some (.loop f1 s1 ps1 as1 bd1 false none))
  (hst1:st1' = { st1 with H:=hset st1.H l (.loop f1 s1 ps1 as1 bd1 true none) }) (h3:I5 T bd st1' e st2) (h4:hget st2.H l = some (.loop f2 s2 ps2 as2 bd2 true none))
  (hr:rs = [.b (!e.out)]) (hH:H' = trunc H.length [] (hset st2.H l (.loop f2 s2 ps2 as2 bd2 false (match e with | .normal=>none | e=>some e)))):G8 T c H f args rs H':= by
 obtain ⟨n1,e1⟩:=h1
 obtain ⟨n2,e2⟩:=h3
 refine ⟨max n1 n2 + 1,?_⟩
 subst hf; subst hst; subst hst1; subst hr; subst hH
 have e1':=(K3 T (Nat.le_max_left n1 n2)).code _ _ _ e1
 have e2':=(K3 T (Nat.le_max_right n1 n2)).code _ _ _ e2
 rw [S9]
 simp only [K7,h0,hn,if_true,e1',h2,e2',h4]
 cases e <;> rfl
theorem I5.rangeFunc {ac aq bd:ACode} {f:Opd} {ps live:List Nat} {i l:Nat} {fa fc rs:List AV} {st st':St} {H0 H':A1} {f1:Nat} {s1:B3} {ps1:List Nat} {as1 bd1:ACode} {pend:Option Ex} {e:Ex} (hac:ac = .rangeFunc f ps live aq bd) (hf:ev st.s f = some (.fn (.func i) fa fc)) (hl:l = st.H.length)
  (hH0:H0 = st.H++[.loop 0 (restrict st.s live) ps aq bd false none]) (h1:G8 T st.c H0 (.fn (.func i) fa fc) [.fn (.yield l) [] []] rs H') (h2:hget H' l = some (.loop f1 s1 ps1 as1 bd1 false pend)) (he:e = pend.getD .normal)
  (hst:st' = { st with H:=hset H' l .dead }):I5 T ac st e st':= by
 obtain ⟨n1,e1⟩:=h1
 refine ⟨n1 + 1,?_⟩
 subst hac; subst hl; subst hH0; subst he; subst hst
 rw [V7]
 simp only [E1,hf,e1,h2]
 cases pend <;> rfl
def Sub (s S:B3):Prop:=∀ t v,sget s t = some v→sget S t = some v
theorem Sub.refl (s:B3):Sub s s:=fun _ _ h=>h
theorem Sub.trans {a b c:B3} (h:Sub a b) (k:Sub b c):Sub a c:=fun t v e=>k t v (h t v e)
theorem Sub.nil (S:B3):Sub [] S:=fun _ _ h=>by simp [M3,K0] at h
theorem Sub.cons {s S:B3} {t:Nat} {v:AV} (h:sget S t = some v) (k:Sub s S):Sub ((t,v) :: s) S:= by
 intro i w e
 simp only [M3,K0] at e
 cases hb:Nat.beq t i with
 | true=>rw [hb] at e; simp only [cond_true,Option.some.injEq] at e; subst e; rw [← Nat.eq_of_beq_eq_true hb]; exact h
 | false=>rw [hb] at e; exact k i w e
theorem Sub.put {s S:B3} (h:Sub s S) (d:Option Nat) (v:AV):Sub (sput s d v) (sput S d v):= by
 cases d with
 | none=>exact h
 | some d =>
  intro i w e
  simp only [sput,M3,K0] at e ⊢
  cases hb:Nat.beq d i with
  | true=>rw [hb] at e; exact e
  | false=>rw [hb] at e; exact h i w e
theorem A4b {s:B3} {t:Nat} {v:AV}:∀{l:List Nat},sget (restrict s l) t = some v↔t ∈ l∧sget s t = some v
 | []=>by simp [restrict,M3,K0]
 | u :: l=>by
  have ih:=A4b (s:=s) (t:=t) (v:=v) (l:=l)
  simp only [restrict]
  cases hu:sget s u with
  | none =>
   simp only [List.mem_cons]
   constructor
   ·intro h; have:=ih.1 h; exact ⟨.inr this.1,this.2⟩
   ·rintro ⟨rfl | h,k⟩
    ·simp [hu] at k
    ·exact ih.2 ⟨h,k⟩
  | some w =>
   simp only [M3,K0,List.mem_cons]
   cases hb:Nat.beq u t with
   | true =>
    have:=Nat.eq_of_beq_eq_true hb
    subst this
    simp [hu]
   | false =>
    have:t ≠ u:=fun e=>by subst e; simp at hb
    simp only [cond_false]
    rw [ih]; simp [this]
theorem Sub.restrict {s S:B3} (h:Sub s S) (l:List Nat):Sub (restrict s l) (restrict S l):= by
 intro t v e
 rw [A4b] at e ⊢
 exact ⟨e.1,h t v e.2⟩
section
variable {s S:B3} (h:Sub s S)
include h
theorem A25 {x:Opd} {v:AV} (e:ev s x = some v):ev S x = some v:= by
 cases x with
 | t i=>exact h _ _ e
 | c v=>exact e
 | f i=>exact e
theorem A87:∀{l:List Opd} {vs:List AV},evs s l = some vs→evs S l = some vs
 | [],_,e=>e
 | x :: l,vs,e=>by
  simp only [evs,Option.bind_eq_some_iff,Option.map_eq_some_iff] at e ⊢
  obtain ⟨v,e1,w,e2,e3⟩:=e
  exact ⟨v,A25 h e1,w,A87 e2,e3⟩
theorem B2p:∀{l:List (Nat × Nat × Opd)} {vs:List (Nat × Nat × AV)},T8 s l = some vs→T8 S l = some vs
 | [],_,e=>e
 | (a,b,x) :: l,vs,e=>by
  simp only [T8,Option.bind_eq_some_iff,Option.map_eq_some_iff] at e ⊢
  obtain ⟨v,e1,w,e2,e3⟩:=e
  exact ⟨v,A25 h e1,w,B2p e2,e3⟩
theorem A6r:∀{l:List (Nat × Opd)} {vs:List (Nat × AV)},K8 s l = some vs→K8 S l = some vs
 | [],_,e=>e
 | (a,x) :: l,vs,e=>by
  simp only [K8,Option.bind_eq_some_iff,Option.map_eq_some_iff] at e ⊢
  obtain ⟨v,e1,w,e2,e3⟩:=e
  exact ⟨v,A25 h e1,w,A6r e2,e3⟩
theorem C7a {x:Opd} {n:Int} (e:B2o s x = some n):B2o S x = some n:= by
 unfold B2o at e ⊢
 cases hx:ev s x with
 | none=>simp [hx] at e
 | some v=>rw [A25 h hx]; rw [hx] at e; exact e
theorem A4c {d:Int} {x:Option Opd} {n:Int} (e:bnd s d x = some n):bnd S d x = some n:= by
 cases x with
 | none=>exact e
 | some x=>exact C7a h e
theorem C11 {c:Sc} {n0:Nat} {H:A1} {op:AOp} {r:AV × A1} (e:prim c n0 s H op = some r):prim c n0 S H op = some r:= by
 have E:∀x v,ev s x = some v→ev S x = some v:=fun x v=>A25 h
 cases op with
 | nil=>exact e
 | alloc=>exact e
 | mkmap=>exact e
 | call=>exact e
 | build z parts =>
  simp only [prim,Option.bind_eq_some_iff] at e ⊢
  obtain ⟨ps,e1,e2⟩:=e
  exact ⟨ps,B2p h e1,e2⟩
 | lits k z n parts own =>
  simp only [prim,Option.bind_eq_some_iff] at e ⊢
  obtain ⟨ps,e1,e2⟩:=e
  exact ⟨ps,A6r h e1,e2⟩
 | xlits k z n parts =>
  simp only [prim,Option.bind_eq_some_iff] at e ⊢
  obtain ⟨ps,e1,e2⟩:=e
  exact ⟨ps,A6r h e1,e2⟩
 | mkfn f a b =>
  simp only [prim] at e ⊢
  cases h1:evs s a with
  | none=>simp [h1] at e
  | some u =>
   cases h2:evs s b with
   | none=>simp [h1,h2] at e
   | some w=>rw [A87 h h1,A87 h h2]; rw [h1,h2] at e; exact e
 | mm mx xs =>
  simp only [prim] at e ⊢
  cases h1:evs s xs with
  | none=>simp [h1] at e
  | some u=>rw [A87 h h1]; rw [h1] at e; exact e
 | mv x | box n x r | nilck x | un op x | conv k x | idc x | nilq q x | fieldAddr o x | field k o x | range x r | next x | extract x i | lenS x | lenM x | lenL x =>
  simp only [prim] at e ⊢
  cases h1:ev s x with
  | none=>simp [h1] at e
  | some u=>rw [E _ _ h1]; rw [h1] at e; exact e
 | load k x =>
  cases k <;>
  ·simp only [prim] at e ⊢
   cases h1:ev s x with
   | none=>simp [h1] at e
   | some u=>rw [E _ _ h1]; rw [h1] at e; exact e
 | pick c a b =>
  simp only [prim] at e ⊢
  cases h1:ev s c with
  | none=>simp [h1] at e
  | some u =>
   rw [E _ _ h1]; rw [h1] at e
   split at e
   ·next hu =>
    cases h2:ev s a with
    | none=>simp [h2] at e
    | some w=>simp only [Option.some.injEq] at hu; subst hu; (try simp only); rw [E _ _ h2]; rw [h2] at e; exact e
   ·next hu =>
    cases h2:ev s b with
    | none=>simp [h2] at e
    | some w=>simp only [Option.some.injEq] at hu; subst hu; (try simp only); rw [E _ _ h2]; rw [h2] at e; exact e
   ·cases e
 | store k x y | bin op x y | beq ng x y | cmp ng ks x y | idxS k x y | idxA k n x y | idxStr x y | idxAgg k sz n x y | lookup z ag ks x y ok | append k b x y r fz | copy k x y | mkslice k b z x y r =>
  simp only [prim] at e ⊢
  cases h1:ev s x with
  | none=>simp [h1] at e
  | some u =>
   cases h2:ev s y with
   | none=>simp [h1,h2] at e
   | some w=>rw [E _ _ h1,E _ _ h2]; rw [h1,h2] at e; exact e
 | mupd ag ks x y z =>
  simp only [prim] at e ⊢
  cases h1:ev s x with
  | none=>simp [h1] at e
  | some u =>
   cases h2:ev s y with
   | none=>simp [h1,h2] at e
   | some w =>
    cases h3:ev s z with
    | none=>simp [h1,h2,h3] at e
    | some w'=>rw [E _ _ h1,E _ _ h2,E _ _ h3]; rw [h1,h2,h3] at e; exact e
 | sliceS x lo hi =>
  simp only [prim] at e ⊢
  cases h1:ev s x with
  | none=>simp [h1] at e
  | some u =>
   rw [E _ _ h1]; rw [h1] at e
   split at e
   ·next b hu =>
    simp only [Option.some.injEq] at hu; subst hu
    try simp only
    cases h2:bnd s 0 lo with
    | none=>simp [h2] at e
    | some w =>
     cases h3:bnd s b.size hi with
     | none=>simp [h2,h3] at e
     | some w'=>rw [A4c h h2,A4c h h3]; rw [h2,h3] at e; exact e
   ·cases e
 | storeN x k r =>
  simp only [prim] at e ⊢
  cases h1:ev s x with
  | none=>simp [h1] at e
  | some u=>rw [E _ _ h1]; rw [h1] at e; exact e
 | mvz x =>
  simp only [prim] at e ⊢
  cases h1:ev s x with
  | none=>simp [h1] at e
  | some u=>rw [E _ _ h1]; rw [h1] at e; exact e
 | sliceL k x lo hi =>
  simp only [prim] at e ⊢
  cases h1:ev s x with
  | none=>simp [h1] at e
  | some u =>
   rw [E _ _ h1]; rw [h1] at e
   simp only at e ⊢
   split at e
   ·next k' rows H' hu =>
    try simp only [hu]
    cases h2:bnd s 0 lo with
    | none=>simp [h2] at e
    | some w =>
     cases h3:bnd s rows.length hi with
     | none=>simp [h2,h3] at e
     | some w'=>rw [A4c h h2,A4c h h3]; rw [h2,h3] at e; exact e
   ·cases e
 | sliceQ k x lo hi =>
  simp only [prim] at e ⊢
  cases h1:ev s x with
  | none=>simp [h1] at e
  | some u =>
   rw [E _ _ h1]; rw [h1] at e
   simp only [Option.bind_some] at e ⊢
   split at e
   ·next k' rows hu =>
    try simp only [hu]
    cases h2:bnd s 0 lo with
    | none=>simp [h2] at e
    | some w =>
     cases h3:bnd s rows.length hi with
     | none=>simp [h2,h3] at e
     | some w'=>rw [A4c h h2,A4c h h3]; rw [h2,h3] at e; exact e
   ·cases e
 | sliceA k n x hi =>
  simp only [prim] at e ⊢
  cases h1:ev s x with
  | none=>simp [h1] at e
  | some u =>
   rw [E _ _ h1]; rw [h1] at e
   split at e
   ·next b o hu =>
    simp only [Option.some.injEq] at hu; subst hu
    try simp only
    cases h2:hcells H b with
    | none=>simp [h2] at e
    | some w =>
     cases h3:bnd s n hi with
     | none=>rw [h2,h3] at e; simp at e
     | some w'=>rw [A4c h h3]; rw [h2,h3] at e; exact e
   ·cases e
 | cut k x hi r =>
  simp only [prim] at e ⊢
  cases h1:ev s x with
  | none=>simp [h1] at e
  | some u =>
   rw [E _ _ h1]; rw [h1] at e
   split at e
   ·next b n hu =>
    simp only [Option.some.injEq] at hu; subst hu
    try simp only
    cases h2:A00 H b with
    | none=>simp [h2] at e
    | some w =>
     cases h3:bnd s n hi with
     | none=>rw [h2,h3] at e; split at e <;> simp_all
     | some w'=>rw [A4c h h3]; rw [h2,h3] at e; exact e
   ·cases e
theorem B58 {g:Option (Nat × Bool)} {b:Bool} (e:wanted s g = some b):wanted S g = some b:= by
 cases g with
 | none=>exact e
 | some g =>
  simp only [wanted] at e ⊢
  cases h1:sget s g.1 with
  | none=>simp [h1] at e
  | some u=>rw [h _ _ h1]; rw [h1] at e; exact e
theorem C18 {H:A1}:∀{l:List (Nat × List Nat)} {bs:List Nat},ways s H l = some bs→ways S H l = some bs
 | [],_,e=>e
 | x :: l,bs,e=>by
  simp only [ways] at e ⊢
  cases h1:sget s x.1 with
  | none=>simp [h1] at e
  | some u =>
   rw [h _ _ h1]; rw [h1] at e
   simp only [Option.bind_some] at e ⊢
   split at e
   ·next b hb =>
    cases h2:follow H b x.2 with
    | none=>simp [h2] at e
    | some b' =>
     cases h3:ways s H l with
     | none=>simp [h2,h3] at e
     | some r=>rw [C18 h3]; rw [h2,h3] at e; exact e
   ·cases e
theorem D0v {n0:Nat} {H:A1} {o:AOper} {hs:List Nat} (e:A28 n0 s H o = some hs):A28 n0 S H o = some hs:= by
 unfold A28 at e ⊢
 split at e
 ·next bs hb=>rw [C18 h hb]; exact e
 ·cases e
theorem D1j {M:Mach} {c:Sc} {n0:Nat} {H:A1} {op:AOp} {r:AV × A1} (e:core M c n0 s H op = some r):rbox S op = rbox s op:= by
 have key:∀a,(∃ v,ev s a = some v)→(ev S a).bind AV.box? = (ev s a).bind AV.box?:= by
  rintro a ⟨v,hv⟩; rw [A25 h hv,hv]
 have nn:∀a,((ev s a = none)→False)→∃ v,ev s a = some v:= by
  intro a ha
  cases hh:ev s a with
  | none=>exact (ha hh).elim
  | some v=>exact ⟨v,rfl⟩
 cases op <;> simp only [rbox,O5,Option.bind_none,Option.bind_some]
 case load k a=>exact key a (nn a fun hh=>by cases k <;> simp [core,prim,hh] at e)
 case lookup z ag ks x i ok=>exact key x (nn x fun hh=>by simp [core,prim,hh] at e)
 case lenL x=>exact key x (nn x fun hh=>by simp [core,prim,hh] at e)
 case lenM x=>exact key x (nn x fun hh=>by simp [core,prim,hh] at e)
 case idxS k x i=>exact key x (nn x fun hh=>by simp [core,prim,hh] at e)
 case sliceA k n x hi=>exact key x (nn x fun hh=>by simp [core,prim,hh] at e)
 case sliceQ k x lo hi=>exact key x (nn x fun hh=>by simp [core,prim,hh] at e)
theorem C64 {M:Mach} {c:Sc} {n0:Nat} {H:A1} {op:AOp} {r:AV × A1} (e:core M c n0 s H op = some r):core M c n0 S H op = some r:= by
 cases op with
 | call f args own pure =>
  simp only [core,U4] at e ⊢
  cases h1:ev s f with
  | none=>simp [h1] at e
  | some u =>
   cases h2:evs s args with
   | none=>simp [h1,h2] at e
   | some w=>rw [A25 h h1,A87 h h2]; rw [h1,h2] at e; exact e
 | _=>simp only [core] at e ⊢; exact C11 h e
theorem D1c {M:Mach} {c:Sc} {n0:Nat} {H:A1} {hc:List (Option (List Nat))} {o:AOper} {s':B3} {H':A1} {hc':List (Option (List Nat))} (e:oper M c n0 s H hc o = some (s',H',hc')) :
  ∃ S',oper M c n0 S H hc o = some (S',H',hc')∧Sub s' S':= by
 unfold oper at e ⊢
 split at e
 ·cases e
 ·next hw =>
  rw [B58 h hw]
  simp only [Option.some.injEq,Prod.mk.injEq] at e
  obtain ⟨rfl,rfl,rfl⟩:=e
  exact ⟨_,rfl,h.put _ _⟩
 ·next hw =>
  rw [B58 h hw]
  simp only
  split at e
  ·next hs e1 e2 =>
   rw [D0v h e1]
   split at e
   ·next q e3 =>
    have e4:O6 S o hc = true:= by
     rw [← e2]; unfold O6; rw [D1j h e3]
    rw [e4]
    simp only [C64 h e3]
    split at e
    ·next e5 =>
     simp only [e5,if_true]
     simp only [Option.some.injEq,Prod.mk.injEq] at e
     obtain ⟨rfl,rfl,rfl⟩:=e
     exact ⟨_,rfl,h.put _ _⟩
    ·cases e
   ·cases e
  ·cases e
end
theorem B1w {M:Mach} {c:Sc} {n0:Nat}:∀{l:List AOper} {s S:B3} (_:Sub s S) {H:A1} {hc:List (Option (List Nat))} {s':B3} {H':A1},opers M c n0 l s H hc = some (s',H') →
  ∃ S',opers M c n0 l S H hc = some (S',H')∧Sub s' S'
 | [],s,S,h,H,hc,s',H',e=>by
  simp only [opers,Option.some.injEq,Prod.mk.injEq] at e
  obtain ⟨rfl,rfl⟩:=e
  exact ⟨S,rfl,h⟩
 | o :: l,s,S,h,H,hc,s',H',e=>by
  simp only [opers] at e ⊢
  split at e
  ·cases e
  ·next s1 H1 hc1 e1 =>
   obtain ⟨S1,e2,h1⟩:=D1c h e1
   simp only [e2]
   exact B1w h1 e
theorem B3o {s S:B3} (h:Sub s S):∀{l:List Nat} {H H':A1},publish s H l = some H'→publish S H l = some H'
 | [],_,_,e=>e
 | t :: l,H,H',e=>by
  simp only [publish] at e ⊢
  cases h1:sget s t with
  | none=>simp [h1] at e
  | some u =>
   rw [h _ _ h1]; rw [h1] at e
   simp only at e ⊢
   cases h2:W1 H u with
   | none=>simp [h2] at e
   | some r=>rw [h2] at e; exact B3o h e
theorem P5 {s S:B3} (h:Sub s S) {H:A1}:∀{l:List ARes} {rs:List AV},results s H l = some rs→results S H l = some rs
 | [],_,e=>e
 | .tmp t :: l,rs,e=>by
  simp only [results,Option.bind_eq_some_iff,Option.map_eq_some_iff] at e ⊢
  obtain ⟨v,e1,w,e2,e3⟩:=e
  exact ⟨v,h _ _ e1,w,P5 h e2,e3⟩
 | .cell t k :: l,rs,e=>by
  simp only [results,Option.bind_eq_some_iff,Option.map_eq_some_iff] at e ⊢
  obtain ⟨v,e1,w,e2,e3⟩:=e
  exact ⟨v,C11 h e1,w,P5 h e2,e3⟩
section
variable (p g:Nat)
def rb (b:Nat):Nat:=bif Nat.blt b p then b else b + g
def B3s:Fn→Fn
 | .yield l=>.yield (rb p g l)
 | f=>f
mutual
def ren:AV→AV
 | .xseq k rows=>.xseq k (renR rows)
 | .ptr b o=>.ptr (rb p g b) o
 | .itr b=>.itr (rb p g b)
 | .eptr b n i o=>.eptr (rb p g b) n i o
 | .cptr cs=>.cptr (renL cs)
 | .asl b n=>.asl (rb p g b) n
 | .csl b o k n=>.csl (rb p g b) o k n
 | .mp b=>.mp (rb p g b)
 | .fn f a c=>.fn (B3s p g f) (renL a) (renL c)
 | .agg cs=>.agg (renL cs)
 | .tup cs=>.tup (renL cs)
 | .lit v=>.lit v
 | .nils k=>.nils k
 | .seq k rows=>.seq k (renR rows)
 | .fresh k rows=>.fresh k (renR rows)
 | .undef=>.undef
def renL:List AV→List AV
 | []=>[]
 | v :: l=>ren v :: renL l
def renR:List (List AV)→List (List AV)
 | []=>[]
 | r :: l=>renL r :: renR l
end
theorem O3:∀l:List AV,renL p g l = l.map (ren p g)
 | []=>by simp only [renL,List.map_nil]
 | v :: l=>by simp only [renL,List.map_cons,O3 l]
theorem A18:∀l:List (List AV),renR p g l = l.map (fun r=>r.map (ren p g))
 | []=>by simp only [renR,List.map_nil]
 | v :: l=>by simp only [renR,List.map_cons,A18 l,O3]
def Q4 (s:B3):B3:=s.map fun x=>(x.1,ren p g x.2)
def E5:Opd→Opd
 | .c v=>.c (ren p g v)
 | x=>x
def A3m:Option Opd→Option Opd
 | some x=>some (E5 p g x)
 | none=>none
def J3:AOp→AOp
 | .mv x=>.mv (E5 p g x)
 | .mvz x=>.mvz (E5 p g x)
 | .storeN x k r=>.storeN (E5 p g x) k r
 | .pick c a b=>.pick (E5 p g c) (E5 p g a) (E5 p g b)
 | .nil k r=>.nil k r
 | .alloc zs owns r=>.alloc (renL p g zs) owns r
 | .box n x r=>.box n (E5 p g x) r
 | .build z parts=>.build (renL p g z) (parts.map fun q=>(q.1,q.2.1,E5 p g q.2.2))
 | .lits k z n parts own=>.lits k (renL p g z) n (parts.map fun q=>(q.1,E5 p g q.2)) own
 | .xlits k z n parts=>.xlits k (renL p g z) n (parts.map fun q=>(q.1,E5 p g q.2))
 | .load k a=>.load k (E5 p g a)
 | .store k a v=>.store k (E5 p g a) (E5 p g v)
 | .nilck x=>.nilck (E5 p g x)
 | .bin op x y=>.bin op (E5 p g x) (E5 p g y)
 | .beq n x y=>.beq n (E5 p g x) (E5 p g y)
 | .cmp n ks x y=>.cmp n ks (E5 p g x) (E5 p g y)
 | .un op x=>.un op (E5 p g x)
 | .conv k x=>.conv k (E5 p g x)
 | .idc x=>.idc (E5 p g x)
 | .mkfn f a c=>.mkfn (B3s p g f) (a.map (E5 p g)) (c.map (E5 p g))
 | .mkmap r=>.mkmap r
 | .mkslice k b z l c r=>.mkslice k b (renL p g z) (E5 p g l) (E5 p g c) r
 | .sliceS x lo hi=>.sliceS (E5 p g x) (A3m p g lo) (A3m p g hi)
 | .sliceL k x lo hi=>.sliceL k (E5 p g x) (A3m p g lo) (A3m p g hi)
 | .sliceQ k x lo hi=>.sliceQ k (E5 p g x) (A3m p g lo) (A3m p g hi)
 | .sliceA k n x h=>.sliceA k n (E5 p g x) (A3m p g h)
 | .nilq q x=>.nilq q (E5 p g x)
 | .fieldAddr o x=>.fieldAddr o (E5 p g x)
 | .field k o x=>.field k o (E5 p g x)
 | .idxS k x i=>.idxS k (E5 p g x) (E5 p g i)
 | .idxA k n x i=>.idxA k n (E5 p g x) (E5 p g i)
 | .idxStr x i=>.idxStr (E5 p g x) (E5 p g i)
 | .idxAgg k sz n x i=>.idxAgg k sz n (E5 p g x) (E5 p g i)
 | .lookup z ag ks x i ok=>.lookup (ren p g z) ag ks (E5 p g x) (E5 p g i) ok
 | .mupd ag ks m k v=>.mupd ag ks (E5 p g m) (E5 p g k) (E5 p g v)
 | .range x r=>.range (E5 p g x) r
 | .next x=>.next (E5 p g x)
 | .extract x i=>.extract (E5 p g x) i
 | .lenS x=>.lenS (E5 p g x)
 | .lenL x=>.lenL (E5 p g x)
 | .lenM x=>.lenM (E5 p g x)
 | .mm mx xs=>.mm mx (xs.map (E5 p g))
 | .append k b s x r fz=>.append k b (E5 p g s) (E5 p g x) r fz
 | .copy k d s=>.copy k (E5 p g d) (E5 p g s)
 | .cut k x hi r=>.cut k (E5 p g x) (A3m p g hi) r
 | .call f args own pure=>.call (E5 p g f) (args.map (E5 p g)) own pure
def A0b (o:AOper):AOper:={ o with op:=J3 p g o.op }
def J7:ACode→ACode
 | .region d n pre ops live=>.region d n pre (ops.map (A0b p g)) live
 | .seq a b=>.seq (J7 a) (J7 b)
 | .cond c a b=>.cond (E5 p g c) (J7 a) (J7 b)
 | .block id a=>.block id (J7 a)
 | .loop tr l a=>.loop tr l (J7 a)
 | .rangeFunc f ps live a b=>.rangeFunc (E5 p g f) ps live (J7 a) (J7 b)
 | .scope a=>.scope (J7 a)
 | .skip=>.skip
 | .exit id=>.exit id
 | .ret=>.ret
def J9:AO→AO
 | .cells cs=>.cells (renL p g cs)
 | .arr k q rows=>.arr k q (renR p g rows)
 | .map es=>.map (es.map fun e=>(ren p g e.1,ren p g e.2))
 | .loop f s ps a b busy pend=>.loop f (Q4 p g s) ps (J7 p g a) (J7 p g b) busy pend
 | .stk k rows anc=>.stk k (renR p g rows) (anc.map (rb p g))
 | .ro o=>.ro (J9 o)
 | .dead=>.dead
 | .iter s q=>.iter s q
def F1 (G H:A1):A1:=(H.take p).map (J9 p g)++(G++(H.drop p).map (J9 p g))
end
section
variable {p g:Nat} {G:A1} (hG:G.length = g)
theorem A4z {b:Nat} (h:b < p):rb p g b = b:= by
 unfold rb; rw [show Nat.blt b p = true from Nat.ble_eq_true_of_le h]; rfl
theorem A3t {b:Nat} (h:p≤b):rb p g b = b + g:= by
 unfold rb
 cases hb:Nat.blt b p with
 | false=>rfl
 | true=>have:b < p:=Nat.le_of_ble_eq_true hb; omega
theorem D88 {a b:Nat} (h:rb p g a = rb p g b):a = b:= by
 by_cases ha:a < p <;> by_cases hb:b < p
 ·rwa [A4z ha,A4z hb] at h
 ·rw [A4z ha,A3t (by omega)] at h; omega
 ·rw [A3t (by omega),A4z hb] at h; omega
 ·rw [A3t (by omega),A3t (by omega)] at h; omega
theorem D87 (a b:Nat):(rb p g a == rb p g b) = (a == b):= by
 by_cases h:a = b
 ·subst h; simp only [BEq.rfl]
 ·have:rb p g a ≠ rb p g b:=fun e=>h (D88 e)
  rw [beq_eq_false_iff_ne.2 h,beq_eq_false_iff_ne.2 this]
include hG
theorem A3a {H:A1} (hp:p≤H.length):(F1 p g G H).length = H.length + g:= by
 simp [F1,hG]; omega
theorem W3 {H:A1} (hp:p≤H.length) (b:Nat):hget (F1 p g G H) (rb p g b) = (hget H b).map (J9 p g):= by
 unfold hget F1
 have hl:((H.take p).map (J9 p g)).length = p:= by simp; omega
 by_cases h:b < p
 ·rw [A4z h,List.getElem?_append_left (by rw [hl]; exact h),List.getElem?_map,List.getElem?_take_of_lt h]
 ·rw [A3t (by omega),List.getElem?_append_right (by rw [hl]; omega),hl,List.getElem?_append_right (by omega),List.getElem?_map,List.getElem?_drop]
  congr 2; omega
theorem O8 {H:A1} (hp:p≤H.length) (b:Nat) (o:AO):hset (F1 p g G H) (rb p g b) (J9 p g o) = F1 p g G (hset H b o):= by
 unfold hset F1
 have hl:((H.take p).map (J9 p g)).length = p:= by simp; omega
 by_cases h:b < p
 ·rw [A4z h,List.set_append_left _ _ (by rw [hl]; exact h),← List.map_set,← List.take_set,List.drop_set_of_lt h]
 ·rw [A3t (by omega),List.set_append_right _ _ (by rw [hl]; omega),hl,List.set_append_right _ _ (by omega),← List.map_set,List.take_set_of_le (by omega),List.drop_set]
  rw [if_neg (by omega)]
  congr 4; omega
omit hG
theorem A7u (s:B3) (t:Nat):sget (Q4 p g s) t = (sget s t).map (ren p g):= by
 induction s with
 | nil=>rfl
 | cons x s ih =>
  simp only [Q4,List.map_cons,M3,K0]
  cases Nat.beq x.1 t with
  | true=>rfl
  | false=>exact ih
theorem I7 (s:B3) (x:Opd):ev (Q4 p g s) (E5 p g x) = (ev s x).map (ren p g):= by
 cases x with
 | t i=>exact A7u s i
 | c v=>rfl
 | f i=>simp [ev,E5,ren,B3s,renL]
theorem B6m (s:B3):∀l:List Opd,evs (Q4 p g s) (l.map (E5 p g)) = (evs s l).map (renL p g)
 | []=>by simp [evs,renL]
 | x :: l=>by
  simp only [List.map_cons,evs,I7,B6m s l]
  cases ev s x with
  | none=>rfl
  | some v=>cases evs s l with
   | none=>rfl
   | some vs=>simp [renL]
theorem B5c (s:B3):∀l:List (Nat × Nat × Opd),T8 (Q4 p g s) (l.map fun q=>(q.1,q.2.1,E5 p g q.2.2)) = (T8 s l).map fun ps=>ps.map fun q=>(q.1,q.2.1,ren p g q.2.2)
 | []=>rfl
 | (a,b,x) :: l=>by
  simp only [List.map_cons,T8,I7,B5c s l]
  cases ev s x with
  | none=>rfl
  | some v=>cases T8 s l with
   | none=>rfl
   | some vs=>rfl
theorem A72 (s:B3):∀l:List (Nat × Opd),K8 (Q4 p g s) (l.map fun q=>(q.1,E5 p g q.2)) = (K8 s l).map fun ps=>ps.map fun q=>(q.1,ren p g q.2)
 | []=>rfl
 | (a,x) :: l=>by
  simp only [List.map_cons,K8,I7,A72 s l]
  cases ev s x with
  | none=>rfl
  | some v=>cases K8 s l with
   | none=>rfl
   | some vs=>rfl
theorem D0n (s:B3) (x:Opd):B2o (Q4 p g s) (E5 p g x) = B2o s x:= by
 unfold B2o; rw [I7]
 cases ev s x with
 | none=>rfl
 | some v=>cases v <;> simp [ren]
theorem B2f (s:B3) (d:Int) (x:Option Opd):bnd (Q4 p g s) d (A3m p g x) = bnd s d x:= by
 cases x with
 | none=>rfl
 | some x=>exact D0n s x
theorem W5 (l:List AV):(renL p g l).length = l.length:= by rw [O3,List.length_map]
theorem N1 (l:List (List AV)):(renR p g l).length = l.length:= by rw [A18,List.length_map]
theorem A2n (v:AV):(ren p g v).cellsOf = renL p g v.cellsOf:= by
 cases v <;> simp [ren,AV.cellsOf,renL]
theorem D5s (v:AV):(ren p g v).frz = v.frz:= by cases v <;> simp [ren,AV.frz]
theorem D1g (v:AV):(ren p g v).plain = v.plain:= by cases v <;> simp [ren,AV.plain]
theorem A8y (l:List AV):(renL p g l).all AV.frz = l.all AV.frz:= by
 rw [O3,List.all_map]; congr 1; funext v; exact D5s v
theorem B2x (l:List (List AV)):B2w (renR p g l) = B2w l:= by
 unfold B2w; rw [A18,List.all_map]; congr 1; funext r
 simp only [Function.comp_def]; rw [← O3]; exact A8y r
theorem A35 (cs new:List AV) (o:Nat):splice (renL p g cs) o (renL p g new) = renL p g (splice cs o new):= by
 simp only [splice,O3,List.map_append,List.map_take,List.map_drop,List.length_map]
include hG
theorem A77 {H:A1} (hp:p≤H.length) (b:Nat):hcells (F1 p g G H) (rb p g b) = (hcells H b).map (renL p g):= by
 unfold hcells; rw [W3 hG hp]
 cases hget H b with
 | none=>rfl
 | some o=>cases o with
  | ro o=>cases o <;> simp [J9]
  | _=>simp [J9]
theorem A4g {H:A1} (hp:p≤H.length) (b:Nat):V0 (F1 p g G H) (rb p g b) = (V0 H b).map (renL p g):= by
 unfold V0; rw [W3 hG hp]
 cases hget H b with
 | none=>rfl
 | some o=>cases o <;> simp [J9]
theorem A4f {H:A1} (hp:p≤H.length) (b:Nat):harr (F1 p g G H) (rb p g b) = (harr H b).map fun x=>(x.1,x.2.1,renR p g x.2.2):= by
 unfold harr; rw [W3 hG hp]
 cases hget H b with
 | none=>rfl
 | some o=>cases o with
  | ro o=>cases o <;> simp [J9]
  | _=>simp [J9]
theorem A5b {H:A1} (hp:p≤H.length) (b:Nat):A00 (F1 p g G H) (rb p g b) = (A00 H b).map fun x=>(x.1,x.2.1,renR p g x.2.2):= by
 unfold A00; rw [W3 hG hp]
 cases hget H b with
 | none=>rfl
 | some o=>cases o <;> simp [J9]
theorem B24 {H:A1} (hp:p≤H.length) (b:Nat):hstk (F1 p g G H) (rb p g b) = (hstk H b).map fun x=>(x.1,renR p g x.2.1,x.2.2.map (rb p g)):= by
 unfold hstk; rw [W3 hG hp]
 cases hget H b with
 | none=>rfl
 | some o=>cases o with
  | ro o=>cases o <;> simp [J9]
  | _=>simp [J9]
theorem D0x {H:A1} (hp:p≤H.length) (b:Nat):B23 (F1 p g G H) (rb p g b) = (B23 H b).map fun x=>(x.1,renR p g x.2.1,x.2.2.map (rb p g)):= by
 unfold B23; rw [W3 hG hp]
 cases hget H b with
 | none=>rfl
 | some o=>cases o <;> simp [J9]
omit hG
theorem A71 (l:List Nat) (b:Nat):(l.map (rb p g)).contains (rb p g b) = l.contains b:= by
 induction l with
 | nil=>rfl
 | cons a l ih=>simp only [List.map_cons,List.contains_cons,ih,D87]
theorem D28 (o:AO) (b:Nat):(J9 p g o).grew (rb p g b) = o.grew b:= by
 cases o with
 | stk k rows anc=>simp only [J9,AO.grew,A71]
 | ro o=>cases o <;> simp only [J9,AO.grew,A71]
 | _=>simp only [J9,AO.grew]
def GrO (p:Nat) (G:A1):Prop:=∀ o ∈ G,∀ b,b < p→o.grew b = false
include hG
theorem D27 (hS:GrO p G) {H:A1} (hp:p≤H.length) (b:Nat):(((F1 p g G H).drop (rb p g b + 1)).all fun o=>!o.grew (rb p g b)) = (H.drop (b + 1)).all fun o=>!o.grew b:= by
 have hm:∀l:A1,((l.map (J9 p g)).all fun o=>!o.grew (rb p g b)) = l.all fun o=>!o.grew b:=fun l=>by
  rw [List.all_map]; simp only [Function.comp_def,D28]
 have hl:((H.take p).map (J9 p g)).length = p:= by simp; omega
 unfold F1
 by_cases h:b < p
 ·have hg:(G.all fun o=>!o.grew (rb p g b)) = true:=List.all_eq_true.2 fun o ho=>by rw [A4z h,hS o ho b h]; rfl
  have e:H.drop (b + 1) = (H.take p).drop (b + 1)++H.drop p:= by
   rw [List.drop_take]
   have:H.drop p = (H.drop (b + 1)).drop (p - (b + 1)):= by rw [List.drop_drop]; congr 1; omega
   rw [this,List.take_append_drop]
  rw [e,List.all_append,← hm,← hm,A4z h,List.drop_append_of_le_length (by rw [hl]; exact h),List.all_append,List.all_append,← List.map_drop]
  rw [A4z h] at hg
  rw [hg,Bool.true_and]
 ·have hb:p≤b:=Nat.le_of_not_lt h
  rw [← hm,A3t hb]
  have e:((H.take p).map (J9 p g)++(G++(H.drop p).map (J9 p g))).drop (b + g + 1) = (H.drop (b + 1)).map (J9 p g):= by
   rw [← List.append_assoc,List.drop_append,List.drop_of_length_le (by rw [List.length_append,hl,hG]; omega),List.nil_append,List.length_append,hl,hG,← List.map_drop,List.drop_drop]
   congr 2; omega
  rw [e]
omit hG
include hG
theorem C40 {H:A1} (hp:p≤H.length) (b:Nat):hmap (F1 p g G H) (rb p g b) = (hmap H b).map fun es=>es.map fun e=>(ren p g e.1,ren p g e.2):= by
 unfold hmap; rw [W3 hG hp]
 cases hget H b with
 | none=>rfl
 | some o=>cases o with
  | ro o=>cases o <;> simp [J9]
  | _=>simp [J9]
theorem D0t {H:A1} (hp:p≤H.length) (b:Nat):A9c (F1 p g G H) (rb p g b) = (A9c H b).map fun es=>es.map fun e=>(ren p g e.1,ren p g e.2):= by
 unfold A9c; rw [W3 hG hp]
 cases hget H b with
 | none=>rfl
 | some o=>cases o <;> simp [J9]
omit hG
abbrev ren2 (p g:Nat) (G:A1) (r:AV × A1):AV × A1:=(ren p g r.1,F1 p g G r.2)
include hG
theorem C2t {H:A1} (hp:p≤H.length) (v:AV):frv (F1 p g G H) (ren p g v) = (frv H v).map (ren2 p g G):= by
 cases v with
 | asl b n =>
  simp only [ren,frv,A4f hG hp,A5b hG hp]
  cases harr H b with
  | none=>rfl
  | some x =>
   obtain ⟨k,q,rows⟩:=x
   cases q with
   | true =>
    simp only [Option.map_some,N1]
    split <;> first | rfl | simp [ren2,ren]
   | false =>
    simp only [Option.map_some,N1]
    cases A00 H b with
    | none=>rfl
    | some y =>
     simp only [Option.map_some]
     split
     ·simp only [Option.map_some,ren2,ren,← O8 hG hp,J9]
     ·rfl
 | _=>simp [ren,frv,ren2]
theorem D1p {H:A1} (hp:p≤H.length) (v:AV):A53 (F1 p g G H) (ren p g v) = (A53 H v).map fun r=>(r.1,renR p g r.2):= by
 cases v with
 | asl b n =>
  simp only [ren,A53,A4f hG hp]
  cases harr H b with
  | none=>rfl
  | some x =>
   obtain ⟨k,q,rows⟩:=x
   cases q with
   | true =>
    simp only [Option.map_some,N1]
    split <;> rfl
   | false=>rfl
 | _=>simp [ren,A53]
theorem B2u:∀(l:List AV) {H:A1} (hp:p≤H.length),X0 (F1 p g G H) (renL p g l) = (X0 H l).map fun r=>(renL p g r.1,F1 p g G r.2)
 | [],H,hp=>by simp [X0,renL]
 | v :: l,H,hp=>by
  simp only [renL,X0,C2t hG hp]
  cases e:frv H v with
  | none=>rfl
  | some r =>
   simp only [Option.map_some,ren2]
   have hp':p≤r.2.length:= by rw [B2v e]; exact hp
   rw [B2u l hp']
   cases X0 r.2 l with
   | none=>rfl
   | some q=>simp [renL]
theorem B2t {H:A1} (hp:p≤H.length) (v:AV):T4 (F1 p g G H) (ren p g v) = (T4 H v).map (ren2 p g G):= by
 cases v with
 | agg cs =>
  simp only [ren,T4,B2u hG cs hp]
  cases X0 H cs <;> simp [ren2,ren]
 | nils k=>simp [ren,T4,ren2,renR]
 | asl b n=>have:=C2t hG hp (.asl b n); simpa [ren,T4] using this
 | _=>simp [ren,T4,frv,ren2]
theorem C08:∀(l:List AV) {H:A1} (hp:p≤H.length),R9 (F1 p g G H) (renL p g l) = (R9 H l).map fun r=>(renL p g r.1,F1 p g G r.2)
 | [],H,hp=>by simp [R9,renL]
 | v :: l,H,hp=>by
  simp only [renL,R9,B2t hG hp]
  cases e:T4 H v with
  | none=>rfl
  | some r =>
   simp only [Option.map_some,ren2]
   have hp':p≤r.2.length:= by rw [A9a e]; exact hp
   rw [C08 l hp']
   cases R9 r.2 l with
   | none=>rfl
   | some q=>simp [renL]
omit hG
theorem D2l (op:BinOp) (a b:AV):A6p op (ren p g a) (ren p g b) = (A6p op a b).map (ren p g):= by
 have key:∀u w,(A6p op (.lit u) (.lit w)).map (ren p g) = A6p op (.lit u) (.lit w):= by
  intro u w
  have:∀v,A6p op (.lit u) (.lit w) = some v→∃ x,v = .lit x:= by
   intro v h
   unfold A6p at h
   split at h
   ·split at h
    ·split at h <;> simp at h; exact ⟨_,h.symm⟩
    ·split at h <;> simp at h; exact ⟨_,h.symm⟩
    ·split at h
     ·simp only [Option.map_eq_some_iff] at h; obtain ⟨y,_,rfl⟩:=h; exact ⟨y,rfl⟩
     ·cases h
   ·simp only [Option.map_eq_some_iff] at h; obtain ⟨y,_,rfl⟩:=h; exact ⟨y,rfl⟩
   ·cases h
  cases e:A6p op (.lit u) (.lit w) with
  | none=>rfl
  | some v=>obtain ⟨x,rfl⟩:=this v e; simp [ren]
 cases a with
 | lit u=>cases b with
  | lit w=>simp only [ren]; exact (key u w).symm
  | _=>cases u <;> simp [ren,A6p]
 | _=>simp [ren,A6p]
theorem D67 (op:UnOp) (a:AV):unV op (ren p g a) = (unV op a).map (ren p g):= by
 cases a with
 | lit u=>cases op <;> cases u <;> simp [ren,unV]
 | _=>cases op <;> simp [ren,unV]
theorem D0m (a b:AV):A24 (ren p g a) (ren p g b) = A24 a b:= by
 cases a with
 | lit u=>cases b with
  | lit w=>simp only [ren]
  | _=>cases u <;> simp [ren,A24]
 | _=>simp [ren,A24]
theorem B1h:∀(a b:List AV),F4 (renL p g a) (renL p g b) = F4 a b
 | [],[]=>rfl
 | [],_ :: _=>by simp [renL,F4]
 | _ :: _,[]=>by simp [renL,F4]
 | x :: a,y :: b=>by simp only [renL,F4,D0m,B1h a b]
theorem A5d:∀(ks:List Nat) (a:List AV),kinds ks (renL p g a) = kinds ks a
 | [],[]=>rfl
 | [],x :: a=>by simp [renL,kinds]
 | k :: ks,[]=>by simp [renL,kinds]
 | k :: ks,x :: a=>by
  have ih:=A5d ks a
  cases x with
  | lit u =>
   simp only [renL,ren]
   cases u <;> (match k with
    | 0 | 1 | 2 | (n + 3)=>simp only [kinds,ih])
  | _=>simp [renL,ren,kinds]
theorem Z5 (ag:Bool) (v:AV):H6 ag (ren p g v) = (H6 ag v).map (renL p g):= by
 cases ag <;> cases v <;> simp [ren,H6,renL]
theorem A88 (ag:Bool) (ks:List Nat) (k:List AV):∀(es:List (AV × AV)) (i:Nat),findKey ag ks (renL p g k) (es.map fun e=>(ren p g e.1,ren p g e.2)) i = (findKey ag ks k es i).map (Option.map fun x=>(x.1,ren p g x.2))
 | [],i=>rfl
 | e :: es,i=>by
  simp only [List.map_cons,findKey,Z5]
  cases H6 ag e.1 with
  | none=>rfl
  | some l =>
   simp only [Option.map_some,A5d,B1h,A88 ag ks k es (i + 1)]
   split
   ·cases F4 k l with
    | none=>rfl
    | some t=>cases t <;> rfl
   ·rfl
theorem C0x:∀(ps:List (Nat × Nat × AV)) (cs:List AV),A8q (renL p g cs) (ps.map fun q=>(q.1,q.2.1,ren p g q.2.2)) = (A8q cs ps).map (renL p g)
 | [],cs=>rfl
 | (o,n,v) :: ps,cs=>by
  simp only [List.map_cons,A8q,A2n,W5]
  split
  ·rw [A35]; exact C0x ps _
  ·rfl
theorem C55 (l:List (List AV)) (i:Nat) (r:List AV):renR p g (l.set i r) = (renR p g l).set i (renL p g r):= by
 simp only [A18,O3,List.map_set]
theorem B4a (k:Nat):∀(ps:List (Nat × AV)) (rows:List (List AV)),A3q k (renR p g rows) (ps.map fun q=>(q.1,ren p g q.2)) = (A3q k rows ps).map (renR p g)
 | [],rows=>rfl
 | (i,v) :: ps,rows=>by
  simp only [List.map_cons,A3q,A2n,W5,N1]
  split
  ·rw [← C55]; exact B4a k ps _
  ·rfl
theorem C9l (mx:Bool):∀(l:List AV) (a:AV),mmV mx (ren p g a) (renL p g l) = (mmV mx a l).map (ren p g)
 | [],a=>by simp [renL,mmV]
 | y :: l,a=>by
  cases a with
  | lit u =>
   cases u with
   | int k x =>
    cases y with
    | lit w =>
     cases w with
     | int k' z =>
      simp only [renL,ren,mmV]
      split
      ·have:=C9l mx l (.lit (.int k (if mx = true then if z > x then z else x else if z < x then z else x)))
       simpa only [ren] using this
      ·rfl
     | _=>simp [renL,ren,mmV]
    | _=>simp [renL,ren,mmV]
   | _=>simp [renL,ren,mmV]
  | _=>simp [renL,ren,mmV]
include hG
theorem B1y {H:A1} (hp:p≤H.length) (v:AV):Y7 (F1 p g G H) (ren p g v) = (Y7 H v).map (renR p g):= by
 cases v with
 | asl b n =>
  simp only [ren,Y7,A4f hG hp]
  cases harr H b with
  | none =>
   simp only [Option.map_none,B24 hG hp]
   cases hstk H b with
   | none=>rfl
   | some x=>simp only [Option.map_some,N1]; split <;> rfl
  | some x=>simp only [Option.map_some,N1]; split <;> rfl
 | csl b o k n =>
  simp only [ren,Y7,A77 hG hp]
  cases hcells H b with
  | none=>rfl
  | some cs =>
   simp only [Option.map_some,W5]
   split
   ·simp only [Option.map_some,A18,O3,List.map_map,Function.comp_def,List.map_take,List.map_drop]
   ·rfl
 | _=>simp [ren,Y7,renR]
theorem C20 {H:A1} (hp:p≤H.length) (v:AV):kOf (F1 p g G H) (ren p g v) = kOf H v:= by
 cases v with
 | asl b n =>
  simp only [ren,kOf,A4f hG hp]
  cases harr H b with
  | none=>simp only [Option.map_none,B24 hG hp]; cases hstk H b <;> rfl
  | some x=>rfl
 | _=>simp [ren,kOf]
theorem B3m {H:A1} (hp:p≤H.length) (v:AV):G5 (F1 p g G H) (ren p g v) = (G5 H v).map (renL p g):= by
 cases v with
 | ptr b o =>
  simp only [ren,G5,A77 hG hp]
  cases hcells H b with
  | none=>rfl
  | some cs=>simp only [Option.map_some,O3,List.map_drop]
 | eptr b n i o =>
  simp only [ren,G5,A4f hG hp]
  cases harr H b with
  | none=>rfl
  | some x =>
   simp only [Option.map_some,N1]
   split
   ·simp only [A18,List.getElem?_map]
    cases x.2.2[i]? with
    | none=>rfl
    | some r=>simp only [Option.map_some,O3,List.map_drop]
   ·rfl
 | _=>simp [ren,G5]
end
def ScB (p g B B':Nat):Prop:=(B≤p∧B' = B)∨(p≤B∧B' = B + g)∨(B = p∧p≤B'∧B'≤p + g)
inductive ScBs (p g:Nat):List Nat→List Nat→Prop
 | nil:ScBs p g [] []
 | cons {B B':Nat} {l l':List Nat} (h:ScB p g B B') (k:ScBs p g l l'):ScBs p g (B :: l) (B' :: l')
 | extra {B':Nat} {l l':List Nat} (h:∀b,B'≤rb p g b) (k:ScBs p g l l'):ScBs p g l (B' :: l')
 | drop {l l':List Nat} (k:ScBs p g l l'):ScBs p g (0 :: l) l'
structure ScR (p g:Nat) (c c':Sc):Prop where
 cur:ScB p g c.cur c'.cur
 outer:ScBs p g c.outer c'.outer
section
variable {p g:Nat} {G:A1} (hG:G.length = g)
theorem ScB.lt {B B':Nat} (h:ScB p g B B') (b:Nat):Nat.blt (rb p g b) B' = Nat.blt b B:= by
 have:rb p g b < B'↔b < B:= by
  rcases h with ⟨h1,rfl⟩ | ⟨h1,rfl⟩ | ⟨rfl,h1,h2⟩
  ·by_cases hb:b < p
   ·rw [A4z hb]
   ·rw [A3t (by omega)]; omega
  ·by_cases hb:b < p
   ·rw [A4z hb]; omega
   ·rw [A3t (by omega)]; omega
  ·by_cases hb:b < B
   ·rw [A4z hb]; omega
   ·rw [A3t (by omega)]; omega
 cases h1:Nat.blt (rb p g b) B' <;> cases h2:Nat.blt b B <;> first | rfl | skip
 ·have:=this.2 (Nat.le_of_ble_eq_true h2)
  have:=Nat.ble_eq_true_of_le this
  unfold Nat.blt at h1; rw [h1] at this; cases this
 ·have:=this.1 (Nat.le_of_ble_eq_true h1)
  have:=Nat.ble_eq_true_of_le this
  unfold Nat.blt at h2; rw [h2] at this; cases this
theorem ScB.le {B B':Nat} (h:ScB p g B B') (b:Nat):Nat.ble B' (rb p g b) = Nat.ble B b:= by
 have:B'≤rb p g b↔B≤b:= by
  rcases h with ⟨h1,rfl⟩ | ⟨h1,rfl⟩ | ⟨rfl,h1,h2⟩
  ·by_cases hb:b < p
   ·rw [A4z hb]
   ·rw [A3t (by omega)]; omega
  ·by_cases hb:b < p
   ·rw [A4z hb]; omega
   ·rw [A3t (by omega)]; omega
  ·by_cases hb:b < B
   ·rw [A4z hb]; omega
   ·rw [A3t (by omega)]; omega
 cases h1:Nat.ble B' (rb p g b) <;> cases h2:Nat.ble B b <;> first | rfl | skip
 ·have:=Nat.ble_eq_true_of_le (this.2 (Nat.le_of_ble_eq_true h2)); rw [h1] at this; cases this
 ·have:=Nat.ble_eq_true_of_le (this.1 (Nat.le_of_ble_eq_true h1)); rw [h2] at this; cases this
mutual
theorem bd_ren {B B':Nat} (h:ScB p g B B'):(v:AV)→(ren p g v).bd B' = v.bd B
 | .lit _ | .nils _ | .seq _ _ | .fresh _ _ | .undef=>by simp only [ren,AV.bd]
 | .xseq _ rows=>by simp only [ren,AV.bd]; exact bdR_ren h rows
 | .ptr b _ | .itr b | .eptr b _ _ _ | .asl b _ | .csl b _ _ _ | .mp b=>by simp only [ren,AV.bd]; exact h.lt b
 | .cptr cs | .agg cs | .tup cs=>by simp only [ren,AV.bd]; exact bdL_ren h cs
 | .fn f a c=>by
  simp only [ren]
  cases f <;> simp only [B3s,AV.bd,bdL_ren h a,bdL_ren h c,h.lt]
theorem bdL_ren {B B':Nat} (h:ScB p g B B'):(l:List AV)→bdL B' (renL p g l) = bdL B l
 | []=>by simp only [renL,bdL]
 | v :: l=>by simp only [renL,bdL,bd_ren h v,bdL_ren h l]
theorem bdR_ren {B B':Nat} (h:ScB p g B B'):(l:List (List AV))→bdR B' (renR p g l) = bdR B l
 | []=>by simp only [renR,bdR]
 | v :: l=>by simp only [renR,bdR,bdL_ren h v,bdR_ren h l]
end
theorem D8t {c c':Sc} (h:ScR p g c c') (b:Nat) (v:AV):c'.ok (rb p g b) (ren p g v) = c.ok b v:= by
 have:(c'.outer.all fun B=>Nat.ble B (rb p g b) || (ren p g v).bd B) = c.outer.all fun B=>Nat.ble B b || v.bd B:= by
  have h1:=h.outer
  generalize c.outer = l at h1
  generalize c'.outer = l' at h1
  induction h1 with
  | nil=>rfl
  | cons h1 _ ih=>simp only [List.all_cons,h1.le,bd_ren h1,ih]
  | extra h1 _ ih=>rw [List.all_cons,Nat.ble_eq_true_of_le (h1 b),ih]; rfl
  | drop _ ih=>rw [List.all_cons,Nat.ble_eq_true_of_le (Nat.zero_le b),ih]; rfl
 simp only [Sc.ok,D1g,h.cur.le,bd_ren h.cur,this]
theorem C25 {c c':Sc} (h:ScR p g c c') (b:Nat):∀l:List AV,c'.okL (rb p g b) (renL p g l) = c.okL b l
 | []=>by simp only [renL,Sc.okL]
 | v :: l=>by simp only [renL,Sc.okL,D8t h,C25 h b l]
theorem rbn {n0:Nat} (hn:p≤n0) (r:Nat):rb p g (n0 + r) = n0 + g + r:= by rw [A3t (by omega)]; omega
include hG
theorem W4 {H:A1} (hp:p≤H.length) {n0:Nat} (hn:p≤n0) (r:Nat) (o:AO):hset (F1 p g G H) (n0 + g + r) (J9 p g o) = F1 p g G (hset H (n0 + r) o):= by
 rw [← rbn hn]; exact O8 hG hp _ _
theorem B53 {n0:Nat} (hn:p≤n0):∀(owns:List (Nat × Nat × Nat)) (zs:List AV) {H:A1} (hp:p≤H.length),N7 (n0 + g) owns (renL p g zs) (F1 p g G H) = (renL p g (N7 n0 owns zs H).1,F1 p g G (N7 n0 owns zs H).2)
 | [],zs,H,hp=>rfl
 | (j,r,k) :: l,zs,H,hp=>by
  simp only [N7]
  have h1:(renL p g zs).set j (.asl (n0 + g + r) 0) = renL p g (zs.set j (.asl (n0 + r) 0)):= by
   rw [O3,O3,List.map_set]; simp only [ren,rbn hn]
  have h2:hset (F1 p g G H) (n0 + g + r) (.arr k false []) = F1 p g G (hset H (n0 + r) (.arr k false [])):= by
   rw [← W4 hG hp hn]; simp only [J9,renR]
  rw [h1,h2]
  exact B53 hn l _ (by rw [I3]; exact hp)
omit hG
theorem A7r (l:List (List AV)) (n:Nat):renR p g (l.take n) = (renR p g l).take n:= by simp only [A18,List.map_take]
theorem B4z (l:List (List AV)) (n:Nat):renR p g (l.drop n) = (renR p g l).drop n:= by simp only [A18,List.map_drop]
theorem B3u (l m:List (List AV)):renR p g (l++m) = renR p g l++renR p g m:= by simp only [A18,List.map_append]
theorem B4y (l:List AV) (n:Nat):renL p g (l.take n) = (renL p g l).take n:= by simp only [O3,List.map_take]
theorem B0s (l:List AV) (n:Nat):renL p g (l.drop n) = (renL p g l).drop n:= by simp only [O3,List.map_drop]
theorem B3t (l:List AV) (n:Nat):(renL p g l)[n]? = (l[n]?).map (ren p g):= by simp only [O3,List.getElem?_map]
theorem B81 (l:List (List AV)) (n:Nat):(renR p g l)[n]? = (l[n]?).map (renL p g):= by
 simp only [A18,List.getElem?_map]
 congr 1; funext r; rw [O3]
theorem B7a (l:List (List AV)) (k:Nat):((renR p g l).all fun x=>Nat.beq x.length k) = l.all fun x=>Nat.beq x.length k:= by
 rw [A18,List.all_map]; congr 1; funext x; simp only [Function.comp_def,List.length_map]
theorem C12:∀l:List (List AV),renL p g l.flatten = (renR p g l).flatten
 | []=>by simp [renL,renR]
 | r :: l=>by rw [List.flatten_cons,renR,List.flatten_cons,← C12 l,O3,O3,O3,List.map_append]
theorem B82 (z:List AV) (n:Nat):renR p g (List.replicate n z) = List.replicate n (renL p g z):= by simp only [A18,List.map_replicate,O3]
include hG
theorem C5z (hS:GrO p G) {c c':Sc} (hc:ScR p g c c') {n0:Nat} (hn:p≤n0) {H:A1} (hp:p≤H.length) (s:B3) (op:AOp):prim c' (n0 + g) (Q4 p g s) (F1 p g G H) (J3 p g op) = (prim c n0 s H op).map (ren2 p g G):= by
 cases op with
 | call=>rfl
 | mv x=>simp only [J3,prim,I7]; cases ev s x <;> rfl
 | pick x a b =>
  simp only [J3,prim,I7]
  cases ev s x with
  | none=>rfl
  | some v =>
   cases v with
   | lit u=>cases u with
    | bool t=>cases t <;> simp only [Option.map_some,ren] <;> first | (cases ev s a <;> rfl) | (cases ev s b <;> rfl)
    | _=>rfl
   | _=>rfl
 | nil k r=>simp only [J3,prim,Option.map_some,ren2,ren,rbn hn,← W4 hG hp hn,J9,renR]
 | alloc zs owns r =>
  simp only [J3,prim,B53 hG hn owns zs hp,Option.map_some,ren2,ren,rbn hn]
  rw [← W4 hG (by rw [A9z]; exact hp) hn]; simp only [J9]
 | box n x r =>
  simp only [J3,prim,I7]
  cases ev s x with
  | none=>rfl
  | some v =>
   simp only [Option.map_some,A2n,W5]
   split
   ·simp only [Option.map_some,ren2,ren,rbn hn,← W4 hG hp hn,J9]
   ·rfl
 | build z parts =>
  simp only [J3,prim,B5c]
  cases T8 s parts with
  | none=>rfl
  | some ps =>
   simp only [Option.map_some,Option.bind_some,C0x]
   cases A8q z ps with
   | none=>rfl
   | some cs=>simp only [Option.map_some,ren2,ren]
 | lits k z n parts own =>
  simp only [J3,prim,A72]
  cases K8 s parts with
  | none=>rfl
  | some ps =>
   simp only [Option.map_some,Option.bind_some,← B82,B4a]
   cases A3q k (List.replicate n z) ps with
   | none=>rfl
   | some rows =>
    simp only [Option.map_some,Option.bind_some,B2x]
    split
    ·cases own with
     | none=>simp only [Option.map_some,ren2,ren]
     | some r=>simp only [Option.map_some,ren2,ren,rbn hn,← W4 hG hp hn,J9]
    ·rfl
 | xlits k z n parts =>
  simp only [J3,prim,A72]
  cases K8 s parts with
  | none=>rfl
  | some ps =>
   simp only [Option.map_some,Option.bind_some,← B82,B4a]
   cases A3q k (List.replicate n z) ps with
   | none=>rfl
   | some rows=>simp only [Option.map_some,ren2,ren]
 | load k a =>
  cases k with
  | none =>
   simp only [J3,prim,I7]
   cases ev s a with
   | none=>rfl
   | some v =>
    simp only [Option.map_some,B3m hG hp]
    cases G5 H v with
    | none=>rfl
    | some l=>cases l <;> simp only [Option.map_some,renL] <;> rfl
  | some k =>
   simp only [J3,prim,I7]
   cases ev s a with
   | none=>rfl
   | some v =>
    simp only [Option.map_some,B3m hG hp]
    cases G5 H v with
    | none=>rfl
    | some l =>
     simp only [Option.map_some,W5]
     split
     ·simp only [Option.map_some,ren2,ren,B4y]
     ·rfl
 | storeN a k r =>
  simp only [J3,prim,I7]
  cases ev s a with
  | none=>rfl
  | some u =>
   cases u with
   | ptr b o =>
    have hp1:p≤(hset H (n0 + r) (.arr k false [])).length:= by simp only [hset,List.length_set]; exact hp
    have e:hset (F1 p g G H) (n0 + g + r) (.arr k false []) = F1 p g G (hset H (n0 + r) (.arr k false [])):=W4 hG hp hn r (.arr k false [])
    have e3:([.asl (n0 + g + r) 0]:List AV) = renL p g [.asl (n0 + r) 0]:= by simp only [renL,ren,rbn hn]
    simp only [Option.map_some,ren]
    rw [e,A4g hG hp1]
    cases V0 (hset H (n0 + r) (.arr k false [])) b with
    | none=>rfl
    | some cs =>
     rw [e3]
     simp only [Option.map_some,W5,C25 hc,A35]
     split
     ·simp only [Option.map_some,ren2,ren,← O8 hG hp1,J9,A35]
      try rfl
     ·rfl
   | _=>rfl
 | store k a x =>
  simp only [J3,prim,I7]
  cases ev s a with
  | none=>rfl
  | some u =>
   cases ev s x with
   | none=>cases u <;> rfl
   | some v =>
    cases u with
    | ptr b o =>
     simp only [Option.map_some,ren,A4g hG hp]
     cases V0 H b with
     | none=>rfl
     | some cs =>
      simp only [Option.map_some,A2n,W5,C25 hc,A35]
      split
      ·simp only [Option.map_some,ren2,ren,renL,← O8 hG hp,J9]
      ·rfl
    | eptr b n i o =>
     simp only [Option.map_some,ren,A2n,B2u hG v.cellsOf hp]
     cases e:X0 H v.cellsOf with
     | none=>rfl
     | some r =>
      have hp':p≤r.2.length:= by rw [A7b e]; exact hp
      simp only [Option.map_some,A5b hG hp']
      cases A00 r.2 b with
      | none=>rfl
      | some y =>
       obtain ⟨kk,q,rows⟩:=y
       cases q with
       | true=>rfl
       | false =>
        simp only [Option.map_some,B81]
        cases rows[i]? with
        | none=>rfl
        | some rr =>
         simp only [Option.map_some,N1,W5,A8y]
         split
         ·simp only [Option.map_some,ren2,ren,renL,← O8 hG hp',J9,C55,A35]
         ·rfl
    | _=>rfl
 | nilck x =>
  simp only [J3,prim,I7]
  cases ev s x with
  | none=>rfl
  | some v=>cases v with
   | fn f a b=>cases f <;> simp only [Option.map_some,ren,B3s] <;> first | rfl | simp only [Option.map_some,ren2,ren,B3s]
   | _=>simp only [Option.map_some,ren] <;> first | rfl | simp only [Option.map_some,ren2,ren]
 | bin op x y =>
  simp only [J3,prim,I7]
  cases ev s x with
  | none=>rfl
  | some u =>
   cases ev s y with
   | none=>rfl
   | some v=>simp only [Option.map_some,D2l]; cases A6p op u v <;> rfl
 | beq n x y =>
  simp only [J3,prim,I7]
  cases ev s x with
  | none=>rfl
  | some u =>
   cases ev s y with
   | none=>cases u with
    | lit u=>cases u <;> rfl
    | _=>rfl
   | some v=>cases u with
    | lit u=>cases u with
     | bool a=>cases v with
      | lit v=>cases v <;> simp only [Option.map_some,ren] <;> first | rfl | simp only [Option.map_some,ren2,ren]
      | _=>rfl
     | _=>rfl
    | _=>rfl
 | cmp n ks x y =>
  simp only [J3,prim,I7]
  cases ev s x with
  | none=>rfl
  | some u =>
   cases ev s y with
   | none=>cases u <;> rfl
   | some v=>cases u with
    | agg a=>cases v with
     | agg b =>
      simp only [Option.map_some,ren,A5d,B1h]
      split
      ·cases F4 a b with
       | none=>rfl
       | some t=>simp only [Option.map_some,ren2,ren]
      ·rfl
     | _=>rfl
    | _=>rfl
 | un op x =>
  simp only [J3,prim,I7]
  cases ev s x with
  | none=>rfl
  | some u=>simp only [Option.map_some,D67]; cases unV op u <;> rfl
 | conv k x =>
  simp only [J3,prim,I7]
  cases ev s x with
  | none=>rfl
  | some u=>cases u with
   | lit u=>cases u <;> simp only [Option.map_some,ren] <;> first | rfl | simp only [Option.map_some,ren2,ren]
   | _=>rfl
 | idc x =>
  simp only [J3,prim,I7]
  cases ev s x with
  | none=>rfl
  | some u=>cases u with
   | lit u=>cases u <;> simp only [Option.map_some,ren] <;> first | rfl | simp only [Option.map_some,ren2,ren]
   | _=>rfl
 | mkfn f a b =>
  simp only [J3,prim,B6m]
  cases evs s a with
  | none=>rfl
  | some u=>cases evs s b with
   | none=>rfl
   | some v=>simp only [Option.map_some,ren2,ren]
 | mkmap r=>simp only [J3,prim,Option.map_some,ren2,ren,rbn hn,← W4 hG hp hn,J9,List.map_nil]
 | mkslice k bytes z x y r =>
  simp only [J3,prim,I7]
  cases ev s x with
  | none=>rfl
  | some u =>
   cases ev s y with
   | none=>cases u with
    | lit u=>cases u with
     | int k1 a=>cases k1 <;> rfl
     | _=>rfl
    | _=>rfl
   | some v=>cases u with
    | lit u=>cases u with
     | int k1 a=>cases v with
      | lit v=>cases v with
       | int k2 b =>
        cases k1 <;> cases k2 <;> simp only [Option.map_some,ren] <;> first | rfl | skip
        split
        ·simp only [Option.map_some,ren2,ren,rbn hn,← W4 hG hp hn,J9,B82]
        ·rfl
       | _=>cases k1 <;> rfl
      | _=>cases k1 <;> rfl
     | _=>rfl
    | _=>rfl
 | sliceS x lo hi =>
  simp only [J3,prim,I7,B2f]
  cases ev s x with
  | none=>rfl
  | some u=>cases u with
   | lit u=>cases u with
    | string b =>
     simp only [Option.map_some,ren]
     cases bnd s 0 lo with
     | none=>rfl
     | some l=>cases bnd s b.size hi with
      | none=>rfl
      | some h=>simp only; split <;> first | rfl | simp only [Option.map_some,ren2,ren]
    | _=>rfl
   | _=>rfl
 | mvz x =>
  simp only [J3,prim,I7]
  cases ev s x with
  | none=>rfl
  | some u=>simp only [Option.map_some,B2t hG hp]
 | sliceL kk x lo hi =>
  simp only [J3,prim,I7,B2f]
  cases ev s x with
  | none=>rfl
  | some u =>
   simp only [Option.map_some,B2t hG hp]
   cases T4 H u with
   | none=>rfl
   | some r =>
    obtain ⟨w,H1⟩:=r
    cases w with
    | seq k rows =>
     simp only [Option.map_some,ren2,ren,N1]
     cases bnd s 0 lo with
     | none=>rfl
     | some l=>cases bnd s rows.length hi with
      | none=>rfl
      | some h=>simp only; split <;> first | rfl | simp only [Option.map_some,ren2,ren,A7r,B4z]
    | _=>simp only [Option.map_some,ren2,ren] <;> rfl
 | sliceQ kk x lo hi =>
  simp only [J3,prim,I7,B2f]
  cases ev s x with
  | none=>rfl
  | some u =>
   simp only [Option.map_some,Option.bind_some,D1p hG hp]
   cases A53 H u with
   | none=>rfl
   | some r =>
    obtain ⟨k,rows⟩:=r
    simp only [Option.map_some,N1]
    cases bnd s 0 lo with
    | none=>rfl
    | some l=>cases bnd s rows.length hi with
     | none=>rfl
     | some h=>simp only; split <;> first | rfl | simp only [Option.map_some,ren2,ren,A7r,B4z]
 | nilq q x =>
  simp only [J3,prim,I7]
  cases ev s x with
  | none=>rfl
  | some u=>cases u with
   | seq k rows=>cases rows <;> simp [ren,ren2,renR]
   | _=>simp [ren,ren2]
 | sliceA k n x hi =>
  simp only [J3,prim,I7]
  cases ev s x with
  | none=>rfl
  | some u=>cases u with
   | ptr b o =>
    simp only [Option.map_some,ren,A77 hG hp,B2f]
    cases hcells H b with
    | none=>rfl
    | some cs=>cases bnd s n hi with
     | none=>rfl
     | some h=>simp only [Option.map_some,W5]; split <;> first | rfl | simp only [Option.map_some,ren2,ren]
   | _=>rfl
 | fieldAddr off x =>
  simp only [J3,prim,I7]
  cases ev s x with
  | none=>rfl
  | some u=>cases u <;> simp only [Option.map_some,ren] <;> first | rfl | simp only [Option.map_some,ren2,ren,B0s]
 | field k off x =>
  simp only [J3,prim,I7]
  cases ev s x with
  | none=>rfl
  | some u=>cases u with
   | agg cs=>cases k with
    | none=>simp only [Option.map_some,ren,B3t]; cases cs[off]? <;> rfl
    | some k=>simp only [Option.map_some,ren,W5]; split <;> first | rfl | simp only [Option.map_some,ren2,ren,B0s,B4y]
   | _=>rfl
 | idxS k x i =>
  simp only [J3,prim,I7]
  cases ev s x with
  | none=>rfl
  | some u =>
   cases ev s i with
   | none=>cases u <;> rfl
   | some v=>cases v with
    | lit v=>cases v with
     | int k1 n=>cases u with
      | seq k' rows =>
       simp only [Option.map_some,ren,B81]
       split
       ·cases rows[n.toNat]? with
        | none=>rfl
        | some r=>simp only [Option.map_some,ren2,ren]
       ·rfl
      | xseq k' rows =>
       simp only [Option.map_some,ren,B81]
       split
       ·cases rows[n.toNat]? with
        | none=>rfl
        | some r=>simp only [Option.map_some,ren2,ren]
       ·rfl
      | asl b m =>
       simp only [Option.map_some,ren,A4f hG hp]
       cases harr H b with
       | none=>rfl
       | some y =>
        simp only [Option.map_some,N1]
        split
        ·simp only [Option.map_some,ren2,ren]
        ·rfl
      | _=>rfl
     | _=>cases u <;> rfl
    | _=>cases u <;> rfl
 | idxA k n x i =>
  simp only [J3,prim,I7]
  cases ev s x with
  | none=>rfl
  | some u =>
   cases ev s i with
   | none=>cases u <;> rfl
   | some v=>cases v with
    | lit v=>cases v with
     | int k1 m=>cases u <;> simp only [Option.map_some,ren] <;> first | rfl | (split <;> first | rfl | simp only [Option.map_some,ren2,ren,B0s])
     | _=>cases u <;> rfl
    | _=>cases u <;> rfl
 | idxStr x i =>
  simp only [J3,prim,I7]
  cases ev s x with
  | none=>rfl
  | some u =>
   cases ev s i with
   | none=>cases u with
    | lit u=>cases u <;> rfl
    | _=>rfl
   | some v=>cases u with
    | lit u=>cases u with
     | string b=>cases v with
      | lit v=>cases v with
       | int k1 m =>
        simp only [Option.map_some,ren]
        split
        ·cases b[m.toNat]? <;> simp [ren2,ren]
        ·rfl
       | _=>rfl
      | _=>rfl
     | _=>rfl
    | _=>rfl
 | idxAgg k sz n x i =>
  simp only [J3,prim,I7]
  cases ev s x with
  | none=>rfl
  | some u =>
   cases ev s i with
   | none=>cases u <;> rfl
   | some v=>cases v with
    | lit v=>cases v with
     | int k1 m=>cases u with
      | agg cs =>
       simp only [Option.map_some,ren]
       split
       ·cases k with
        | none=>simp only [B3t]; cases cs[m.toNat * sz]? <;> rfl
        | some k=>simp only [W5]; split <;> first | rfl | simp only [Option.map_some,ren2,ren,B0s,B4y]
       ·rfl
      | _=>rfl
     | _=>cases u <;> rfl
    | _=>cases u <;> rfl
 | lookup z ag ks x i ok =>
  simp only [J3,prim,I7]
  cases ev s x with
  | none=>rfl
  | some u =>
   cases ev s i with
   | none=>rfl
   | some key =>
    cases u with
    | mp b =>
     simp only [Option.map_some,ren,C40 hG hp,Z5]
     cases hmap H b with
     | none=>cases H6 ag key <;> rfl
     | some es =>
      cases H6 ag key with
      | none=>rfl
      | some cs =>
       simp only [Option.map_some,A5d,A88]
       split
       ·cases findKey ag ks cs es 0 with
        | none=>rfl
        | some q=>cases q with
         | none=>cases ok <;> simp [ren2,ren,renL]
         | some q=>cases ok <;> simp [ren2,ren,renL]
       ·rfl
    | lit u=>cases u with
     | map m=>cases m with
      | none =>
       simp only [Option.map_some,ren,Z5]
       cases H6 ag key with
       | none=>rfl
       | some cs =>
        simp only [Option.map_some,A5d]
        split
        ·cases ok <;> simp [findKey,ren2,ren,renL]
        ·rfl
      | some m=>simp only [Option.map_some,ren,Z5]; cases H6 ag key <;> rfl
     | _=>simp only [Option.map_some,ren,Z5]; cases H6 ag key <;> rfl
    | _=>simp only [Option.map_some,ren,Z5]; cases H6 ag key <;> rfl
 | mupd ag ks m x v =>
  simp only [J3,prim,I7]
  cases ev s m with
  | none=>rfl
  | some u =>
   cases ev s x with
   | none=>cases u <;> rfl
   | some key =>
    cases ev s v with
    | none=>cases u <;> rfl
    | some w=>cases u with
     | mp b =>
      simp only [Option.map_some,ren,D0t hG hp,Z5]
      cases A9c H b with
      | none=>rfl
      | some es=>cases H6 ag key with
       | none=>rfl
       | some cs =>
        have he:(renL p g w.cellsOf).isEmpty = w.cellsOf.isEmpty:= by rw [O3]; cases w.cellsOf <;> rfl
        simp only [Option.map_some,A5d,A2n,A8y,he,A88]
        split
        ·cases findKey ag ks cs es 0 with
         | none=>rfl
         | some q=>cases q with
          | none=>simp only [Option.map_some,Option.map_none,ren2,ren,renL,← O8 hG hp,J9,List.map_append,List.map_cons,List.map_nil]
          | some q=>simp only [Option.map_some,ren2,ren,renL,← O8 hG hp,J9,List.map_set]
        ·rfl
     | _=>rfl
 | range x r =>
  simp only [J3,prim,I7]
  cases ev s x with
  | none=>rfl
  | some u=>cases u with
   | lit u=>cases u <;> simp only [Option.map_some,ren] <;> first | rfl | simp only [Option.map_some,ren2,ren,rbn hn,← W4 hG hp hn,J9]
   | _=>rfl
 | next x =>
  simp only [J3,prim,I7]
  cases ev s x with
  | none=>rfl
  | some u=>cases u with
   | itr b =>
    simp only [Option.map_some,ren,W3 hG hp]
    cases hget H b with
    | none=>rfl
    | some o=>cases o with
     | iter t q =>
      simp only [Option.map_some,J9]
      split
      ·simp only [Option.map_some,ren2,ren,renL,← O8 hG hp,J9]
      ·simp only [Option.map_some,ren2,ren,renL]
     | _=>rfl
   | _=>rfl
 | extract x i =>
  simp only [J3,prim,I7]
  cases ev s x with
  | none=>rfl
  | some u=>cases u with
   | tup cs=>simp only [Option.map_some,ren,B3t]; cases cs[i]? <;> rfl
   | _=>rfl
 | lenS x =>
  simp only [J3,prim,I7]
  cases ev s x with
  | none=>rfl
  | some u=>cases u with
   | lit u=>cases u <;> simp only [Option.map_some,ren] <;> first | rfl | simp only [Option.map_some,ren2,ren]
   | _=>rfl
 | lenM x =>
  simp only [J3,prim,I7]
  cases ev s x with
  | none=>rfl
  | some u=>cases u with
   | mp b =>
    simp only [Option.map_some,ren,C40 hG hp]
    cases hmap H b <;> simp [ren2,ren]
   | lit u=>cases u with
    | map m=>cases m <;> simp [ren,ren2]
    | _=>rfl
   | _=>rfl
 | lenL x =>
  simp only [J3,prim,I7]
  cases ev s x with
  | none=>rfl
  | some u=>cases u with
   | asl b n =>
    simp only [Option.map_some,ren,A4f hG hp]
    cases harr H b with
    | none =>
     simp only [Option.map_none,B24 hG hp]
     cases hstk H b with
     | none=>rfl
     | some y=>simp only [Option.map_some,N1]; split <;> simp [ren2,ren]
    | some y=>simp only [Option.map_some,N1]; split <;> simp [ren2,ren]
   | _=>simp [ren,ren2,N1]
 | mm mx xs =>
  simp only [J3,prim,B6m]
  cases evs s xs with
  | none=>rfl
  | some l=>cases l with
   | nil=>simp [renL]
   | cons x l=>simp only [Option.map_some,renL,C9l]; cases mmV mx x l <;> rfl
 | append k bytes d x r fz =>
  simp only [J3,prim,I7]
  cases ev s d with
  | none=>rfl
  | some u =>
   cases ev s x with
   | none=>rfl
   | some v =>
    simp only [Option.map_some,B1y hG hp,C20 hG hp]
    cases Y7 H v with
    | none=>rfl
    | some new=>cases kOf H v with
     | none=>rfl
     | some k' =>
      simp only [Option.map_some,B2x]
      split
      ·cases u with
       | nils kk =>
        simp only [ren,N1]
        split
        ·cases fz with
         | true=>cases r with
          | none=>simp only [Option.map_some,ren2,ren]
          | some r =>
           simp only [B7a]
           split
           ·simp only [Option.map_some,ren2,ren,rbn hn,← W4 hG hp hn,J9,List.map_nil]
           ·rfl
         | false=>cases r with
          | none=>rfl
          | some r=>simp only [Option.map_some,ren2,ren,rbn hn,← W4 hG hp hn,J9]
        ·rfl
       | asl b n =>
        simp only [ren,A5b hG hp]
        cases A00 H b with
        | none =>
         simp only [Option.map_none]
         cases fz with
         | false=>rfl
         | true=>cases r with
          | none=>rfl
          | some r =>
           simp only [D0x hG hp]
           cases B23 H b with
           | none=>rfl
           | some y =>
            have e1:Nat.blt (rb p g b) (n0 + g + r) = Nat.blt b (n0 + r):=ScB.lt (.inr (.inl ⟨by omega,by omega⟩)) b
            simp only [Option.map_some,N1,B7a,e1,D27 hG hS hp]
            split
            ·simp only [Option.map_some,ren2,ren,rbn hn,← W4 hG hp hn,J9,B3u,List.map_cons]
            ·rfl
        | some y =>
         simp only [Option.map_some,N1]
         split
         ·cases fz with
          | true=>cases r with
           | none=>simp only [Option.map_some,ren2,ren,B3u,← O8 hG hp,J9]
           | some r=>rfl
          | false=>cases r <;> simp only [Option.map_some,ren2,ren,B3u,← O8 hG hp,J9]
         ·rfl
       | _=>rfl
      ·rfl
 | copy k d x =>
  simp only [J3,prim,I7]
  cases ev s d with
  | none=>rfl
  | some u =>
   cases ev s x with
   | none=>cases u <;> rfl
   | some v=>cases u with
    | asl b n =>
     simp only [Option.map_some,ren,A5b hG hp,B1y hG hp,C20 hG hp]
     cases A00 H b with
     | none=>rfl
     | some y =>
      obtain ⟨kk,q,rows⟩:=y
      cases q with
      | true=>cases Y7 H v <;> cases kOf H v <;> rfl
      | false=>cases Y7 H v with
       | none=>cases kOf H v <;> rfl
       | some src=>cases kOf H v with
        | none=>rfl
        | some k' =>
         simp only [Option.map_some,N1,B2x]
         split
         ·simp only [Option.map_some,ren2,ren,← O8 hG hp,J9,B3u,A7r,B4z]
         ·rfl
    | csl b o kk n =>
     simp only [Option.map_some,ren,A4g hG hp,B1y hG hp,C20 hG hp]
     cases V0 H b with
     | none=>rfl
     | some cs =>
      cases Y7 H v with
      | none=>cases kOf H v <;> rfl
      | some src=>cases kOf H v with
       | none=>rfl
       | some k' =>
        simp only [Option.map_some,N1,W5,B2x]
        split
        ·simp only [Option.map_some,ren2,ren,← O8 hG hp,J9,← A35,C12,A7r]
        ·rfl
    | _=>rfl
 | cut k x hi r =>
  simp only [J3,prim,I7]
  cases ev s x with
  | none=>rfl
  | some u=>cases u with
   | asl b n =>
    simp only [Option.map_some,ren,A5b hG hp,B2f]
    cases A00 H b with
    | none=>rfl
    | some y =>
     obtain ⟨kk,q,rows⟩:=y
     cases q with
     | true=>rfl
     | false=>cases bnd s n hi with
      | none=>rfl
      | some h =>
       simp only [Option.map_some,N1]
       split
       ·have e1:hset (F1 p g G H) (rb p g b) .dead = F1 p g G (hset H b .dead):= by rw [← O8 hG hp]; simp only [J9]
        simp only [Option.map_some,ren2,ren,rbn hn,e1]
        rw [← W4 hG (by rw [I3]; exact hp) hn]; simp only [J9,A7r]
       ·rfl
   | _=>rfl
end
section
variable {p g:Nat} {G:A1} (hG:G.length = g)
include hG
theorem T5 {B B':Nat} (hB:ScB p g B B') {H:A1} (hp:p≤H.length) (v:AV):A0v B' (F1 p g G H) (ren p g v) = (A0v B H v).map (ren2 p g G):= by
 cases v with
 | asl b n =>
  have hf:=C2t hG hp (.asl b n)
  simp only [ren] at hf
  simp only [ren,A0v,A5b hG hp,hB.le]
  cases A00 H b with
  | none=>exact hf
  | some y =>
   obtain ⟨k,q,rows⟩:=y
   cases q with
   | true=>exact hf
   | false =>
    simp only [Option.map_some,N1]
    split
    ·split
     ·simp only [Option.map_some,ren2,ren,← O8 hG hp,J9]
     ·rfl
    ·exact hf
 | nils k=>simp [ren,A0v,ren2,renR]
 | _=>simp [ren,A0v,ren2]
omit hG
include hG
theorem C1w {B B':Nat} (hB:ScB p g B B'):∀(l:List AV) {H:A1} (hp:p≤H.length),U9 B' (F1 p g G H) (renL p g l) = (U9 B H l).map fun r=>(renL p g r.1,F1 p g G r.2)
 | [],H,hp=>by simp [U9,renL]
 | v :: l,H,hp=>by
  simp only [renL,U9,T5 hG hB hp]
  cases e:A0v B H v with
  | none=>rfl
  | some r =>
   simp only [Option.map_some,ren2]
   rw [C1w hB l (by rw [B8p e]; exact hp)]
   cases U9 B r.2 l with
   | none=>rfl
   | some q=>simp [renL]
theorem D4g {B B':Nat} (hB:ScB p g B B') {H:A1} (hp:p≤H.length) (v:AV):V4 B' (F1 p g G H) (ren p g v) = (V4 B H v).map (ren2 p g G):= by
 cases v with
 | agg cs =>
  simp only [ren,V4,C1w hG hB cs hp]
  cases U9 B H cs <;> simp [ren2,ren]
 | nils k=>have:=T5 hG hB hp (.nils k); simpa [ren,V4] using this
 | lit u=>have:=T5 hG hB hp (.lit u); simpa [ren,V4] using this
 | seq k rows=>have:=T5 hG hB hp (.seq k rows); simpa [ren,V4] using this
 | xseq k rows=>have:=T5 hG hB hp (.xseq k rows); simpa [ren,V4] using this
 | ptr b o=>have:=T5 hG hB hp (.ptr b o); simpa [ren,V4] using this
 | itr b=>have:=T5 hG hB hp (.itr b); simpa [ren,V4] using this
 | eptr b n i o=>have:=T5 hG hB hp (.eptr b n i o); simpa [ren,V4] using this
 | cptr cs=>have:=T5 hG hB hp (.cptr cs); simpa [ren,V4] using this
 | asl b n=>have:=T5 hG hB hp (.asl b n); simpa [ren,V4] using this
 | csl b o k n=>have:=T5 hG hB hp (.csl b o k n); simpa [ren,V4] using this
 | mp b=>have:=T5 hG hB hp (.mp b); simpa [ren,V4] using this
 | fn f a c=>have:=T5 hG hB hp (.fn f a c); simpa [ren,V4] using this
 | tup cs=>have:=T5 hG hB hp (.tup cs); simpa [ren,V4] using this
 | fresh k rows=>have:=T5 hG hB hp (.fresh k rows); simpa [ren,V4] using this
 | undef=>have:=T5 hG hB hp .undef; simpa [ren,V4] using this
theorem C1x {B B':Nat} (hB:ScB p g B B'):∀(l:List AV) {H:A1} (hp:p≤H.length),Q7 B' (F1 p g G H) (renL p g l) = (Q7 B H l).map fun r=>(renL p g r.1,F1 p g G r.2)
 | [],H,hp=>by simp [Q7,renL]
 | v :: l,H,hp=>by
  simp only [renL,Q7,D4g hG hB hp]
  cases e:V4 B H v with
  | none=>rfl
  | some r =>
   simp only [Option.map_some,ren2]
   rw [C1x hB l (by rw [C5t e]; exact hp)]
   cases Q7 B r.2 l with
   | none=>rfl
   | some q=>simp [renL]
theorem C9a {n0:Nat} (hn:p≤n0) {H:A1} (hp:p≤H.length) (own:List (Nat × Nat)) (j:Nat) (v:AV):inC (n0 + g) (F1 p g G H) own j (ren p g v) = ren2 p g G (inC n0 H own j v):= by
 cases v with
 | fresh k rows =>
  simp only [ren,inC]
  cases X9 j own with
  | none=>simp only [ren2,ren]
  | some r=>simp only [ren2,ren,rbn hn,N1,← W4 hG hp hn,J9]
 | _=>simp [ren,inC,ren2]
omit hG
include hG
theorem C43 {n0:Nat} (hn:p≤n0) (own:List (Nat × Nat)):∀(l:List AV) (j:Nat) {H:A1} (hp:p≤H.length),A29 (n0 + g) (F1 p g G H) own j (renL p g l) = (renL p g (A29 n0 H own j l).1,F1 p g G (A29 n0 H own j l).2)
 | [],j,H,hp=>by simp [A29,renL]
 | v :: l,j,H,hp=>by
  simp only [renL,A29,C9a hG hn hp,ren2]
  rw [C43 hn own l (j + 1) (by rw [C2w]; exact hp)]
theorem D50 {n0:Nat} (hn:p≤n0) {H:A1} (hp:p≤H.length) (own:List (Nat × Nat)) (v:AV):inV (n0 + g) (F1 p g G H) own (ren p g v) = ren2 p g G (inV n0 H own v):= by
 cases v with
 | agg cs=>simp only [ren,inV,C43 hG hn own cs 0 hp,ren2]
 | fresh k rows=>have:=C9a hG hn hp own 0 (.fresh k rows); simpa [ren,inV] using this
 | _=>simp [ren,inV,inC,ren2]
theorem B72 {n0:Nat} (hn:p≤n0):∀(l:List AV) (own:List (List (Nat × Nat))) {H:A1} (hp:p≤H.length),X1 (n0 + g) (F1 p g G H) (renL p g l) own = (renL p g (X1 n0 H l own).1,F1 p g G (X1 n0 H l own).2)
 | [],own,H,hp=>by simp [X1,renL]
 | v :: l,own,H,hp=>by
  simp only [renL,X1,D50 hG hn hp,ren2]
  rw [B72 hn l own.tail (by rw [C9e]; exact hp)]
omit hG
theorem B8r (l:List AV):packed (renL p g l) = ren p g (packed l):= by
 cases l with
 | nil=>simp [renL,packed,ren]
 | cons v l=>cases l <;> simp [renL,packed,ren]
theorem C44 {H:A1} (hp:p≤H.length) {B:Nat} (hB:p≤B) (hG:G.length = g):(F1 p g G H).take (B + g) = F1 p g G (H.take B):= by
 unfold F1
 have hl:((H.take p).map (J9 p g)).length = p:= by simp; omega
 rw [List.take_append,hl,List.take_of_length_le (by rw [hl]; omega),List.take_append,hG,List.take_of_length_le (l:=G) (by omega),List.take_take,Nat.min_eq_left hB]
 congr 2
 rw [← List.map_take,List.drop_take]
 congr 2; omega
theorem B44 {B B':Nat} (hB:p≤B) (hB':B' = B + g) {H:A1} (hp:p≤H.length) (hG:G.length = g) (rs:List AV):trunc B' (renL p g rs) (F1 p g G H) = F1 p g G (trunc B rs H):= by
 subst hB'
 unfold trunc
 rw [bdL_ren (.inr (.inl ⟨hB,rfl⟩))]
 split
 ·exact C44 hp hB hG
 ·rfl
theorem B43 {B:Nat} (hB:p≤B) {H:A1} (hp:p≤H.length) (rs:List AV):p≤(trunc B rs H).length:= by
 unfold trunc; split
 ·rw [List.length_take]; omega
 ·exact hp
include hG
theorem B7z {H:A1} (hp:p≤H.length):∀l:List Nat,hide (F1 p g G H) (l.map (rb p g)) = F1 p g G (hide H l)∧(hide H l).length = H.length
 | []=>⟨rfl,rfl⟩
 | b :: l=>by
  obtain ⟨h1,h2⟩:=B7z hp l
  constructor
  ·simp only [List.map_cons,hide,h1]
   rw [← O8 hG (by rw [h2]; exact hp)]; simp only [J9]
  ·simp only [hide,I3,h2]
theorem B9o {H0 H:A1} (hp0:p≤H0.length) (hp:p≤H.length):∀l:List Nat,unhide (F1 p g G H0) (F1 p g G H) (l.map (rb p g)) = F1 p g G (unhide H0 H l)∧(unhide H0 H l).length = H.length
 | []=>⟨rfl,rfl⟩
 | b :: l=>by
  obtain ⟨h1,h2⟩:=B9o hp0 hp l
  simp only [List.map_cons,unhide,W3 hG hp0,h1]
  cases hget H0 b with
  | none=>exact ⟨rfl,h2⟩
  | some o =>
   simp only [Option.map_some]
   exact ⟨O8 hG (by rw [h2]; exact hp) b o,by rw [I3,h2]⟩
omit hG
theorem C2i (v:AV):(ren p g v).box? = v.box?.map (rb p g):= by cases v <;> simp [ren,AV.box?]
include hG
theorem B7v {H:A1} (hp:p≤H.length):∀(l:List Nat) (b:Nat),follow (F1 p g G H) (rb p g b) l = (follow H b l).map (rb p g)
 | [],b=>rfl
 | o :: l,b=>by
  simp only [follow,A77 hG hp]
  cases hcells H b with
  | none=>rfl
  | some cs =>
   simp only [Option.map_some,B3t]
   cases h:cs[o]? with
   | none=>rfl
   | some v =>
    simp only [Option.map_some,Option.bind_some,C2i]
    cases v.box? with
    | none=>rfl
    | some b'=>exact B7v hp l b'
theorem C6j (s:B3) {H:A1} (hp:p≤H.length):∀l:List (Nat × List Nat),ways (Q4 p g s) (F1 p g G H) l = (ways s H l).map (List.map (rb p g))
 | []=>rfl
 | x :: l=>by
  simp only [ways,A7u]
  cases sget s x.1 with
  | none=>rfl
  | some v =>
   simp only [Option.map_some,Option.bind_some,C2i]
   cases v.box? with
   | none=>rfl
   | some b =>
    simp only [Option.map_some,B7v hG hp,C6j s hp l]
    cases follow H b x.2 with
    | none=>rfl
    | some b'=>cases ways s H l <;> rfl
omit hG
theorem B9s (op:AOp):writes (J3 p g op) = writes op:= by cases op <;> rfl
theorem D6b {n0:Nat} (hn:p≤n0) (l:List Nat):l.map (n0 + g + ·) = (l.map (n0 + ·)).map (rb p g):= by
 rw [List.map_map]; congr 1; funext r; simp only [Function.comp_def]; exact (rbn hn r).symm
theorem C3y {B B':Nat} (h:ScB p g B B') (l:List Nat):((l.map (rb p g)).all fun b=>Nat.blt b B') = l.all fun b=>Nat.blt b B:= by
 rw [List.all_map]; congr 1; funext b; exact h.lt b
include hG
theorem D3b {n0:Nat} (hn:p≤n0) (s:B3) {H:A1} (hp:p≤H.length) (o:AOper):A28 (n0 + g) (Q4 p g s) (F1 p g G H) (A0b p g o) = (A28 n0 s H o).map (List.map (rb p g)):= by
 unfold A28
 simp only [A0b,D6b hn]
 obtain ⟨h1,h2⟩:=B7z hG hp (o.hid.map (n0 + ·))
 rw [h1,C6j hG s (by rw [h2]; exact hp)]
 cases ways s (hide H (o.hid.map (n0 + ·))) o.hida with
 | none=>rfl
 | some bs =>
  have e2:((bs.map (rb p g)).all fun b=>(hstk (F1 p g G (hide H (o.hid.map (n0 + ·)))) b).isNone) = bs.all fun b=>(hstk (hide H (o.hid.map (n0 + ·))) b).isNone:= by
   rw [List.all_map]; congr 1; funext b
   simp only [Function.comp_def,B24 hG (show p≤(hide H (o.hid.map (n0 + ·))).length by rw [h2]; exact hp)]
   cases hstk (hide H (o.hid.map (n0 + ·))) b <;> rfl
  simp only [Option.map_some,B9s,← List.map_append,e2]
  rw [C3y (.inr (.inl ⟨hp,A3a hG hp⟩))]
  split <;> rfl
omit hG
theorem C6y (op:AOp):O5 (J3 p g op) = (O5 op).map (E5 p g):= by cases op <;> rfl
theorem D4u (s:B3) (op:AOp):rbox (Q4 p g s) (J3 p g op) = (rbox s op).map (rb p g):= by
 unfold rbox; rw [C6y]
 cases O5 op with
 | none=>rfl
 | some x =>
  simp only [Option.map_some,Option.bind_some,I7]
  cases ev s x with
  | none=>rfl
  | some v=>exact C2i v
abbrev hcR (p g:Nat) (hc:List (Option (List Nat))):List (Option (List Nat)):=hc.map (Option.map (List.map (rb p g)))
theorem C78 (s:B3) (o:AOper) (hc:List (Option (List Nat))):O6 (Q4 p g s) (A0b p g o) (hcR p g hc) = O6 s o hc:= by
 unfold O6
 simp only [A0b,D4u]
 cases rbox s o.op with
 | none=>rfl
 | some b =>
  simp only [Option.map_some,hcR,← List.map_take,List.all_map]
  congr 1; funext e
  cases e with
  | none=>rfl
  | some hs=>simp only [Function.comp_def,Option.map_some,A71]
theorem C8h (s:B3) (x:Option (Nat × Bool)):wanted (Q4 p g s) x = wanted s x:= by
 cases x with
 | none=>rfl
 | some x =>
  simp only [wanted,A7u]
  cases sget s x.1 with
  | none=>rfl
  | some v=>cases v with
   | lit u=>cases u <;> simp [ren]
   | tup cs=>cases cs <;> simp [ren,renL]
   | _=>simp [ren]
theorem B9g (s:B3) (d:Option Nat) (v:AV):sput (Q4 p g s) d (ren p g v) = Q4 p g (sput s d v):= by cases d <;> rfl
include hG
theorem C4s {H:A1} (hp:p≤H.length) (v:AV):W1 (F1 p g G H) (ren p g v) = (W1 H v).map (F1 p g G):= by
 have other:(T4 (F1 p g G H) (ren p g v)).map (·.2) = ((T4 H v).map (·.2)).map (F1 p g G):= by
  rw [B2t hG hp]
  cases T4 H v <;> rfl
 cases v with
 | ptr b off =>
  simp only [ren,W1,A4g hG hp]
  cases V0 H b with
  | none=>rfl
  | some cs =>
   simp only [Option.map_some,B2u hG cs hp]
   cases e:X0 H cs with
   | none=>rfl
   | some r =>
    have hp':p≤r.2.length:= by rw [A7b e]; exact hp
    simp only [Option.map_some,A4g hG hp']
    cases V0 r.2 b with
    | none=>rfl
    | some cs1=>simp only [Option.map_some,← O8 hG hp',J9]
 | _=>first | exact other | (simp only [ren] at other; simp only [ren,W1]; exact other)
theorem B5y (s:B3):∀(l:List Nat) {H:A1} (hp:p≤H.length),publish (Q4 p g s) (F1 p g G H) l = (publish s H l).map (F1 p g G)∧∀ H',publish s H l = some H'→H'.length = H.length
 | [],H,hp=>⟨rfl,fun H' h=>by simp only [publish,Option.some.injEq] at h; subst h; rfl⟩
 | t :: l,H,hp=>by
  simp only [publish,A7u]
  cases sget s t with
  | none=>exact ⟨rfl,fun H' h=>by cases h⟩
  | some v =>
   simp only [Option.map_some,C4s hG hp]
   cases e:W1 H v with
   | none=>exact ⟨rfl,fun H' h=>by cases h⟩
   | some r =>
    have hl:=B5h e
    obtain ⟨h1,h2⟩:=B5y s l (H:=r) (by rw [hl]; exact hp)
    exact ⟨h1,fun H' h=>by rw [h2 H' h,hl]⟩
theorem B8u {H:A1} (hp:p≤H.length) (v:AV):pubbed (F1 p g G H) (ren p g v) = pubbed H v:= by
 cases v with
 | asl b n=>simp only [ren,pubbed,A4f hG hp]; cases harr H b <;> rfl
 | _=>simp [ren,pubbed]
theorem C50 {H:A1} (hp:p≤H.length) (v:AV):Q6 (F1 p g G H) (ren p g v) = Q6 H v:= by
 cases v with
 | agg cs =>
  simp only [ren,Q6,O3,List.all_map]
  congr 1; funext x; exact B8u hG hp x
 | asl b n=>have:=B8u hG hp (.asl b n); simpa [ren,Q6] using this
 | _=>simp [ren,Q6,pubbed]
omit hG
theorem C6f (o:AO):(J9 p g o).toRo = J9 p g o.toRo:= by
 cases o <;> simp [J9,AO.toRo]
theorem D79 (H:A1):(F1 p g G H).map AO.toRo = F1 p g (G.map AO.toRo) (H.map AO.toRo):= by
 unfold F1
 simp only [List.map_append,List.map_map,List.map_take,List.map_drop]
 congr 2
 ·congr 1; funext o; exact C6f o
 ·congr 2; funext o; exact C6f o
theorem D74 (hS:GrO p G):GrO p (G.map AO.toRo):= by
 intro o ho b hb
 obtain ⟨x,hx,rfl⟩:=List.mem_map.1 ho
 have:=hS x hx b hb
 cases x with
 | ro o=>cases o <;> exact this
 | _=>first | rfl | exact this
theorem C05 (hG:G.length = g) {H:A1} (hp:p≤H.length) (own:List (List (Nat × Nat))) (l:List AV):A0t own (F1 p g G H) (renL p g l) = (A0t own H l).map fun r=>(renL p g r.1,F1 p g G r.2):= by
 unfold A0t
 split
 ·rfl
 ·exact C08 hG l hp
theorem A6k (hG:G.length = g) (hS:GrO p G) (s:B3) {H:A1} (hp:p≤H.length):∀l:List ARes,results (Q4 p g s) (F1 p g G H) l = (results s H l).map (renL p g)
 | []=>by simp [results,renL]
 | .tmp t :: l=>by
  simp only [results,A7u,A6k hG hS s hp l]
  cases sget s t with
  | none=>rfl
  | some v=>cases results s H l <;> simp [renL]
 | .cell t k :: l=>by
  simp only [results,A6k hG hS s hp l]
  have h1:prim ⟨0,[]⟩ 0 (Q4 p g s) (F1 p g G H) (.load k (.t t)) = prim ⟨0,[]⟩ (p + g) (Q4 p g s) (F1 p g G H) (.load k (.t t)):= by cases k <;> rfl
  have h2:prim ⟨0,[]⟩ 0 s H (.load k (.t t)) = prim ⟨0,[]⟩ p s H (.load k (.t t)):= by cases k <;> rfl
  rw [h1,h2]
  have:=C5z hG hS (c:=⟨0,[]⟩) (c':=⟨0,[]⟩) ⟨.inl ⟨Nat.zero_le _,rfl⟩,.nil⟩ (Nat.le_refl p) hp s (.load k (.t t))
  simp only [J3,E5] at this
  rw [this]
  cases prim ⟨0,[]⟩ p s H (.load k (.t t)) with
  | none=>rfl
  | some r=>cases results s H l <;> simp [renL,ren2]
theorem A7v:∀(l:List AV) (i:Nat),J0 i (renL p g l) = Q4 p g (J0 i l)
 | [],i=>by simp [renL,J0,Q4]
 | v :: l,i=>by simp only [renL,J0,A7v l,Q4,List.map_cons]
theorem A3n (s:B3):∀l:List Nat,restrict (Q4 p g s) l = Q4 p g (restrict s l)
 | []=>rfl
 | t :: l=>by
  simp only [restrict,A7u,A3n s l]
  cases sget s t <;> rfl
theorem C0n {B B':Nat} (h:ScB p g B B'):∀s:B3,A21 B' (Q4 p g s) = A21 B s
 | []=>rfl
 | x :: s=>by simp only [Q4,List.map_cons,A21,bd_ren h]; rw [← Q4,C0n h s]
theorem C9g {H:A1} (hp:p≤H.length) (l:List AO):F1 p g G (H++l) = F1 p g G H++l.map (J9 p g):= by
 unfold F1
 rw [List.take_append_of_le_length hp,List.drop_append_of_le_length hp]
 simp only [List.map_append,List.append_assoc]
theorem C54 (a b:List AV):renL p g (a++b) = renL p g a++renL p g b:= by simp only [O3,List.map_append]
structure RenM (p g:Nat) (M:Mach):Prop where
 call:∀{G:A1},G.length = g→GrO p G→∀ {c c':Sc} {H:A1} {f:AV} {aq rs:List AV} {H':A1},ScR p g c c'→p≤H.length→M.call c H f aq = some (rs,H')→M.call c' (F1 p g G H) (ren p g f) (renL p g aq) = some (renL p g rs,F1 p g G H')∧p≤H'.length
 code:∀{G:A1},G.length = g→GrO p G→∀ {ac:ACode} {st:St} {e:Ex} {st':St} {c':Sc},ScR p g st.c c'→p≤st.H.length→M.code ac st = some (e,st') →
  M.code (J7 p g ac) ⟨Q4 p g st.s,F1 p g G st.H,c'⟩ = some (e,⟨Q4 p g st'.s,F1 p g G st'.H,c'⟩)∧p≤st'.H.length∧st'.c = st.c
theorem C62 {M:Mach} (hM:RenM p g M) (hG:G.length = g) (hS:GrO p G) {c c':Sc} (hc:ScR p g c c') {n0:Nat} (hn:p≤n0) {s:B3} {H:A1} (hp:p≤H.length) {f:Opd} {args:List Opd} {own:List (List (Nat × Nat))} {pure:Bool} {r:AV × A1} (h:U4 M c n0 s H f args own pure = some r) :
  U4 M c' (n0 + g) (Q4 p g s) (F1 p g G H) (E5 p g f) (args.map (E5 p g)) own pure = some (ren2 p g G r)∧p≤r.2.length:= by
 unfold U4 at h ⊢
 rw [I7,B6m]
 split at h
 ·next fv aq e1 e2 =>
  simp only [e1,e2,Option.map_some]
  cases pure with
  | true =>
   simp only [if_true] at h ⊢
   have e0:(lend own || (renL p g aq).all (Q6 (F1 p g G H))) = (lend own || aq.all (Q6 H)):= by
    congr 1
    rw [O3,List.all_map]; congr 1; funext v; exact C50 hG hp v
   rw [e0]
   split at h
   ·next h0 =>
    simp only [h0,if_true]
    rw [C05 hG hp own aq]
    split at h
    ·cases h
    ·next as' H1 e3 =>
     simp only [e3,Option.map_some]
     split at h
     ·cases h
     ·next rs H2 e4 =>
      have:=hM.call (G:=G.map AO.toRo) (by simpa using hG) (D74 hS) hc (by simpa using hp) e4
      rw [D79,this.1]
      simp only
      rw [A3a hG hp,bdL_ren (.inr (.inl ⟨hp,rfl⟩))]
      split at h
      ·next h5 =>
       simp only [h5,if_true]
       simp only [Option.some.injEq] at h; subst h
       rw [B72 hG hn rs own hp]
       exact ⟨by simp only [B8r],by rw [A9d]; exact hp⟩
      ·cases h
   ·cases h
  | false =>
   simp only [Bool.false_eq_true,if_false] at h ⊢
   rw [C05 hG hp own aq]
   split at h
   ·cases h
   ·next as' H1 e3 =>
    have hl:=C04 e3
    simp only [e3,Option.map_some]
    split at h
    ·cases h
    ·next rs H2 e4 =>
     have:=hM.call hG hS hc (by rw [hl]; exact hp) e4
     rw [this.1]
     simp only [Option.some.injEq] at h; subst h
     simp only
     rw [B72 hG hn rs own this.2]
     exact ⟨by simp only [B8r],by rw [A9d]; exact this.2⟩
 ·cases h
theorem D2t {M:Mach} (hM:RenM p g M) (hG:G.length = g) (hS:GrO p G) {c c':Sc} (hc:ScR p g c c') {n0:Nat} (hn:p≤n0) {s:B3} {H:A1} (hp:p≤H.length) {op:AOp} {r:AV × A1} (h:core M c n0 s H op = some r) :
  core M c' (n0 + g) (Q4 p g s) (F1 p g G H) (J3 p g op) = some (ren2 p g G r)∧p≤r.2.length:= by
 have hk:(∃ f args own pure,op = .call f args own pure)∨((∀ (M:Mach) (c:Sc) (n0:Nat) (s:B3) (H:A1),core M c n0 s H op = prim c n0 s H op)∧∀ (M:Mach) (c:Sc) (n0:Nat) (s:B3) (H:A1),core M c n0 s H (J3 p g op) = prim c n0 s H (J3 p g op)):= by
  cases op <;> first
   | exact .inl ⟨_,_,_,_,rfl⟩
   | exact .inr ⟨fun _ _ _ _ _=>rfl,fun _ _ _ _ _=>rfl⟩
 rcases hk with ⟨f,args,own,pure,rfl⟩ | ⟨h1,h2⟩
 ·exact C62 hM hG hS hc hn hp h
 ·rw [h1] at h
  rw [h2,C5z hG hS hc hn hp s op,h]
  exact ⟨rfl,by rw [C5y h]; exact hp⟩
theorem D4a {M:Mach} (hM:RenM p g M) (hG:G.length = g) (hS:GrO p G) {c c':Sc} (hc:ScR p g c c') {n0:Nat} (hn:p≤n0) {s:B3} {H:A1} (hp:p≤H.length) {hc0:List (Option (List Nat))} {o:AOper} {s1:B3} {H1:A1} {hc1:List (Option (List Nat))} (h:oper M c n0 s H hc0 o = some (s1,H1,hc1)) :
  oper M c' (n0 + g) (Q4 p g s) (F1 p g G H) (hcR p g hc0) (A0b p g o) = some (Q4 p g s1,F1 p g G H1,hcR p g hc1)∧p≤H1.length:= by
 unfold oper at h ⊢
 have hw:wanted (Q4 p g s) (A0b p g o).guard = wanted s o.guard:=C8h s o.guard
 have hwr:writes (A0b p g o).op = writes o.op:=B9s o.op
 rw [hw,D3b hG hn s hp o,C78,hwr]
 split at h
 ·cases h
 ·next e0 =>
  simp only [Option.some.injEq,Prod.mk.injEq] at h
  obtain ⟨rfl,rfl,rfl⟩:=h
  try simp only [e0]
  refine ⟨?_,hp⟩
  have:sput (Q4 p g s) (A0b p g o).dst (.tup []) = Q4 p g (sput s o.dst (.tup [])):= by
   have:=B9g (p:=p) (g:=g) s o.dst (.tup []); simpa [ren,renL,A0b] using this
  rw [this]
  cases writes o.op <;> rfl
 ·next e0 =>
  try simp only [e0]
  split at h
  ·next hs e1 e2 =>
   simp only [e1,e2,Option.map_some]
   obtain ⟨k1,k2⟩:=B7z hG hp hs
   rw [k1]
   split at h
   ·next r e3 =>
    obtain ⟨k3,k4⟩:=D2t hM hG hS hc hn (by rw [k2]; exact hp) e3
    have e4:(A0b p g o).op = J3 p g o.op:=rfl
    rw [e4,k3]
    simp only
    have hE:(hs.map (rb p g)).isEmpty = hs.isEmpty:= by cases hs <;> rfl
    have hL:Nat.ble (F1 p g G H).length (F1 p g G r.2).length = Nat.ble H.length r.2.length:= by
     rw [A3a hG hp,A3a hG k4]
     cases h1:Nat.ble H.length r.2.length with
     | true=>exact Nat.ble_eq_true_of_le (by have:=Nat.le_of_ble_eq_true h1; omega)
     | false =>
      cases h2:Nat.ble (H.length + g) (r.2.length + g) with
      | false=>rfl
      | true =>
       have:=Nat.le_of_ble_eq_true h2
       have:=Nat.ble_eq_true_of_le (show H.length≤r.2.length by omega)
       rw [h1] at this; cases this
    rw [hE,hL]
    split at h
    ·next h5 =>
     simp only [h5,if_true]
     simp only [Option.some.injEq,Prod.mk.injEq] at h
     obtain ⟨rfl,rfl,rfl⟩:=h
     obtain ⟨k5,k6⟩:=B9o hG hp k4 hs
     refine ⟨?_,by rw [k6]; exact k4⟩
     rw [k5]
     have:sput (Q4 p g s) (A0b p g o).dst (ren2 p g G r).1 = Q4 p g (sput s o.dst r.1):=B9g s o.dst r.1
     rw [this]
     cases writes o.op <;> rfl
    ·cases h
   ·cases h
  ·cases h
theorem C1u {M:Mach} (hM:RenM p g M) (hG:G.length = g) (hS:GrO p G) {c c':Sc} (hc:ScR p g c c') {n0:Nat} (hn:p≤n0):∀{l:List AOper} {s:B3} {H:A1} (hp:p≤H.length) {hc0:List (Option (List Nat))} {s1:B3} {H1:A1},opers M c n0 l s H hc0 = some (s1,H1) →
  opers M c' (n0 + g) (l.map (A0b p g)) (Q4 p g s) (F1 p g G H) (hcR p g hc0) = some (Q4 p g s1,F1 p g G H1)∧p≤H1.length
 | [],s,H,hp,hc0,s1,H1,h=>by
  simp only [opers,Option.some.injEq,Prod.mk.injEq] at h
  obtain ⟨rfl,rfl⟩:=h
  exact ⟨rfl,hp⟩
 | o :: l,s,H,hp,hc0,s1,H1,h=>by
  simp only [opers,List.map_cons] at h ⊢
  split at h
  ·cases h
  ·next s2 H2 hc2 e1 =>
   obtain ⟨k1,k2⟩:=D4a hM hG hS hc hn hp e1
   simp only [k1]
   exact C1u hM hG hS hc hn k2 h
theorem C2j {M:Mach} (hM:RenM p g M) (hG:G.length = g) (hS:GrO p G) {ac:ACode} {st:St} {e:Ex} {st':St} {c':Sc} (hc:ScR p g st.c c') (hp:p≤st.H.length) (h:E1 M st ac = some (e,st')) :
  E1 M ⟨Q4 p g st.s,F1 p g G st.H,c'⟩ (J7 p g ac) = some (e,⟨Q4 p g st'.s,F1 p g G st'.H,c'⟩)∧p≤st'.H.length∧st'.c = st.c:= by
 cases ac with
 | skip=>simp only [E1,Option.some.injEq,Prod.mk.injEq] at h; obtain ⟨rfl,rfl⟩:=h; exact ⟨rfl,hp,rfl⟩
 | exit id=>simp only [E1,Option.some.injEq,Prod.mk.injEq] at h; obtain ⟨rfl,rfl⟩:=h; exact ⟨rfl,hp,rfl⟩
 | ret=>simp only [E1,Option.some.injEq,Prod.mk.injEq] at h; obtain ⟨rfl,rfl⟩:=h; exact ⟨rfl,hp,rfl⟩
 | scope a=>exact hM.code hG hS hc hp h
 | region d nres pre ops live =>
  simp only [E1,J7] at h ⊢
  obtain ⟨k1,k2⟩:=B5y hG st.s pre hp
  rw [k1]
  split at h
  ·next H e1 =>
   have hl:=k2 H e1
   simp only [e1,Option.map_some]
   split at h
   ·next r e2 =>
    simp only [Option.some.injEq,Prod.mk.injEq] at h
    obtain ⟨rfl,rfl⟩:=h
    have hp':p≤H.length:= by rw [hl]; exact hp
    have:=C1u hM hG hS hc (n0:=H.length) hp' (by simp; omega) e2
    rw [C9g hp',List.map_replicate] at this
    rw [A3a hG hp']
    simp only [J9,hcR,List.map_nil] at this
    rw [this.1]
    exact ⟨by simp only [A3n],this.2,rfl⟩
   ·cases h
  ·cases h
 | seq a b =>
  simp only [E1,J7] at h ⊢
  cases h1:M.code a st with
  | none=>simp [h1] at h
  | some q =>
   obtain ⟨e1,st1⟩:=q
   obtain ⟨k1,k2,k3⟩:=hM.code hG hS hc hp h1
   rw [h1] at h
   rw [k1]
   cases e1 with
   | normal =>
    simp only at h ⊢
    obtain ⟨k4,k5,k6⟩:=hM.code hG hS (c':=c') (by rw [k3]; exact hc) k2 h
    exact ⟨k4,k5,k6.trans k3⟩
   | exit id=>simp only [Option.some.injEq,Prod.mk.injEq] at h; obtain ⟨rfl,rfl⟩:=h; exact ⟨rfl,k2,k3⟩
   | ret=>simp only [Option.some.injEq,Prod.mk.injEq] at h; obtain ⟨rfl,rfl⟩:=h; exact ⟨rfl,k2,k3⟩
 | cond x a b =>
  simp only [E1,J7,I7] at h ⊢
  split at h
  ·next e1=>simp only [e1,Option.map_some,ren]; exact hM.code hG hS hc hp h
  ·next e1=>simp only [e1,Option.map_some,ren]; exact hM.code hG hS hc hp h
  ·cases h
 | block id a =>
  simp only [E1,J7] at h ⊢
  cases h1:M.code a st with
  | none=>simp [h1] at h
  | some q =>
   obtain ⟨e1,st1⟩:=q
   obtain ⟨k1,k2,k3⟩:=hM.code hG hS hc hp h1
   rw [h1] at h
   rw [k1]
   cases e1 with
   | exit j =>
    simp only at h ⊢
    split at h
    ·next hj=>simp only [hj,if_true]; simp only [Option.some.injEq,Prod.mk.injEq] at h; obtain ⟨rfl,rfl⟩:=h; exact ⟨rfl,k2,k3⟩
    ·next hj=>simp only [hj]; simp only [Option.some.injEq,Prod.mk.injEq] at h; obtain ⟨rfl,rfl⟩:=h; exact ⟨rfl,k2,k3⟩
   | normal=>simp only [Option.some.injEq,Prod.mk.injEq] at h; obtain ⟨rfl,rfl⟩:=h; exact ⟨rfl,k2,k3⟩
   | ret=>simp only [Option.some.injEq,Prod.mk.injEq] at h; obtain ⟨rfl,rfl⟩:=h; exact ⟨rfl,k2,k3⟩
 | loop tr live body =>
  simp only [E1,J7] at h ⊢
  rw [A3a hG hp,A3n]
  have hcb:ScR p g (if tr then { s:=restrict st.s live,H:=st.H,c:=⟨st.H.length,st.c.cur :: st.c.outer⟩ } else { st with s:=restrict st.s live }:St).c (if tr then ⟨st.H.length + g,c'.cur :: c'.outer⟩ else c'):= by
   cases tr with
   | true=>exact ⟨.inr (.inl ⟨hp,rfl⟩),.cons hc.cur hc.outer⟩
   | false=>exact hc
  cases h1:M.code body (if tr then { s:=restrict st.s live,H:=st.H,c:=⟨st.H.length,st.c.cur :: st.c.outer⟩ } else { st with s:=restrict st.s live }) with
  | none=>simp [h1] at h
  | some q =>
   obtain ⟨e1,st1⟩:=q
   obtain ⟨k1,k2,k3⟩:=hM.code hG hS hcb (by cases tr <;> exact hp) h1
   rw [h1] at h
   have k1':M.code (J7 p g body) (if tr then { s:=Q4 p g (restrict st.s live),H:=F1 p g G st.H,c:=⟨st.H.length + g,c'.cur :: c'.outer⟩ } else { s:=Q4 p g (restrict st.s live),H:=F1 p g G st.H,c:=c' }) = some (e1,⟨Q4 p g st1.s,F1 p g G st1.H,if tr then ⟨st.H.length + g,c'.cur :: c'.outer⟩ else c'⟩):= by
    cases tr with
    | true=>simpa using k1
    | false=>simpa using k1
   rw [k1']
   cases e1 with
   | normal =>
    simp only [A3n] at h ⊢
    cases tr with
    | true =>
     simp only [if_true] at h ⊢
     rw [C0n (.inr (.inl ⟨hp,rfl⟩))]
     split at h
     ·next h5 =>
      simp only [h5,if_true]
      rw [C44 k2 hp hG]
      have:=hM.code hG hS (ac:=.loop true live body) (st:={ s:=restrict st1.s live,H:=st1.H.take st.H.length,c:=st.c }) (c':=c') hc (by rw [List.length_take]; omega) h
      exact this
     ·cases h
    | false =>
     simp only [Bool.false_eq_true,if_false] at h ⊢
     exact hM.code hG hS (ac:=.loop false live body) (st:={ s:=restrict st1.s live,H:=st1.H,c:=st.c }) (c':=c') hc k2 h
   | exit id=>simp only [Option.some.injEq,Prod.mk.injEq] at h; obtain ⟨rfl,rfl⟩:=h; exact ⟨rfl,k2,rfl⟩
   | ret=>simp only [Option.some.injEq,Prod.mk.injEq] at h; obtain ⟨rfl,rfl⟩:=h; exact ⟨rfl,k2,rfl⟩
 | rangeFunc f ps live assign body =>
  simp only [E1,J7,I7,A3n] at h ⊢
  split at h
  ·next i fa fc e1 =>
   simp only [e1,Option.map_some,ren,B3s]
   split at h
   ·next rs H' e2 =>
    have:=hM.call hG hS hc (by simp; omega) e2
    rw [C9g hp] at this
    simp only [List.map_cons,List.map_nil,J9,ren,B3s,renL] at this
    rw [A3t hp] at this
    rw [A3a hG hp,this.1]
    simp only
    have hg:hget (F1 p g G H') (st.H.length + g) = (hget H' st.H.length).map (J9 p g):= by rw [← A3t (g:=g) hp]; exact W3 hG this.2 _
    have hs:hset (F1 p g G H') (st.H.length + g) .dead = F1 p g G (hset H' st.H.length .dead):= by rw [← A3t (g:=g) hp,← O8 hG this.2]; simp only [J9]
    rw [hg,hs]
    split at h
    ·next e3 =>
     simp only [e3,Option.map_some,J9]
     simp only [Option.some.injEq,Prod.mk.injEq] at h; obtain ⟨rfl,rfl⟩:=h
     exact ⟨rfl,by rw [I3]; exact this.2,rfl⟩
    ·next e3 =>
     simp only [e3,Option.map_some,J9]
     simp only [Option.some.injEq,Prod.mk.injEq] at h; obtain ⟨rfl,rfl⟩:=h
     exact ⟨rfl,by rw [I3]; exact this.2,rfl⟩
    ·cases h
   ·cases h
  ·cases h
theorem B8x:∀(l:List (Nat × AV)) (s:B3),(l.map fun x=>(x.1,ren p g x.2)).foldl (fun s x=>sput s (some x.1) x.2) (Q4 p g s) = Q4 p g (l.foldl (fun s x=>sput s (some x.1) x.2) s)
 | [],s=>rfl
 | x :: l,s=>by
  simp only [List.map_cons,List.foldl_cons,B9g]
  exact B8x l _
theorem A7z {T:Tab} (hT:∀i af,T i = some af→J7 p g af.body = af.body) {M:Mach} (hM:RenM p g M) (hG:G.length = g) (hS:GrO p G) {c c':Sc} {H:A1} {f:AV} {aq rs:List AV} {H':A1} (hc:ScBs p g (c.cur :: c.outer) (c'.cur :: c'.outer)) (hp:p≤H.length) (h:K7 T M c H f aq = some (rs,H')) :
  K7 T M c' (F1 p g G H) (ren p g f) (renL p g aq) = some (renL p g rs,F1 p g G H')∧p≤H'.length:= by
 have hcb:ScR p g ⟨H.length,c.cur :: c.outer⟩ ⟨(F1 p g G H).length,c'.cur :: c'.outer⟩:=⟨.inr (.inl ⟨hp,A3a hG hp⟩),hc⟩
 unfold K7 at h
 split at h
 ·next i first cap =>
  simp only [ren,B3s]
  unfold K7
  simp only
  split at h
  ·cases h
  ·next af e1 =>
   try simp only [e1]
   try simp only at h
   have e2:renL p g first++renL p g aq++renL p g cap = renL p g (first++aq++cap):= by rw [C54,C54]
   rw [e2,W5]
   split at h
   ·next h5 =>
    simp only [h5,if_true]
    have fin:∀e1 st,(e1 = Ex.normal∨e1 = Ex.ret)→M.code af.body { s:=J0 0 (first++aq++cap),H,c:=⟨H.length,c.cur :: c.outer⟩ } = some (e1,st)→(match results st.s st.H af.results with
      | none=>none
      | some rs=>match Q7 H.length st.H rs with
       | none=>none
       | some (rs,H')=>some (rs,trunc H.length rs H')) = some (rs,H') →
      M.code af.body { s:=J0 0 (renL p g (first++aq++cap)),H:=F1 p g G H,c:=⟨(F1 p g G H).length,c'.cur :: c'.outer⟩ } = some (e1,⟨Q4 p g st.s,F1 p g G st.H,⟨(F1 p g G H).length,c'.cur :: c'.outer⟩⟩)∧(match results (Q4 p g st.s) (F1 p g G st.H) af.results with
      | none=>none
      | some rs=>match Q7 (F1 p g G H).length (F1 p g G st.H) rs with
       | none=>none
       | some (rs,H')=>some (rs,trunc (F1 p g G H).length rs H')) = some (renL p g rs,F1 p g G H')∧p≤H'.length:= by
     intro e1 st _ h1 h2
     obtain ⟨k1,k2,k3⟩:=hM.code hG hS hcb hp h1
     rw [hT _ _ ‹_›] at k1
     rw [A7v]
     refine ⟨k1,?_⟩
     rw [A6k hG hS st.s k2]
     split at h2
     ·cases h2
     ·next rs0 e3 =>
      simp only [e3,Option.map_some]
      rw [C1x hG hcb.cur rs0 k2]
      split at h2
      ·cases h2
      ·next rs1 H1 e4 =>
       have hl:=B4u e4
       simp only [e4,Option.map_some]
       simp only [Option.some.injEq,Prod.mk.injEq] at h2
       obtain ⟨rfl,rfl⟩:=h2
       simp only at hl
       exact ⟨by rw [B44 hp (A3a hG hp) (by rw [hl]; exact k2) hG],B43 hp (by rw [hl]; exact k2) _⟩
    split at h
    ·next st e3=>obtain ⟨a,b,d⟩:=fin _ _ (.inl rfl) e3 h; rw [a]; exact ⟨b,d⟩
    ·next st e3=>obtain ⟨a,b,d⟩:=fin _ _ (.inr rfl) e3 h; rw [a]; exact ⟨b,d⟩
    ·cases h
   ·next h5 =>
    have h5f:=Bool.eq_false_iff.2 h5
    simp only [h5f,Bool.false_eq_true,if_false]
    split at h
    ·next h6 =>
     simp only [h6,if_true]
     have fin:∀e1 st,M.code af.body { s:=J0 0 (first++aq++cap),H,c:=⟨H.length,c.cur :: c.outer⟩ } = some (e1,st)→(match results st.s st.H af.results with
       | none=>none
       | some rs=>some (rs,trunc H.length rs st.H)) = some (rs,H') →
       M.code af.body { s:=J0 0 (renL p g (first++aq++cap)),H:=F1 p g G H,c:=⟨(F1 p g G H).length,c'.cur :: c'.outer⟩ } = some (e1,⟨Q4 p g st.s,F1 p g G st.H,⟨(F1 p g G H).length,c'.cur :: c'.outer⟩⟩)∧(match results (Q4 p g st.s) (F1 p g G st.H) af.results with
       | none=>none
       | some rs=>some (rs,trunc (F1 p g G H).length rs (F1 p g G st.H))) = some (renL p g rs,F1 p g G H')∧p≤H'.length:= by
      intro e1 st h1 h2
      obtain ⟨k1,k2,k3⟩:=hM.code hG hS hcb hp h1
      rw [hT _ _ ‹_›] at k1
      rw [A7v]
      refine ⟨k1,?_⟩
      rw [A6k hG hS st.s k2]
      split at h2
      ·cases h2
      ·next rs0 e3 =>
       simp only [e3,Option.map_some]
       simp only [Option.some.injEq,Prod.mk.injEq] at h2
       obtain ⟨rfl,rfl⟩:=h2
       exact ⟨by rw [B44 hp (A3a hG hp) k2 hG],B43 hp k2 _⟩
     split at h
     ·next st e3=>obtain ⟨a,b,d⟩:=fin _ _ e3 h; rw [a]; exact ⟨b,d⟩
     ·next st e3=>obtain ⟨a,b,d⟩:=fin _ _ e3 h; rw [a]; exact ⟨b,d⟩
     ·cases h
    ·cases h
 ·next l =>
  simp only [ren,B3s,renL]
  unfold K7
  simp only
  rw [W3 hG hp]
  split at h
  ·next f0 s ps assign body e1 =>
   simp only [e1,Option.map_some,J9,W5]
   split at h
   ·next h5 =>
    simp only [h5,if_true]
    have ez:ps.zip (renL p g aq) = (ps.zip aq).map fun x=>(x.1,ren p g x.2):= by
     rw [O3,List.zip_map_right]; rfl
    rw [ez,B8x]
    split at h
    ·next st e2 =>
     obtain ⟨k1,k2,k3⟩:=hM.code hG hS hcb hp e2
     simp only at k1
     rw [k1]
     simp only
     rw [W3 hG k2]
     split at h
     ·next f1 s1 ps1 a1 b1 e3 =>
      simp only [e3,Option.map_some,J9]
      split at h
      ·next e st2 e4 =>
       have hs:hset (F1 p g G st.H) (rb p g l) (.loop f1 (Q4 p g s1) ps1 (J7 p g a1) (J7 p g b1) true none) = F1 p g G (hset st.H l (.loop f1 s1 ps1 a1 b1 true none)):= by
        rw [← O8 hG k2]; simp only [J9]
       obtain ⟨k4,k5,k6⟩:=hM.code hG hS (st:={ st with H:=hset st.H l (.loop f1 s1 ps1 a1 b1 true none) }) (by rw [show ({ st with H:=hset st.H l (.loop f1 s1 ps1 a1 b1 true none) }:St).c = st.c from rfl,k3]; exact hcb) (by rw [I3]; exact k2) e4
       simp only at k4
       rw [hs,k4]
       simp only
       rw [W3 hG k5]
       split at h
       ·next f2 s2 ps2 a2 b2 e5 =>
        simp only [e5,Option.map_some,J9]
        simp only [Option.some.injEq,Prod.mk.injEq] at h
        obtain ⟨rfl,rfl⟩:=h
        have hs2:∀pend,hset (F1 p g G st2.H) (rb p g l) (.loop f2 (Q4 p g s2) ps2 (J7 p g a2) (J7 p g b2) false pend) = F1 p g G (hset st2.H l (.loop f2 s2 ps2 a2 b2 false pend)):= by
         intro pend; rw [← O8 hG k5]; simp only [J9]
        rw [hs2]
        refine ⟨?_,B43 hp (by rw [I3]; exact k5) _⟩
        have ht:∀pend,trunc (F1 p g G H).length [] (F1 p g G (hset st2.H l (.loop f2 s2 ps2 a2 b2 false pend))) = F1 p g G (trunc H.length [] (hset st2.H l (.loop f2 s2 ps2 a2 b2 false pend))):= by
         intro pend
         have:=B44 (p:=p) (g:=g) hp (A3a hG hp) (H:=hset st2.H l (.loop f2 s2 ps2 a2 b2 false pend)) (by rw [I3]; exact k5) hG []
         simp only [renL] at this
         exact this
        rw [ht]
        cases e <;> simp [renL,ren]
       ·cases h
      ·cases h
     ·cases h
    ·cases h
   ·cases h
  ·cases h
 ·cases h
theorem B79 {T:Tab} (hT:∀i af,T i = some af→J7 p g af.body = af.body):∀n,RenM p g (mach T n)
 | 0=>by
  constructor
  ·intros; rename_i h; simp [mach] at h
  ·intros; rename_i h; simp [mach] at h
 | n + 1=>by
  have ih:=B79 hT n
  constructor
  ·intro G hG hS c c' H f aq rs H' hc hp h
   rw [S9] at h ⊢
   exact A7z hT ih hG hS (.cons hc.cur hc.outer) hp h
  ·intro G hG hS ac st e st' c' hc hp h
   rw [V7] at h ⊢
   exact C2j ih hG hS hc hp h
end
mutual
def AV.free:AV→Bool
 | .lit _ | .nils _ | .undef=>true
 | .seq _ rows | .fresh _ rows | .xseq _ rows=>freeR rows
 | .agg cs | .tup cs | .cptr cs=>freeL cs
 | _=>false
def freeL:List AV→Bool
 | []=>true
 | v :: l=>v.free && freeL l
def freeR:List (List AV)→Bool
 | []=>true
 | r :: l=>freeL r && freeR l
end
mutual
theorem ren_free {p g:Nat}:(v:AV)→v.free = true→ren p g v = v
 | .lit _,_ | .nils _,_ | .undef,_=>by simp only [ren]
 | .seq _ rows,h | .fresh _ rows,h | .xseq _ rows,h=>by simp only [AV.free] at h; simp only [ren,renR_free rows h]
 | .agg cs,h | .tup cs,h | .cptr cs,h=>by simp only [AV.free] at h; simp only [ren,renL_free cs h]
 | .ptr _ _,h | .itr _,h | .eptr _ _ _ _,h | .asl _ _,h | .csl _ _ _ _,h | .mp _,h | .fn _ _ _,h=>by simp [AV.free] at h
theorem renL_free {p g:Nat}:(l:List AV)→freeL l = true→renL p g l = l
 | [],_=>by simp only [renL]
 | v :: l,h=>by
  simp only [freeL,Bool.and_eq_true] at h
  simp only [renL,ren_free v h.1,renL_free l h.2]
theorem renR_free {p g:Nat}:(l:List (List AV))→freeR l = true→renR p g l = l
 | [],_=>by simp only [renR]
 | v :: l,h=>by
  simp only [freeR,Bool.and_eq_true] at h
  simp only [renR,renL_free v h.1,renR_free l h.2]
end
def Opd.free:Opd→Bool
 | .c v=>v.free
 | _=>true
def C82:Option Opd→Bool
 | some x=>x.free
 | none=>true
theorem G9 {p g:Nat} {x:Opd} (h:x.free = true):E5 p g x = x:= by
 cases x with
 | c v=>simp only [E5]; rw [ren_free v h]
 | _=>rfl
theorem W6 {p g:Nat} {x:Option Opd} (h:C82 x = true):A3m p g x = x:= by
 cases x with
 | none=>rfl
 | some x=>simp only [A3m]; rw [G9 h]
theorem B29 {p g:Nat} {l:List Opd} (h:l.all Opd.free = true):l.map (E5 p g) = l:= by
 induction l with
 | nil=>rfl
 | cons x l ih =>
  simp only [List.all_cons,Bool.and_eq_true] at h
  rw [List.map_cons,G9 h.1,ih h.2]
theorem C7x {p g:Nat} {l:List (Nat × Nat × Opd)} (h:(l.all fun q=>q.2.2.free) = true):l.map (fun q=>(q.1,q.2.1,E5 p g q.2.2)) = l:= by
 induction l with
 | nil=>rfl
 | cons x l ih =>
  simp only [List.all_cons,Bool.and_eq_true] at h
  rw [List.map_cons,G9 h.1,ih h.2]
theorem B5u {p g:Nat} {l:List (Nat × Opd)} (h:(l.all fun q=>q.2.free) = true):l.map (fun q=>(q.1,E5 p g q.2)) = l:= by
 induction l with
 | nil=>rfl
 | cons x l ih =>
  simp only [List.all_cons,Bool.and_eq_true] at h
  rw [List.map_cons,G9 h.1,ih h.2]
def A89:Fn→Bool
 | .func _=>true
 | _=>false
def AOp.free:AOp→Bool
 | .mv x | .mvz x | .storeN x _ _ | .box _ x _ | .load _ x | .nilck x | .un _ x | .conv _ x | .idc x | .nilq _ x | .fieldAddr _ x | .field _ _ x | .range x _ | .next x | .extract x _ | .lenS x | .lenL x | .lenM x=>x.free
 | .nil _ _ | .mkmap _=>true
 | .pick c a b=>c.free && a.free && b.free
 | .alloc zs _ _=>freeL zs
 | .build z parts=>freeL z && parts.all fun q=>q.2.2.free
 | .lits _ z _ parts _ | .xlits _ z _ parts=>freeL z && parts.all fun q=>q.2.free
 | .store _ a v | .bin _ a v | .beq _ a v | .cmp _ _ a v | .idxS _ a v | .idxA _ _ a v | .idxStr a v | .idxAgg _ _ _ a v | .append _ _ a v _ _ | .copy _ a v=>a.free && v.free
 | .mkfn f a c=>A89 f && a.all Opd.free && c.all Opd.free
 | .mkslice _ _ z l c _=>freeL z && l.free && c.free
 | .sliceS x lo hi | .sliceL _ x lo hi | .sliceQ _ x lo hi=>x.free && C82 lo && C82 hi
 | .lookup z _ _ x i _=>z.free && x.free && i.free
 | .mupd _ _ m k v=>m.free && k.free && v.free
 | .mm _ xs=>xs.all Opd.free
 | .cut _ x hi _ | .sliceA _ _ x hi=>x.free && C82 hi
 | .call f args _ _=>f.free && args.all Opd.free
theorem D1m {p g:Nat} {f:Fn} (h:A89 f = true):B3s p g f = f:= by cases f <;> first | rfl | cases h
theorem C74 {p g:Nat} {op:AOp} (h:op.free = true):J3 p g op = op:= by
 cases op <;> simp only [AOp.free,Bool.and_eq_true] at h <;> simp only [J3]
 case mkfn=>rw [D1m h.1.1,B29 h.1.2,B29 h.2]
 case alloc=>rw [renL_free _ h]
 case build=>rw [renL_free _ h.1,C7x h.2]
 case lits=>rw [renL_free _ h.1,B5u h.2]
 case xlits=>rw [renL_free _ h.1,B5u h.2]
 case mkslice=>rw [renL_free _ h.1.1,G9 h.1.2,G9 h.2]
 case lookup=>rw [ren_free _ h.1.1,G9 h.1.2,G9 h.2]
 case sliceS=>rw [G9 h.1.1,W6 h.1.2,W6 h.2]
 case sliceL=>rw [G9 h.1.1,W6 h.1.2,W6 h.2]
 case sliceQ=>rw [G9 h.1.1,W6 h.1.2,W6 h.2]
 case cut=>rw [G9 h.1,W6 h.2]
 case sliceA=>rw [G9 h.1,W6 h.2]
 case call=>rw [G9 h.1,B29 h.2]
 case mm=>rw [B29 h]
 all_goals first
  | rw [G9 h]
  | rw [G9 h.1,G9 h.2]
  | rw [G9 h.1.1,G9 h.1.2,G9 h.2]
def ACode.free:ACode→Bool
 | .region _ _ _ ops _=>ops.all fun o=>o.op.free
 | .seq a b=>a.free && b.free
 | .cond c a b=>c.free && (a.free && b.free)
 | .block _ a | .loop _ _ a | .scope a=>a.free
 | .rangeFunc f _ _ a b=>f.free && (a.free && b.free)
 | _=>true
theorem D1d {p g:Nat} {l:List AOper} (h:(l.all fun o=>o.op.free) = true):l.map (A0b p g) = l:= by
 induction l with
 | nil=>rfl
 | cons x l ih =>
  simp only [List.all_cons,Bool.and_eq_true] at h
  rw [List.map_cons,ih h.2]
  unfold A0b; rw [C74 h.1]
theorem M9 {p g:Nat}:(ac:ACode)→ac.free = true→J7 p g ac = ac
 | .region _ _ _ ops _,h=>by simp only [ACode.free] at h; simp only [J7]; rw [D1d h]
 | .seq a b,h=>by simp only [ACode.free,Bool.and_eq_true] at h; simp only [J7,M9 a h.1,M9 b h.2]
 | .cond c a b,h=>by simp only [ACode.free,Bool.and_eq_true] at h; simp only [J7,G9 h.1,M9 a h.2.1,M9 b h.2.2]
 | .block _ a,h | .loop _ _ a,h | .scope a,h=>by simp only [ACode.free] at h; simp only [J7,M9 a h]
 | .rangeFunc f _ _ a b,h=>by simp only [ACode.free,Bool.and_eq_true] at h; simp only [J7,G9 h.1,M9 a h.2.1,M9 b h.2.2]
 | .skip,_ | .exit _,_ | .ret,_=>by simp only [J7]
def A94 (T:Tab):Prop:=∀ i af,T i = some af→af.body.free = true
def S8 (c:Sc) (H:A1):Bool:=(c.cur :: c.outer).all fun B=>Nat.ble B H.length
theorem C9x {g:Nat}:∀{l:List Nat},(l.all fun B=>Nat.ble B g) = true→ScBs 0 g [] l
 | [],_=>.nil
 | B :: l,h=>by
  simp only [List.all_cons,Bool.and_eq_true] at h
  exact .extra (fun b=>by rw [A3t (Nat.zero_le b)]; have:=Nat.le_of_ble_eq_true h.1; omega) (C9x h.2)
theorem D51 (G:A1) (g:Nat):F1 0 g G [] = G:= by simp [F1]
theorem G8.shift {T:Tab} (hT:A94 T) {i:Nat} {aq rs:List AV} (h:G8 T ⟨0,[]⟩ [] (.fn (.func i) [] []) aq rs []) (ha:freeL aq = true) (hr:freeL rs = true) {c:Sc} {H:A1} (hc:S8 c H = true):G8 T c H (.fn (.func i) [] []) aq rs H:= by
 obtain ⟨n,e⟩:=h
 cases n with
 | zero=>simp [mach] at e
 | succ n =>
  rw [S9] at e
  have:=(A7z (p:=0) (g:=H.length) (G:=H) (c:=⟨0,[]⟩) (c':=c) (fun i af h=>M9 _ (hT i af h)) (B79 (fun i af h=>M9 _ (hT i af h)) n) rfl (fun _ _ _ h=>absurd h (Nat.not_lt_zero _)) (.drop (C9x hc)) (Nat.zero_le _) e).1
  rw [D51,renL_free _ ha,renL_free _ hr,ren] at this
  simp only [B3s,renL] at this
  exact ⟨n + 1,by rw [S9]; exact this⟩
def WP (T:Tab) (ac:ACode) (s:B3) (H:A1) (c:Sc) (Q:Ex→B3→A1→Prop):Prop :=
 ∀ S,Sub s S→∃ e S' s' H',I5 T ac ⟨S,H,c⟩ e ⟨S',H',c⟩∧Sub s' S'∧Q e s' H'
section
variable {T:Tab} {s:B3} {H:A1} {c:Sc} {Q Q':Ex→B3→A1→Prop}
def D19 (T:Tab) (b:ACode) (c:Sc) (Q:Ex→B3→A1→Prop):Ex→B3→A1→Prop
 | .normal,s,H=>WP T b s H c Q
 | e,s,H=>Q e s H
def C2b (id:Nat) (Q:Ex→B3→A1→Prop):Ex→B3→A1→Prop
 | .exit j,s,H=>bif Nat.beq j id then Q .normal s H else Q (.exit j) s H
 | e,s,H=>Q e s H
theorem A0r {ac:ACode} (h:WP T ac s H c Q) (k:∀e s' H',Q e s' H'→Q' e s' H'):WP T ac s H c Q':= by
 intro S hS
 obtain ⟨e,S',s',H',h1,h2,h3⟩:=h S hS
 exact ⟨e,S',s',H',h1,h2,k _ _ _ h3⟩
theorem D7b {ac:ACode} {Q1:Ex→B3→A1→Prop} (h:WP T ac s H c (fun e s' H'=>∃ s0,Sub s0 s'∧Q1 e s0 H')) (k:∀e s' H',Q1 e s' H'→Q e s' H'):WP T ac s H c Q:= by
 intro S hS
 obtain ⟨e,S',s',H',h1,h2,s0,h3,h4⟩:=h S hS
 exact ⟨e,S',s0,H',h1,h3.trans h2,k _ _ _ h4⟩
theorem D7c (h:Q .normal s H):WP T .skip s H c Q:=fun S hS=>⟨.normal,S,s,H,⟨1,rfl⟩,hS,h⟩
theorem D7a {id:Nat} (h:Q (.exit id) s H):WP T (.exit id) s H c Q:=fun S hS=>⟨.exit id,S,s,H,⟨1,rfl⟩,hS,h⟩
theorem D9d (h:Q .ret s H):WP T .ret s H c Q:=fun S hS=>⟨.ret,S,s,H,⟨1,rfl⟩,hS,h⟩
theorem C8j {a b:ACode} (h:WP T a s H c (D19 T b c Q)):WP T (.seq a b) s H c Q:= by
 intro S hS
 obtain ⟨e,S1,s1,H1,h1,h2,h3⟩:=h S hS
 cases e with
 | normal =>
  obtain ⟨e2,S2,s2,H2,h4,h5,h6⟩:=h3 S1 h2
  exact ⟨e2,S2,s2,H2,I5.seq rfl h1 h4,h5,h6⟩
 | exit id=>exact ⟨_,S1,s1,H1,I5.seqOut rfl rfl h1,h2,h3⟩
 | ret=>exact ⟨_,S1,s1,H1,I5.seqOut rfl rfl h1,h2,h3⟩
theorem C6n {x:Opd} {t:Bool} {a b:ACode} (h:ev s x = some (.lit (.bool t))) (ht:t = true) (k:WP T a s H c Q):WP T (.cond x a b) s H c Q:= by
 subst ht
 intro S hS
 obtain ⟨e,S1,s1,H1,h1,h2,h3⟩:=k S hS
 exact ⟨e,S1,s1,H1,I5.condT rfl (A25 hS h) h1,h2,h3⟩
theorem C6m {x:Opd} {t:Bool} {a b:ACode} (h:ev s x = some (.lit (.bool t))) (ht:t = false) (k:WP T b s H c Q):WP T (.cond x a b) s H c Q:= by
 subst ht
 intro S hS
 obtain ⟨e,S1,s1,H1,h1,h2,h3⟩:=k S hS
 exact ⟨e,S1,s1,H1,I5.condF rfl (A25 hS h) h1,h2,h3⟩
theorem D49 {id:Nat} {a:ACode} (h:WP T a s H c (C2b id Q)):WP T (.block id a) s H c Q:= by
 intro S hS
 obtain ⟨e,S1,s1,H1,h1,h2,h3⟩:=h S hS
 cases e with
 | normal=>exact ⟨_,S1,s1,H1,I5.block rfl rfl h1,h2,h3⟩
 | ret=>exact ⟨_,S1,s1,H1,I5.block rfl rfl h1,h2,h3⟩
 | exit j =>
  cases hb:Nat.beq j id with
  | true =>
   have:=Nat.eq_of_beq_eq_true hb
   subst this
   simp only [C2b,hb,cond_true] at h3
   exact ⟨.normal,S1,s1,H1,I5.blockExit rfl h1,h2,h3⟩
  | false =>
   simp only [C2b,hb,cond_false] at h3
   exact ⟨.exit j,S1,s1,H1,I5.block rfl (by simp only [Ex.not,hb,Bool.not_false]) h1,h2,h3⟩
theorem D5a {a:ACode} (h:WP T a s H c Q):WP T (.scope a) s H c Q:= by
 intro S hS
 obtain ⟨e,S1,s1,H1,h1,h2,h3⟩:=h S hS
 exact ⟨e,S1,s1,H1,I5.scope rfl h1,h2,h3⟩
def A3s {σ ρ:Type} (b:σ→Option (σ ⊕ ρ)) (n:Nat):σ→Option ρ :=
 Nat.rec (fun _=>none) (fun _ ih s=>match b s with
  | some (.inl s')=>ih s'
  | some (.inr r)=>some r
  | none=>none) n
def loop {σ ρ:Type} (b:σ→Option (σ ⊕ ρ)) (s:σ):Option ρ:=A3s b 9223372036854775808 s
theorem H9 {σ ρ:Type} (b:σ→Option (σ ⊕ ρ)) (n:Nat) (s:σ):A3s b (n + 1) s = match b s with
  | some (.inl s')=>A3s b n s'
  | some (.inr r)=>some r
  | none=>none:=rfl
theorem P4:∀{s:B3} {live:List Nat} (_:s.map (·.1) = live) (_:live.Nodup) {S:B3} (_:Sub s S),restrict S live = s
 | [],_,h,_,S,_=>by subst h; rfl
 | (t,v) :: s,_,h,hn,S,hS=>by
  subst h
  simp only [List.map_cons,List.nodup_cons] at hn ⊢
  have h1:sget S t = some v:=hS t v (by simp [M3,K0])
  have h2:Sub s S:= by
   intro u w hu
   refine hS u w ?_
   simp only [M3,K0]
   cases hb:Nat.beq t u with
   | false=>exact hu
   | true =>
    have:=Nat.eq_of_beq_eq_true hb
    subst this
    exfalso
    apply hn.1
    have:∀{s:B3} {u:Nat} {w:AV},sget s u = some w→u ∈ s.map (·.1):= by
     intro s
     induction s with
     | nil=>intro u w h; simp [M3,K0] at h
     | cons x s ih =>
      intro u w h
      simp only [M3,K0] at h
      cases hb:Nat.beq x.1 u with
      | true=>simp [(Nat.eq_of_beq_eq_true hb).symm]
      | false=>rw [hb] at h; simp only [List.map_cons,List.mem_cons]; exact .inr (ih h)
    exact this hu
  simp only [restrict,h1]
  rw [P4 rfl hn.2 h2]
def D16 {γ σ ρ:Type} (tr:Bool) (st:σ→B3) (hp:γ→σ→A1) (N:Nat) (P:ρ→Ex→B3→A1→Prop):σ ⊕ ρ→Ex→B3→A1→Prop
 | .inl x,e,s',H'=>e = .normal∧Sub (st x) s'∧∃ g',(bif tr then H'.take N else H') = hp g' x
 | .inr r,e,s',H'=>e.out = true∧∃ s0,Sub s0 s'∧P r e s0 H'
theorem C6o {γ σ ρ:Type} {tr:Bool} {live:List Nat} {bd:ACode} {body:σ→Option (σ ⊕ ρ)} (st:σ→B3) (hp:γ→σ→A1) (N:Nat) (P:ρ→Ex→B3→A1→Prop)
  (hN:∀g x,(hp g x).length = N) (hlive:∀x,(st x).map (·.1) = live) (hnd:live.Nodup) (hbd:∀x,tr = true→A21 N (st x) = true)
  (hstep:∀g x x',body x = some (.inl x')→WP T bd (st x) (hp g x) (bif tr then ⟨N,c.cur :: c.outer⟩ else c) (fun e s' H'=>e = .normal∧Sub (st x') s'∧∃ g',(bif tr then H'.take N else H') = hp g' x'))
  (hexit:∀g x r,body x = some (.inr r)→WP T bd (st x) (hp g x) (bif tr then ⟨N,c.cur :: c.outer⟩ else c) (fun e s' H'=>e.out = true∧∃ s0,Sub s0 s'∧P r e s0 H'))
  {x0:σ} {r:ρ} (h:loop body x0 = some r) (g0:γ):WP T (.loop tr live bd) (st x0) (hp g0 x0) c (fun e s' H'=>e.out = true∧P r e s' H'):= by
 have key:∀n g0 x0,A3s body n x0 = some r→WP T (.loop tr live bd) (st x0) (hp g0 x0) c (fun e s' H'=>e.out = true∧P r e s' H'):= by
  intro n
  induction n with
  | zero=>intro g0 x0 h; cases h
  | succ n ih =>
   intro g0 x0 h S hS
   rw [H9] at h
   have hr:restrict S live = st x0:=P4 (hlive x0) hnd hS
   have hin:A4v tr live ⟨S,hp g0 x0,c⟩ = ⟨st x0,hp g0 x0,bif tr then ⟨N,c.cur :: c.outer⟩ else c⟩:= by
    unfold A4v; cases tr <;> simp [hr,hN]
   split at h
   ·next x' hb =>
    obtain ⟨e,S1,s1,H1,h1,h2,rfl,h4,g',h5⟩:=hstep g0 x0 x' hb _ (Sub.refl _)
    have hr1:restrict S1 live = st x':=P4 (hlive x') hnd (h4.trans h2)
    obtain ⟨e2,S2,s2,H2,g1,g2,g3⟩:=ih g' x' h _ (Sub.refl _)
    refine ⟨e2,S2,s2,H2,I5.loop (st1:=⟨S1,H1,bif tr then ⟨N,c.cur :: c.outer⟩ else c⟩) rfl hin.symm h1 ?_ g1,g2,g3⟩
    unfold A7g
    cases tr with
    | true =>
     have hb1:=hbd x' rfl
     simp only [hr1,if_true,hN,hb1]
     simp only [cond_true] at h5
     rw [h5]
    | false =>
     simp only [cond_false] at h5
     simp only [Bool.false_eq_true,if_false,hr1,h5]
   ·next r' hb =>
    simp only [Option.some.injEq] at h
    subst h
    obtain ⟨e,S1,s1,H1,h1,h2,h3,s2,h4,h5⟩:=hexit g0 x0 _ hb _ (Sub.refl _)
    exact ⟨e,S1,s2,H1,I5.loopOut (st1:=⟨S1,H1,bif tr then ⟨N,c.cur :: c.outer⟩ else c⟩) rfl hin.symm h3 h1 rfl,h4.trans h2,h3,h5⟩
   ·cases h
 exact key _ _ _ h
theorem B9q {γ σ ρ:Type} {tr:Bool} {live:List Nat} {bd:ACode} {body:σ→Option (σ ⊕ ρ)} (st:σ→B3) (hp:γ→σ→A1) (N:Nat) (P:ρ→Ex→B3→A1→Prop)
  (hN:∀g x,(hp g x).length = N) (hlive:∀x,(st x).map (·.1) = live) (hnd:live.Nodup) (hbd:∀x,tr = true→A21 N (st x) = true)
  (hbody:∀g x o,body x = some o→WP T bd (st x) (hp g x) (bif tr then ⟨N,c.cur :: c.outer⟩ else c) (D16 tr st hp N P o))
  {x0:σ} {r:ρ} (h:loop body x0 = some r) (g0:γ):WP T (.loop tr live bd) (st x0) (hp g0 x0) c (fun e s' H'=>e.out = true∧P r e s' H') :=
 C6o st hp N P hN hlive hnd hbd (fun g x _ h=>hbody g x _ h) (fun g x _ h=>hbody g x _ h) h g0
inductive UnQ (T:Tab) (tr:Bool) (live:List Nat) (bd:ACode) (c:Sc) (N:Nat) (Q:Ex→B3→A1→Prop):Ex→B3→A1→Prop
 | next {s1:B3} {H1:A1} (sN:B3) (HN:A1) (hs:Sub sN s1) (hl:sN.map (·.1) = live) (nd:live.Nodup) (hH:(bif tr then H1.take N else H1) = HN) (hb:tr = true→A21 N sN = true) (h:WP T (.loop tr live bd) sN HN c Q):UnQ T tr live bd c N Q .normal s1 H1
 | out {e:Ex} {s1:B3} {H1:A1} (he:e.out = true) (h:Q e s1 H1):UnQ T tr live bd c N Q e s1 H1
theorem D12 {H0:A1} {l:List AO} {tr:Bool} {live:List Nat} {bd:ACode} (k:Nat) (hk:l.length = k) (s':B3) (hr:∀S,Sub s S→restrict S live = s') (h:WP T bd s' (H0++l) (bif tr then ⟨H0.length + k,c.cur :: c.outer⟩ else c) (UnQ T tr live bd c (H0.length + k) Q)):WP T (.loop tr live bd) s (H0++l) c Q:= by
 intro S hS
 have hr':=hr S hS
 have hN:(H0++l).length = H0.length + k:= by rw [List.length_append,hk]
 have hin:A4v tr live ⟨S,H0++l,c⟩ = ⟨s',H0++l,bif tr then ⟨H0.length + k,c.cur :: c.outer⟩ else c⟩:= by
  unfold A4v; cases tr <;> simp only [hr',hN,if_true,Bool.false_eq_true,if_false,cond_true,cond_false]
 obtain ⟨e,S1,s1,H1,h1,h2,h3⟩:=h s' (Sub.refl _)
 cases h3 with
 | next sN HN hs hl nd hH hb hw =>
  have hr1:restrict S1 live = sN:=P4 hl nd (hs.trans h2)
  obtain ⟨e2,S2,s2,H2,g1,g2,g3⟩:=hw sN (Sub.refl _)
  refine ⟨e2,S2,s2,H2,I5.loop (st1:=⟨S1,H1,bif tr then ⟨H0.length + k,c.cur :: c.outer⟩ else c⟩) rfl hin.symm h1 ?_ g1,g2,g3⟩
  unfold A7g
  cases tr with
  | true =>
   have hb1:=hb rfl
   simp only [hr1,if_true,hN,hb1]
   simp only [cond_true] at hH
   rw [hH]
  | false =>
   simp only [cond_false] at hH
   simp only [Bool.false_eq_true,if_false,hr1,hH]
 | out he hq=>exact ⟨e,S1,s1,H1,I5.loopOut (st1:=⟨S1,H1,bif tr then ⟨H0.length + k,c.cur :: c.outer⟩ else c⟩) rfl hin.symm he h1 rfl,h2,hq⟩
def L9 (T:Tab) (c:Sc) (n0:Nat) (ops:List AOper) (s:B3) (H:A1) (hc:List (Option (List Nat))) (R:B3→A1→Prop):Prop :=
 ∃ n s1 H1,opers (mach T n) c n0 ops s H hc = some (s1,H1)∧R s1 H1
abbrev C3p (T:Tab) (c:Sc) (n0:Nat) (ops:List AOper) (s:B3) (H:A1) (hc:List (Option (List Nat))) (s':B3) (H':A1):Prop :=
 L9 T c n0 ops s H hc fun s1 H1=>H1 = H'∧Sub s' s1
end
section
variable {T:Tab} {s s':B3} {H0 H H':A1} {l l':List AO} {c:Sc} {n0 k0:Nat} {hc:List (Option (List Nat))} {ops:List AOper} {R:B3→A1→Prop}
theorem C19 {d:Bool} {nres:Nat} {live:List Nat} {Q:Ex→B3→A1→Prop} (k0:Nat) (s':B3) (H':A1) (hk:l.length = k0) (hl:(s'.all fun x=>live.contains x.1) = true)
  (h:C3p T c (H0.length + k0) ops s (H0++(l++List.replicate nres .dead)) [] s' H') (hQ:Q .normal s' H'):WP T (.region d nres [] ops live) s (H0++l) c Q:= by
 intro S hS
 obtain ⟨n,s1,H1,h1,rfl,h2⟩:=h
 obtain ⟨S1,h3,h4⟩:=B1w hS h1
 refine ⟨.normal,restrict S1 live,s',H1,⟨n + 1,?_⟩,?_,hQ⟩
 ·rw [V7]
  simp only [E1,publish,List.length_append,hk,← List.append_assoc] at h3 ⊢
  rw [h3]
 ·intro t v e
  rw [A4b]
  refine ⟨?_,h4 _ _ (h2 _ _ e)⟩
  rw [List.all_eq_true] at hl
  have:∀{s:B3},sget s t = some v→∃ x ∈ s,x.1 = t:= by
   intro s
   induction s with
   | nil=>intro h; simp [M3,K0] at h
   | cons x s ih =>
    intro h
    simp only [M3,K0] at h
    cases hb:Nat.beq x.1 t with
    | true=>exact ⟨x,by simp,Nat.eq_of_beq_eq_true hb⟩
    | false=>rw [hb] at h; obtain ⟨y,h1,h2⟩:=ih h; exact ⟨y,by simp [h1],h2⟩
  obtain ⟨x,hx,rfl⟩:=this e
  simpa using hl x hx
def One (T:Tab) (c:Sc) (n0:Nat) (s:B3) (H:A1) (op:AOp) (v:AV) (H':A1):Prop:=∃ n,core (mach T n) c n0 s H op = some (v,H')
theorem C2l {M M':Mach} (h:M.le M') {op:AOp} {r:AV × A1} (e:core M c n0 s H op = some r):core M' c n0 s H op = some r:=C0r h e
theorem B8m {M:Mach} {op:AOp} {d:Option Nat} {src:Nat} {v:AV} {H':A1} (e:core M c n0 s H op = some (v,H')) :
  oper M c n0 s H hc ⟨d,op,none,[],[],0,src⟩ = some (sput s d v,H',if writes op then some [] :: hc else hc):= by
 have h1:A28 n0 s H ⟨d,op,none,[],[],0,src⟩ = some []:= by simp [A28,ways]
 have h2:O6 s ⟨d,op,none,[],[],0,src⟩ hc = true:= by unfold O6; split <;> simp
 unfold oper
 simp only [wanted,h1,h2,hide,e,List.isEmpty_nil,Bool.true_or,if_true,unhide]
theorem B0p {op:AOp} {d:Option Nat} {src:Nat} {v:AV} {H1:A1} {hc':List (Option (List Nat))} (h:One T c n0 s H op v H1) (hhc:(if writes op then some [] :: hc else hc) = hc') (k:L9 T c n0 ops (sput s d v) H1 hc' R) :
  L9 T c n0 (⟨d,op,none,[],[],0,src⟩ :: ops) s H hc R:= by
 obtain ⟨n1,e1⟩:=h
 obtain ⟨n2,s1,Hf,e2,h2⟩:=k
 refine ⟨max n1 n2,s1,Hf,?_,h2⟩
 simp only [opers]
 rw [B8m (C2l (K3 T (Nat.le_max_left n1 n2)) e1)]
 simp only [hhc]
 exact Z7 (K3 T (Nat.le_max_right n1 n2)) e2
theorem A0 {op:AOp} {d src:Nat} {v:AV} {H1:A1} (h:One T c n0 s H op v H1) (hw:writes op = false) (k:L9 T c n0 ops ((d,v) :: s) H1 hc R):L9 T c n0 (⟨some d,op,none,[],[],0,src⟩ :: ops) s H hc R :=
 B0p h (by simp [hw]) k
theorem R2 {op:AOp} {d src:Nat} {v:AV} {H1:A1} (h:One T c n0 s H op v H1) (hw:writes op = true) (k:L9 T c n0 ops ((d,v) :: s) H1 (some [] :: hc) R):L9 T c n0 (⟨some d,op,none,[],[],0,src⟩ :: ops) s H hc R :=
 B0p h (by simp [hw]) k
theorem I0 {op:AOp} {src:Nat} {v:AV} {H1:A1} (h:One T c n0 s H op v H1) (hw:writes op = true) (k:L9 T c n0 ops s H1 (some [] :: hc) R):L9 T c n0 (⟨none,op,none,[],[],0,src⟩ :: ops) s H hc R :=
 B0p (d:=none) h (by simp [hw]) k
theorem D7o {d:Option Nat} {op:AOp} {t:Nat} {w g:Bool} {hid:List Nat} {hida:List (Nat × List Nat)} {inc src:Nat} (hg:sget s t = some (.lit (.bool g))) (hw:(g == w) = true) (k:L9 T c n0 (⟨d,op,none,hid,hida,inc,src⟩ :: ops) s H hc R) :
  L9 T c n0 (⟨d,op,some (t,w),hid,hida,inc,src⟩ :: ops) s H hc R:= by
 obtain ⟨n,s1,Hf,e,h⟩:=k
 refine ⟨n,s1,Hf,?_,h⟩
 simp only [opers] at e ⊢
 have:oper (mach T n) c n0 s H hc ⟨d,op,some (t,w),hid,hida,inc,src⟩ = oper (mach T n) c n0 s H hc ⟨d,op,none,hid,hida,inc,src⟩:= by
  unfold oper
  simp only [wanted,hg,hw]
  rfl
 rw [this]; exact e
theorem D4j {d:Nat} {op:AOp} {t:Nat} {w:Bool} {hid:List Nat} {hida:List (Nat × List Nat)} {inc src:Nat} (hw:wanted s (some (t,w)) = some false) (hwr:writes op = false) (k:L9 T c n0 ops ((d,.tup []) :: s) H hc R) :
  L9 T c n0 (⟨some d,op,some (t,w),hid,hida,inc,src⟩ :: ops) s H hc R:= by
 obtain ⟨n,s1,Hf,e,h⟩:=k
 refine ⟨n,s1,Hf,?_,h⟩
 simp only [opers,oper,hw,hwr,Bool.false_eq_true,if_false,sput]
 exact e
theorem O0 {d:Nat} {op:AOp} {t:Nat} {w:Bool} {hid:List Nat} {hida:List (Nat × List Nat)} {inc src:Nat} (hw:wanted s (some (t,w)) = some false) (hwr:writes op = true) (k:L9 T c n0 ops ((d,.tup []) :: s) H (none :: hc) R) :
  L9 T c n0 (⟨some d,op,some (t,w),hid,hida,inc,src⟩ :: ops) s H hc R:= by
 obtain ⟨n,s1,Hf,e,h⟩:=k
 refine ⟨n,s1,Hf,?_,h⟩
 simp only [opers,oper,hw,hwr,if_true,sput]
 exact e
theorem gT {d:Option Nat} {op:AOp} {t:Nat} {g:Bool} {hid:List Nat} {hida:List (Nat × List Nat)} {inc src:Nat} (hg:sget s t = some (.lit (.bool g))) (hw:g = true) (k:L9 T c n0 (⟨d,op,none,hid,hida,inc,src⟩ :: ops) s H hc R) :
  L9 T c n0 (⟨d,op,some (t,true),hid,hida,inc,src⟩ :: ops) s H hc R:=D7o hg (by rw [hw]; rfl) k
theorem gF {d:Option Nat} {op:AOp} {t:Nat} {g:Bool} {hid:List Nat} {hida:List (Nat × List Nat)} {inc src:Nat} (hg:sget s t = some (.lit (.bool g))) (hw:g = false) (k:L9 T c n0 (⟨d,op,none,hid,hida,inc,src⟩ :: ops) s H hc R) :
  L9 T c n0 (⟨d,op,some (t,false),hid,hida,inc,src⟩ :: ops) s H hc R:=D7o hg (by rw [hw]; rfl) k
theorem nT {d:Nat} {op:AOp} {t:Nat} {g:Bool} {hid:List Nat} {hida:List (Nat × List Nat)} {inc src:Nat} (hg:sget s t = some (.lit (.bool g))) (hw:g = false) (hwr:writes op = false) (k:L9 T c n0 ops ((d,.tup []) :: s) H hc R) :
  L9 T c n0 (⟨some d,op,some (t,true),hid,hida,inc,src⟩ :: ops) s H hc R:=D4j (by simp only [wanted,hg,hw]; rfl) hwr k
theorem nF {d:Nat} {op:AOp} {t:Nat} {g:Bool} {hid:List Nat} {hida:List (Nat × List Nat)} {inc src:Nat} (hg:sget s t = some (.lit (.bool g))) (hw:g = true) (hwr:writes op = false) (k:L9 T c n0 ops ((d,.tup []) :: s) H hc R) :
  L9 T c n0 (⟨some d,op,some (t,false),hid,hida,inc,src⟩ :: ops) s H hc R:=D4j (by simp only [wanted,hg,hw]; rfl) hwr k
theorem nX {d:Nat} {op:AOp} {t:Nat} {w:Bool} {hid:List Nat} {hida:List (Nat × List Nat)} {inc src:Nat} (hg:sget s t = some (.tup [])) (hwr:writes op = false) (k:L9 T c n0 ops ((d,.tup []) :: s) H hc R) :
  L9 T c n0 (⟨some d,op,some (t,w),hid,hida,inc,src⟩ :: ops) s H hc R:=D4j (by simp only [wanted,hg]) hwr k
theorem G7 {t:Nat} {w g:Bool} (hg:sget s t = some (.lit (.bool g))) (hw:(g == w) = false):wanted s (some (t,w)) = some false:= by
 simp only [wanted,hg,hw]
theorem B15 {t:Nat} {w:Bool} (hg:sget s t = some (.tup [])):wanted s (some (t,w)) = some false:= by
 simp only [wanted,hg]
def S3 (l:List AO):List Nat→List AO
 | []=>l
 | j :: js=>(S3 l js).set j .dead
def R8 (l m:List AO):List Nat→List AO
 | []=>m
 | j :: js=>match l[j]? with
  | some o=>(R8 l m js).set j o
  | none=>R8 l m js
theorem B22 (H0:A1) (l:List AO):∀js:List Nat,hide (H0++l) (js.map (H0.length + ·)) = H0++S3 l js
 | []=>rfl
 | j :: js=>by
  simp only [List.map_cons,hide,B22 H0 l js,S3,hset]
  rw [List.set_append_right _ _ (Nat.le_add_right _ _)]; congr 2; omega
theorem B9n (H0:A1) (l m:List AO):∀js:List Nat,unhide (H0++l) (H0++m) (js.map (H0.length + ·)) = H0++R8 l m js
 | []=>rfl
 | j :: js=>by
  have h1:hget (H0++l) (H0.length + j) = l[j]?:= by
   unfold hget; rw [List.getElem?_append_right (Nat.le_add_right _ _)]; congr 1; omega
  simp only [List.map_cons,unhide,R8,h1,B9n H0 l m js]
  cases l[j]? with
  | none=>rfl
  | some o=>simp only [hset]; rw [List.set_append_right _ _ (Nat.le_add_right _ _)]; congr 2; omega
theorem D4h {op:AOp} {d:Option Nat} {hid:List Nat} {hida:List (Nat × List Nat)} {inc src:Nat} {v:AV} {l1:List AO} (js:List Nat) (hhs:A28 n0 s (H0++l) ⟨d,op,none,hid,hida,inc,src⟩ = some (js.map (H0.length + ·))) (hseen:O6 s ⟨d,op,none,hid,hida,inc,src⟩ hc = true)
  (h:One T c n0 s (H0++S3 l js) op v (H0++l1)) (hle:Nat.ble l.length l1.length = true) (k:L9 T c n0 ops (sput s d v) (H0++R8 l l1 js) (bif writes op then some (js.map (H0.length + ·)) :: hc else hc) R) :
  L9 T c n0 (⟨d,op,none,hid,hida,inc,src⟩ :: ops) s (H0++l) hc R:= by
 obtain ⟨n1,e1⟩:=h
 obtain ⟨n2,s1,Hf,e2,h2⟩:=k
 refine ⟨max n1 n2,s1,Hf,?_,h2⟩
 have e1':=C2l (K3 T (Nat.le_max_left n1 n2)) e1
 have hle':Nat.ble (H0++l).length (H0++l1).length = true:=Nat.ble_eq_true_of_le (by have:=Nat.le_of_ble_eq_true hle; simp; omega)
 simp only [opers,oper,wanted,hhs,hseen,B22,e1',hle',Bool.or_true,if_true,B9n]
 cases hw:writes op with
 | true=>simp only [hw,cond_true] at e2; simp only [if_true]; exact Z7 (K3 T (Nat.le_max_right n1 n2)) e2
 | false=>simp only [hw,cond_false] at e2; simp only [Bool.false_eq_true,if_false]; exact Z7 (K3 T (Nat.le_max_right n1 n2)) e2
theorem A78 (l:List AO):∀js:List Nat,(S3 l js).length = l.length
 | []=>rfl
 | j :: js=>by simp only [S3,List.length_set,A78 l js]
theorem A55 (l m:List AO) (h:m.length = l.length):∀js:List Nat,(R8 l m js).length = l.length
 | []=>h
 | j :: js=>by
  simp only [R8]
  cases l[j]? with
  | none=>exact A55 l m h js
  | some o=>simp only [List.length_set]; exact A55 l m h js
theorem C1b (l:List AO):∀(js:List Nat) (i:Nat),i ∉ js→(S3 l js)[i]? = l[i]?
 | [],_,_=>rfl
 | j :: js,i,h=>by
  simp only [List.mem_cons,not_or] at h
  simp only [S3]
  rw [List.getElem?_set_ne (fun e=>h.1 e.symm)]
  exact C1b l js i h.2
theorem B56 (l m:List AO) (hm:m.length = l.length):∀(js:List Nat) (i:Nat),(i ∈ js→(R8 l m js)[i]? = l[i]?)∧(i ∉ js→(R8 l m js)[i]? = m[i]?)
 | [],_=>⟨fun h=>by simp at h,fun _=>rfl⟩
 | j :: js,i=>by
  have ih:=B56 l m hm js i
  have hlen:=A55 l m hm js
  simp only [R8]
  by_cases hij:j = i
  ·subst hij
   constructor
   ·intro _
    cases hl:l[j]? with
    | none =>
     simp only
     rw [List.getElem?_eq_none]
     rw [hlen]; exact List.getElem?_eq_none_iff.1 hl
    | some o =>
     simp only
     have:=(List.getElem?_eq_some_iff.1 hl).1
     rw [List.getElem?_set_self (by rw [hlen]; exact this)]
   ·intro h; simp at h
  ·have e:∀o,((R8 l m js).set j o)[i]? = (R8 l m js)[i]?:=fun o=>List.getElem?_set_ne hij
   cases l[j]? with
   | none=>simp only [List.mem_cons]; exact ⟨fun h=>ih.1 (h.resolve_left fun e=>hij e.symm),fun h=>ih.2 fun k=>h (.inr k)⟩
   | some o=>simp only [List.mem_cons,e]; exact ⟨fun h=>ih.1 (h.resolve_left fun e=>hij e.symm),fun h=>ih.2 fun k=>h (.inr k)⟩
theorem C6g (l:List AO) (js:List Nat):R8 l (S3 l js) js = l:= by
 apply List.ext_getElem?
 intro i
 have h:=B56 l (S3 l js) (A78 l js) js i
 by_cases hi:i ∈ js
 ·exact h.1 hi
 ·rw [h.2 hi,C1b l js i hi]
theorem K4 {op:AOp} {d:Nat} {hid:List Nat} {hida:List (Nat × List Nat)} {inc src:Nat} {v:AV} (js:List Nat) (hhs:A28 n0 s (H0++l) ⟨some d,op,none,hid,hida,inc,src⟩ = some (js.map (H0.length + ·))) (hseen:O6 s ⟨some d,op,none,hid,hida,inc,src⟩ hc = true)
  (h:One T c n0 s (H0++S3 l js) op v (H0++S3 l js)) (hw:writes op = false) (k:L9 T c n0 ops ((d,v) :: s) (H0++l) hc R) :
  L9 T c n0 (⟨some d,op,none,hid,hida,inc,src⟩ :: ops) s (H0++l) hc R :=
 D4h js hhs hseen h (by rw [A78]; exact Nat.ble_eq_true_of_le (Nat.le_refl _)) (by rw [C6g,hw]; exact k)
theorem A4a {op:AOp} {d:Option Nat} {hid:List Nat} {hida:List (Nat × List Nat)} {inc src:Nat} {v:AV} {l1:List AO} (js:List Nat) (l2:List AO) (hhs:A28 n0 s (H0++l) ⟨d,op,none,hid,hida,inc,src⟩ = some (js.map (H0.length + ·))) (hseen:O6 s ⟨d,op,none,hid,hida,inc,src⟩ hc = true)
  (h:One T c n0 s (H0++S3 l js) op v (H0++l1)) (hle:Nat.ble l.length l1.length = true) (hw:writes op = true) (e:R8 l l1 js = l2) (k:L9 T c n0 ops (sput s d v) (H0++l2) (some (js.map (H0.length + ·)) :: hc) R) :
  L9 T c n0 (⟨d,op,none,hid,hida,inc,src⟩ :: ops) s (H0++l) hc R :=
 D4h js hhs hseen h hle (by rw [e,hw]; exact k)
theorem F8 {s:B3} {H:A1}:ways s H [] = some []:=rfl
theorem A20 {s:B3} {H:A1} {t b b':Nat} {p:List Nat} {l:List (Nat × List Nat)} {bs:List Nat} (h:(sget s t).bind AV.box? = some b) (hf:follow H b p = some b') (k:ways s H l = some bs):ways s H ((t,p) :: l) = some (b' :: bs):= by
 simp only [ways,h,hf,k]
theorem A0z {H:A1} {b:Nat}:follow H b [] = some b:=rfl
theorem C8q (H0:A1) (l:List AO) {js:List Nat} (h:(js.all fun j=>Nat.blt j l.length) = true):((js.map (H0.length + ·)).all fun b=>Nat.blt b (H0++l).length) = true:= by
 rw [List.all_eq_true] at h ⊢
 intro b hb
 simp only [List.mem_map] at hb
 obtain ⟨j,hj,rfl⟩:=hb
 have:=Nat.le_of_ble_eq_true (h j hj)
 exact Nat.ble_eq_true_of_le (by simp; omega)
def A6o (l:List AO) (j:Nat):Bool:=match l[j]? with
 | some (.stk _ _ _) | some (.ro (.stk _ _ _))=>false
 | _=>true
theorem B34 (H0:A1) {l:List AO} {j:Nat} (h:A6o l j = true):∀{jh:List Nat},hstk (H0++S3 l jh) (H0.length + j) = none
 | []=>by
  unfold A6o at h
  unfold hstk hget
  rw [List.getElem?_append_right (Nat.le_add_right _ _),Nat.add_sub_cancel_left]
  simp only [S3]
  split at h
  ·cases h
  ·cases h
  ·next h1 h2 =>
   split
   ·next hq=>exact absurd hq (h1 _ _ _)
   ·next hq=>exact absurd hq (h2 _ _ _)
   ·rfl
 | i :: jh=>by
  have e:H0++S3 l (i :: jh) = hset (H0++S3 l jh) (H0.length + i) .dead:= by
   simp only [S3,hset]
   rw [List.set_append_right _ _ (Nat.le_add_right _ _)]; congr 2; omega
  rw [e]
  exact X2 rfl (B34 H0 h)
theorem P1 {op:AOp} {d:Option Nat} {g:Option (Nat × Bool)} {hid:List Nat} {hida:List (Nat × List Nat)} {inc src:Nat} {bs js:List Nat} {k0:Nat} (jh:List Nat) (ejh:hid.map (H0.length + k0 + ·) = jh.map (H0.length + ·)) (hw:ways s (H0++S3 l jh) hida = some bs) (e:jh.map (H0.length + ·)++bs = js.map (H0.length + ·)) (hall:(js.all fun j=>Nat.blt j l.length && A6o l j) = true) :
  A28 (H0.length + k0) s (H0++l) ⟨d,op,g,hid,hida,inc,src⟩ = some (js.map (H0.length + ·)):= by
 have h1:(js.all fun j=>Nat.blt j l.length) = true:= by
  rw [List.all_eq_true] at hall ⊢
  intro j hj
  have:=hall j hj
  rw [Bool.and_eq_true] at this
  exact this.1
 have h2:(bs.all fun b=>(hstk (H0++S3 l jh) b).isNone) = true:= by
  rw [List.all_eq_true] at hall ⊢
  intro b hb
  have hm:b ∈ js.map (H0.length + ·):= by rw [← e]; exact List.mem_append_right _ hb
  obtain ⟨j,hj,rfl⟩:=List.mem_map.1 hm
  have:=hall j hj
  rw [Bool.and_eq_true] at this
  rw [B34 H0 this.2]; rfl
 unfold A28
 simp only [ejh,B22,hw,e,C8q H0 l h1,h2,Bool.or_true,Bool.and_self,if_true]
theorem seen0 {o:AOper} (h:o.inc = 0):O6 s o hc = true:= by
 unfold O6; split
 ·rfl
 ·simp [h]
theorem A46 {o:AOper} {b:Nat} (hb:rbox s o.op = some b) (h:((hc.take o.inc).all fun e=>match e with | none=>true | some hs=>hs.contains b) = true):O6 s o hc = true:= by
 unfold O6; rw [hb]; exact h
theorem T6 (N:Nat) {js:List Nat} {j:Nat} (h:js.contains j = true):(js.map (N + ·)).contains (N + j) = true:= by
 simp only [List.contains_iff_mem,List.mem_map] at h ⊢
 exact ⟨j,h,rfl⟩
theorem D6k {α β:Type} {o:Option α} {f:α→Option β} {r:β} (h:o.bind f = some r):∃x,o = some x∧f x = some r:= by
 cases o with
 | none=>cases h
 | some x=>exact ⟨x,rfl,h⟩
def calm:List AOper→Bool
 | []=>true
 | o :: l=>Nat.beq o.inc 0 && calm l
theorem D1b {M:Mach} {o:AOper} (ho:Nat.beq o.inc 0 = true) (hc hc':List (Option (List Nat))) {x:B3 × A1 × List (Option (List Nat))} (e:oper M c n0 s H hc o = some x):∃hc1,oper M c n0 s H hc' o = some (x.1,x.2.1,hc1):= by
 have hz:o.inc = 0:=Nat.eq_of_beq_eq_true ho
 have h2:∀hc,O6 s o hc = true:= by intro hc; unfold O6; split <;> simp [hz]
 unfold oper at e ⊢
 split at e
 ·cases e
 ·simp only [Option.some.injEq] at e; subst e; exact ⟨_,rfl⟩
 ·rw [h2] at e ⊢
  split at e
  ·next hs _ e1 _ =>
   try simp only [e1]
   split at e
   ·next r e3 =>
    try simp only [e3]
    split at e
    ·next e4=>simp only [Option.some.injEq] at e; subst e; simp only [e4,if_true]; exact ⟨_,rfl⟩
    ·cases e
   ·cases e
  ·cases e
theorem B8o {M:Mach}:∀{l:List AOper} (_:calm l = true) {s:B3} {H:A1} (hc hc':List (Option (List Nat))) {r:B3 × A1},opers M c n0 l s H hc = some r→opers M c n0 l s H hc' = some r
 | [],_,_,_,_,_,_,e=>e
 | o :: l,h,s,H,hc,hc',r,e=>by
  simp only [calm,Bool.and_eq_true] at h
  simp only [opers] at e ⊢
  split at e
  ·cases e
  ·next s1 H1 hc1 e1 =>
   obtain ⟨hc2,e2⟩:=D1b h.1 hc hc' e1
   simp only [e2]
   exact B8o h.2 _ _ e
theorem C1s (M:Mach):∀(l m:List AOper) (s:B3) (H:A1) (hc:List (Option (List Nat))),opers M c n0 (l++m) s H hc = (opers3 M c n0 l (s,H,hc)).bind fun x=>opers M c n0 m x.1 x.2.1 x.2.2
 | [],m,s,H,hc=>rfl
 | o :: l,m,s,H,hc=>by
  simp only [List.cons_append,opers,opers3]
  cases oper M c n0 s H hc o with
  | none=>rfl
  | some y=>exact C1s M l m y.1 y.2.1 y.2.2
theorem B4v (n:Nat) (s1:B3) (H1:A1) (hq:calm (ops.drop n) = true) (h1:C3p T c n0 (ops.take n) s H hc s1 H1) (hR:∀a b H,Sub a b→R a H→R b H) (h2:L9 T c n0 (ops.drop n) s1 H1 [] R):L9 T c n0 ops s H hc R:= by
 obtain ⟨n1,t1,_,e1,rfl,r1⟩:=h1
 obtain ⟨n2,t2,H',e2,r2⟩:=h2
 have e1':=Z7 (K3 T (Nat.le_max_left n1 n2)) e1
 have e2':=Z7 (K3 T (Nat.le_max_right n1 n2)) e2
 obtain ⟨S2,e3,r3⟩:=B1w r1 e2'
 refine ⟨max n1 n2,S2,H',?_,hR _ _ _ r3 r2⟩
 have h3:=B4t (mach T (max n1 n2)) c n0 (ops.take n) (s,H,hc)
 simp only at h3
 rw [e1'] at h3
 cases h4:opers3 (mach T (max n1 n2)) c n0 (ops.take n) (s,H,hc) with
 | none=>rw [h4] at h3; cases h3
 | some y =>
  rw [h4] at h3
  simp only [Option.map_some,Option.some.injEq,Prod.mk.injEq] at h3
  have h5:opers (mach T (max n1 n2)) c n0 (ops.take n++ops.drop n) s H hc = some (S2,H'):= by
   rw [C1s,h4]
   simp only [Option.bind_some,← h3.1,← h3.2]
   exact B8o hq _ _ e3
  rw [List.take_append_drop] at h5
  exact h5
def RG (live:List Nat) (Q:Ex→B3→A1→Prop) (s:B3) (H:A1):Prop:=∃ s',Sub s' s∧(s'.all fun x=>live.contains x.1) = true∧Q .normal s' H
theorem B9r {d:Bool} {nres:Nat} {live:List Nat} {Q:Ex→B3→A1→Prop} (k0:Nat) (hk:l.length = k0)
  (h:L9 T c (H0.length + k0) ops s (H0++(l++List.replicate nres .dead)) [] (RG live Q)):WP T (.region d nres [] ops live) s (H0++l) c Q:= by
 obtain ⟨n,s1,H1,h1,s',h2,h3,h4⟩:=h
 exact C19 k0 s' H1 hk h3 ⟨n,s1,H1,h1,rfl,h2⟩ h4
structure InlQ (T:Tab) (c:Sc) (n0 N:Nat) (rv:List ARes) (own:List (List (Nat × Nat))) (d:Nat) (ops:List AOper) (s:B3) (hc:List (Option (List Nat))) (R:B3→A1→Prop) (e:Ex) (s1:B3) (H2:A1):Prop where
 he:(match e with | .exit _=>False | _=>True)
 hr:∃rs0 rs H3 vs H4,results s1 H2 rv = some rs0∧Q7 N H2 rs0 = some (rs,H3)∧X1 n0 (trunc N rs H3) rs own = (vs,H4)∧L9 T c n0 ops ((d,packed vs) :: s) H4 (some [] :: hc) R
theorem B7w {own:List (List (Nat × Nat))} {H:A1} {aq:List AV} {r:List AV × A1} (hl:lend own = false) (hz:R9 H aq = some r):A0t own H aq = some r:= by
 unfold A0t; rw [hl]; exact hz
theorem A3x {f:Opd} {args:List Opd} {own:List (List (Nat × Nat))} {d src i N:Nat} {first cap aq as' as2:List AV} {af:AFunc} {H1:A1} (hf:ev s f = some (.fn (.func i) first cap)) (ha:evs s args = some aq) (hz0:R9 H aq = some (as',H1)) (haf:T i = some af) (has:first++as'++cap = as2) (hn:(Nat.beq as2.length af.nargs && Nat.blt af.nargs 1000) = true) (hN:H1.length = N)
  (h:WP T af.body (J0 0 as2) H1 ⟨N,c.cur :: c.outer⟩ (InlQ T c n0 N af.results own d ops s hc R)) (hl0:lend own = false:= by rfl):L9 T c n0 (⟨some d,.call f args own false,none,[],[],0,src⟩ :: ops) s H hc R:= by
 have hz:=B7w hl0 hz0
 obtain ⟨e,S',s',H',h1,h2,h3,rs0,rs,H3,vs,H4,h4,h5,h6,n2,s2,H5,h7,h8⟩:=h _ (Sub.refl _)
 subst hN
 have hcall:=G8.fn (c:=c) (H:=H1) (f:=.fn (.func i) first cap) (args:=as') (rs:=rs) (rs1:=rs) (rs0:=rs0) rfl haf rfl has.symm hn rfl h1 (by cases e <;> first | rfl | exact h3.elim) (P5 h2 h4) h5 rfl rfl
 obtain ⟨n1,e1⟩:=hcall
 refine ⟨max n1 n2,s2,H5,?_,h8⟩
 have e1':=(K3 T (Nat.le_max_left n1 n2)).call _ _ _ _ _ e1
 have e2':=Z7 (K3 T (Nat.le_max_right n1 n2)) h7
 simp only [opers]
 rw [B8m (v:=packed vs) (H':=H4) (by simp only [core,U4,hf,ha,Bool.false_eq_true,if_false,hz,e1',h6])]
 simp only [writes,Bool.not_false,if_true,sput]
 exact e2'
structure InlH (T:Tab) (c:Sc) (n0 N:Nat) (rv:List ARes) (own:List (List (Nat × Nat))) (d:Nat) (ops:List AOper) (s:B3) (hc:List (Option (List Nat))) (R:B3→A1→Prop) (js:List Nat) (H0:A1) (l l2:List AO) (e:Ex) (s1:B3) (H2:A1):Prop where
 he:(match e with | .exit _=>False | _=>True)
 hr:∃rs0 rs H3 vs l4,results s1 H2 rv = some rs0∧Q7 N H2 rs0 = some (rs,H3)∧X1 n0 (trunc N rs H3) rs own = (vs,H0++l4)∧Nat.ble l.length l4.length = true∧R8 l l4 js = l2∧L9 T c n0 ops ((d,packed vs) :: s) (H0++l2) (some (js.map (H0.length + ·)) :: hc) R
end
section
variable {H0:A1} {l:List AO} {j:Nat}
theorem N9 (H0:A1) (l:List AO) (j:Nat):hget (H0++l) (H0.length + j) = l[j]?:= by
 unfold hget; rw [List.getElem?_append_right (Nat.le_add_right _ _)]; congr 1; omega
theorem F2 (H0:A1) (l:List AO) (j:Nat) (o:AO):hset (H0++l) (H0.length + j) o = H0++l.set j o:= by
 unfold hset; rw [List.set_append_right _ _ (Nat.le_add_right _ _)]; congr 2; omega
theorem C1a {b:Nat} {o:AO} (h:hget H0 b = some o) (l:List AO):hget (H0++l) b = some o:= by
 unfold hget at h ⊢
 have:=List.getElem?_eq_some_iff.1 h
 rw [List.getElem?_append_left this.1]; exact h
theorem D7 {cs:List AV} (h:l[j]? = some (.cells cs)):hcells (H0++l) (H0.length + j) = some cs:= by
 unfold hcells; rw [N9,h]
theorem A4h {cs:List AV} (h:l[j]? = some (.cells cs)):V0 (H0++l) (H0.length + j) = some cs:= by
 unfold V0; rw [N9,h]
theorem N6 {b:Nat} {cs:List AV} (h:hcells H0 b = some cs) (l:List AO):hcells (H0++l) b = some cs:= by
 unfold hcells at h ⊢
 split at h
 ·next e=>rw [C1a e]; exact h
 ·next e=>rw [C1a e]; exact h
 ·cases h
theorem B0f (H:A1) (b:Nat):hcells (H.map AO.toRo) b = hcells H b:= by
 unfold hcells hget
 rw [List.getElem?_map]
 cases h:H[b]? with
 | none=>rfl
 | some o=>cases o <;> first | rfl | (next o=>cases o <;> rfl)
theorem S0 {k:Nat} {p:Bool} {rows:List (List AV)} (h:l[j]? = some (.arr k p rows)):harr (H0++l) (H0.length + j) = some (k,p,rows):= by
 unfold harr; rw [N9,h]
theorem Q9 {k:Nat} {p:Bool} {rows:List (List AV)} (h:l[j]? = some (.arr k p rows)):A00 (H0++l) (H0.length + j) = some (k,p,rows):= by
 unfold A00; rw [N9,h]
theorem A0h (H0:A1) (l:List AO) (k:Nat):(H0++l).take (H0.length + k) = H0++l.take k:= by
 rw [List.take_append,List.take_of_length_le (Nat.le_add_right _ _)]; simp
end
def cI (n:Int):List AV:=[.lit (.int .i64 n)]
def cS (s:ByteArray):List AV:=[.lit (.string s)]
def cL (k:Nat) {α:Type} (f:α→List AV) (l:List α):List AV:=[.seq k (l.map f)]
structure IArr (n:Nat) where
 l:List Int
 h:l.length = n
theorem IArr.ext {n:Nat} {a b:IArr n} (h:a.l = b.l):a = b:= by cases a; cases b; simp only at h; subst h; rfl
instance {n:Nat}:DecidableEq (IArr n):=fun a b=>if h:a.l = b.l then isTrue (IArr.ext h) else isFalse fun e=>h (by rw [e])
def IArr.zero (n:Nat):IArr n:=⟨List.replicate n 0,List.length_replicate⟩
def IArr.set {n:Nat} (a:IArr n) (i x:Int):IArr n:=⟨a.l.set i.toNat x,by rw [List.length_set]; exact a.h⟩
abbrev w64 (n:Int):Int:=IntKind.i64.wrap n
def idx {α:Type} (l:List α) (i:Int):Option α:=if 0≤i then l[i.toNat]? else none
def B11 {α:Type} (l:List α) (i:Int) (x:α):List α:=l.set i.toNat x
def app {α:Type} (bytes:Nat) (l m:List α):Option (List α):=if (l.length + m.length) * bytes≤1099511627776∧l.length + m.length≤1099511627776 then some (l++m) else none
def slc {α:Type} (l:List α) (lo hi:Int):Option (List α):=if 0≤lo∧lo≤hi∧hi≤l.length then some ((l.take hi.toNat).drop lo.toNat) else none
def B30 (s:ByteArray) (i:Int):Option Int:=if 0≤i then (s[i.toNat]?).map fun c=>(c.toNat:Int) else none
def C1l {α:Type} (bytes:Nat) (n:Int) (z:α):Option (List α):=if 0≤n∧n * bytes≤1099511627776∧n≤1099511627776 then some (List.replicate n.toNat z) else none
def C0e (k:IntKind) (a b:Int):Option Int:=if b < 0 then none else some (k.wrap (a * 2 ^ (min b.toNat k.bits)))
def B9b (k:IntKind) (a b:Int):Option Int:=if b < 0 then none else some (a.fdiv (2 ^ (min b.toNat k.bits)))
def B1f (a b:Int):Int:=w64 (BitVec.ofInt 64 a &&& BitVec.ofInt 64 b).toNat
def orI (a b:Int):Int:=w64 (BitVec.ofInt 64 a ||| BitVec.ofInt 64 b).toNat
def B2b (a b:Int):Int:=w64 (BitVec.ofInt 64 a &&& ~~~ BitVec.ofInt 64 b).toNat
def A9i (x y:Int):Int:=if y > x then y else x
def eqS (x y:ByteArray):Bool:=x.data.toList == y.data.toList
section
variable {T:Tab} {s:B3} {H0 H:A1} {l:List AO} {c:Sc} {n0 k0:Nat} {R:B3→A1→Prop}
theorem E3c {x:Opd} {v:AV} (h:ev s x = some v):One T c n0 s H (.mv x) v H:=⟨0,by simp [core,prim,h]⟩
theorem C7 {x a b:Opd} {g:Bool} {v:AV} (h:ev s x = some (.lit (.bool g))) (hg:g = true) (ha:ev s a = some v):One T c n0 s H (.pick x a b) v H:=⟨0,by subst hg; simp [core,prim,h,ha]⟩
theorem C6 {x a b:Opd} {g:Bool} {v:AV} (h:ev s x = some (.lit (.bool g))) (hg:g = false) (ha:ev s b = some v):One T c n0 s H (.pick x a b) v H:=⟨0,by subst hg; simp [core,prim,h,ha]⟩
theorem qm {hc:List (Option (List Nat))} {ops:List AOper} {d src:Nat} {x:Opd} {v:AV} (h:ev s x = some v) (k:L9 T c n0 ops ((d,v) :: s) H hc R):L9 T c n0 (⟨some d,.mv x,none,[],[],0,src⟩ :: ops) s H hc R:=A0 (E3c h) rfl k
theorem A3e {k r:Nat}:One T c (H0.length + k0) s (H0++l) (.nil k r) (.asl (H0.length + (k0 + r)) 0) (H0++l.set (k0 + r) (.arr k false [])) :=
 ⟨0,by simp only [core,prim,Nat.add_assoc,F2]⟩
theorem E4 {zs:List AV} {r:Nat}:One T c (H0.length + k0) s (H0++l) (.alloc zs [] r) (.ptr (H0.length + (k0 + r)) 0) (H0++l.set (k0 + r) (.cells zs)) :=
 ⟨0,by simp only [core,prim,N7,Nat.add_assoc,F2]⟩
theorem C5h {zs:List AV} {j q k r:Nat}:One T c (H0.length + k0) s (H0++l) (.alloc zs [(j,q,k)] r) (.ptr (H0.length + (k0 + r)) 0) (H0++(l.set (k0 + q) (.arr k false [])).set (k0 + r) (.cells (zs.set j (.asl (H0.length + (k0 + q)) 0)))) :=
 ⟨0,by simp only [core,prim,N7,Nat.add_assoc,F2]⟩
theorem F6 {n r:Nat} {x:Opd} {v:AV} {cs:List AV} (h:ev s x = some v) (hc:v.cellsOf = cs) (hn:Nat.beq cs.length n = true):One T c (H0.length + k0) s (H0++l) (.box n x r) (.ptr (H0.length + (k0 + r)) 0) (H0++l.set (k0 + r) (.cells cs)) :=
 ⟨0,by subst hc; simp only [core,prim,h,hn,if_true,Nat.add_assoc,F2]⟩
theorem L6 {z cs:List AV} {parts:List (Nat × Nat × Opd)} {ps:List (Nat × Nat × AV)} (h1:T8 s parts = some ps) (h2:A8q z ps = some cs):One T c n0 s H (.build z parts) (.agg cs) H:=⟨0,by simp [core,prim,h1,h2]⟩
theorem G2 {k n:Nat} {z:List AV} {parts:List (Nat × Opd)} {ps:List (Nat × AV)} {rows:List (List AV)} (h1:K8 s parts = some ps) (h2:A3q k (List.replicate n z) ps = some rows) (h3:B2w rows = true):One T c n0 s H (.lits k z n parts none) (.seq k rows) H :=
 ⟨0,by simp [core,prim,h1,h2,h3]⟩
theorem B3c {k n r:Nat} {z:List AV} {parts:List (Nat × Opd)} {ps:List (Nat × AV)} {rows:List (List AV)} (h1:K8 s parts = some ps) (h2:A3q k (List.replicate n z) ps = some rows) (h3:B2w rows = true) :
  One T c (H0.length + k0) s (H0++l) (.lits k z n parts (some r)) (.asl (H0.length + (k0 + r)) n) (H0++l.set (k0 + r) (.arr k false rows)) :=
 ⟨0,by simp [core,prim,h1,h2,h3,Nat.add_assoc,F2]⟩
theorem C8 {a:Opd} {j o:Nat} {cs:List AV} {x:AV} (h:ev s a = some (.ptr (H0.length + j) o)) (hl:l[j]? = some (.cells cs)) (hd:(cs.drop o).head? = some x):One T c n0 s (H0++l) (.load none a) x (H0++l) :=
 ⟨0,by
  simp only [core,prim,h,G5,D7 hl]
  cases hc:cs.drop o with
  | nil=>simp [hc] at hd
  | cons y t=>simp only [hc,List.head?_cons,Option.some.injEq] at hd; subst hd; rfl⟩
theorem I8 {a:Opd} {j o k:Nat} {cs ds:List AV} (h:ev s a = some (.ptr (H0.length + j) o)) (hl:l[j]? = some (.cells cs)) (hk:Nat.ble k (cs.drop o).length = true) (hd:(cs.drop o).take k = ds):One T c n0 s (H0++l) (.load (some k) a) (.agg ds) (H0++l) :=
 ⟨0,by simp only [core,prim,h,G5,D7 hl,hk,if_true,hd]⟩
theorem R5 {a:Opd} {b o:Nat} {cs:List AV} {x:AV} (h:ev s a = some (.ptr b o)) (hl:hcells H0 b = some cs) (hd:(cs.drop o).head? = some x):One T c n0 s (H0++l) (.load none a) x (H0++l) :=
 ⟨0,by
  simp only [core,prim,h,G5,N6 hl]
  cases hc:cs.drop o with
  | nil=>simp [hc] at hd
  | cons y t=>simp only [hc,List.head?_cons,Option.some.injEq] at hd; subst hd; rfl⟩
theorem E9 {a:Opd} {cs:List AV} {x:AV} (h:ev s a = some (.cptr cs)) (hd:cs.head? = some x):One T c n0 s H (.load none a) x H :=
 ⟨0,by
  simp only [core,prim,h,G5]
  cases cs with
  | nil=>simp at hd
  | cons y t=>simp only [List.head?_cons,Option.some.injEq] at hd; subst hd; rfl⟩
theorem D36 {a:Opd} {k:Nat} {cs ds:List AV} (h:ev s a = some (.cptr cs)) (hk:Nat.ble k cs.length = true) (hd:cs.take k = ds):One T c n0 s H (.load (some k) a) (.agg ds) H :=
 ⟨0,by simp only [core,prim,h,G5,hk,if_true,hd]⟩
theorem B0m {a:Opd} {j n i o k:Nat} {p:Bool} {rows:List (List AV)} {r:List AV} {x:AV} (h:ev s a = some (.eptr (H0.length + j) n i o)) (hl:l[j]? = some (.arr k p rows)) (hn:rows.length = n) (hr:rows[i]? = some r) (hd:(r.drop o).head? = some x):One T c n0 s (H0++l) (.load none a) x (H0++l) :=
 ⟨0,by
  simp only [core,prim,h,G5,S0 hl,hn,Nat.beq_refl,if_true,hr]
  cases hc:r.drop o with
  | nil=>simp [hc] at hd
  | cons y t=>simp only [hc,List.head?_cons,Option.some.injEq] at hd; subst hd; rfl⟩
theorem C5 {b:Nat}:∀{vs:List AV},vs.all AV.plain = true→c.okL b vs = true
 | [],_=>rfl
 | v :: vs,h=>by
  simp only [List.all_cons,Bool.and_eq_true] at h
  simp only [Sc.okL,Sc.ok,h.1,C5 h.2,Bool.or_true,Bool.true_or,Bool.and_self]
theorem Q5 {b:Nat} (hb:c.cur≤b):∀{vs:List AV},c.okL b vs = true
 | []=>rfl
 | v :: vs=>by simp only [Sc.okL,Sc.ok,Nat.ble_eq_true_of_le hb,Bool.true_or,Q5 hb,Bool.and_self]
theorem D1 {a x:Opd} {j o k:Nat} {cs ds:List AV} {v:AV} (h:ev s a = some (.ptr (H0.length + j) o)) (hv:ev s x = some v) (hl:l[j]? = some (.cells cs)) (hk:(Nat.beq v.cellsOf.length k && Nat.ble (o + k) cs.length) = true) (hok:c.okL (H0.length + j) v.cellsOf = true) (hd:splice cs o v.cellsOf = ds) :
  One T c n0 s (H0++l) (.store k a x) (.tup []) (H0++l.set j (.cells ds)) :=
 ⟨0,by simp only [core,prim,h,hv,A4h hl,hk,hok,Bool.and_self,if_true,hd,F2]⟩
theorem B1k {H:A1}:∀{vs:List AV},vs.all AV.plain = true→X0 H vs = some (vs,H)
 | [],_=>rfl
 | v :: vs,h=>by
  simp only [List.all_cons,Bool.and_eq_true] at h
  have:frv H v = some (v,H):= by cases v <;> first | rfl | (simp [AV.plain] at h)
  simp only [X0,this,B1k h.2]
theorem C5l {a x:Opd} {j n i o k kk:Nat} {rows:List (List AV)} {r ds:List AV} {v:AV} (h:ev s a = some (.eptr (H0.length + j) n i o)) (hv:ev s x = some v) (hp:v.cellsOf.all AV.plain = true) (hz:v.cellsOf.all AV.frz = true) (hl:l[j]? = some (.arr kk false rows)) (hn:rows.length = n) (hr:rows[i]? = some r)
  (hk:(Nat.beq v.cellsOf.length k && Nat.ble (o + k) r.length) = true) (hd:splice r o v.cellsOf = ds) :
  One T c n0 s (H0++l) (.store k a x) (.tup []) (H0++l.set j (.arr kk false (rows.set i ds))) :=
 ⟨0,by
  rw [Bool.and_eq_true] at hk
  simp only [core,prim,h,hv,B1k hp,Q9 hl,hr,hn,Nat.beq_refl,hk.1,hk.2,hz,Bool.and_self,if_true,hd,F2]⟩
def D3y:AV→Bool
 | .ptr _ _ | .eptr _ _ _ _ | .cptr _ | .fn (.func _) _ _=>true
 | _=>false
theorem A1l {x:Opd} {v:AV} (h:ev s x = some v) (hv:D3y v = true):One T c n0 s H (.nilck x) v H:=⟨0,by
 cases v with
 | fn f a b=>cases f <;> first | (simp [core,prim,h]; done) | (simp [D3y] at hv)
 | _=>first | (simp [core,prim,h]; done) | (simp [D3y] at hv)⟩
theorem O4 {op:BinOp} {x y:Opd} {a b v:AV} (hx:ev s x = some a) (hy:ev s y = some b) (hv:A6p op a b = some v):One T c n0 s H (.bin op x y) v H:=⟨0,by simp [core,prim,hx,hy,hv]⟩
theorem D32 {ng:Bool} {ks:List Nat} {x y:Opd} {a b:List AV} {t:Bool} (hx:ev s x = some (.agg a)) (hy:ev s y = some (.agg b)) (ha:kinds ks a = true) (hb:kinds ks b = true) (ht:F4 a b = some t):One T c n0 s H (.cmp ng ks x y) (.lit (.bool (if ng then !t else t))) H :=
 ⟨0,by simp [core,prim,hx,hy,ha,hb,ht]⟩
theorem C2p:F4 [] [] = some true:=rfl
theorem Z3 {k:IntKind} {a b:Int} {l m:List AV} {t:Bool} (h:F4 l m = some t):F4 (.lit (.int k a) :: l) (.lit (.int k b) :: m) = some ((a == b) && t):= by
 simp only [F4,A24,if_true]
 cases a == b <;> simp [h]
theorem D8p {op:UnOp} {x:Opd} {a v:AV} (hx:ev s x = some a) (hv:unV op a = some v):One T c n0 s H (.un op x) v H:=⟨0,by simp [core,prim,hx,hv]⟩
theorem A9j {k k':IntKind} {x:Opd} {n:Int} (h:ev s x = some (.lit (.int k' n))):One T c n0 s H (.conv k x) (.lit (.int k (k.wrap n))) H:=⟨0,by simp [core,prim,h]⟩
theorem A8f {f:Fn} {a b:List Opd} {u w:List AV} (h1:evs s a = some u) (h2:evs s b = some w):One T c n0 s H (.mkfn f a b) (.fn f u w) H:=⟨0,by simp [core,prim,h1,h2]⟩
theorem D06 {α:Type} {bytes:Nat} {n:Int} {z:α} {r:List α} (h:C1l bytes n z = some r):(0≤n∧n * bytes≤1099511627776∧n≤1099511627776)∧r = List.replicate n.toNat z:= by
 unfold C1l at h; split at h
 ·next e=>simp only [Option.some.injEq] at h; exact ⟨e,h.symm⟩
 ·cases h
theorem C1n {α:Type} {f:α→List AV} {k bytes r:Nat} {z:List AV} {x y:Opd} {n:Int} {zt:α} {e:List α} (hx:ev s x = some (.lit (.int .i64 n))) (hy:ev s y = some (.lit (.int .i64 n))) (hz:f zt = z) (h:C1l bytes n zt = some e) :
  One T c (H0.length + k0) s (H0++l) (.mkslice k bytes z x y r) (.asl (H0.length + (k0 + r)) e.length) (H0++l.set (k0 + r) (.arr k false (e.map f))):=⟨0,by
 obtain ⟨h1,h2⟩:=D06 h
 subst h2; subst hz
 simp only [core,prim,hx,hy,h1,and_self,if_true,Nat.add_assoc,F2,List.length_replicate,List.map_replicate]⟩
theorem A8n {α:Type} {e m:List α} {lo hi:Int} (h:slc e lo hi = some m):(0≤lo∧lo≤hi∧hi≤e.length)∧m = (e.take hi.toNat).drop lo.toNat:= by
 unfold slc at h; split at h
 ·next e1=>simp only [Option.some.injEq] at h; exact ⟨e1,h.symm⟩
 ·cases h
theorem B3e {α:Type} {f:α→List AV} {k:Nat} {x:Opd} {lo hi:Option Opd} {e m:List α} {a b:Int} (h:ev s x = some (.seq k (e.map f))) (h1:bnd s 0 lo = some a) (h2:bnd s e.length hi = some b) (hm:slc e a b = some m):One T c n0 s H (.sliceQ k x lo hi) (.seq k (m.map f)) H:=⟨0,by
 obtain ⟨h3,rfl⟩:=A8n hm
 simp only [core,prim,h,Option.bind_some,A53,h1,List.length_map,h2,h3,and_self,if_true,List.map_drop,List.map_take]⟩
theorem D2 {off b o:Nat} {x:Opd} (h:ev s x = some (.ptr b o)):One T c n0 s H (.fieldAddr off x) (.ptr b (o + off)) H:=⟨0,by simp [core,prim,h]⟩
theorem D7l {off:Nat} {x:Opd} {cs ds:List AV} (h:ev s x = some (.cptr cs)) (hd:cs.drop off = ds):One T c n0 s H (.fieldAddr off x) (.cptr ds) H:=⟨0,by simp [core,prim,h,hd]⟩
theorem B6t {α:Type} {e:List α} {n:Int} {a:α} (h:idx e n = some a):0≤n∧e[n.toNat]? = some a:= by
 unfold idx at h; split at h
 ·next h1=>exact ⟨h1,h⟩
 ·cases h
theorem E3 {α:Type} {f:α→List AV} {k:Nat} {kk:IntKind} {x i:Opd} {e:List α} {n:Int} {a:α} (h:ev s x = some (.seq k (e.map f))) (hi:ev s i = some (.lit (.int kk n))) (ha:idx e n = some a):One T c n0 s H (.idxS k x i) (.cptr (f a)) H:=⟨0,by
 obtain ⟨h1,h2⟩:=B6t ha
 simp [core,prim,h,hi,h1,h2]⟩
theorem A9k {α:Type} {f:α→List AV} {k j m:Nat} {p:Bool} {kk:IntKind} {x i:Opd} {e:List α} {n:Int} {a:α} (h:ev s x = some (.asl (H0.length + j) m)) (hi:ev s i = some (.lit (.int kk n))) (hl:l[j]? = some (.arr k p (e.map f))) (hm:e.length = m) (ha:idx e n = some a) :
  One T c n0 s (H0++l) (.idxS k x i) (.eptr (H0.length + j) m n.toNat 0) (H0++l):=⟨0,by
 obtain ⟨h1,h2⟩:=B6t ha
 have h3:n < m:= by
  have:=(List.getElem?_eq_some_iff.1 h2).1
  omega
 simp [core,prim,h,hi,S0 hl,h1,h3,hm]⟩
theorem A9x {α:Type} {f:α→List AV} {e:List α} {n:Int} {a:α} (ha:idx e n = some a):(e.map f)[n.toNat]? = some (f a):= by
 rw [List.getElem?_map,(B6t ha).2]; rfl
theorem A9l {kk:IntKind} {x i:Opd} {b:ByteArray} {n a:Int} (h:ev s x = some (.lit (.string b))) (hi:ev s i = some (.lit (.int kk n))) (ha:B30 b n = some a):One T c n0 s H (.idxStr x i) (.lit (.int .u8 a)) H:=⟨0,by
 unfold B30 at ha
 split at ha
 ·next h1 =>
  simp only [Option.map_eq_some_iff] at ha
  obtain ⟨c',h2,rfl⟩:=ha
  simp [core,prim,h,hi,h1,h2]
 ·cases ha⟩
theorem A5 {x:Opd} {i:Nat} {cs:List AV} {v:AV} (h:ev s x = some (.tup cs)) (hv:cs[i]? = some v):One T c n0 s H (.extract x i) v H:=⟨0,by simp [core,prim,h,hv]⟩
theorem C22 {x:Opd} {b:ByteArray} (h:ev s x = some (.lit (.string b))):One T c n0 s H (.lenS x) (.lit (.int .i64 b.size)) H:=⟨0,by simp [core,prim,h]⟩
theorem D4 {α:Type} {f:α→List AV} {k:Nat} {x:Opd} {e:List α} (h:ev s x = some (.seq k (e.map f))):One T c n0 s H (.lenL x) (.lit (.int .i64 e.length)) H:=⟨0,by simp [core,prim,h]⟩
theorem B3d {r:Nat}:One T c (H0.length + k0) s (H0++l) (.mkmap r) (.mp (H0.length + (k0 + r))) (H0++l.set (k0 + r) (.map [])):=⟨0,by simp only [core,prim,Nat.add_assoc,F2]⟩
theorem C9o {k n:Nat} {z:List AV} {parts:List (Nat × Opd)} {ps:List (Nat × AV)} {rows:List (List AV)} (h1:K8 s parts = some ps) (h2:A3q k (List.replicate n z) ps = some rows):One T c n0 s H (.xlits k z n parts) (.xseq k rows) H :=
 ⟨0,by simp [core,prim,h1,h2]⟩
theorem D8k {k:Nat} {kk:IntKind} {x i:Opd} {rows:List (List AV)} {n:Int} {r:List AV} (h:ev s x = some (.xseq k rows)) (hi:ev s i = some (.lit (.int kk n))) (hr:(if 0≤n then rows[n.toNat]? else none) = some r):One T c n0 s H (.idxS k x i) (.cptr r) H:=⟨0,by
 split at hr
 ·next h0=>simp [core,prim,h,hi,h0,hr]
 ·cases hr⟩
theorem D8m {k:Nat} {x:Opd} {rows:List (List AV)} {n:Int} (h:ev s x = some (.xseq k rows)) (hn:(rows.length:Int) = n):One T c n0 s H (.lenL x) (.lit (.int .i64 n)) H:=⟨0,by simp [core,prim,h,hn]⟩
theorem A9m {α:Type} {f:α→List AV} {k j n:Nat} {p:Bool} {x:Opd} {e:List α} (h:ev s x = some (.asl (H0.length + j) n)) (hl:l[j]? = some (.arr k p (e.map f))) (hn:e.length = n):One T c n0 s (H0++l) (.lenL x) (.lit (.int .i64 e.length)) (H0++l):=⟨0,by
 simp [core,prim,h,S0 hl,hn]⟩
theorem D6f {mx:Bool} {xs:List Opd} {x v:AV} {vs:List AV} (h:evs s xs = some (x :: vs)) (hv:mmV mx x vs = some v):One T c n0 s H (.mm mx xs) v H:=⟨0,by simp [core,prim,h,hv]⟩
theorem B2d {α:Type} {b:Nat} {e m r:List α} (h:app b e m = some r):((e.length + m.length) * b≤1099511627776∧e.length + m.length≤1099511627776)∧r = e++m:= by
 unfold app at h; split at h
 ·next h1=>simp only [Option.some.injEq] at h; exact ⟨h1,h.symm⟩
 ·cases h
theorem D8 {α:Type} {f:α→List AV} (hf:∀a,(f a).all AV.frz = true) (e:List α):B2w (e.map f) = true:= by
 simp [B2w,List.all_map]
 intro a _ x hx
 have:=hf a
 rw [List.all_eq_true] at this
 exact this x hx
def rd (H:A1) (v:AV) (k:Nat) (rows:List (List AV)):Prop:=Y7 H v = some rows∧kOf H v = some k
theorem Q3 {H:A1} {k:Nat} {rows:List (List AV)}:rd H (.seq k rows) k rows:=⟨rfl,rfl⟩
theorem V3 {α:Type} {f:α→List AV} {k bytes j n:Nat} {p:Bool} {r:Option Nat} {x y:Opd} {e m d:List α} {v:AV} (hd:ev s x = some (.asl (H0.length + j) n)) (hx:ev s y = some v) (hl:l[j]? = some (.arr k p (d.map f))) (hn:d.length = n) (hr:rd (H0++l) v k (m.map f)) (hf:∀a,(f a).all AV.frz = true) (h:app bytes d m = some e) :
  One T c n0 s (H0++l) (.append k bytes x y r false) (.asl (H0.length + j) e.length) (H0++l.set j (.arr k p (e.map f))):=⟨0,by
 obtain ⟨h1,rfl⟩:=B2d h
 subst hn
 simp [core,prim,hd,hx,hr.1,hr.2,D8 hf,Q9 hl,h1,F2]⟩
theorem B6y {α:Type} {f:α→List AV} {k bytes j n:Nat} {p:Bool} {x y:Opd} {e m d:List α} {v:AV} (hd:ev s x = some (.asl (H0.length + j) n)) (hx:ev s y = some v) (hl:l[j]? = some (.arr k p (d.map f))) (hn:d.length = n) (hr:rd (H0++l) v k (m.map f)) (hf:∀a,(f a).all AV.frz = true) (h:app bytes d m = some e) :
  One T c n0 s (H0++l) (.append k bytes x y none true) (.seq k (e.map f)) (H0++l.set j .dead):=⟨0,by
 obtain ⟨h1,rfl⟩:=B2d h
 subst hn
 simp [core,prim,hd,hx,hr.1,hr.2,D8 hf,Q9 hl,h1,F2]⟩
theorem D8j {α:Type} {f:α→List AV} {k j n:Nat} {x y:Opd} {m d:List α} {v:AV} (hd:ev s x = some (.asl (H0.length + j) n)) (hx:ev s y = some v) (hl:l[j]? = some (.arr k false (d.map f))) (hn:d.length = n) (hr:rd (H0++l) v k (m.map f)) (hf:∀a,(f a).all AV.frz = true) :
  One T c n0 s (H0++l) (.copy k x y) (.lit (.int .i64 (min m.length n:Nat))) (H0++l.set j (.arr k false ((m.take (min m.length n)++d.drop (min m.length n)).map f))):=⟨0,by
 subst hn
 simp [core,prim,hd,hx,hr.1,hr.2,D8 hf,Q9 hl,F2]⟩
theorem D6j {x:Opd} {b:ByteArray} {r:Nat} (h:ev s x = some (.lit (.string b))):One T c (H0.length + k0) s (H0++l) (.range x r) (.itr (H0.length + (k0 + r))) (H0++l.set (k0 + r) (.iter b 0)):=⟨0,by simp only [core,prim,h,Nat.add_assoc,F2]⟩
theorem D6h {x:Opd} {b:ByteArray} {j pos:Nat} (h:ev s x = some (.itr (H0.length + j))) (hl:l[j]? = some (.iter b pos)) (hp:pos < b.size) :
  One T c n0 s (H0++l) (.next x) (.tup [.lit (.bool true),.lit (.int .i64 pos),.lit (.int .i32 (Utf8.decode b pos).1)]) (H0++l.set j (.iter b (pos + (Utf8.decode b pos).2))):=⟨0,by simp only [core,prim,h,N9,hl,hp,if_true,F2]⟩
theorem D6g {x:Opd} {b:ByteArray} {j pos:Nat} (h:ev s x = some (.itr (H0.length + j))) (hl:l[j]? = some (.iter b pos)) (hp:¬ pos < b.size) :
  One T c n0 s (H0++l) (.next x) (.tup [.lit (.bool false)]) (H0++l):=⟨0,by simp only [core,prim,h,N9,hl,hp,if_false]⟩
theorem C5j {k k':IntKind} {x y:Opd} {a b r:Int} (hx:ev s x = some (.lit (.int k a))) (hy:ev s y = some (.lit (.int k' b))) (h:C0e k a b = some r):One T c n0 s H (.bin .shl x y) (.lit (.int k r)) H:=O4 hx hy (by
 unfold C0e at h
 split at h
 ·cases h
 ·next hb=>simp only [Option.some.injEq] at h; subst h; simp only [A6p,hb,if_false])
theorem B8e {k k':IntKind} {x y:Opd} {a b r:Int} (hx:ev s x = some (.lit (.int k a))) (hy:ev s y = some (.lit (.int k' b))) (h:B9b k a b = some r):One T c n0 s H (.bin .shr x y) (.lit (.int k r)) H:=O4 hx hy (by
 unfold B9b at h
 split at h
 ·cases h
 ·next hb=>simp only [Option.some.injEq] at h; subst h; simp only [A6p,hb,if_false])
theorem C5e {α β:Type} {f:α→β} (l:List α) (i:Int) (x:α):(l.map f).set i.toNat (f x) = (B11 l i x).map f:= by
 unfold B11; rw [List.map_set]
theorem A6m {α:Type} (l:List α) (i:Int) (x:α):(B11 l i x).length = l.length:=List.length_set ..
def fz1:AV→AV
 | .fresh k rows=>.seq k rows
 | v=>v
def fzA:AV→AV
 | .agg cs=>.agg (cs.map fz1)
 | v=>fz1 v
def F0 (T:Tab) (c:Sc) (H:A1) (f:AV) (aq rs:List AV):Prop:=G8 T c H f aq rs H∧bdL H.length rs = true
def U2 (T:Tab) (c:Sc) (H:A1) (f:AV) (aq rs:List AV):Prop:=∃ rs',F0 T c H f aq rs'∧rs'.map fzA = rs
theorem F0.frz {H:A1} {f:AV} {aq rs:List AV} (h:F0 T c H f aq rs):U2 T c H f aq (rs.map fzA):=⟨rs,h,rfl⟩
theorem C42 {n0:Nat} {H:A1}:∀(cs:List AV) (j:Nat),A29 n0 H [] j cs = (cs.map fz1,H)
 | [],_=>rfl
 | v :: cs,j=>by
  have:inC n0 H [] j v = (fz1 v,H):= by cases v <;> rfl
  simp only [A29,this,C42 cs,List.map_cons]
theorem C2x {n0:Nat} {H:A1} (v:AV):inV n0 H [] v = (fzA v,H):= by
 cases v <;> simp [inV,fzA,C42,inC,X9,fz1]
theorem A02 {n0:Nat} {H:A1}:∀(rs:List AV),X1 n0 H rs [] = (rs.map fzA,H)
 | []=>rfl
 | v :: rs=>by simp only [X1,List.headD_nil,C2x,List.tail_nil,A02 rs,List.map_cons]
theorem B4 {f:Opd} {args:List Opd} {d src:Nat} {fv:AV} {aq as' rs:List AV} {H1:A1} {hc:List (Option (List Nat))} {ops:List AOper} (hf:ev s f = some fv) (ha:evs s args = some aq) (hz:R9 H aq = some (as',H1)) (hcall:U2 T c H1 fv as' rs)
  (k:L9 T c n0 ops ((d,packed rs) :: s) H1 (some [] :: hc) R):L9 T c n0 (⟨some d,.call f args [] false,none,[],[],0,src⟩ :: ops) s H hc R:= by
 obtain ⟨rs',⟨⟨n,e⟩,hb⟩,rfl⟩:=hcall
 have hz':A0t [] H aq = some (as',H1):=hz
 refine B0p (v:=packed (rs'.map fzA)) (H1:=H1) ⟨n,?_⟩ (by simp [writes]) k
 simp only [core,U4,hf,ha,Bool.false_eq_true,if_false,hz',e,A02]
theorem C1q {f:Opd} {args:List Opd} {fv:AV} {aq as' rs:List AV} {H1:A1} (hf:ev s f = some fv) (ha:evs s args = some aq) (hp:aq.all (Q6 H) = true) (hz:R9 H aq = some (as',H1)) (hcall:U2 T c (H.map AO.toRo) fv as' rs):One T c n0 s H (.call f args [] true) (packed rs) H:= by
 obtain ⟨rs',⟨⟨n,e⟩,hb⟩,rfl⟩:=hcall
 have hz':A0t [] H aq = some (as',H1):=hz
 refine ⟨n,?_⟩
 rw [List.length_map] at hb
 simp only [core,U4,hf,ha,if_true,hp,Bool.or_true,hz',e,hb,A02]
theorem A27:List.map fzA [] = []:=rfl
theorem L1 {v v':AV} {l l':List AV} (h:fzA v = v') (k:l.map fzA = l'):(v :: l).map fzA = v' :: l':= by rw [List.map_cons,h,k]
theorem A05 {f:Opd} {args:List Opd} {d src:Nat} {fv:AV} {aq as' rs:List AV} {hc:List (Option (List Nat))} {ops:List AOper} {H1:A1} (hf:ev s f = some fv) (ha:evs s args = some aq) (hp:aq.all (Q6 H) = true) (hz:R9 H aq = some (as',H1)) (hcall:U2 T c (H.map AO.toRo) fv as' rs)
  (k:L9 T c n0 ops ((d,packed rs) :: s) H hc R):L9 T c n0 (⟨some d,.call f args [] true,none,[],[],0,src⟩ :: ops) s H hc R:= by
 obtain ⟨rs',⟨⟨n,e⟩,hb⟩,rfl⟩:=hcall
 have hz':A0t [] H aq = some (as',H1):=hz
 refine B0p (v:=packed (rs'.map fzA)) (H1:=H) ⟨n,?_⟩ (by simp [writes]) k
 rw [List.length_map] at hb
 simp only [core,U4,hf,ha,if_true,hp,Bool.or_true,hz',e,hb,A02]
theorem A3z {H:A1}:([]:List AV).all (Q6 H) = true:=rfl
theorem L7 {H:A1} {v:AV} {l:List AV} (h:Q6 H v = true) (k:l.all (Q6 H) = true):(v :: l).all (Q6 H) = true:= by rw [List.all_cons,h,k]; rfl
theorem B5 {H:A1}:R9 H [] = some ([],H):=rfl
theorem A2 {H H1 H2:A1} {v v':AV} {vs vs':List AV} (h:T4 H v = some (v',H1)) (k:R9 H1 vs = some (vs',H2)):R9 H (v :: vs) = some (v' :: vs',H2):= by
 simp only [R9,h,k]
theorem C9 {H:A1} {cs:List AV} (h:cs.all AV.plain = true):T4 H (.agg cs) = some (.agg cs,H):= by
 simp only [T4,B1k h,Option.map_some]
theorem B1i {j n k:Nat} {p:Bool} {rows:List (List AV)} (hl:l[j]? = some (.arr k p rows)) (hn:rows.length = n):T4 (H0++l) (.asl (H0.length + j) n) = some (.seq k rows,H0++l.set j (.arr k true rows)):= by
 cases p with
 | false=>simp [T4,frv,S0 hl,Q9 hl,hn,F2]
 | true =>
  have:l.set j (.arr k true rows) = l:= by
   obtain ⟨hj,e1⟩:=List.getElem?_eq_some_iff.1 hl
   rw [← e1]; exact List.set_getElem_self hj
  simp [T4,frv,S0 hl,hn,this]
theorem D38 {k:Option Nat} {a:Opd} {v:AV} {H':A1} (h:One T c n0 s H (.load k a) v H'):prim c n0 s H (.load k a) = some (v,H'):= by
 obtain ⟨n,e⟩:=h; exact e
theorem B8 {H:A1}:results s H [] = some []:=rfl
theorem B1 {H:A1} {t:Nat} {v:AV} {l:List ARes} {vs:List AV} (h:sget s t = some v) (k:results s H l = some vs):results s H (.tmp t :: l) = some (v :: vs):= by
 simp only [results,h,k,Option.bind_some,Option.map_some]
theorem P6 {H H':A1} {t:Nat} {q:Option Nat} {v:AV} {l:List ARes} {vs:List AV} (h:One (fun _=>none) ⟨0,[]⟩ 0 s H (.load q (.t t)) v H') (k:results s H l = some vs):results s H (.cell t q :: l) = some (v :: vs):= by
 simp only [results,D38 h,k,Option.bind_some,Option.map_some]
theorem A01 {j:Nat} {cs:List AV} (h:l[j]? = some (.cells cs)):hcells ((H0++l).map AO.toRo) (H0.length + j) = some cs:= by rw [B0f]; exact D7 h
structure RetQ (H0:A1) (rv:List ARes) (rs:List AV) (e:Ex) (s:B3) (H:A1):Prop where
 he:(match e with | .exit _=>False | _=>True)
 hr:∃rs0 H1,results s H rv = some rs0∧Q7 H0.length H rs0 = some (rs,H1)∧bdL H0.length rs = true∧H1.take H0.length = H0
theorem B7g {i:Nat} {af:AFunc} {first cap args aq rs:List AV} (haf:T i = some af) (has:first++args++cap = aq) (hn:(Nat.beq aq.length af.nargs && Nat.blt af.nargs 1000) = true)
  (h:WP T af.body (J0 0 aq) H0 ⟨H0.length,c.cur :: c.outer⟩ (RetQ H0 af.results rs)):F0 T c H0 (.fn (.func i) first cap) args rs:= by
 obtain ⟨e,S',s',H',h1,h2,h3,rs0,H1,h4,h5,h6,h7⟩:=h _ (Sub.refl _)
 refine ⟨?_,h6⟩
 have ht:trunc H0.length rs H1 = H0:= by simp [trunc,h6,h7]
 have:=G8.fn (c:=c) (H:=H0) (f:=.fn (.func i) first cap) (args:=args) (rs:=rs) (rs1:=rs) (rs0:=rs0) rfl haf rfl has.symm hn rfl h1 (by cases e <;> first | rfl | exact h3.elim) (P5 h2 h4) h5 rfl rfl
 rw [ht] at this
 exact this
theorem B9 {B:Nat} {H:A1}:Q7 B H [] = some ([],H):=rfl
theorem A7 {B:Nat} {H H1 H2:A1} {v v':AV} {vs vs':List AV} (h:V4 B H v = some (v',H1)) (k:Q7 B H1 vs = some (vs',H2)):Q7 B H (v :: vs) = some (v' :: vs',H2):= by
 simp only [Q7,h,k]
theorem A1w {B:Nat} {H:A1} {cs:List AV} (h:cs.all (fun v=>match v with | .lit _ | .seq _ _=>true | _=>false) = true):V4 B H (.agg cs) = some (.agg cs,H):= by
 have h1:U9 B H cs = some (cs,H):= by
  induction cs with
  | nil=>rfl
  | cons v cs ih =>
   simp only [List.all_cons,Bool.and_eq_true] at h
   have:=ih h.2
   cases v with
   | lit | seq=>simp only [U9,A0v,this]
   | _=>simp at h
 simp only [V4,h1,Option.map_some]
theorem C7s {B:Nat} {H:A1}:U9 B H [] = some ([],H):=rfl
theorem X4 {B:Nat} {H H1 H2:A1} {v v':AV} {vs vs':List AV} (h:A0v B H v = some (v',H1)) (k:U9 B H1 vs = some (vs',H2)):U9 B H (v :: vs) = some (v' :: vs',H2):= by simp only [U9,h,k]
theorem C28 {B:Nat} {H H1:A1} {cs cs':List AV} (h:U9 B H cs = some (cs',H1)):V4 B H (.agg cs) = some (.agg cs',H1):= by simp only [V4,h,Option.map_some]
theorem C7t {j n k:Nat} {rows:List (List AV)} (hl:l[j]? = some (.arr k false rows)) (hn:rows.length = n):A0v H0.length (H0++l) (.asl (H0.length + j) n) = some (.fresh k rows,H0++l.set j .dead):= by
 have:Nat.ble H0.length (H0.length + j) = true:=Nat.ble_eq_true_of_le (Nat.le_add_right _ _)
 simp [A0v,Q9 hl,this,hn,F2]
theorem A2f {j n k:Nat} {rows:List (List AV)} (hl:l[j]? = some (.arr k false rows)) (hn:rows.length = n):V4 H0.length (H0++l) (.asl (H0.length + j) n) = some (.fresh k rows,H0++l.set j .dead):= by
 have:Nat.ble H0.length (H0.length + j) = true:=Nat.ble_eq_true_of_le (Nat.le_add_right _ _)
 simp [V4,A0v,Q9 hl,this,hn,F2]
theorem A2y {o:AOper} (h:rbox s o.op = none) {hc:List (Option (List Nat))}:O6 s o hc = true:= by unfold O6; rw [h]
theorem A3o {b:Nat}:(([]:List (Option (List Nat))).all fun e=>match e with | none=>true | some hs=>hs.contains b) = true:=rfl
theorem A0q {b:Nat} {hs:List Nat} {r:List (Option (List Nat))} (h:hs.contains b = true) (k:(r.all fun e=>match e with | none=>true | some hs=>hs.contains b) = true):((some hs :: r).all fun e=>match e with | none=>true | some hs=>hs.contains b) = true:= by
 rw [List.all_cons,k]; simp only [h,Bool.and_self]
theorem D2q {i:Nat} {af:AFunc} {first cap args aq rs:List AV} (haf:T i = some af) (has:first++args++cap = aq) (hn:(Nat.beq aq.length af.nargs && Nat.blt af.nargs 1000) = true)
  (h:WP T af.body (J0 0 aq) H0 ⟨H0.length,c.cur :: c.outer⟩ (fun e s H=>∃ rs',RetQ H0 af.results rs' e s H∧rs'.map fzA = rs)):U2 T c H0 (.fn (.func i) first cap) args rs:= by
 obtain ⟨e,S',s',H',h1,h2,rs',⟨h3,rs0,H1,h4,h5,h6,h7⟩,h8⟩:=h _ (Sub.refl _)
 refine ⟨rs',⟨?_,h6⟩,h8⟩
 have ht:trunc H0.length rs' H1 = H0:= by simp [trunc,h6,h7]
 have:=G8.fn (c:=c) (H:=H0) (f:=.fn (.func i) first cap) (args:=args) (rs:=rs') (rs1:=rs') (rs0:=rs0) rfl haf rfl has.symm hn rfl h1 (by cases e <;> first | rfl | exact h3.elim) (P5 h2 h4) h5 rfl rfl
 rw [ht] at this
 exact this
theorem A4r {ac:ACode} {Q:Ex→B3→A1→Prop} (h:WP T ac s (H0++[]) c Q):WP T ac s H0 c Q:= by rwa [List.append_nil] at h
theorem bdn {N:Nat}:A21 N [] = true:=rfl
theorem bdc {N:Nat} {t:Nat} {v:AV} {s:B3} (h:v.bd N = true) (k:A21 N s = true):A21 N ((t,v) :: s) = true:= by simp only [A21,h,k,Bool.and_self]
theorem A8 {N:Nat} {v:Value}:(AV.lit v).bd N = true:= by simp only [AV.bd]
theorem E6 {N k:Nat} {rows:List (List AV)}:(AV.seq k rows).bd N = true:= by simp only [AV.bd]
theorem V9 {N k:Nat} {rows:List (List AV)}:(AV.fresh k rows).bd N = true:= by simp only [AV.bd]
theorem E8 {N j k o:Nat} (h:Nat.ble (j + 1) k = true):(AV.ptr (N + j) o).bd (N + k) = true:= by simp only [AV.bd]; exact Nat.ble_eq_true_of_le (by have:=Nat.le_of_ble_eq_true h; omega)
theorem D7x {N j k:Nat} (h:Nat.ble (j + 1) k = true):(AV.itr (N + j)).bd (N + k) = true:= by simp only [AV.bd]; exact Nat.ble_eq_true_of_le (by have:=Nat.le_of_ble_eq_true h; omega)
theorem A0s {N j k n:Nat} (h:Nat.ble (j + 1) k = true):(AV.asl (N + j) n).bd (N + k) = true:= by simp only [AV.bd]; exact Nat.ble_eq_true_of_le (by have:=Nat.le_of_ble_eq_true h; omega)
theorem A8d {H:A1} {b:Nat} {cs:List AV} (h:hcells H b = some cs):b < H.length:= by
 unfold hcells hget at h
 cases e:H[b]? with
 | none=>simp [e] at h
 | some o=>exact (List.getElem?_eq_some_iff.1 e).1
theorem D5i {H:A1} {b o k:Nat} {cs:List AV} (h:hcells H b = some cs):(AV.ptr b o).bd (H.length + k) = true:= by
 have:=A8d h
 simp only [AV.bd]; exact Nat.ble_eq_true_of_le (by omega)
mutual
theorem bd_more {N M:Nat} (h:N≤M):(v:AV)→v.bd N = true→v.bd M = true
 | .lit _,_ | .nils _,_ | .seq _ _,_ | .fresh _ _,_ | .undef,_=>by simp only [AV.bd]
 | .xseq _ rows,k=>by simp only [AV.bd] at k ⊢; exact bdR_more h rows k
 | .ptr b _,k | .itr b,k | .eptr b _ _ _,k | .asl b _,k | .csl b _ _ _,k | .mp b,k=>by
  simp only [AV.bd] at k ⊢
  exact Nat.ble_eq_true_of_le (Nat.le_trans (Nat.le_of_ble_eq_true k) h)
 | .cptr cs,k | .agg cs,k | .tup cs,k=>by simp only [AV.bd] at k ⊢; exact bdL_more h k
 | .fn f a c,k=>by
  cases f <;> simp only [AV.bd,Bool.and_eq_true] at k ⊢
  all_goals first | exact ⟨bdL_more h k.1,bdL_more h k.2⟩ | exact ⟨Nat.ble_eq_true_of_le (Nat.le_trans (Nat.le_of_ble_eq_true k.1) h),bdL_more h k.2.1,bdL_more h k.2.2⟩ | exact ⟨⟨Nat.ble_eq_true_of_le (Nat.le_trans (Nat.le_of_ble_eq_true k.1.1) h),bdL_more h k.1.2⟩,bdL_more h k.2⟩
theorem bdL_more {N M:Nat} (h:N≤M):{vs:List AV}→bdL N vs = true→bdL M vs = true
 | [],_=>rfl
 | v :: vs,k=>by
  simp only [bdL,Bool.and_eq_true] at k ⊢
  exact ⟨bd_more h v k.1,bdL_more h k.2⟩
theorem bdR_more {N M:Nat} (h:N≤M):(rows:List (List AV))→bdR N rows = true→bdR M rows = true
 | [],_=>rfl
 | r :: rows,k=>by
  simp only [bdR,Bool.and_eq_true] at k ⊢
  exact ⟨bdL_more h k.1,bdR_more h rows k.2⟩
end
theorem D2j {N k i:Nat} {a b:List AV} (h:bdL N a = true∧bdL N b = true):(AV.fn (.func i) a b).bd (N + k) = true:= by
 simp only [AV.bd,bdL_more (Nat.le_add_right N k) h.1,bdL_more (Nat.le_add_right N k) h.2,Bool.and_self]
theorem Z2 {N:Nat} {cs:List AV} (h:cs.all (fun v=>match v with | .lit _ | .seq _ _ | .nils _ | .fresh _ _=>true | _=>false) = true):(AV.agg cs).bd N = true:= by
 simp only [AV.bd]
 induction cs with
 | nil=>rfl
 | cons v cs ih =>
  simp only [List.all_cons,Bool.and_eq_true] at h
  simp only [bdL,ih h.2,Bool.and_true]
  cases v with
  | lit | seq | nils | fresh=>simp only [AV.bd]
  | _=>simp at h
theorem D93 {N k:Nat} {rows:List (List AV)} (h:bdR N rows = true):(AV.xseq k rows).bd N = true:= by simp only [AV.bd,h]
theorem A1b {H:A1} {l:List AO} {c:Sc} (h:S8 c H = true):S8 ⟨H.length,c.cur :: c.outer⟩ (H++l) = true:= by
 unfold S8 at h ⊢
 rw [List.all_cons,Nat.ble_eq_true_of_le (by simp),Bool.true_and]
 rw [List.all_eq_true] at h ⊢
 intro B hB
 have:=Nat.le_of_ble_eq_true (h B hB)
 exact Nat.ble_eq_true_of_le (by simp; omega)
theorem E1b {H:A1} {l l':List AO} {c:Sc} {k:Nat} (hk:Nat.ble k l'.length = true) (h:S8 c (H++l) = true) (hl:Nat.ble l.length l'.length = true):S8 ⟨H.length + k,c.cur :: c.outer⟩ (H++l') = true:= by
 have h1:=Nat.le_of_ble_eq_true hk
 have h2:=Nat.le_of_ble_eq_true hl
 unfold S8 at h ⊢
 rw [List.all_cons,Nat.ble_eq_true_of_le (by simp; omega),Bool.true_and]
 rw [List.all_eq_true] at h ⊢
 intro B hB
 have:=Nat.le_of_ble_eq_true (h B hB)
 simp at this
 exact Nat.ble_eq_true_of_le (by simp; omega)
theorem B2 {N:Nat}:bdL N [] = true:=rfl
theorem A4 {N:Nat} {v:AV} {vs:List AV} (h:v.bd N = true) (k:bdL N vs = true):bdL N (v :: vs) = true:= by simp only [bdL,h,k,Bool.and_self]
def Impl {α β:Type} (T:Tab) (H:A1) (i:Nat) (ff fc:List AV) (g:α→Option β) (ea:α→List AV) (er:β→List AV):Prop :=
 (bdL H.length ff = true∧bdL H.length fc = true)∧∀ (H':A1),H.length≤H'.length→(∀ b cs,hcells H b = some cs→hcells H' b = some cs)→∀ c x r,g x = some r→U2 T c H' (.fn (.func i) ff fc) (ea x) (er r)
theorem Impl.mono {α β:Type} {H H1:A1} {i:Nat} {ff fc:List AV} {g:α→Option β} {ea:α→List AV} {er:β→List AV} (h:Impl T H i ff fc g ea er) (hl:H.length≤H1.length) (hag:∀b cs,hcells H b = some cs→hcells H1 b = some cs):Impl T H1 i ff fc g ea er :=
 ⟨⟨bdL_more hl h.1.1,bdL_more hl h.1.2⟩,fun H' hl' k c x r e=>h.2 H' (Nat.le_trans hl hl') (fun b cs hb=>k b cs (hag b cs hb)) c x r e⟩
theorem Impl.app {α β:Type} {H:A1} {i:Nat} {ff fc:List AV} {g:α→Option β} {ea:α→List AV} {er:β→List AV} (h:Impl T H i ff fc g ea er) (l:List AO):Impl T (H++l) i ff fc g ea er :=
 h.mono (by simp) (fun b cs hb=>N6 hb l)
theorem Impl.call {α β:Type} {H:A1} {i:Nat} {ff fc:List AV} {g:α→Option β} {ea:α→List AV} {er:β→List AV} (h:Impl T H i ff fc g ea er) {x:α} {r:β} (e:g x = some r) (l:List AO):U2 T c (H++l) (.fn (.func i) ff fc) (ea x) (er r) :=
 h.2 _ (by simp) (fun b cs hb=>N6 hb l) c x r e
theorem retq {rv:List ARes} {rs rs0:List AV} {H1:List AO} {e:Ex} (he:(match e with | .exit _=>False | _=>True)) (h1:results s (H0++l) rv = some rs0) (h2:Q7 H0.length (H0++l) rs0 = some (rs,H0++H1)) (h3:bdL H0.length rs = true):RetQ H0 rv rs e s (H0++l) :=
 ⟨he,rs0,_,h1,h2,h3,by simp⟩
theorem A98 {i:Nat} {first cap args rs aq:List AV} {H:A1} (h:F0 T c H (.fn (.func i) [] []) aq rs) (has:aq = first++args++cap:= by rfl):F0 T c H (.fn (.func i) first cap) args rs:= by
 subst has
 obtain ⟨⟨n,e⟩,hb⟩:=h
 refine ⟨⟨n,?_⟩,hb⟩
 cases n with
 | zero=>simp [mach] at e
 | succ m =>
  rw [S9] at e ⊢
  simpa [K7] using e
theorem A79 {N:Nat} {rs vs:List AV} {H3:A1} (hb:bdL N rs = false) (hv:rs.map fzA = vs):X1 n0 (trunc N rs H3) rs [] = (vs,H3):= by
 rw [A02,hv]; simp [trunc,hb]
theorem B1n {N:Nat} {rs vs:List AV} {H3 H4:A1} (hb:bdL N rs = true) (hv:rs.map fzA = vs) (ht:H3.take N = H4):X1 n0 (trunc N rs H3) rs [] = (vs,H4):= by
 rw [A02,hv]; simp [trunc,hb,ht]
theorem A22 {N:Nat} {v:AV} {vs:List AV} (h:v.bd N = false):bdL N (v :: vs) = false:= by simp only [bdL,h,Bool.false_and]
theorem A7w {N B j o:Nat} (h:Nat.ble B j = true):(AV.ptr (N + j) o).bd (N + B) = false:= by
 simp only [AV.bd]
 cases e:Nat.blt (N + j) (N + B) with
 | false=>rfl
 | true=>have:=Nat.le_of_ble_eq_true e; have:=Nat.le_of_ble_eq_true h; omega
theorem D2k {N i:Nat} {a b:List AV} (h:bdL N b = false):(AV.fn (.func i) a b).bd N = false:= by simp only [AV.bd,h,Bool.and_false]
theorem A8c {k:Nat} (h:l.length = k):(H0++l).length = H0.length + k:= by rw [List.length_append,h]
end
section
variable {T:Tab} {s s' S:B3} {H0 H H':A1} {l l':List AO} {c:Sc} {n0 k0:Nat} {hc:List (Option (List Nat))} {ops:List AOper} {Q:Ex→B3→A1→Prop} {R:B3→A1→Prop}
inductive RL (s:B3):List Nat→B3→Prop
 | n:RL s [] []
 | k {t:Nat} {v:AV} {l:List Nat} {s':B3} (h:sget s t = some v) (r:RL s l s'):RL s (t :: l) ((t,v) :: s')
 | x {t:Nat} {l:List Nat} {s':B3} (r:RL s l s'):RL s (t :: l) s'
theorem RL.sub {l:List Nat} {s':B3} (h:RL s l s'):Sub s' s:= by
 induction h with
 | n=>exact Sub.nil _
 | k h _ ih=>exact Sub.cons h ih
 | x _ ih=>exact ih
theorem RL.ok {l:List Nat} {s':B3} (h:RL s l s'):(s'.all fun x=>l.contains x.1) = true:= by
 have:∀x ∈ s',x.1 ∈ l:= by
  induction h with
  | n=>intro x hx; simp at hx
  | k h _ ih =>
   intro x hx
   rcases List.mem_cons.1 hx with rfl | hx
   ·exact List.mem_cons_self
   ·exact List.mem_cons_of_mem _ (ih x hx)
  | x _ ih=>intro y hy; exact List.mem_cons_of_mem _ (ih y hy)
 rw [List.all_eq_true]
 intro x hx
 simpa using this x hx
theorem en {live:List Nat} (h:RL s live s') (k:Q .normal s' H):L9 T c n0 [] s H hc (RG live Q):=⟨0,s,H,rfl,s',h.sub,h.ok,k⟩
theorem es {live:List Nat} {b:ACode} (h:RL s live s') (k:WP T b s' H c Q):L9 T c n0 [] s H hc (RG live (D19 T b c Q)):=en h k
theorem rg {d:Bool} {nres:Nat} {live:List Nat} (k0:Nat) (hk:l.length = k0) (h:L9 T c (H0.length + k0) ops s (H0++(l++List.replicate nres .dead)) [] (RG live Q)):WP T (.region d nres [] ops live) s (H0++l) c Q:=B9r k0 hk h
theorem r0 {d:Bool} {live:List Nat} (h:L9 T c (H0.length + l.length) ops s (H0++l) [] (RG live Q)):WP T (.region d 0 [] ops live) s (H0++l) c Q :=
 B9r l.length rfl (by rw [List.replicate_zero,List.append_nil]; exact h)
theorem sg {d:Bool} {nres:Nat} {live:List Nat} {b:ACode} (k0:Nat) (hk:l.length = k0) (h:L9 T c (H0.length + k0) ops s (H0++(l++List.replicate nres .dead)) [] (RG live (D19 T b c Q))):WP T (.seq (.region d nres [] ops live) b) s (H0++l) c Q:=C8j (rg k0 hk h)
theorem s0 {d:Bool} {live:List Nat} {b:ACode} (h:L9 T c (H0.length + l.length) ops s (H0++l) [] (RG live (D19 T b c Q))):WP T (.seq (.region d 0 [] ops live) b) s (H0++l) c Q:=C8j (r0 h)
theorem B6 {a b:ACode} (h:WP T a s H c (D19 T b c Q)):WP T (.seq a b) s H c Q:=C8j h
theorem C1 (h:Q .normal s H):WP T .skip s H c Q:=D7c h
theorem F3 {id:Nat} (h:Q (.exit id) s H):WP T (.exit id) s H c Q:=D7a h
theorem C4 (h:Q .ret s H):WP T .ret s H c Q:=D9d h
theorem C3 {id:Nat} {a:ACode} (h:WP T a s H c (C2b id Q)):WP T (.block id a) s H c Q:=D49 h
theorem D68 {a:ACode} (h:WP T a s H c Q):WP T (.scope a) s H c Q:=D5a h
theorem T0 {x:Opd} {t:Bool} {a b:ACode} (h:ev s x = some (.lit (.bool t))) (ht:t = true) (k:WP T a s H c Q):WP T (.cond x a b) s H c Q:=C6n h ht k
theorem A0e {x:Opd} {t:Bool} {a b:ACode} (h:ev s x = some (.lit (.bool t))) (ht:t = false) (k:WP T b s H c Q):WP T (.cond x a b) s H c Q:=C6m h ht k
theorem B48 {ac:ACode} {Q1:Ex→B3→A1→Prop} (h:WP T ac s H c (fun e s' H'=>∃ s0,Sub s0 s'∧Q1 e s0 H')) (k:∀e s' H',Q1 e s' H'→Q e s' H'):WP T ac s H c Q:=D7b h k
theorem D44 {tr:Bool} {live:List Nat} {bd:ACode} (k:Nat) (hk:l.length = k) (s':B3) (hr:∀S,Sub s S→restrict S live = s') (h:WP T bd s' (H0++l) (bif tr then ⟨H0.length + k,c.cur :: c.outer⟩ else c) (UnQ T tr live bd c (H0.length + k) Q)):WP T (.loop tr live bd) s (H0++l) c Q:=D12 k hk s' hr h
theorem wi {ρ:Type} {x:Opd} {e:Bool} {A B:Option ρ} {r:ρ} {a b:ACode} (h:(if e = true then A else B) = some r) (hx:ev s x = some (.lit (.bool e))) (k1:e = true→A = some r→WP T a s H c Q) (k2:e = false→B = some r→WP T b s H c Q):WP T (.cond x a b) s H c Q:= by
 cases e with
 | true=>exact C6n hx rfl (k1 rfl h)
 | false=>exact C6m hx rfl (k2 rfl h)
theorem oB {α β:Type} {o:Option α} {f:α→Option β} {r:β} {P:Prop} (h:o.bind f = some r) (k:∀x,o = some x→f x = some r→P):P:= by
 obtain ⟨x,h1,h2⟩:=D6k h
 exact k x h1 h2
theorem os {α:Type} {a b:α} (h:some a = some b):a = b:=Option.some.inj h
def GQ (d:Nat) (v:AV) (s:B3) (H:A1) (s1:B3) (H1:A1):Prop:=H1 = H∧Sub ((d,v) :: s) s1
theorem C6c:∀{s:B3} {t:Nat} {v:AV},sget s t = some v→∃ x ∈ s,x.1 = t
 | [],_,_,h=>by simp [M3,K0] at h
 | x :: s,t,v,h=>by
  simp only [M3,K0] at h
  cases hb:Nat.beq x.1 t with
  | true=>exact ⟨x,by simp,Nat.eq_of_beq_eq_true hb⟩
  | false=>rw [hb] at h; obtain ⟨y,h1,h2⟩:=C6c h; exact ⟨y,by simp [h1],h2⟩
theorem C6e:∀{n:Nat} {s s1:B3},s1.drop n = s→((s1.take n).all fun y=>s.all fun x=>!Nat.beq y.1 x.1) = true→Sub s s1
 | 0,s,s1,h,_=>by rw [List.drop_zero] at h; subst h; exact Sub.refl _
 | n + 1,s,[],h,_=>by simp at h; subst h; exact Sub.refl _
 | n + 1,s,y :: s1,h,k=>by
  simp only [List.drop_succ_cons] at h
  simp only [List.take_succ_cons,List.all_cons,Bool.and_eq_true] at k
  have ih:=C6e h k.2
  intro t v e
  obtain ⟨x,hx,rfl⟩:=C6c e
  have:=List.all_eq_true.1 k.1 x hx
  simp only [Bool.not_eq_true'] at this
  simp only [M3,K0,this,cond_false]
  exact ih _ _ e
theorem ge (n:Nat) {d:Nat} {v:AV} {s1:B3} (hv:sget s1 d = some v) (hd:s1.drop n = s) (hk:((s1.take n).all fun y=>s.all fun x=>!Nat.beq y.1 x.1) = true):L9 T c n0 [] s1 H hc (GQ d v s H):=⟨0,s1,H,rfl,rfl,Sub.cons hv (C6e hd hk)⟩
theorem gpR (n d:Nat) (v:AV) (t:Nat) {g:Bool} (_hg:sget s t = some (.lit (.bool g))) (hq:calm (ops.drop n) = true) (h1:g = true→L9 T c n0 (ops.take n) s H hc (GQ d v s H)) (h2:g = false→L9 T c n0 (ops.take n) s H hc (GQ d v s H))
  (hR:∀a b H,Sub a b→R a H→R b H) (k:L9 T c n0 (ops.drop n) ((d,v) :: s) H [] R):L9 T c n0 ops s H hc R:= by
 have:L9 T c n0 (ops.take n) s H hc (GQ d v s H):= by
  cases g
  ·exact h2 rfl
  ·exact h1 rfl
 exact B4v n ((d,v) :: s) H hq this hR k
theorem gp {live:List Nat} (n d:Nat) (v:AV) (t:Nat) {g:Bool} (hg:sget s t = some (.lit (.bool g))) (hq:calm (ops.drop n) = true) (h1:g = true→L9 T c n0 (ops.take n) s H hc (GQ d v s H)) (h2:g = false→L9 T c n0 (ops.take n) s H hc (GQ d v s H))
  (k:L9 T c n0 (ops.drop n) ((d,v) :: s) H [] (RG live Q)):L9 T c n0 ops s H hc (RG live Q) :=
 gpR n d v t hg hq h1 h2 (fun _ _ _ h ⟨s',a,b,d⟩=>⟨s',a.trans h,b,d⟩) k
theorem gq {d1:Nat} {v1:AV} {s1:B3} {H1:A1} (n d:Nat) (v:AV) (t:Nat) {g:Bool} (hg:sget s t = some (.lit (.bool g))) (hq:calm (ops.drop n) = true) (h1:g = true→L9 T c n0 (ops.take n) s H hc (GQ d v s H)) (h2:g = false→L9 T c n0 (ops.take n) s H hc (GQ d v s H))
  (k:L9 T c n0 (ops.drop n) ((d,v) :: s) H [] (GQ d1 v1 s1 H1)):L9 T c n0 ops s H hc (GQ d1 v1 s1 H1) :=
 gpR n d v t hg hq h1 h2 (fun _ _ _ h q=>⟨q.1,q.2.trans h⟩) k
theorem bt {e:Bool} {α:Type} {A B:Option α} {r:α} (h:(if e = true then A else B) = some r) (he:e = true):A = some r:= by rw [if_pos he] at h; exact h
theorem bf {e:Bool} {α:Type} {A B:Option α} {r:α} (h:(if e = true then A else B) = some r) (he:e = false):B = some r:= by rw [if_neg (by rw [he]; decide)] at h; exact h
def PX (i:Nat) (s0:B3) (H0:A1) (e:Ex) (s':B3) (H':A1):Prop:=e = .exit i∧s' = s0∧H' = H0
theorem wl {γ σ ρ:Type} {live:List Nat} {bd:ACode} {body:σ→Option (σ ⊕ ρ)} {x0:σ} {r:ρ} (st:σ→B3) (lh:γ→σ→List AO) (N:Nat) (P:ρ→Ex→B3→A1→Prop) (g0:γ) (h:loop body x0 = some r) (hs:st x0 = s) (hl:lh g0 x0 = l)
  (hN:∀g x,(lh g x).length = N) (hlive:∀x,(st x).map (·.1) = live) (hnd:B1r live = true) (hbd:∀x,A21 (H0.length + N) (st x) = true)
  (hbody:∀g x o,body x = some o→WP T bd (st x) (H0++lh g x) ⟨H0.length + N,c.cur :: c.outer⟩ (D16 true st (fun g x=>H0++lh g x) (H0.length + N) P o))
  (k:∀e s' H',e.out = true→P r e s' H'→Q e s' H'):WP T (.loop true live bd) s (H0++l) c Q:= by
 subst hs; subst hl
 exact A0r (B9q st (fun g x=>H0++lh g x) (H0.length + N) P (fun g x=>by rw [List.length_append,hN]) hlive (A5v hnd) (fun x _=>hbd x) hbody h g0) fun e s' H' q=>k e s' H' q.1 q.2
theorem lnT {γ:Type} {s0:B3} {L:γ→List AO} {N:Nat} (g:γ) (hl:l.take N = L g) (hs:Sub s0 s'):Ex.normal = Ex.normal∧Sub s0 s'∧∃ g',(bif true then (H0++l).take (H0.length + N) else H0++l) = H0++L g' :=
 ⟨rfl,hs,g,by rw [cond_true,A0h,hl]⟩
theorem lx {R:B3→Prop} {o:Bool} {s0:B3} (ho:o = true) (hr:R s0) (hs:Sub s0 s'):o = true∧∃ s0,Sub s0 s'∧R s0:=⟨ho,s0,hs,hr⟩
theorem me {R:B3→Prop} {s0:B3} (hr:R s0) (hs:Sub s0 s'):∃s0,Sub s0 s'∧R s0:=⟨s0,hs,hr⟩
theorem px {i:Nat} {s0:B3} {H:A1}:PX i s0 H (.exit i) s0 H:=⟨rfl,rfl,rfl⟩
theorem E0w {x:Opd} {v v':AV} {H':A1} (h:ev s x = some v) (hf:T4 H v = some (v',H')):One T c n0 s H (.mvz x) v' H':=⟨0,by simp only [core,prim,h,hf]⟩
theorem D8n {x:Opd} {j n k:Nat} {p:Bool} {rows:List (List AV)} (h:ev s x = some (.asl (H0.length + j) n)) (hl:l[j]? = some (.arr k p rows)) (hn:rows.length = n):One T c n0 s (H0++l) (.mvz x) (.seq k rows) (H0++l.set j (.arr k true rows)):=E0w h (B1i hl hn)
theorem E7 {x y:Opd} {a b:Int} (hx:ev s x = some (.lit (.int .i64 a))) (hy:ev s y = some (.lit (.int .i64 b))):One T c n0 s H (.bin .add x y) (.lit (.int .i64 (w64 (a + b)))) H:=O4 hx hy rfl
theorem Y8 {x y:Opd} {a b:Int} (hx:ev s x = some (.lit (.int .i64 a))) (hy:ev s y = some (.lit (.int .i64 b))):One T c n0 s H (.bin .sub x y) (.lit (.int .i64 (w64 (a - b)))) H:=O4 hx hy rfl
theorem D7e {x y:Opd} {a b:Int} (hx:ev s x = some (.lit (.int .i64 a))) (hy:ev s y = some (.lit (.int .i64 b))):One T c n0 s H (.bin .mul x y) (.lit (.int .i64 (w64 (a * b)))) H:=O4 hx hy rfl
section
variable {x y:Opd} {a b:Int} {kk:IntKind}
theorem A67 {op:BinOp} {v:Value} (h:A82 op kk a b = some v):A6p op (.lit (.int kk a)) (.lit (.int kk b)) = some (.lit v):= by
 cases op <;> first | (simp only [A6p,if_true,h,Option.map_some]; done) | (simp [A82] at h)
theorem F7 (hx:ev s x = some (.lit (.int kk a))) (hy:ev s y = some (.lit (.int kk b))):One T c n0 s H (.bin .eql x y) (.lit (.bool (a == b))) H:=O4 hx hy (A67 rfl)
theorem J1 (hx:ev s x = some (.lit (.int kk a))) (hy:ev s y = some (.lit (.int kk b))):One T c n0 s H (.bin .neq x y) (.lit (.bool (a != b))) H:=O4 hx hy (A67 rfl)
theorem G3 (hx:ev s x = some (.lit (.int kk a))) (hy:ev s y = some (.lit (.int kk b))):One T c n0 s H (.bin .lss x y) (.lit (.bool (decide (a < b)))) H:=O4 hx hy (A67 rfl)
theorem C0k (hx:ev s x = some (.lit (.int kk a))) (hy:ev s y = some (.lit (.int kk b))):One T c n0 s H (.bin .leq x y) (.lit (.bool (decide (a≤b)))) H:=O4 hx hy (A67 rfl)
theorem A80 (hx:ev s x = some (.lit (.int kk a))) (hy:ev s y = some (.lit (.int kk b))):One T c n0 s H (.bin .gtr x y) (.lit (.bool (decide (a > b)))) H:=O4 hx hy (A67 rfl)
theorem A66 (hx:ev s x = some (.lit (.int kk a))) (hy:ev s y = some (.lit (.int kk b))):One T c n0 s H (.bin .geq x y) (.lit (.bool (decide (a ≥ b)))) H:=O4 hx hy (A67 rfl)
end
theorem C7r {ks:List Nat} {x y:Opd} {a b:List AV} {t:Bool} (hx:ev s x = some (.agg a)) (hy:ev s y = some (.agg b)) (ha:kinds ks a = true) (hb:kinds ks b = true) (ht:F4 a b = some t):One T c n0 s H (.cmp false ks x y) (.lit (.bool t)) H:=D32 hx hy ha hb ht
theorem D7f {x y:Opd} {a b:ByteArray} (hx:ev s x = some (.lit (.string a))) (hy:ev s y = some (.lit (.string b))):One T c n0 s H (.bin .eql x y) (.lit (.bool (eqS a b))) H:=O4 hx hy rfl
theorem D91 {x y:Opd} {a b:ByteArray} (hx:ev s x = some (.lit (.string a))) (hy:ev s y = some (.lit (.string b))):One T c n0 s H (.bin .neq x y) (.lit (.bool (!eqS a b))) H:=O4 hx hy rfl
theorem S7 {x:Opd} {b:Bool} (hx:ev s x = some (.lit (.bool b))):One T c n0 s H (.un .not x) (.lit (.bool (!b))) H:=D8p hx rfl
theorem C2 {a:Opd} {j k:Nat} {cs:List AV} (h:ev s a = some (.ptr (H0.length + j) 0)) (hl:l[j]? = some (.cells cs)) (hk:Nat.beq cs.length k = true):One T c n0 s (H0++l) (.load (some k) a) (.agg cs) (H0++l):= by
 have hk:=Nat.eq_of_beq_eq_true hk
 exact I8 h hl (by rw [List.drop_zero,hk]; exact Nat.ble_eq_true_of_le (Nat.le_refl _)) (by rw [List.drop_zero,List.take_of_length_le (by omega)])
theorem M2 {a:Opd} {k:Nat} {cs:List AV} (h:ev s a = some (.cptr cs)) (hk:Nat.beq cs.length k = true):One T c n0 s H (.load (some k) a) (.agg cs) H:= by
 have hk:=Nat.eq_of_beq_eq_true hk
 exact D36 h (by rw [hk]; exact Nat.ble_eq_true_of_le (Nat.le_refl _)) (List.take_of_length_le (by omega))
end
section
variable {T:Tab} {H0:A1} {c:Sc}
theorem cE {i:Nat} {af:AFunc} {args rs:List AV} (haf:T i = some af) (hn:(Nat.beq args.length af.nargs && Nat.blt af.nargs 1000) = true)
  (h:WP T af.body (J0 0 args) (H0++[]) ⟨H0.length,c.cur :: c.outer⟩ (RetQ H0 af.results rs)):F0 T c H0 (.fn (.func i) [] []) args rs :=
 B7g haf (List.append_nil _) hn (A4r h)
theorem cF {i:Nat} {af:AFunc} {args rs:List AV} (haf:T i = some af) (hn:(Nat.beq args.length af.nargs && Nat.blt af.nargs 1000) = true)
  (h:WP T af.body (J0 0 args) (H0++[]) ⟨H0.length,c.cur :: c.outer⟩ (fun e s H=>∃ rs',RetQ H0 af.results rs' e s H∧rs'.map fzA = rs)):U2 T c H0 (.fn (.func i) [] []) args rs :=
 D2q haf (List.append_nil _) hn (A4r h)
end
section
variable {S:B3} {t1 t2 t3 t4 t5 t6 t7 t8 t9 t10 t11 t12 t13 t14:Nat} {v1 v2 v3 v4 v5 v6 v7 v8 v9 v10 v11 v12 v13 v14:AV}
theorem ra1 (h1:sget S t1 = some v1):RL S [t1] [(t1,v1)]:=.k h1 .n
theorem su1 (h1:sget S t1 = some v1):Sub [(t1,v1)] S:=.cons h1 (.nil _)
theorem ra2 (h1:sget S t1 = some v1) (h2:sget S t2 = some v2):RL S [t1,t2] [(t1,v1),(t2,v2)]:=.k h1 (.k h2 .n)
theorem su2 (h1:sget S t1 = some v1) (h2:sget S t2 = some v2):Sub [(t1,v1),(t2,v2)] S:=.cons h1 (.cons h2 (.nil _))
theorem ra3 (h1:sget S t1 = some v1) (h2:sget S t2 = some v2) (h3:sget S t3 = some v3):RL S [t1,t2,t3] [(t1,v1),(t2,v2),(t3,v3)]:=.k h1 (.k h2 (.k h3 .n))
theorem su3 (h1:sget S t1 = some v1) (h2:sget S t2 = some v2) (h3:sget S t3 = some v3):Sub [(t1,v1),(t2,v2),(t3,v3)] S:=.cons h1 (.cons h2 (.cons h3 (.nil _)))
theorem ra4 (h1:sget S t1 = some v1) (h2:sget S t2 = some v2) (h3:sget S t3 = some v3) (h4:sget S t4 = some v4):RL S [t1,t2,t3,t4] [(t1,v1),(t2,v2),(t3,v3),(t4,v4)]:=.k h1 (.k h2 (.k h3 (.k h4 .n)))
theorem su4 (h1:sget S t1 = some v1) (h2:sget S t2 = some v2) (h3:sget S t3 = some v3) (h4:sget S t4 = some v4):Sub [(t1,v1),(t2,v2),(t3,v3),(t4,v4)] S:=.cons h1 (.cons h2 (.cons h3 (.cons h4 (.nil _))))
theorem ra5 (h1:sget S t1 = some v1) (h2:sget S t2 = some v2) (h3:sget S t3 = some v3) (h4:sget S t4 = some v4) (h5:sget S t5 = some v5):RL S [t1,t2,t3,t4,t5] [(t1,v1),(t2,v2),(t3,v3),(t4,v4),(t5,v5)]:=.k h1 (.k h2 (.k h3 (.k h4 (.k h5 .n))))
theorem su5 (h1:sget S t1 = some v1) (h2:sget S t2 = some v2) (h3:sget S t3 = some v3) (h4:sget S t4 = some v4) (h5:sget S t5 = some v5):Sub [(t1,v1),(t2,v2),(t3,v3),(t4,v4),(t5,v5)] S:=.cons h1 (.cons h2 (.cons h3 (.cons h4 (.cons h5 (.nil _)))))
theorem ra6 (h1:sget S t1 = some v1) (h2:sget S t2 = some v2) (h3:sget S t3 = some v3) (h4:sget S t4 = some v4) (h5:sget S t5 = some v5) (h6:sget S t6 = some v6):RL S [t1,t2,t3,t4,t5,t6] [(t1,v1),(t2,v2),(t3,v3),(t4,v4),(t5,v5),(t6,v6)]:=.k h1 (.k h2 (.k h3 (.k h4 (.k h5 (.k h6 .n)))))
theorem su6 (h1:sget S t1 = some v1) (h2:sget S t2 = some v2) (h3:sget S t3 = some v3) (h4:sget S t4 = some v4) (h5:sget S t5 = some v5) (h6:sget S t6 = some v6):Sub [(t1,v1),(t2,v2),(t3,v3),(t4,v4),(t5,v5),(t6,v6)] S:=.cons h1 (.cons h2 (.cons h3 (.cons h4 (.cons h5 (.cons h6 (.nil _))))))
theorem ra7 (h1:sget S t1 = some v1) (h2:sget S t2 = some v2) (h3:sget S t3 = some v3) (h4:sget S t4 = some v4) (h5:sget S t5 = some v5) (h6:sget S t6 = some v6) (h7:sget S t7 = some v7):RL S [t1,t2,t3,t4,t5,t6,t7] [(t1,v1),(t2,v2),(t3,v3),(t4,v4),(t5,v5),(t6,v6),(t7,v7)]:=.k h1 (.k h2 (.k h3 (.k h4 (.k h5 (.k h6 (.k h7 .n))))))
theorem su7 (h1:sget S t1 = some v1) (h2:sget S t2 = some v2) (h3:sget S t3 = some v3) (h4:sget S t4 = some v4) (h5:sget S t5 = some v5) (h6:sget S t6 = some v6) (h7:sget S t7 = some v7):Sub [(t1,v1),(t2,v2),(t3,v3),(t4,v4),(t5,v5),(t6,v6),(t7,v7)] S:=.cons h1 (.cons h2 (.cons h3 (.cons h4 (.cons h5 (.cons h6 (.cons h7 (.nil _)))))))
theorem ra8 (h1:sget S t1 = some v1) (h2:sget S t2 = some v2) (h3:sget S t3 = some v3) (h4:sget S t4 = some v4) (h5:sget S t5 = some v5) (h6:sget S t6 = some v6) (h7:sget S t7 = some v7) (h8:sget S t8 = some v8):RL S [t1,t2,t3,t4,t5,t6,t7,t8] [(t1,v1),(t2,v2),(t3,v3),(t4,v4),(t5,v5),(t6,v6),(t7,v7),(t8,v8)]:=.k h1 (.k h2 (.k h3 (.k h4 (.k h5 (.k h6 (.k h7 (.k h8 .n)))))))
theorem su8 (h1:sget S t1 = some v1) (h2:sget S t2 = some v2) (h3:sget S t3 = some v3) (h4:sget S t4 = some v4) (h5:sget S t5 = some v5) (h6:sget S t6 = some v6) (h7:sget S t7 = some v7) (h8:sget S t8 = some v8):Sub [(t1,v1),(t2,v2),(t3,v3),(t4,v4),(t5,v5),(t6,v6),(t7,v7),(t8,v8)] S:=.cons h1 (.cons h2 (.cons h3 (.cons h4 (.cons h5 (.cons h6 (.cons h7 (.cons h8 (.nil _))))))))
theorem ra9 (h1:sget S t1 = some v1) (h2:sget S t2 = some v2) (h3:sget S t3 = some v3) (h4:sget S t4 = some v4) (h5:sget S t5 = some v5) (h6:sget S t6 = some v6) (h7:sget S t7 = some v7) (h8:sget S t8 = some v8) (h9:sget S t9 = some v9):RL S [t1,t2,t3,t4,t5,t6,t7,t8,t9] [(t1,v1),(t2,v2),(t3,v3),(t4,v4),(t5,v5),(t6,v6),(t7,v7),(t8,v8),(t9,v9)]:=.k h1 (.k h2 (.k h3 (.k h4 (.k h5 (.k h6 (.k h7 (.k h8 (.k h9 .n))))))))
theorem ra10 (h1:sget S t1 = some v1) (h2:sget S t2 = some v2) (h3:sget S t3 = some v3) (h4:sget S t4 = some v4) (h5:sget S t5 = some v5) (h6:sget S t6 = some v6) (h7:sget S t7 = some v7) (h8:sget S t8 = some v8) (h9:sget S t9 = some v9) (h10:sget S t10 = some v10):RL S [t1,t2,t3,t4,t5,t6,t7,t8,t9,t10] [(t1,v1),(t2,v2),(t3,v3),(t4,v4),(t5,v5),(t6,v6),(t7,v7),(t8,v8),(t9,v9),(t10,v10)]:=.k h1 (.k h2 (.k h3 (.k h4 (.k h5 (.k h6 (.k h7 (.k h8 (.k h9 (.k h10 .n)))))))))
theorem su10 (h1:sget S t1 = some v1) (h2:sget S t2 = some v2) (h3:sget S t3 = some v3) (h4:sget S t4 = some v4) (h5:sget S t5 = some v5) (h6:sget S t6 = some v6) (h7:sget S t7 = some v7) (h8:sget S t8 = some v8) (h9:sget S t9 = some v9) (h10:sget S t10 = some v10):Sub [(t1,v1),(t2,v2),(t3,v3),(t4,v4),(t5,v5),(t6,v6),(t7,v7),(t8,v8),(t9,v9),(t10,v10)] S:=.cons h1 (.cons h2 (.cons h3 (.cons h4 (.cons h5 (.cons h6 (.cons h7 (.cons h8 (.cons h9 (.cons h10 (.nil _))))))))))
theorem ra11 (h1:sget S t1 = some v1) (h2:sget S t2 = some v2) (h3:sget S t3 = some v3) (h4:sget S t4 = some v4) (h5:sget S t5 = some v5) (h6:sget S t6 = some v6) (h7:sget S t7 = some v7) (h8:sget S t8 = some v8) (h9:sget S t9 = some v9) (h10:sget S t10 = some v10) (h11:sget S t11 = some v11):RL S [t1,t2,t3,t4,t5,t6,t7,t8,t9,t10,t11] [(t1,v1),(t2,v2),(t3,v3),(t4,v4),(t5,v5),(t6,v6),(t7,v7),(t8,v8),(t9,v9),(t10,v10),(t11,v11)]:=.k h1 (.k h2 (.k h3 (.k h4 (.k h5 (.k h6 (.k h7 (.k h8 (.k h9 (.k h10 (.k h11 .n))))))))))
theorem ra12 (h1:sget S t1 = some v1) (h2:sget S t2 = some v2) (h3:sget S t3 = some v3) (h4:sget S t4 = some v4) (h5:sget S t5 = some v5) (h6:sget S t6 = some v6) (h7:sget S t7 = some v7) (h8:sget S t8 = some v8) (h9:sget S t9 = some v9) (h10:sget S t10 = some v10) (h11:sget S t11 = some v11) (h12:sget S t12 = some v12):RL S [t1,t2,t3,t4,t5,t6,t7,t8,t9,t10,t11,t12] [(t1,v1),(t2,v2),(t3,v3),(t4,v4),(t5,v5),(t6,v6),(t7,v7),(t8,v8),(t9,v9),(t10,v10),(t11,v11),(t12,v12)]:=.k h1 (.k h2 (.k h3 (.k h4 (.k h5 (.k h6 (.k h7 (.k h8 (.k h9 (.k h10 (.k h11 (.k h12 .n)))))))))))
theorem ra13 (h1:sget S t1 = some v1) (h2:sget S t2 = some v2) (h3:sget S t3 = some v3) (h4:sget S t4 = some v4) (h5:sget S t5 = some v5) (h6:sget S t6 = some v6) (h7:sget S t7 = some v7) (h8:sget S t8 = some v8) (h9:sget S t9 = some v9) (h10:sget S t10 = some v10) (h11:sget S t11 = some v11) (h12:sget S t12 = some v12) (h13:sget S t13 = some v13):RL S [t1,t2,t3,t4,t5,t6,t7,t8,t9,t10,t11,t12,t13] [(t1,v1),(t2,v2),(t3,v3),(t4,v4),(t5,v5),(t6,v6),(t7,v7),(t8,v8),(t9,v9),(t10,v10),(t11,v11),(t12,v12),(t13,v13)]:=.k h1 (.k h2 (.k h3 (.k h4 (.k h5 (.k h6 (.k h7 (.k h8 (.k h9 (.k h10 (.k h11 (.k h12 (.k h13 .n))))))))))))
theorem su13 (h1:sget S t1 = some v1) (h2:sget S t2 = some v2) (h3:sget S t3 = some v3) (h4:sget S t4 = some v4) (h5:sget S t5 = some v5) (h6:sget S t6 = some v6) (h7:sget S t7 = some v7) (h8:sget S t8 = some v8) (h9:sget S t9 = some v9) (h10:sget S t10 = some v10) (h11:sget S t11 = some v11) (h12:sget S t12 = some v12) (h13:sget S t13 = some v13):Sub [(t1,v1),(t2,v2),(t3,v3),(t4,v4),(t5,v5),(t6,v6),(t7,v7),(t8,v8),(t9,v9),(t10,v10),(t11,v11),(t12,v12),(t13,v13)] S:=.cons h1 (.cons h2 (.cons h3 (.cons h4 (.cons h5 (.cons h6 (.cons h7 (.cons h8 (.cons h9 (.cons h10 (.cons h11 (.cons h12 (.cons h13 (.nil _)))))))))))))
theorem ra14 (h1:sget S t1 = some v1) (h2:sget S t2 = some v2) (h3:sget S t3 = some v3) (h4:sget S t4 = some v4) (h5:sget S t5 = some v5) (h6:sget S t6 = some v6) (h7:sget S t7 = some v7) (h8:sget S t8 = some v8) (h9:sget S t9 = some v9) (h10:sget S t10 = some v10) (h11:sget S t11 = some v11) (h12:sget S t12 = some v12) (h13:sget S t13 = some v13) (h14:sget S t14 = some v14):RL S [t1,t2,t3,t4,t5,t6,t7,t8,t9,t10,t11,t12,t13,t14] [(t1,v1),(t2,v2),(t3,v3),(t4,v4),(t5,v5),(t6,v6),(t7,v7),(t8,v8),(t9,v9),(t10,v10),(t11,v11),(t12,v12),(t13,v13),(t14,v14)]:=.k h1 (.k h2 (.k h3 (.k h4 (.k h5 (.k h6 (.k h7 (.k h8 (.k h9 (.k h10 (.k h11 (.k h12 (.k h13 (.k h14 .n)))))))))))))
theorem su14 (h1:sget S t1 = some v1) (h2:sget S t2 = some v2) (h3:sget S t3 = some v3) (h4:sget S t4 = some v4) (h5:sget S t5 = some v5) (h6:sget S t6 = some v6) (h7:sget S t7 = some v7) (h8:sget S t8 = some v8) (h9:sget S t9 = some v9) (h10:sget S t10 = some v10) (h11:sget S t11 = some v11) (h12:sget S t12 = some v12) (h13:sget S t13 = some v13) (h14:sget S t14 = some v14):Sub [(t1,v1),(t2,v2),(t3,v3),(t4,v4),(t5,v5),(t6,v6),(t7,v7),(t8,v8),(t9,v9),(t10,v10),(t11,v11),(t12,v12),(t13,v13),(t14,v14)] S:=.cons h1 (.cons h2 (.cons h3 (.cons h4 (.cons h5 (.cons h6 (.cons h7 (.cons h8 (.cons h9 (.cons h10 (.cons h11 (.cons h12 (.cons h13 (.cons h14 (.nil _))))))))))))))
end
end Am
end
section
namespace Am
open Go
mutual
def AV.cl (N:Nat):AV→Bool
 | .lit _ | .nils _ | .undef=>true
 | .seq _ rows | .fresh _ rows=>freeR rows
 | .xseq _ rows=>clR N rows
 | .ptr b _ | .itr b | .eptr b _ _ _ | .asl b _ | .csl b _ _ _ | .mp b=>Nat.blt b N
 | .cptr cs | .agg cs | .tup cs=>clL N cs
 | .fn (.yield l) a c=>Nat.blt l N && clL N a && clL N c
 | .fn _ a c=>clL N a && clL N c
def clL (N:Nat):List AV→Bool
 | []=>true
 | x :: l=>x.cl N && clL N l
def clR (N:Nat):List (List AV)→Bool
 | []=>true
 | x :: l=>clL N x && clR N l
end
section
variable {p g:Nat}
end
def clS (N:Nat) (s:B3):Bool:=s.all fun x=>x.2.cl N
def clM (N:Nat) (es:List (AV × AV)):Bool:=es.all fun x=>x.1.cl N && x.2.cl N
def AO.cl (N:Nat):AO→Bool
 | .dead | .iter _ _=>true
 | .cells cs=>clL N cs
 | .arr _ _ rows=>clR N rows
 | .stk _ rows anc=>clR N rows && anc.all fun b=>Nat.blt b N
 | .map es=>clM N es
 | .loop _ s _ a b _ _=>clS N s && a.free && b.free
 | .ro o=>o.cl N
section
variable {p g:Nat}
end
theorem D7q {T:Tab} {d:Bool} {nres:Nat} {pre live:List Nat} {ops:List AOper} {s:B3} {H H1:A1} {c:Sc} {Q:Ex→B3→A1→Prop} (hp:publish s H pre = some H1) (h:WP T (.region d nres [] ops live) s H1 c Q):WP T (.region d nres pre ops live) s H c Q:= by
 intro S hS
 obtain ⟨e,S',s',H',⟨n,hn⟩,h1,h2⟩:=h S hS
 refine ⟨e,S',s',H',⟨n,?_⟩,h1,h2⟩
 cases n with
 | zero=>simp [mach] at hn
 | succ n =>
  rw [V7] at hn ⊢
  unfold E1 at hn ⊢
  simp only [publish] at hn
  simp only [B3o hS hp]
  exact hn
theorem C9t {s:B3} {H0:A1} {l l1:List AO} {t b n:Nat} {v':AV} (h:sget s t = some (.asl b n)) (hf:T4 (H0++l) (.asl b n) = some (v',H0++l1)):publish s (H0++l) [t] = some (H0++l1):= by
 simp only [publish,h,W1,hf,Option.map_some]
def grL (N:Nat) (L:A1):Bool:=L.all fun o=>o.anc.all fun b=>Nat.ble N b
section
variable {T:Tab} {s:B3} {H0:A1} {l:List AO} {c:Sc} {Q:Ex→B3→A1→Prop}
def AsQ (T:Tab) (H0:A1) (k:Nat) (b0 b1:AO) (bd:ACode) (c:Sc) (Q:Ex→B3→A1→Prop) (e:Ex) (s1:B3) (H1:A1):Prop :=
 ∃ l1,e = .normal∧H1 = H0++l1∧l1[k]? = some b0∧WP T bd s1 (H0++l1.set k b1) c Q
def C29 {σ ρ:Type} (ex:ρ→Ex):σ ⊕ ρ→Option Ex
 | .inl _=>none
 | .inr r=>some (ex r)
def D99 {σ ρ:Type} (ex:ρ→Ex):σ ⊕ ρ→Ex
 | .inl _=>.normal
 | .inr r=>ex r
end
end Am
namespace Am
open Go
section
variable {T:Tab} {s:B3} {H0 H:A1} {l:List AO} {c:Sc} {n0 N:Nat}
theorem X8 {f:Opd} {args:List Opd} {fv:AV} {aq as' rs rs':List AV} {H1 H2:A1} (hf:ev s f = some fv) (ha:evs s args = some aq) (hz:R9 H aq = some (as',H1)) (hcall:G8 T c H1 fv as' rs H2) (hr:rs.map fzA = rs'):One T c n0 s H (.call f args [] false) (packed rs') H2:= by
 obtain ⟨n,e⟩:=hcall
 have hz':A0t [] H aq = some (as',H1):=hz
 exact ⟨n,by simp only [core,U4,hf,ha,Bool.false_eq_true,if_false,hz',e,A02,hr]⟩
def B9t (H0 H':A1) (rv:List ARes) (rs:List AV) (e:Ex) (s:B3) (H:A1):Prop :=
 (match e with | .exit _=>False | _=>True)∧∃ rs0 H1,results s H rv = some rs0∧Q7 H0.length H rs0 = some (rs,H1)∧bdL H0.length rs = true∧H1.take H0.length = H'
theorem A84 {i:Nat} {af:AFunc} {first cap args aq rs:List AV} {H':A1} (haf:T i = some af) (has:first++args++cap = aq) (hn:(Nat.beq aq.length af.nargs && Nat.blt af.nargs 1000) = true)
  (h:WP T af.body (J0 0 aq) H ⟨H.length,c.cur :: c.outer⟩ (B9t H H' af.results rs)):G8 T c H (.fn (.func i) first cap) args rs H':= by
 obtain ⟨e,S',s',H2,h1,h2,h3,rs0,H1,h4,h5,h6,h7⟩:=h _ (Sub.refl _)
 refine G8.fn (af:=af) (bd:=af.body) (aq:=aq) (rs0:=rs0) (rs1:=rs) (H1:=H1) (e:=e) (st':=⟨S',H2,⟨H.length,c.cur :: c.outer⟩⟩) rfl haf rfl has.symm hn rfl h1 (by cases e <;> first | rfl | exact h3.elim) (P5 h2 h4) h5 rfl ?_
 unfold trunc
 rw [h6,if_pos rfl,h7]
theorem B86 {H H':A1} {n:Nat} (h:S8 c H = true) (hl:H.length≤H'.length) (hn:n≤H'.length):S8 ⟨n,c.cur :: c.outer⟩ H' = true:= by
 unfold S8 at h ⊢
 rw [List.all_cons,Nat.ble_eq_true_of_le hn,Bool.true_and]
 rw [List.all_eq_true] at h ⊢
 intro B hB
 have:=Nat.le_of_ble_eq_true (h B hB)
 exact Nat.ble_eq_true_of_le (by omega)
theorem C75 {H0 H1 H':A1} {rv:List ARes} {rs rs0:List AV} {e:Ex} (he:(match e with | .exit _=>False | _=>True)) (h1:results s H1 rv = some rs0) (h2:Q7 H0.length H1 rs0 = some (rs,H1)) (h3:bdL H0.length rs = true) (h4:H1.take H0.length = H'):B9t H0 H' rv rs e s H1 :=
 ⟨he,rs0,H1,h1,h2,h3,h4⟩
end
end Am
end
section
namespace Am
open Go
section
variable {β:Type} {n:Nat}
end
section
variable {T:Tab} {s:B3} {H0 H:A1} {l:List AO} {c:Sc} {n0 k0:Nat} {β:Type} {n:Nat} {kk:IntKind} {g:β→List AV} {es:List (IArr n × β)} {k:IArr n} {ks:List Nat}
theorem C1e {b:Nat} {o:AO} (h:b < H0.length):hset (H0++l) b o = hset H0 b o++l:= by
 unfold hset
 exact List.set_append_left _ _ h
theorem C1c (H0:A1) (l:List AO) {b:Nat} (hb:b < H0.length):∀js:List Nat,hide (H0++l) (js.map (H0.length + ·)++[b]) = hset H0 b .dead++S3 l js
 | []=>by simp only [List.map_nil,List.nil_append,hide,S3]; exact C1e hb
 | j :: js=>by
  simp only [List.map_cons,List.cons_append,hide,C1c H0 l hb js,S3]
  have:=F2 (hset H0 b .dead) (S3 l js) j .dead
  rw [I3] at this
  exact this
theorem B57 (H0:A1) (l m:List AO) {b:Nat} (hb:b < H0.length):∀js:List Nat,unhide (H0++l) (hset H0 b .dead++m) (js.map (H0.length + ·)++[b]) = H0++R8 l m js
 | []=>by
  have h1:hget (H0++l) b = some H0[b]:= by
   unfold hget; rw [List.getElem?_append_left hb]; simp [hb]
  simp only [List.map_nil,List.nil_append,unhide,R8,h1]
  rw [C1e (by rw [I3]; exact hb)]
  congr 1
  unfold hset
  rw [List.set_set]
  exact List.set_getElem_self hb
 | j :: js=>by
  have h1:hget (H0++l) (H0.length + j) = l[j]?:= by rw [N9]
  simp only [List.map_cons,List.cons_append,unhide,R8,h1,B57 H0 l m hb js]
  cases l[j]? with
  | none=>rfl
  | some o=>exact F2 _ _ _ _
theorem B9x (N b:Nat) {js:List Nat}:(js.map (N + ·)++[b]).contains b = true:= by
 simp only [List.contains_iff_mem,List.mem_append,List.mem_singleton,or_true]
theorem D75 {op:AOp} {d:Option Nat} {gd:Option (Nat × Bool)} {hid:List Nat} {hida:List (Nat × List Nat)} {inc src:Nat} {bs js:List Nat} {k0 b:Nat} (jh:List Nat) (ejh:hid.map (H0.length + k0 + ·) = jh.map (H0.length + ·)) (hw:ways s (H0++S3 l jh) hida = some bs) (e:jh.map (H0.length + ·)++bs = js.map (H0.length + ·)++[b]) (hall:(js.all fun j=>Nat.blt j l.length && A6o l j) = true) (hb:b < H0.length) (hbn:hstk H0 b = none) :
  A28 (H0.length + k0) s (H0++l) ⟨d,op,gd,hid,hida,inc,src⟩ = some (js.map (H0.length + ·)++[b]):= by
 have h0:(js.all fun j=>Nat.blt j l.length) = true:= by
  rw [List.all_eq_true] at hall ⊢
  intro x hx
  have:=hall x hx
  rw [Bool.and_eq_true] at this
  exact this.1
 have h1:((js.map (H0.length + ·)++[b]).all fun b=>Nat.blt b (H0++l).length) = true:= by
  rw [List.all_append,C8q H0 l h0]
  simp only [List.all_cons,List.all_nil,Bool.and_true,Bool.true_and]
  exact Nat.ble_eq_true_of_le (by rw [List.length_append]; omega)
 have h2:(bs.all fun b=>(hstk (H0++S3 l jh) b).isNone) = true:= by
  rw [List.all_eq_true]
  intro x hx
  have hm:x ∈ js.map (H0.length + ·)++[b]:=e ▸ List.mem_append_right _ hx
  rcases List.mem_append.1 hm with hm | hm
  ·obtain ⟨j,hj,rfl⟩:=List.mem_map.1 hm
   have:=List.all_eq_true.1 hall j hj
   rw [Bool.and_eq_true] at this
   rw [B34 H0 this.2]; rfl
  ·rw [List.mem_singleton.1 hm,A4i (H:=H0) (List.getElem?_append_left hb),hbn]; rfl
 unfold A28
 simp only [ejh,B22,hw,e,h1,h2,Bool.or_true,Bool.and_true,if_true]
theorem D4i {R:B3→A1→Prop} {hc:List (Option (List Nat))} {ops:List AOper} {op:AOp} {d:Option Nat} {hid:List Nat} {hida:List (Nat × List Nat)} {inc src b:Nat} {v:AV} {l1:List AO} (js:List Nat) (l2:List AO) (hb:b < H0.length) (hhs:A28 n0 s (H0++l) ⟨d,op,none,hid,hida,inc,src⟩ = some (js.map (H0.length + ·)++[b])) (hseen:O6 s ⟨d,op,none,hid,hida,inc,src⟩ hc = true)
  (h:One T c n0 s (hset H0 b .dead++S3 l js) op v (hset H0 b .dead++l1)) (hle:Nat.ble l.length l1.length = true) (hw:writes op = true) (e:R8 l l1 js = l2) (k:L9 T c n0 ops (sput s d v) (H0++l2) (some (js.map (H0.length + ·)++[b]) :: hc) R) :
  L9 T c n0 (⟨d,op,none,hid,hida,inc,src⟩ :: ops) s (H0++l) hc R:= by
 subst e
 obtain ⟨n1,e1⟩:=h
 obtain ⟨n2,s1,Hf,e2,h2⟩:=k
 refine ⟨max n1 n2,s1,Hf,?_,h2⟩
 have e1':=C2l (K3 T (Nat.le_max_left n1 n2)) e1
 have hle':Nat.ble (H0++l).length (hset H0 b .dead++l1).length = true:=Nat.ble_eq_true_of_le (by have:=Nat.le_of_ble_eq_true hle; rw [List.length_append,List.length_append,I3]; omega)
 simp only [opers,oper,wanted,hhs,hseen,C1c H0 l hb,e1',hle',Bool.or_true,if_true,B57 H0 l l1 hb,hw]
 exact Z7 (K3 T (Nat.le_max_right n1 n2)) e2
def cpy {α:Type} (d m:List α):List α:=m.take (min m.length d.length)++d.drop (min m.length d.length)
theorem B7h {α:Type} (d m:List α):(cpy d m).length = d.length:= by
 unfold cpy
 simp only [List.length_append,List.length_take,List.length_drop]
 omega
theorem C9n {α:Type} {f:α→List AV} {k j n:Nat} {x y:Opd} {m d:List α} {v:AV} (hd:ev s x = some (.asl (H0.length + j) n)) (hx:ev s y = some v) (hl:l[j]? = some (.arr k false (d.map f))) (hn:d.length = n) (hr:rd (H0++l) v k (m.map f)) (hf:∀a,(f a).all AV.frz = true) :
  One T c n0 s (H0++l) (.copy k x y) (.lit (.int .i64 (min m.length n:Nat))) (H0++l.set j (.arr k false ((cpy d m).map f))):= by
 have:=D8j (T:=T) (c:=c) (n0:=n0) hd hx hl hn hr hf
 subst hn
 exact this
theorem C5g {a:Opd} {j k N:Nat} {cs:List AV} (hN:H0.length = N) (h:ev s a = some (.ptr (N + j) 0)) (hl:l[j]? = some (.cells cs)) (hk:Nat.beq cs.length k = true):One T c n0 s (H0++l) (.load (some k) a) (.agg cs) (H0++l):= by subst hN; exact C2 h hl hk
theorem C38 {H':A1} {i:Nat} {a aq rs cap:List AV} (h:G8 T c H (.fn (.func i) [] cap) (a++aq) rs H'):G8 T c H (.fn (.func i) a cap) aq rs H':= by
 obtain ⟨n,e⟩:=h
 cases n with
 | zero=>simp [mach] at e
 | succ n =>
  refine ⟨n + 1,?_⟩
  rw [S9] at e ⊢
  exact e
theorem A83 {i:Nat} {a aq rs cap:List AV} (h:F0 T c H (.fn (.func i) [] cap) (a++aq) rs):F0 T c H (.fn (.func i) a cap) aq rs:=⟨C38 h.1,h.2⟩
end
theorem A6u {α:Type} {l:List α} {i:Int} {w:α} (h:idx l i = some w):0≤i∧i < l.length:= by
 unfold idx at h
 split at h
 ·have:=(List.getElem?_eq_some_iff.1 h).1
  exact ⟨by assumption,by omega⟩
 ·cases h
theorem B1l {α:Type} {l:List α} {i:Int} {w:α} (h:idx l i = some w):l[i.toNat]? = some w:= by
 unfold idx at h
 split at h
 ·exact h
 ·cases h
theorem B7s {α:Type} {f:α→List AV} {k:Nat} (hk:∀a,(f a).length = k):∀e:List α,((e.map f).flatten).length = e.length * k
 | []=>by simp
 | a :: e=>by rw [List.map_cons,List.flatten_cons,List.length_append,hk a,B7s hk e,List.length_cons,Nat.succ_mul,Nat.add_comm]
theorem A3v {α:Type} {f:α→List AV} {k:Nat} (hk:∀a,(f a).length = k) (post:List AV):∀{e:List α} {i:Nat} {y:α},e[i]? = some y→((e.map f).flatten++post).drop (i * k) = f y++(((e.drop (i + 1)).map f).flatten++post)
 | [],_,_,h=>by simp at h
 | a :: e,0,y,h=>by
  simp only [List.getElem?_cons_zero,Option.some.injEq] at h
  subst h
  simp
 | a :: e,i + 1,y,h=>by
  simp only [List.getElem?_cons_succ] at h
  have ih:=A3v hk post h
  rw [List.map_cons,List.flatten_cons,List.append_assoc,Nat.succ_mul,Nat.add_comm,← List.drop_drop,List.drop_left' (hk a),ih]
  rfl
theorem C4m {α:Type} {f:α→List AV} {k:Nat} (hk:∀a,(f a).length = k) (post:List AV) (z:α):∀{e:List α} {i:Nat} {y:α},e[i]? = some y→splice ((e.map f).flatten++post) (i * k) (f z) = ((e.set i z).map f).flatten++post
 | [],_,_,h=>by simp at h
 | a :: e,0,y,h=>by
  unfold splice
  simp only [Nat.zero_mul,List.take_zero,List.nil_append,Nat.zero_add,List.map_cons,List.flatten_cons,List.set_cons_zero,List.append_assoc]
  rw [hk z,List.drop_left' (hk a)]
 | a :: e,i + 1,y,h=>by
  simp only [List.getElem?_cons_succ] at h
  have ih:=C4m hk post z h
  unfold splice at ih ⊢
  simp only [List.map_cons,List.flatten_cons,List.set_cons_succ,List.append_assoc] at ih ⊢
  rw [← ih,Nat.succ_mul,Nat.add_comm (i * k) k,← hk a,List.take_append,List.take_of_length_le (Nat.le_add_right _ _),Nat.add_sub_cancel_left,Nat.add_assoc,← List.drop_drop,List.drop_left,List.append_assoc]
theorem slc0 {α:Type} {e m:List α} {h:Int} (hm:slc e 0 h = some m):m = e.take h.toNat:= by
 obtain ⟨_,rfl⟩:=A8n hm
 rfl
section
variable {T:Tab} {s:B3} {H0 H:A1} {l:List AO} {c:Sc} {n0 k0:Nat} {α:Type} {f:α→List AV} {k o n:Nat} {kk:IntKind} {x i a:Opd} {m:Int} {y z:α} {e e2:List α} {cs ds post:List AV}
theorem A3c {b:Nat} (h:ev s x = some (.ptr b o)) (hi:ev s i = some (.lit (.int kk m))) (hn:e.length = n) (hy:idx e m = some y):One T c n0 s H (.idxA k n x i) (.ptr b (o + m.toNat * k)) H :=
 ⟨0,by
  have hb:=A6u hy
  rw [hn] at hb
  simp only [core,prim,h,hi,if_pos hb]⟩
theorem C9i {b:Nat} (h:ev s a = some (.ptr b (o + m.toNat * k))) (hc:hcells H b = some cs) (hcs:cs.drop o = (e.map f).flatten++post) (hk:∀a,(f a).length = k) (hy:idx e m = some y):∃r,cs.drop (o + m.toNat * k) = f y++r :=
 ⟨_,by rw [← List.drop_drop,hcs,A3v hk post (B1l hy)]⟩
theorem A3d {b:Nat} {g:α→AV} (hf:∀a,f a = [g a]) (h:ev s a = some (.ptr b (o + m.toNat * 1))) (hc:hcells H b = some cs) (hcs:cs.drop o = (e.map f).flatten++post) (hy:idx e m = some y):One T c n0 s H (.load none a) (g y) H :=
 ⟨0,by
  obtain ⟨r,hr⟩:=C9i h hc hcs (fun a=>by rw [hf]; rfl) hy
  rw [hf] at hr
  simp only [core,prim,h,G5,hc,hr,List.singleton_append]⟩
theorem A9n {j:Nat} {v:AV} (h:ev s a = some (.ptr (H0.length + j) (o + m.toNat * k))) (hv:ev s x = some v) (hvc:v.cellsOf = f z) (hl:l[j]? = some (.cells cs)) (ho:Nat.ble o cs.length = true) (hcs:cs.drop o = (e.map f).flatten++post) (hk:∀a,(f a).length = k) (hy:idx e m = some y) (he2:e2 = B11 e m z) (hds:cs.take o++((e2.map f).flatten++post) = ds) (hok:c.okL (H0.length + j) v.cellsOf = true) :
  One T c n0 s (H0++l) (.store k a x) (.tup []) (H0++l.set j (.cells ds)):= by
 have hb:=B1l hy
 have hlt:=(List.getElem?_eq_some_iff.1 hb).1
 have ho:=Nat.le_of_ble_eq_true ho
 have hzk:=hk z
 have hmul:m.toNat * k + k≤e.length * k:= by
  have:=Nat.mul_le_mul_right k (show m.toNat + 1≤e.length by omega)
  rw [Nat.succ_mul] at this; exact this
 have hle:o + m.toNat * k + k≤cs.length:= by
  have:=congrArg List.length hcs
  rw [List.length_drop,List.length_append,B7s hk] at this
  omega
 refine D1 h hv hl ?_ hok ?_
 ·rw [hvc,hzk,Nat.beq_refl,Bool.true_and]
  exact Nat.ble_eq_true_of_le (by omega)
 ·rw [← hds,hvc,he2]
  have h1:=C4m hk post z hb
  have e1:splice cs (o + m.toNat * k) (f z) = cs.take o++splice (cs.drop o) (m.toNat * k) (f z):= by
   unfold splice
   rw [List.take_add,Nat.add_assoc,← List.drop_drop]
   simp only [List.append_assoc]
  rw [e1,hcs,h1]; rfl
theorem B8d {g:α→AV} (hf:∀a,f a = [g a]) (h:ev s x = some (.agg cs)) (hi:ev s i = some (.lit (.int kk m))) (hn:e.length = n) (hcs:cs = (e.map f).flatten) (hy:idx e m = some y):One T c n0 s H (.idxAgg none 1 n x i) (g y) H :=
 ⟨0,by
  have hb:=A6u hy
  rw [hn] at hb
  have hr:=A3v (f:=f) (k:=1) (fun a=>by rw [hf]; rfl) [] (B1l hy)
  rw [List.append_nil,← hcs,hf] at hr
  have h1:cs[m.toNat * 1]? = some (g y):= by
   have h2:=congrArg List.head? hr
   rw [List.head?_drop] at h2
   rw [h2]; rfl
  simp only [core,prim,h,hi,if_pos hb,h1,Option.map_some]⟩
theorem C5k {b:Nat} {hi:Option Opd} {h':Int} {m':List α} (h:ev s x = some (.ptr b o)) (hc:hcells H b = some cs) (hb:bnd s n hi = some h') (hle:Nat.ble (o + n * k) cs.length = true) (hn:e.length = n) (hm:slc e 0 h' = some m'):One T c n0 s H (.sliceA k n x hi) (.csl b o k m'.length) H :=
 ⟨0,by
  obtain ⟨h3,rfl⟩:=A8n hm
  have h4:(((e.take h'.toNat).drop 0)).length = h'.toNat:= by rw [List.drop_zero,List.length_take]; omega
  rw [hn] at h3
  have h5:(Nat.ble (o + n * k) cs.length && decide (0≤h'∧h'≤(n:Int))) = true:= by rw [hle,decide_eq_true ⟨h3.2.1,h3.2.2⟩]; rfl
  simp only [core,prim,h,hc,hb,h5,if_true,Int.toNat_zero,h4]⟩
theorem D09 {b:Nat} (h:ev s x = some (.ptr b o)) (hc:hcells H b = some cs) (hle:Nat.ble (o + n * k) cs.length = true):One T c n0 s H (.sliceA k n x none) (.csl b o k n) H :=
 ⟨0,by
  have h5:(Nat.ble (o + n * k) cs.length && decide ((0:Int)≤(n:Int)∧(n:Int)≤(n:Int))) = true:= by rw [hle,decide_eq_true (by omega)]; rfl
  simp only [core,prim,h,hc,bnd,h5,if_true,Int.toNat_natCast]⟩
theorem D7p {b p:Nat} {e':List α} (hc:hcells H b = some cs) (hle:Nat.ble (o + e.length * k) cs.length = true) (hcs:cs.drop o = (e.map f).flatten++post) (hk:∀a,(f a).length = k) (he:e' = e.take p) (hp:e'.length = n):rd H (.csl b o k n) k (e'.map f):= by
 subst he; subst hp
 have hle:=Nat.le_of_ble_eq_true hle
 have h0:((e.take p)).length≤e.length:= by rw [List.length_take]; omega
 have h1:Nat.ble (o + (e.take p).length * k) cs.length = true:=Nat.ble_eq_true_of_le (by have:=Nat.mul_le_mul_right k h0; omega)
 refine ⟨?_,rfl⟩
 simp only [Y7,hc,h1,if_true,Option.some.injEq]
 apply List.ext_getElem?
 intro i
 rw [List.getElem?_map,List.getElem?_map]
 by_cases hi:i < (e.take p).length
 ·have hie:i < e.length:= by omega
  rw [List.getElem?_range hi,List.getElem?_eq_getElem hi]
  simp only [Option.map_some,Option.some.injEq]
  rw [← List.drop_drop,hcs,A3v hk post (List.getElem?_eq_getElem hie),List.take_left' (hk _),List.getElem_take]
 ·rw [List.getElem?_eq_none (by simpa using hi),List.getElem?_eq_none (by omega)]; rfl
theorem D6i {neg:Bool} {b:Nat} (h:ev s x = some (.csl b o k n)):One T c n0 s H (.nilq neg x) (.lit (.bool neg)) H:=⟨0,by simp only [core,prim,h]⟩
end
structure Ar2 (α:Type) where
 mk ::
 (x0 x1:α)
 deriving DecidableEq
def Ar2.l {α:Type} (a:Ar2 α):List α:=[a.x0,a.x1]
def Ar2.set {α:Type} (a:Ar2 α) (i:Int) (v:α):Ar2 α:=⟨if i = 0 then v else a.x0,if i = 1 then v else a.x1⟩
def D2p {α:Type} (f:α→List AV) (a:Ar2 α):List AV:=f a.x0++(f a.x1++[])
theorem Ar2.set_l {α:Type} {a:Ar2 α} {i:Int} {v w:α} (h:idx a.l i = some w):(a.set i v).l = B11 a.l i v:= by
 obtain ⟨h0,h1⟩:=A6u h
 have h1:i < 2:=h1
 rcases (by omega:i = 0∨i = 1) with rfl | rfl
 all_goals rfl
structure Ar3 (α:Type) where
 mk ::
 (x0 x1 x2:α)
 deriving DecidableEq
def Ar3.l {α:Type} (a:Ar3 α):List α:=[a.x0,a.x1,a.x2]
def Ar3.set {α:Type} (a:Ar3 α) (i:Int) (v:α):Ar3 α:=⟨if i = 0 then v else a.x0,if i = 1 then v else a.x1,if i = 2 then v else a.x2⟩
theorem Ar3.set_l {α:Type} {a:Ar3 α} {i:Int} {v w:α} (h:idx a.l i = some w):(a.set i v).l = B11 a.l i v:= by
 obtain ⟨h0,h1⟩:=A6u h
 have h1:i < 3:=h1
 rcases (by omega:i = 0∨i = 1∨i = 2) with rfl | rfl | rfl
 all_goals rfl
structure Ar4 (α:Type) where
 mk ::
 (x0 x1 x2 x3:α)
 deriving DecidableEq
def Ar4.l {α:Type} (a:Ar4 α):List α:=[a.x0,a.x1,a.x2,a.x3]
def Ar4.set {α:Type} (a:Ar4 α) (i:Int) (v:α):Ar4 α:=⟨if i = 0 then v else a.x0,if i = 1 then v else a.x1,if i = 2 then v else a.x2,if i = 3 then v else a.x3⟩
def A1d {α:Type} (f:α→List AV) (a:Ar4 α):List AV:=f a.x0++(f a.x1++(f a.x2++(f a.x3++[])))
theorem Ar4.set_l {α:Type} {a:Ar4 α} {i:Int} {v w:α} (h:idx a.l i = some w):(a.set i v).l = B11 a.l i v:= by
 obtain ⟨h0,h1⟩:=A6u h
 have h1:i < 4:=h1
 rcases (by omega:i = 0∨i = 1∨i = 2∨i = 3) with rfl | rfl | rfl | rfl
 all_goals rfl
structure Ar5 (α:Type) where
 mk ::
 (x0 x1 x2 x3 x4:α)
 deriving DecidableEq
def Ar5.l {α:Type} (a:Ar5 α):List α:=[a.x0,a.x1,a.x2,a.x3,a.x4]
def Ar5.set {α:Type} (a:Ar5 α) (i:Int) (v:α):Ar5 α:=⟨if i = 0 then v else a.x0,if i = 1 then v else a.x1,if i = 2 then v else a.x2,if i = 3 then v else a.x3,if i = 4 then v else a.x4⟩
theorem Ar5.set_l {α:Type} {a:Ar5 α} {i:Int} {v w:α} (h:idx a.l i = some w):(a.set i v).l = B11 a.l i v:= by
 obtain ⟨h0,h1⟩:=A6u h
 have h1:i < 5:=h1
 rcases (by omega:i = 0∨i = 1∨i = 2∨i = 3∨i = 4) with rfl | rfl | rfl | rfl | rfl
 all_goals rfl
structure Ar6 (α:Type) where
 mk ::
 (x0 x1 x2 x3 x4 x5:α)
 deriving DecidableEq
def Ar6.l {α:Type} (a:Ar6 α):List α:=[a.x0,a.x1,a.x2,a.x3,a.x4,a.x5]
def Ar6.set {α:Type} (a:Ar6 α) (i:Int) (v:α):Ar6 α:=⟨if i = 0 then v else a.x0,if i = 1 then v else a.x1,if i = 2 then v else a.x2,if i = 3 then v else a.x3,if i = 4 then v else a.x4,if i = 5 then v else a.x5⟩
theorem Ar6.set_l {α:Type} {a:Ar6 α} {i:Int} {v w:α} (h:idx a.l i = some w):(a.set i v).l = B11 a.l i v:= by
 obtain ⟨h0,h1⟩:=A6u h
 have h1:i < 6:=h1
 rcases (by omega:i = 0∨i = 1∨i = 2∨i = 3∨i = 4∨i = 5) with rfl | rfl | rfl | rfl | rfl | rfl
 all_goals rfl
structure Ar10 (α:Type) where
 mk ::
 (x0 x1 x2 x3 x4 x5 x6 x7 x8 x9:α)
 deriving DecidableEq
def Ar10.l {α:Type} (a:Ar10 α):List α:=[a.x0,a.x1,a.x2,a.x3,a.x4,a.x5,a.x6,a.x7,a.x8,a.x9]
def Ar10.set {α:Type} (a:Ar10 α) (i:Int) (v:α):Ar10 α:=⟨if i = 0 then v else a.x0,if i = 1 then v else a.x1,if i = 2 then v else a.x2,if i = 3 then v else a.x3,if i = 4 then v else a.x4,if i = 5 then v else a.x5,if i = 6 then v else a.x6,if i = 7 then v else a.x7,if i = 8 then v else a.x8,if i = 9 then v else a.x9⟩
theorem Ar10.set_l {α:Type} {a:Ar10 α} {i:Int} {v w:α} (h:idx a.l i = some w):(a.set i v).l = B11 a.l i v:= by
 obtain ⟨h0,h1⟩:=A6u h
 have h1:i < 10:=h1
 rcases (by omega:i = 0∨i = 1∨i = 2∨i = 3∨i = 4∨i = 5∨i = 6∨i = 7∨i = 8∨i = 9) with rfl | rfl | rfl | rfl | rfl | rfl | rfl | rfl | rfl | rfl
 all_goals rfl
structure KeyOk {κ:Type} [DecidableEq κ] (ag:Bool) (ks:List Nat) (av:κ→AV) (kc:κ→List AV):Prop where
 cells:∀a,H6 ag (av a) = some (kc a)
 kinds:∀a,kinds ks (kc a) = true
 eql:∀a b,F4 (kc a) (kc b) = some (decide (a = b))
theorem C69 (k:IntKind) (x y:Int) (l m:List AV):F4 (.lit (.int k x) :: l) (.lit (.int k y) :: m) = bif decide (x = y) then F4 l m else some false:= by
 simp only [F4,A24,if_true]
 by_cases h:x = y
 ·subst h; simp
 ·rw [show (x == y) = false from beq_eq_false_iff_ne.mpr h,decide_eq_false h]; rfl
section
variable {κ β:Type} [DecidableEq κ]
def kfind (k:κ):List (κ × β)→Nat→Option (Nat × β)
 | [],_=>none
 | e :: es,i=>if k = e.1 then some (i,e.2) else kfind k es (i + 1)
def kget (es:List (κ × β)) (k:κ):Option β:=(kfind k es 0).map (·.2)
def kset (es:List (κ × β)) (k:κ) (v:β):List (κ × β):=match kfind k es 0 with
 | some (i,_)=>es.set i (k,v)
 | none=>es++[(k,v)]
def kE (av:κ→AV) (gv:β→AV) (e:κ × β):AV × AV:=(av e.1,gv e.2)
theorem B0c {ag:Bool} {ks:List Nat} {av:κ→AV} {kc:κ→List AV} (hK:KeyOk ag ks av kc) (gv:β→AV) (k:κ):∀(es:List (κ × β)) (i:Nat),findKey ag ks (kc k) (es.map (kE av gv)) i = some ((kfind k es i).map fun x=>(x.1,gv x.2))
 | [],_=>rfl
 | e :: es,i=>by
  simp only [List.map_cons,kE,findKey,hK.cells,hK.kinds,if_true,hK.eql]
  by_cases h:k = e.1
  ·simp only [kfind,h,decide_true,if_true,Option.map_some]
  ·simp only [kfind,h,decide_false,if_false]
   exact B0c hK gv k es (i + 1)
end
section
variable {T:Tab} {s:B3} {H0 H:A1} {l:List AO} {c:Sc} {n0 k0:Nat} {κ β:Type} [DecidableEq κ] {ag:Bool} {ks:List Nat} {av:κ→AV} {kc:κ→List AV} {gv:β→AV} {es:List (κ × β)} {k:κ} {x i:Opd} {b:Nat} {z:β}
theorem D35 {zz:AV} (hK:KeyOk ag ks av kc) (hx:ev s x = some (.mp b)) (hm:hmap H b = some (es.map (kE av gv))) (hi:ev s i = some (av k)) (hz:zz = gv z):One T c n0 s H (.lookup zz ag ks x i false) (gv ((kget es k).getD z)) H:= by
 subst hz
 refine ⟨0,?_⟩
 simp only [core,prim,hx,hm,hi,hK.cells,hK.kinds,if_true,B0c hK]
 unfold kget
 cases kfind k es 0 with
 | none=>rfl
 | some y=>rfl
theorem D8l {m:Opd} {v:β} (hK:KeyOk ag ks av kc) (hx:ev s m = some (.mp b)) (hm:A9c H b = some (es.map (kE av gv))) (hi:ev s i = some (av k)) (hv:ev s x = some (gv v)) (hg:((gv v).cellsOf.all AV.frz && !(gv v).cellsOf.isEmpty) = true):One T c n0 s H (.mupd ag ks m i x) (.tup []) (hset H b (.map ((kset es k v).map (kE av gv)))):= by
 refine ⟨0,?_⟩
 have h3:(Am.kinds ks (kc k) && (gv v).cellsOf.all AV.frz && !(gv v).cellsOf.isEmpty) = true:= by
  rw [hK.kinds,Bool.true_and]; exact hg
 simp only [core,prim,hx,hi,hv,hm,hK.cells,h3,if_true,B0c hK]
 unfold kset
 cases kfind k es 0 with
 | none=>simp [kE]
 | some y=>simp [kE,List.map_set]
omit [DecidableEq κ] in
theorem A1z {j:Nat} {es:List (AV × AV)} (h:l[j]? = some (.map es)):hmap (H0++l) (H0.length + j) = some es:= by
 unfold hmap; rw [N9,h]
theorem D0u {j:Nat} {es:List (AV × AV)} (h:l[j]? = some (.map es)):A9c (H0++l) (H0.length + j) = some es:= by
 unfold A9c; rw [N9,h]
theorem B3b {m:Opd} {v:β} {j:Nat} (hK:KeyOk ag ks av kc) (hx:ev s m = some (.mp (H0.length + j))) (hm:l[j]? = some (.map (es.map (kE av gv)))) (hi:ev s i = some (av k)) (hv:ev s x = some (gv v)) (hg:((gv v).cellsOf.all AV.frz && !(gv v).cellsOf.isEmpty) = true):One T c n0 s (H0++l) (.mupd ag ks m i x) (.tup []) (H0++l.set j (.map ((kset es k v).map (kE av gv)))):= by
 have:=D8l (T:=T) (c:=c) (n0:=n0) hK hx (D0u hm) hi hv hg
 rwa [F2] at this
end
def first {ρ:Type} (f:Nat→Option ρ):Nat→Option ρ
 | 0=>none
 | n + 1=>match first f n with
  | some r=>some r
  | none=>f n
def iter {τ:Type} (g:Nat→τ→τ):Nat→τ→τ
 | 0,t=>t
 | n + 1,t=>g n (iter g n t)
theorem G1 {ρ:Type} {f:Nat→Option ρ}:∀{n:Nat},first f n = none↔∀ i,i < n→f i = none
 | 0=>⟨fun _ i hi=>absurd hi (Nat.not_lt_zero i),fun _=>rfl⟩
 | n + 1=>by
  unfold first
  cases hf:first f n with
  | none =>
   have h0:=G1.mp hf
   constructor
   ·intro h i hi
    by_cases e:i = n
    ·rw [e]; exact h
    ·exact h0 i (by omega)
   ·intro h; exact h n (Nat.lt_succ_self n)
  | some r =>
   constructor
   ·intro h; exact absurd h (by simp)
   ·intro h
    rw [G1.mpr fun i hi=>h i (Nat.lt_succ_of_lt hi)] at hf
    exact absurd hf (by simp)
theorem N2 {ρ:Type} {f:Nat→Option ρ} {r:ρ}:∀{n:Nat},first f n = some r→∃ i,i < n∧f i = some r∧∀ j,j < i→f j = none
 | 0,h=>absurd h (by simp [first])
 | n + 1,h=>by
  unfold first at h
  cases hf:first f n with
  | none =>
   rw [hf] at h
   exact ⟨n,Nat.lt_succ_self n,h,G1.mp hf⟩
  | some q =>
   rw [hf] at h
   obtain ⟨i,hi,h1,h2⟩:=N2 (hf.trans (by simpa using h))
   exact ⟨i,Nat.lt_succ_of_lt hi,h1,h2⟩
theorem A26 {ρ:Type} {f:Nat→Option ρ} {r:ρ} {n i:Nat} (hi:i < n) (h:f i = some r) (hj:∀j,j < i→f j = none):first f n = some r:= by
 cases hf:first f n with
 | none=>rw [G1.mp hf i hi] at h; exact absurd h (by simp)
 | some q =>
  obtain ⟨k,hk,h1,h2⟩:=N2 hf
  have e:k = i:= by
   rcases Nat.lt_trichotomy k i with l | l | l
   ·rw [hj k l] at h1; exact absurd h1 (by simp)
   ·exact l
   ·rw [h2 i l] at h; exact absurd h (by simp)
  rw [e,h] at h1; exact h1.symm
theorem C1i {σ ρ:Type} {b:σ→Option (σ ⊕ ρ)} {u:Nat→σ} {n:Nat} {r:ρ} (hs:∀i,i < n→b (u i) = some (.inl (u (i + 1)))) (he:b (u n) = some (.inr r)) :
  ∀ k j m,j + k = n→k < m→A3s b m (u j) = some r
 | 0,j,0,_,h=>absurd h (Nat.not_lt_zero _)
 | 0,j,m + 1,hj,_=>by
  rw [H9]
  have:j = n:= by omega
  rw [this,he]
 | k + 1,j,0,_,h=>absurd h (Nat.not_lt_zero _)
 | k + 1,j,m + 1,hj,hm=>by
  rw [H9,hs j (by omega)]
  exact C1i hs he k (j + 1) m (by omega) (by omega)
theorem H7 {σ ρ:Type} {b:σ→Option (σ ⊕ ρ)} (u:Nat→σ) (n:Nat) {r:ρ} (hn:n < 9223372036854775808) (hs:∀i,i < n→b (u i) = some (.inl (u (i + 1)))) (he:b (u n) = some (.inr r)) :
  loop b (u 0) = some r:=C1i hs he n 0 _ (by omega) (by omega)
theorem A7h {σ ρ:Type} {b:σ→Option (σ ⊕ ρ)} (u:Nat→σ) (n:Nat) (f:Nat→Option ρ) (z:ρ) (hn:n < 9223372036854775808)
  (hs:∀i,i < n→(∀ j,j < i→f j = none)→b (u i) = some (match f i with | some r=>.inr r | none=>.inl (u (i + 1))))
  (he:(∀ j,j < n→f j = none)→b (u n) = some (.inr z)) :
  loop b (u 0) = some ((first f n).getD z):= by
 cases hf:first f n with
 | none =>
  have h0:=G1.mp hf
  refine H7 u n hn ?_ (he h0)
  intro i hi
  rw [hs i hi fun j hj=>h0 j (by omega),h0 i hi]
 | some r =>
  obtain ⟨i,hi,h1,h2⟩:=N2 hf
  refine H7 u i (by omega) ?_ ?_
  ·intro j hj
   rw [hs j (by omega) fun k hk=>h2 k (by omega),h2 j hj]
  ·rw [hs i hi h2,h1]; rfl
theorem D9 {n:Int} (h:-9223372036854775808≤n∧n≤9223372036854775807):w64 n = n :=
 Go.IntWalk.i64_in n h
theorem G4 {α:Type} [Inhabited α] {l:List α} {i:Nat} (h:i < l.length):idx l (i:Int) = some l[i]!:= by
 unfold idx
 rw [if_pos (Int.natCast_nonneg i),Int.toNat_natCast,List.getElem?_eq_getElem h,getElem!_pos l i h]
theorem D5z {α:Type} [Inhabited α] {l:List α} {i:Int} (h0:0≤i) (h:i < l.length):idx l i = some l[i.toNat]!:= by
 have e:i = (i.toNat:Int):= by omega
 rw [e,G4 (by omega)]; rfl
theorem Q8 {α:Type} {k:Nat} {l m:List α} (hk:k≤64) (h:l.length + m.length≤1073741824):app k l m = some (l++m):= by
 unfold app
 rw [if_pos]
 refine ⟨Nat.le_trans (Nat.mul_le_mul h hk) (by decide),by omega⟩
theorem B62 {α:Type} {l:List α} {i:Nat} (h:i≤l.length):slc l 0 (i:Int) = some (l.take i):= by
 unfold slc
 rw [if_pos ⟨Int.le_refl 0,Int.natCast_nonneg i,by omega⟩,Int.toNat_natCast]; rfl
theorem B0j {ρ:Type} {b:Int→Option (Int ⊕ ρ)} (n:Nat) (f:Nat→Option ρ) (z:ρ) (hn:n < 9223372036854775808)
  (hs:∀i:Nat,i < n→(∀ j,j < i→f j = none)→b (i:Int) = some (match f i with | some r=>.inr r | none=>.inl (w64 ((i:Int) + 1))))
  (he:b (n:Int) = some (.inr z)) :
  loop b 0 = some ((first f n).getD z):= by
 refine A7h (fun i=>(i:Int)) n f z hn ?_ (fun _=>he)
 intro i hi hj
 rw [hs i hi hj,D9 (by omega)]
 rfl
theorem A4j {α:Type} {m:List α} {i:Nat} {x:α} (h:m[i]? = some x):idx m (i:Int) = some x:= by
 unfold idx
 rw [if_pos (Int.natCast_nonneg i),Int.toNat_natCast,h]
theorem C5b {σ ρ:Type} {b:σ→Option (σ ⊕ ρ)} (I:Nat→σ→Prop) (n:Nat) (J:ρ→Prop) (hn:n < 9223372036854775808)
  (hs:∀i s,i < n→I i s→∃ s',b s = some (.inl s')∧I (i + 1) s') (he:∀s,I n s→∃ r,b s = some (.inr r)∧J r) (s:σ) (h0:I 0 s):∃r,loop b s = some r∧J r:= by
 have key:∀k i s m,i + k = n→k < m→I i s→∃ r,A3s b m s = some r∧J r:= by
  intro k
  induction k with
  | zero =>
   intro i s m hi hm hI
   obtain ⟨m',rfl⟩:∃m',m = m' + 1:=⟨m - 1,by omega⟩
   have:i = n:= by omega
   subst this
   obtain ⟨r,h1,h2⟩:=he s hI
   exact ⟨r,by rw [H9,h1],h2⟩
  | succ k ih =>
   intro i s m hi hm hI
   obtain ⟨m',rfl⟩:∃m',m = m' + 1:=⟨m - 1,by omega⟩
   obtain ⟨s',h1,h2⟩:=hs i s (by omega) hI
   obtain ⟨r,h3,h4⟩:=ih (i + 1) s' m' (by omega) (by omega) h2
   exact ⟨r,by rw [H9,h1]; exact h3,h4⟩
 exact key n 0 s _ (by omega) hn h0
section
variable {σ ρ:Type}
end
end Am
end
section
namespace Am
open Go Go.RowKit
theorem A8b {P:Program} (hmix:P.follows .mixedOrders = true) {T:Tab} (hT:C0j P T) {i:Nat} {args:List AV} {H':A1} (h:G8 T ⟨0,[]⟩ [] (.fn (.func i) [] []) args [.b true] H') (W:World) (hG:B67 fun β o=>W.cell? ⟨β,o,none⟩) {vs:Array Value} (hl:vs.size = args.length)
  (hV:∀(j:Nat) x,args[j]? = some x→V ⟨fun _=>.none,fun β o=>W.cell? ⟨β,o,none⟩,hG⟩ x (vs[j]?.getD undef)):Calls P i vs W fun e W'=>e = .returned (.bool true)∧Below W.heap.size W W':= by
 obtain ⟨n,h⟩:=h
 cases n with
 | zero=>simp [mach] at h
 | succ m =>
  rw [S9] at h
  let g0:Ghost:=⟨fun _=>.none,fun β o=>W.cell? ⟨β,o,none⟩,hG⟩
  have hR:Rel (MCof P) P W.heap.size [] g0 W:=⟨fun _ _ _ h=>h,fun i β h=>by simp [g0,GB.blk] at h,fun i j β h=>by simp [g0,GB.blk] at h,fun i o h=>by simp at h,fun _ _=>rfl,Nat.le_refl _⟩
  have hS:ScOk ⟨0,[]⟩ ([]:A1):=⟨by simp,by simp,fun B _ i _ o h=>by simp at h⟩
  obtain ⟨_,hgo⟩:=B4f hT (B1p hmix hT m).1 h hR hS (by simpa using hl) (fun j x hj=>hV j x (by simpa using hj))
  intro cs
  obtain ⟨us,w',g',fs,fr,h1,h2,h3,h4,h5,h6,h7,h8,h9⟩:=hgo cs
  have hus:us = [.bool true]:= by
   cases h4 with
   | cons _ u f _ us fs h k =>
    cases k
    cases h with
    | one _ _ _ _ h =>
     cases h with
     | val _ _ h=>have:=R3 h; subst this; rfl
  subst hus
  refine ⟨.returned (.bool true),w',fr,⟨rfl,?_⟩,h1,h2,h3⟩
  exact ⟨h7.os,h7.tape,h7.output,h7.size,fun k hk=>(h7.frame k hk (fun i o hi=>by simp at hi)).1⟩
end Am
end
section
namespace Am
open Go
inductive Sh where
 | int (k:IntKind)
 | bool
 | str
 | seq (k:Nat) (l:List Sh)
mutual
def Sat:Sh→AV→Prop
 | .int k,x=>∃ n,x = .lit (.int k n)∧(Lit.int k n).wf = true
 | .bool,x=>∃ b,x = .lit (.bool b)
 | .str,x=>∃ s:ByteArray,x = .lit (.string s)∧s.size≤maxLen
 | .seq k l,x=>∃ rows:List (List AV),x = .seq k rows∧rows.length≤maxLen∧∀ r ∈ rows,SatL l r
def SatL:List Sh→List AV→Prop
 | [],r=>r = []
 | s :: l,r=>∃ x q,r = x :: q∧Sat s x∧SatL l q
end
theorem SatL.len:∀{l:List Sh} {r:List AV},SatL l r→r.length = l.length
 | [],r,h=>by simp only [SatL] at h; rw [h]; rfl
 | s :: l,r,h=>by
  simp only [SatL] at h
  obtain ⟨x,q,rfl,_,hq⟩:=h
  rw [List.length_cons,List.length_cons,hq.len]
theorem SatL.app:∀{l m:List Sh} {r q:List AV},SatL l r→SatL m q→SatL (l++m) (r++q)
 | [],m,r,q,h,hq=>by simp only [SatL] at h; rw [h]; exact hq
 | s :: l,m,r,q,h,hq=>by
  simp only [SatL] at h
  obtain ⟨x,u,rfl,hx,hu⟩:=h
  show SatL (s :: (l++m)) (x :: (u++q))
  simp only [SatL]
  exact ⟨x,u++q,rfl,hx,hu.app hq⟩
def lay (P:Program):List (Field × List Sh)→Nat→Option (List Sh)
 | [],_=>some []
 | (f,l) :: r,off=>if f.offset = off∧l.length = P.cellsOf f.type then (lay P r (off + l.length)).map (l++·) else none
def B9a (P:Program):Nat→TypeId→Option (List Sh)
 | 0,_=>none
 | n + 1,t=>match P.underlying t with
  | some (.int k)=>some [.int k]
  | some .bool=>some [.bool]
  | some .string=>some [.str]
  | some (.slice e)=>(B9a P n e).bind fun l=>if l.length = P.cellsOf e∧0 < l.length then some [.seq l.length l] else none
  | some (.struct fs)=>(fs.toList.mapM fun f=>(B9a P n f.type).map fun l=>(f,l)).bind fun xs=>(lay P xs 0).bind fun l=>if l.length = P.cellsOf t then some l else none
  | _=>none
def Cells (Φ:Nat→Nat→Option Value) (l:List Sh) (cs:List Value):Prop :=
 ∃ r:List AV,SatL l r∧r.length = cs.length∧∀ (j:Nat) (x:AV),r[j]? = some x→∃ v,cs[j]? = some v∧Den Φ x v∧v.oneCell' = true
theorem Cells.app {Φ:Nat→Nat→Option Value} {l m:List Sh} {cs ds:List Value} (h:Cells Φ l cs) (k:Cells Φ m ds):Cells Φ (l++m) (cs++ds):= by
 obtain ⟨r,h1,h2,h3⟩:=h
 obtain ⟨q,k1,k2,k3⟩:=k
 refine ⟨r++q,h1.app k1,by rw [List.length_append,List.length_append,h2,k2],?_⟩
 intro j x hx
 by_cases c:j < r.length
 ·rw [List.getElem?_append_left c] at hx
  obtain ⟨v,e,hv⟩:=h3 j x hx
  exact ⟨v,by rw [List.getElem?_append_left (by omega)]; exact e,hv⟩
 ·rw [List.getElem?_append_right (by omega)] at hx
  obtain ⟨v,e,hv⟩:=k3 _ x hx
  exact ⟨v,by rw [List.getElem?_append_right (by omega),← h2]; exact e,hv⟩
theorem Cells.one {Φ:Nat→Nat→Option Value} {s:Sh} {x:AV} {v:Value} (h:Sat s x) (hd:Den Φ x v) (h1:v.oneCell' = true):Cells Φ [s] [v]:= by
 refine ⟨[x],by simp only [SatL]; exact ⟨x,[],rfl,h,rfl⟩,rfl,?_⟩
 intro j y hy
 match j with
 | 0=>exact ⟨v,rfl,by have:x = y:= by simpa using hy
                      subst this; exact ⟨hd,h1⟩⟩
 | j + 1=>simp at hy
theorem C0p {P:Program} {Φ:Nat→Nat→Option Value}:∀(xs:List (Field × List Sh)) (off:Nat) (l:List Sh) (cs:List Value),
  lay P xs off = some l→(∀ x ∈ xs,Cells Φ x.2 ((cs.drop x.1.offset).take (P.cellsOf x.1.type)))→off≤cs.length→Cells Φ l ((cs.drop off).take l.length)
 | [],off,l,cs,h,_,_=>by
  obtain rfl:=Option.some.inj h
  exact ⟨[],rfl,by simp,by simp⟩
 | (f,m) :: xs,off,l,cs,h,hx,ho=>by
  unfold lay at h
  split at h
  ·rename_i hc
   obtain ⟨q,hq,rfl⟩:=Option.map_eq_some_iff.mp h
   have h1:=hx (f,m) (List.mem_cons_self ..)
   simp only [] at h1
   rw [hc.1,← hc.2] at h1
   have hlen:((cs.drop off).take m.length).length = m.length:= by
    obtain ⟨r,h2,h3,_⟩:=h1
    rw [← h3,h2.len]
   rw [List.length_take,List.length_drop] at hlen
   have h2:=C0p xs (off + m.length) q cs hq (fun x hx'=>hx x (List.mem_cons_of_mem _ hx')) (by omega)
   have e:(cs.drop off).take (m++q).length = (cs.drop off).take m.length++(cs.drop (off + m.length)).take q.length:= by
    rw [List.length_append,List.take_add,List.drop_drop]
   rw [e]
   exact h1.app h2
  ·exact absurd h (by simp)
theorem C5d {α β:Type} {f:α→Option β}:∀{l:List α} {r:List β},l.mapM f = some r→∀ (i:Nat) y,r[i]? = some y→∃ x,l[i]? = some x∧f x = some y
 | [],r,h,i,y,hy=>by
  have:r = []:= by simpa using h.symm
  subst this; simp at hy
 | a :: l,r,h,i,y,hy=>by
  rw [List.mapM_cons] at h
  obtain ⟨b,hb,h⟩:=Option.bind_eq_some_iff.mp h
  obtain ⟨q,hq,h⟩:=Option.bind_eq_some_iff.mp h
  obtain rfl:=Option.some.inj h
  match i with
  | 0=>exact ⟨a,rfl,by rw [hb]; simpa using hy⟩
  | i + 1=>exact C5d hq i y (by simpa using hy)
theorem D1u {W:World} {a:Addr} {v:Value} (h:W.cell? a = some v):a.spot = none:= by
 unfold World.cell? at h
 split at h
 ·split at h
  ·exact absurd h (by simp)
  ·rename_i hn
   cases hs:a.spot with
   | none=>rfl
   | some x=>rw [hs] at hn; exact absurd rfl hn
 ·exact absurd h (by simp)
theorem D2c {a:Addr} (h:a.spot = none) (n:Nat):a.add n = ⟨a.block,a.off + n,none⟩:= by
 unfold Addr.add
 split
 ·rename_i e
  subst e
  cases a; simp only at h; subst h; rfl
 ·rfl
theorem A4d {H:Type} {enc:TypeId × Value→H} {P:Program} {W:World} {base:Nat} {sp:Nat→Bool} {held:Bool}:∀(n:Nat) (t:TypeId) (l:List Sh) (cs:List Value) (fuel:Nat) (x:DataW H × List MemPlace),
  B9a P n t = some l→DataW.trod enc P W base sp held fuel t cs = some x→Cells (fun β o=>W.cell? ⟨β,o,none⟩) l cs∧cs.length = l.length
 | 0,_,_,_,_,_,h,_=>absurd h (by simp [B9a])
 | n + 1,t,l,cs,fuel,x,h,hx=>by
  unfold B9a at h
  split at h
  ·rename_i k hu
   obtain rfl:=Option.some.inj h
   obtain ⟨m,rfl,_,hw⟩:=DataW.trod_int hu hx
   exact ⟨Cells.one (x:=.lit (.int k m)) (by simp only [Sat]; exact ⟨m,rfl,hw⟩) (.lit _ rfl) rfl,rfl⟩
  ·rename_i hu
   obtain rfl:=Option.some.inj h
   obtain ⟨m,rfl,_⟩:=DataW.trod_bool hu hx
   exact ⟨Cells.one (x:=.lit (.bool m)) (by simp only [Sat]; exact ⟨m,rfl⟩) (.lit _ rfl) rfl,rfl⟩
  ·rename_i hu
   obtain rfl:=Option.some.inj h
   obtain ⟨m,rfl,_,hw⟩:=DataW.trod_string hu hx
   exact ⟨Cells.one (x:=.lit (.string m)) (by simp only [Sat]; exact ⟨m,rfl,hw⟩) (.lit _ rfl) rfl,rfl⟩
  ·rename_i e hu
   obtain ⟨m,hm,h⟩:=Option.bind_eq_some_iff.mp h
   split at h
   ·rename_i hc
    obtain rfl:=Option.some.inj h
    rcases DataW.trod_slice hu hx with ⟨rfl,_⟩ | ⟨a,len,cap,elems,rest,n',_,rfl,_,hb,hlc,hcm,hel,hcell,_,_⟩
    ·exact ⟨Cells.one (x:=.seq m.length []) (by simp only [Sat]; exact ⟨[],rfl,Nat.zero_le _,by simp⟩) (.seq0 _ _ _) rfl,rfl⟩
    ·cases len with
     | zero=>exact ⟨Cells.one (x:=.seq m.length []) (by simp only [Sat]; exact ⟨[],rfl,Nat.zero_le _,by simp⟩) (.seq0 _ _ _) rfl,rfl⟩
     | succ len0 =>
     have each0:∀i,i < len0 + 1→∃ ci:List Value,W.cells? base (a.add (i * P.cellsOf e)) (P.cellsOf e) = some ci∧Cells (fun β o=>W.cell? ⟨β,o,none⟩) m ci∧ci.length = m.length:= by
      intro i hi
      have h1:=hcell i hi
      rw [List.getElem?_eq_getElem (by omega)] at h1
      obtain ⟨ci,hci,h2⟩:=Option.bind_eq_some_iff.mp h1
      have:=A4d n e m ci _ _ hm h2
      exact ⟨ci,hci,this.1,this.2⟩
     have hs:a.spot = none:= by
      obtain ⟨ci,hci,_,hl⟩:=each0 0 (by omega)
      obtain ⟨_,_,hk⟩:=World.cells?_some hci
      have h0:=hk 0 (by omega)
      rw [List.getElem?_eq_getElem (by omega)] at h0
      have e0:(a.add (0 * P.cellsOf e)).add 0 = a:= by simp [Addr.add]
      rw [e0] at h0
      exact D1u h0
     have each:∀i,i < len0 + 1→∃ r:List AV,SatL m r∧r.length = m.length∧∀ (j:Nat) (x:AV),r[j]? = some x→∃ v,W.cell? ⟨a.block,a.off + (i * m.length + j),none⟩ = some v∧Den (fun β o=>W.cell? ⟨β,o,none⟩) x v:= by
      intro i hi
      obtain ⟨ci,hci,⟨r,hr1,hr2,hr3⟩,hl⟩:=each0 i hi
      obtain ⟨_,hlen,hk⟩:=World.cells?_some hci
      refine ⟨r,hr1,hr1.len,?_⟩
      intro j x hx
      obtain ⟨v,hv,hd,_⟩:=hr3 j x hx
      refine ⟨v,?_,hd⟩
      have hj:j < ci.length:=(List.getElem?_eq_some_iff.mp hv).1
      have:=hk j (by omega)
      rw [D2c hs,D2c rfl,hv] at this
      rw [← this,← hc.1]
      congr 2
      show a.off + (i * m.length + j) = a.off + i * m.length + j
      omega
     let R:Nat→List AV:=fun i=>if hi:i < len0 + 1 then Classical.choose (each i hi) else []
     have hR:∀i,i < len0 + 1→SatL m (R i)∧(R i).length = m.length∧∀ (j:Nat) (x:AV),(R i)[j]? = some x→∃ v,W.cell? ⟨a.block,a.off + (i * m.length + j),none⟩ = some v∧Den (fun β o=>W.cell? ⟨β,o,none⟩) x v:= by
      intro i hi
      have:R i = Classical.choose (each i hi):=dif_pos hi
      rw [this]
      exact Classical.choose_spec (each i hi)
     have hget:∀(i:Nat) (r:List AV),((List.range (len0 + 1)).map R)[i]? = some r→i < len0 + 1∧r = R i:= by
      intro i r hr
      rw [List.getElem?_map] at hr
      obtain ⟨y,hy,e⟩:=Option.map_eq_some_iff.mp hr
      obtain ⟨hi,e2⟩:=List.getElem?_eq_some_iff.mp hy
      rw [List.getElem_range] at e2
      rw [List.length_range] at hi
      subst e2
      exact ⟨hi,e.symm⟩
     have hmem:∀r ∈ (List.range (len0 + 1)).map R,∃ i,i < len0 + 1∧r = R i:= by
      intro r hr
      obtain ⟨i,hi,e⟩:=List.mem_map.mp hr
      exact ⟨i,List.mem_range.mp hi,e.symm⟩
     have hd:Den (fun β o=>W.cell? ⟨β,o,none⟩) (.seq m.length ((List.range (len0 + 1)).map R)) (.slice (some a) ((List.range (len0 + 1)).map R).length cap):= by
      refine .seq m.length _ a cap (fun i j=>(W.cell? ⟨a.block,a.off + (i * m.length + j),none⟩).getD undef) hs (by simpa using hlc) ?_ ?_ ?_
      ·intro r hr
       obtain ⟨i,hi,rfl⟩:=hmem r hr
       exact (hR i hi).2.1
      ·intro i r j x hr hx
       obtain ⟨hi,rfl⟩:=hget i r hr
       obtain ⟨v,hv,_⟩:=(hR i hi).2.2 j x hx
       show W.cell? _ = some ((W.cell? _).getD undef)
       rw [hv]; rfl
      ·intro i r j x hr hx
       obtain ⟨hi,rfl⟩:=hget i r hr
       obtain ⟨v,hv,hdv⟩:=(hR i hi).2.2 j x hx
       show Den _ x ((W.cell? _).getD undef)
       rw [hv]; exact hdv
     rw [List.length_map,List.length_range] at hd
     refine ⟨Cells.one (x:=.seq m.length ((List.range (len0 + 1)).map R)) ?_ hd rfl,rfl⟩
     simp only [Sat]
     refine ⟨_,rfl,by rw [List.length_map,List.length_range]; omega,?_⟩
     intro r hr
     obtain ⟨i,hi,rfl⟩:=hmem r hr
     exact (hR i hi).1
   ·exact absurd h (by simp)
  ·rename_i fs hu
   obtain ⟨xs,hxs,h⟩:=Option.bind_eq_some_iff.mp h
   obtain ⟨m,hm,h⟩:=Option.bind_eq_some_iff.mp h
   split at h
   ·rename_i hc
    obtain rfl:=Option.some.inj h
    obtain ⟨ys,n',_,_,hl,hlen,hf⟩:=DataW.trod_struct hu hx
    have key:=C0p (Φ:=fun β o=>W.cell? ⟨β,o,none⟩) xs 0 m cs hm (fun y hy=>by
     obtain ⟨i,hi,e⟩:=List.mem_iff_getElem.mp hy
     obtain ⟨f,hf1,hf2⟩:=C5d hxs i y (by rw [List.getElem?_eq_getElem hi,e])
     obtain ⟨l',hl',rfl⟩:=Option.map_eq_some_iff.mp hf2
     have hfi:fs[i]? = some f:= by rw [← Array.getElem?_toList]; exact hf1
     have h2:=hf i f hfi
     have hib:i < fs.size:= by
      obtain ⟨q,_⟩:=Array.getElem?_eq_some_iff.mp hfi
      exact q
     rw [List.getElem?_eq_getElem (by omega)] at h2
     exact (A4d n f.type l' _ _ _ hl' h2).1) (Nat.zero_le _)
    have e:(cs.drop 0).take m.length = cs:= by rw [List.drop_zero,List.take_of_length_le (by omega)]
    rw [e] at key
    exact ⟨key,by omega⟩
   ·exact absurd h (by simp)
  ·exact absurd h (by simp)
theorem C5n {P:Program} {w:World} {r:Reach} {base:Nat} {t e:TypeId} {n:Nat} {v:Value} (ht:P.underlying t = some (.array n e)) (h:Value.okWide P w r base t v):∃cs,v = .agg cs∧cs.size = P.cellsOf t:= by
 simp only [Value.okWide,ht] at h
 obtain ⟨cs,h1,h2,_⟩:=h
 exact ⟨cs,h1,h2⟩
theorem C14 {k:IntKind}:∀{cs:List Value},(∀ i,i < cs.length→∃ m,cs[i]? = some (.int k m)∧(Lit.int k m).wf = true)→SatL (List.replicate cs.length (.int k)) (cs.map AV.lit)∧∀ v ∈ cs,∃ m,v = .int k m
 | [],_=>⟨by simp only [List.length_nil,List.replicate_zero,List.map_nil,SatL],by simp⟩
 | v :: cs,h=>by
  obtain ⟨m,h1,h2⟩:=h 0 (by simp)
  obtain rfl:v = .int k m:= by simpa using h1
  obtain ⟨i1,i2⟩:=C14 (k:=k) (cs:=cs) fun i hi=>h (i + 1) (by simpa using hi)
  refine ⟨?_,?_⟩
  ·simp only [List.length_cons,List.replicate_succ,List.map_cons,SatL]
   exact ⟨_,_,rfl,by simp only [Sat]; exact ⟨m,rfl,h2⟩,i1⟩
  ·intro u hu
   rcases List.mem_cons.mp hu with rfl | hu
   ·exact ⟨m,rfl⟩
   ·exact i2 u hu
theorem D0g {H:Type} {enc:TypeId × Value→H} {P:Program} {W:World} {base:Nat} {sp:Nat→Bool} {held:Bool} {n:Nat} {t e:TypeId} {k:IntKind} {cs:List Value} {fuel:Nat} {x:DataW H × List MemPlace}
  (hu:P.underlying t = some (.array n e)) (he:P.underlying e = some (.int k)) (h1:P.cellsOf e = 1) (h2:P.cellsOf t = n) (hx:DataW.trod enc P W base sp held fuel t cs = some x) :
  Cells (fun β o=>W.cell? ⟨β,o,none⟩) (List.replicate n (.int k)) cs∧cs.length = (List.replicate n (Sh.int k)).length:= by
 obtain ⟨xs,m,_,_,hl,hlen,hf⟩:=DataW.trod_array hu hx
 have hn:cs.length = n:= by rw [hl,h2]
 have key:∀i,i < cs.length→∃ m,cs[i]? = some (.int k m)∧(Lit.int k m).wf = true:= by
  intro i hi
  have h:=hf i (by omega)
  rw [List.getElem?_eq_getElem (by omega),h1,Nat.mul_one] at h
  obtain ⟨z,e1,_,e2⟩:=DataW.trod_int he h
  refine ⟨z,?_,e2⟩
  have:((cs.drop i).take 1)[0]? = some (.int k z):= by rw [e1]; rfl
  rw [List.getElem?_take_of_lt (by omega),List.getElem?_drop,Nat.add_zero] at this
  exact this
 obtain ⟨s1,s2⟩:=C14 key
 rw [hn] at s1
 refine ⟨⟨cs.map AV.lit,s1,by simp,?_⟩,by simp [hn]⟩
 intro j y hy
 rw [List.getElem?_map] at hy
 obtain ⟨v,hv,rfl⟩:=Option.map_eq_some_iff.mp hy
 obtain ⟨m,rfl⟩:=s2 v (List.mem_of_getElem? hv)
 exact ⟨_,hv,.lit _ rfl,rfl⟩
section
variable {κ β:Type} [DecidableEq κ]
theorem A6f (k:κ):∀(es:List (κ × β)) (i:Nat),kfind k es i = (kfind k es 0).map fun x=>(x.1 + i,x.2)
 | [],_=>rfl
 | e :: es,i=>by
  unfold kfind
  by_cases h:k = e.1
  ·rw [if_pos h,if_pos h]; simp
  ·rw [if_neg h,if_neg h,A6f k es (i + 1),A6f k es (0 + 1),Option.map_map]
   congr 1
   funext x
   simp only [Function.comp,Prod.mk.injEq,and_true]
   omega
theorem A7d (x:κ × β) (es:List (κ × β)) (k:κ):kget (x :: es) k = if k = x.1 then some x.2 else kget es k:= by
 have e1:kfind k (x :: es) 0 = if k = x.1 then some (0,x.2) else kfind k es (0 + 1):=rfl
 unfold kget
 rw [e1]
 by_cases h:k = x.1
 ·rw [if_pos h,if_pos h]; rfl
 ·rw [if_neg h,if_neg h,A6f,Option.map_map]; rfl
theorem D02 (x:κ × β) (es:List (κ × β)) (k:κ) (v:β):kset (x :: es) k v = if k = x.1 then (k,v) :: es else x :: kset es k v:= by
 unfold kset
 by_cases h:k = x.1
 ·rw [if_pos h]
  simp only [kfind,if_pos h,List.set_cons_zero]
 ·rw [if_neg h]
  simp only [kfind,if_neg h]
  rw [A6f]
  cases kfind k es 0 with
  | none=>rfl
  | some y=>rfl
theorem B4l (k:κ) (v:β):∀(es:List (κ × β)) (k':κ),kget (kset es k v) k' = if k' = k then some v else kget es k'
 | [],k'=>by
  have:kset ([]:List (κ × β)) k v = [(k,v)]:=rfl
  rw [this,A7d]
 | x :: es,k'=>by
  rw [D02]
  by_cases h:k = x.1
  ·rw [if_pos h,A7d,A7d]
   by_cases h2:k' = k
   ·rw [if_pos h2,if_pos h2]
   ·rw [if_neg h2,if_neg h2,if_neg (fun q=>h2 (q.trans h.symm))]
  ·rw [if_neg h,A7d,A7d,B4l k v es k']
   by_cases h2:k' = x.1
   ·rw [if_pos h2,if_pos h2,if_neg (fun q=>h (q.symm.trans h2))]
   ·rw [if_neg h2,if_neg h2]
end
def A64 (H:A1) (k:Nat) (v:AV) (rows:List (List AV)):Prop :=
 (v = .nils k∧rows = [])∨∃ b anc,v = .asl b rows.length∧hget H b = some (.stk k rows anc)
def Young (H:A1) (v:AV):Prop:=∀ b n,v = .asl b n→((H.drop (b + 1)).all fun o=>!o.grew b) = true
def A2l (H:A1):AV→List Nat
 | .asl b _=>b :: (match hget H b with | some o=>o.anc | none=>[])
 | _=>[]
theorem A64.rd {H:A1} {k:Nat} {v:AV} {rows:List (List AV)} (h:A64 H k v rows):rd H v k rows:= by
 rcases h with ⟨rfl,rfl⟩ | ⟨b,anc,rfl,h⟩
 ·exact ⟨rfl,rfl⟩
 ·have h1:harr H b = none:= by unfold harr; rw [h]
  have h2:hstk H b = some (k,rows,anc):= by unfold hstk; rw [h]
  exact ⟨by simp only [Y7,h1,h2,Nat.beq_refl,if_true],by simp only [kOf,h1,h2,Option.map_some]⟩
theorem A64.len {T:Tab} {s:B3} {H:A1} {c:Sc} {n0 k:Nat} {x:Opd} {v:AV} {rows:List (List AV)} (h:A64 H k v rows) (hx:ev s x = some v):One T c n0 s H (.lenL x) (.lit (.int .i64 rows.length)) H:=⟨0,by
 rcases h with ⟨rfl,rfl⟩ | ⟨b,anc,rfl,h⟩
 ·simp only [core,prim,hx,List.length_nil]
 ·have h1:harr H b = none:= by unfold harr; rw [h]
  have h2:hstk H b = some (k,rows,anc):= by unfold hstk; rw [h]
  simp only [core,prim,hx,h1,h2,if_true]⟩
theorem B7y {H L:A1} {b:Nat} {o:AO} (h:hget H b = some o):hget (H++L) b = some o:= by
 unfold hget at h ⊢
 rw [List.getElem?_append_left (List.getElem?_eq_some_iff.1 h).1,h]
theorem A64.app {H L:A1} {k:Nat} {v:AV} {rows:List (List AV)} (h:A64 H k v rows):A64 (H++L) k v rows:= by
 rcases h with h | ⟨b,anc,e,h⟩
 ·exact .inl h
 ·exact .inr ⟨b,anc,e,B7y h⟩
theorem A64.lt {H:A1} {k:Nat} {v:AV} {rows:List (List AV)} (h:A64 H k v rows) {b n:Nat} (e:v = .asl b n):b < H.length:= by
 rcases h with ⟨rfl,_⟩ | ⟨b',anc,rfl,h⟩
 ·cases e
 ·cases e; exact (List.getElem?_eq_some_iff.1 h).1
theorem Young.app {H L:A1} {k:Nat} {v:AV} {rows:List (List AV)} (hs:A64 H k v rows) (h:Young H v) (hL:(L.all fun o=>!o.isS) = true):Young (H++L) v:= by
 intro b n e
 have hb:=hs.lt e
 rw [List.drop_append_of_le_length hb,List.all_append,h b n e,Bool.true_and]
 rw [List.all_eq_true] at hL ⊢
 intro o ho
 have:=hL o ho
 cases o with
 | stk=>cases this
 | ro o=>cases o <;> first | rfl | cases this
 | _=>rfl
theorem B4i {n0:Nat} {H:A1}:∀(rs:List AV) (n:Nat),X1 n0 H rs (List.replicate n []) = (rs.map fzA,H)
 | [],_=>rfl
 | v :: rs,0=>A02 _
 | v :: rs,n + 1=>by simp only [X1,List.replicate_succ,List.headD_cons,C2x,List.tail_cons,B4i rs n,List.map_cons]
section
variable {T:Tab} {s:B3} {H0:A1} {l:List AO} {c:Sc} {k0:Nat}
theorem D8o {α:Type} {f:α→List AV} {k bytes r:Nat} {x y:Opd} {e m d:List α} {v u:AV} (hd:ev s x = some u) (hx:ev s y = some v) (hs:A64 (H0++l) k u (d.map f)) (hy:Young (H0++l) u) (hb:∀b n,u = .asl b n→b < H0.length + (k0 + r))
  (hr:rd (H0++l) v k (m.map f)) (hf:∀a,(f a).all AV.frz = true) (hk:∀a,(f a).length = k) (hk0:Nat.blt 0 k = true) (hm:Nat.blt 0 m.length = true) (h:app bytes d m = some e) :
  One T c (H0.length + k0) s (H0++l) (.append k bytes x y (some r) true) (.asl (H0.length + (k0 + r)) e.length) (H0++l.set (k0 + r) (.stk k (e.map f) (A2l (H0++l) u))):=⟨0,by
 obtain ⟨h1,rfl⟩:=B2d h
 have hal:((m.map f).all fun x=>Nat.beq x.length k) = true:= by
  rw [List.all_map,List.all_eq_true]; intro a _; simp only [Function.comp_def,hk,Nat.beq_refl]
 have hm':=Nat.le_of_ble_eq_true hm
 have hk':=Nat.le_of_ble_eq_true hk0
 rcases hs with ⟨rfl,e0⟩ | ⟨b,anc,rfl,hg⟩
 ·obtain rfl:=List.map_eq_nil_iff.1 e0
  simp only [List.length_nil,Nat.zero_add] at h1
  have hg2:(decide (0 < m.length) && decide (0 < k) && ((m.map f).all fun x=>Nat.beq x.length k)) = true:= by simp only [hal,Bool.and_true,Bool.and_eq_true,decide_eq_true_eq]; exact ⟨hm',hk'⟩
  simp only [core,prim,hd,hx,hr.1,hr.2,Nat.beq_refl,D8 hf,Bool.and_self,if_true,List.length_map,h1,and_self,List.nil_append,A2l]
  rw [if_pos hg2]
  simp only [Nat.add_assoc,F2]
 ·have e1:A00 (H0++l) b = none:= by unfold A00; rw [hg]
  have e2:B23 (H0++l) b = some (k,d.map f,anc):= by unfold B23; rw [hg]
  have hlt:Nat.blt b (H0.length + k0 + r) = true:=Nat.ble_eq_true_of_le (by have:=hb b _ rfl; omega)
  have hyy:=hy b _ rfl
  have ha:A2l (H0++l) (.asl b (d.map f).length) = b :: anc:= by simp only [A2l,hg,AO.anc]
  rw [ha]
  simp only [core,prim,hd,hx,hr.1,hr.2,Nat.beq_refl,D8 hf,Bool.and_self,if_true,e1,e2,List.length_map]
  have hall:(decide ((d.length + m.length) * bytes≤1099511627776) && decide (d.length + m.length≤1099511627776) && decide (0 < m.length) && Nat.blt b (H0.length + k0 + r) && ((m.map f).all fun x=>Nat.beq x.length k) && ((H0++l).drop (b + 1)).all fun o=>!o.grew b) = true:= by
   simp only [hal,hlt,hyy,Bool.and_true,Bool.and_eq_true,decide_eq_true_eq]
   exact ⟨⟨h1.1,h1.2⟩,hm'⟩
  simp only [Bool.true_and]
  rw [if_pos hall]
  simp only [Nat.add_assoc,F2,List.length_append,List.map_append]⟩
theorem U1 {f:Opd} {args:List Opd} {fv:AV} {aq rs rs':List AV} {n0:Nat} {H H2:A1} (hf:ev s f = some fv) (ha:evs s args = some aq) (hcall:G8 T c H fv aq rs H2) (hr:rs.map fzA = rs'):One T c n0 s H (.call f args (List.replicate 9 []) false) (packed rs') H2:= by
 obtain ⟨n,e⟩:=hcall
 have hz:A0t (List.replicate 9 []) H aq = some (aq,H):=rfl
 have hi:X1 n0 H2 rs (List.replicate 9 []) = (rs.map fzA,H2):=B4i rs 9
 exact ⟨n,by simp only [core,U4,hf,ha,Bool.false_eq_true,if_false,hz,e,hi,hr]⟩
theorem B1v {f:Opd} {args:List Opd} {fv:AV} {aq rs:List AV} {n0:Nat} {H:A1} (hf:ev s f = some fv) (ha:evs s args = some aq) (hcall:U2 T c (H.map AO.toRo) fv aq rs):One T c n0 s H (.call f args (List.replicate 9 []) true) (packed rs) H:= by
 obtain ⟨rs',⟨⟨n,e⟩,hb⟩,rfl⟩:=hcall
 have hz:A0t (List.replicate 9 []) H aq = some (aq,H):=rfl
 have hl:lend (List.replicate 9 []) = true:=rfl
 have hi:X1 n0 H rs' (List.replicate 9 []) = (rs'.map fzA,H):=B4i rs' 9
 rw [List.length_map] at hb
 exact ⟨n,by simp only [core,U4,hf,ha,if_true,hl,Bool.true_or,hz,e,hb,hi]⟩
theorem A5z {f:Opd} {args:List Opd} {fv:AV} {aq rs:List AV} {n0:Nat} {H:A1} (hf:ev s f = some fv) (ha:evs s args = some aq) (hcall:U2 T c H fv aq rs):One T c n0 s H (.call f args (List.replicate 9 []) false) (packed rs) H:= by
 obtain ⟨rs',⟨h,hb⟩,rfl⟩:=hcall
 exact U1 hf ha h rfl
theorem C36 {i:Nat} {af:AFunc} {first cap args aq rs:List AV} {H H':A1} (haf:T i = some af) (has:first++args++cap = aq) (hn:Nat.beq (aq.length + 1000) af.nargs = true)
  (h:WP T af.body (J0 0 aq) H ⟨H.length,c.cur :: c.outer⟩ (fun e s H1=>(match e with | .exit _=>False | _=>True)∧results s H1 af.results = some rs∧trunc H.length rs H1 = H')):G8 T c H (.fn (.func i) first cap) args rs H':= by
 obtain ⟨e,S',s',H2,⟨n,h1⟩,h2,h3,h4,h5⟩:=h _ (Sub.refl _)
 have hf:(Nat.beq aq.length af.nargs && Nat.blt af.nargs 1000) = false:= by
  have:=Nat.eq_of_beq_eq_true hn
  cases hb:Nat.blt af.nargs 1000 with
  | false=>rw [Bool.and_false]
  | true=>have:=Nat.le_of_ble_eq_true hb; omega
 refine ⟨n + 1,?_⟩
 rw [S9]
 unfold K7
 simp only [haf,has,hf,hn,Bool.false_eq_true,if_false,if_true,h1]
 have hr:=P5 h2 h4
 cases e with
 | exit i=>exact h3.elim
 | normal=>simp only [hr,h5]
 | ret=>simp only [hr,h5]
end
section
variable {T:Tab} {s:B3} {H0:A1} {l:List AO} {c:Sc} {Q:Ex→B3→A1→Prop}
end
end Am
end
