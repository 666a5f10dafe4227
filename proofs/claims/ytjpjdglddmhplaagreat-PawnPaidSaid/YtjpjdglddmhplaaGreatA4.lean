/- Texts that the claim stands on, one behind another. -/
import Derived.Test.YtjpjdglddmhplaaGreatA3
import Derived.IntWalk
import Derived.ChangeArms
import Derived.ChangeReads
import Derived.OpenShut
import Derived.WideShapes
set_option linter.unusedVariables false
set_option linter.unusedSimpArgs false
set_option linter.unnecessarySimpa false
section
namespace Am
open Go
section
variable {H0:A1} {l:List AO} {j:Nat}
theorem S4 (H0:A1) (l:List AO) (j:Nat):hget (H0++l) (H0.length + j) = l[j]?:= by
 unfold hget; rw [List.getElem?_append_right (Nat.le_add_right _ _)]; congr 1; omega
theorem F8 (H0:A1) (l:List AO) (j:Nat) (o:AO):hset (H0++l) (H0.length + j) o = H0++l.set j o:= by
 unfold hset; rw [List.set_append_right _ _ (Nat.le_add_right _ _)]; congr 2; omega
theorem C0b {b:Nat} {o:AO} (h:hget H0 b = some o) (l:List AO):hget (H0++l) b = some o:= by
 unfold hget at h ⊢
 have:=List.getElem?_eq_some_iff.1 h
 rw [List.getElem?_append_left this.1]; exact h
theorem D8 {cs:List AV} (h:l[j]? = some (.cells cs)):hcells (H0++l) (H0.length + j) = some cs:= by
 unfold hcells; rw [S4,h]
theorem A5t {cs:List AV} (h:l[j]? = some (.cells cs)):S9 (H0++l) (H0.length + j) = some cs:= by
 unfold S9; rw [S4,h]
theorem D6 {b:Nat} {cs:List AV} (h:hcells H0 b = some cs) (l:List AO):hcells (H0++l) b = some cs:= by
 unfold hcells at h ⊢
 split at h
 ·next e=>rw [C0b e]; exact h
 ·next e=>rw [C0b e]; exact h
 ·cases h
theorem B3m (H:A1) (b:Nat):hcells (H.map AO.toRo) b = hcells H b:= by
 unfold hcells hget
 rw [List.getElem?_map]
 cases h:H[b]? with
 | none=>rfl
 | some o=>cases o <;> first | rfl | (next o=>cases o <;> rfl)
theorem N2 {k:Nat} {p:Bool} {rows:List (List AV)} (h:l[j]? = some (.arr k p rows)):harr (H0++l) (H0.length + j) = some (k,p,rows):= by
 unfold harr; rw [S4,h]
theorem O2 {k:Nat} {p:Bool} {rows:List (List AV)} (h:l[j]? = some (.arr k p rows)):X9 (H0++l) (H0.length + j) = some (k,p,rows):= by
 unfold X9; rw [S4,h]
theorem A66 (H0:A1) (l:List AO) (k:Nat):(H0++l).take (H0.length + k) = H0++l.take k:= by
 rw [List.take_append,List.take_of_length_le (Nat.le_add_right _ _)]; simp
end
def cI (n:Int):List AV:=[.lit (.int .i64 n)]
def A5r (n:Int):List AV:=[.lit (.int .u16 n)]
def cS (s:ByteArray):List AV:=[.lit (.string s)]
def cL (k:Nat) {α:Type} (f:α→List AV) (l:List α):List AV:=[.seq k (l.map f)]
structure IArr (n:Nat) where
 l:List Int
 h:l.length = n
theorem IArr.ext {n:Nat} {a b:IArr n} (h:a.l = b.l):a = b:= by cases a; cases b; simp only at h; subst h; rfl
instance {n:Nat}:DecidableEq (IArr n):=fun a b=>if h:a.l = b.l then isTrue (IArr.ext h) else isFalse fun e=>h (by rw [e])
def IArr.zero (n:Nat):IArr n:=⟨List.replicate n 0,List.length_replicate⟩
def IArr.set {n:Nat} (a:IArr n) (i x:Int):IArr n:=⟨a.l.set i.toNat x,by rw [List.length_set]; exact a.h⟩
abbrev w64 (n:Int):Int:=IntKind.i64.wrap n
def idx {α:Type} (l:List α) (i:Int):Option α:=if 0≤i then l[i.toNat]? else none
def Y3 {α:Type} (l:List α) (i:Int) (x:α):List α:=l.set i.toNat x
def app {α:Type} (bytes:Nat) (l m:List α):Option (List α):=if (l.length + m.length) * bytes≤1099511627776∧l.length + m.length≤1099511627776 then some (l++m) else none
def slc {α:Type} (l:List α) (lo hi:Int):Option (List α):=if 0≤lo∧lo≤hi∧hi≤l.length then some ((l.take hi.toNat).drop lo.toNat) else none
def B23 (s:ByteArray) (i:Int):Option Int:=if 0≤i then (s[i.toNat]?).map fun c=>(c.toNat:Int) else none
def C30 {α:Type} (bytes:Nat) (n:Int) (z:α):Option (List α):=if 0≤n∧n * bytes≤1099511627776∧n≤1099511627776 then some (List.replicate n.toNat z) else none
def C9o (a b:Int):Option Int:=if b = 0 then none else some (w64 (a.tdiv b))
def B79 (a b:Int):Option Int:=if b = 0 then none else some (a.tmod b)
def D2v (k:IntKind) (a b:Int):Option Int:=if b < 0 then none else some (a.fdiv (2 ^ (min b.toNat k.bits)))
def A0o (a b:Int):Int:=w64 (BitVec.ofInt 64 a &&& ~~~ BitVec.ofInt 64 b).toNat
def C1z (x y:Int):Int:=if y > x then y else x
def A6u (x y:Int):Int:=if y < x then y else x
def eqS (x y:ByteArray):Bool:=x.data.toList == y.data.toList
section
variable {T:Tab} {s:B4} {H0 H:A1} {l:List AO} {c:Sc} {n0 k0:Nat} {R:B4→A1→Prop}
theorem E09 {x:Opd} {v:AV} (h:ev s x = some v):One T c n0 s H (.mv x) v H:=⟨0,by simp [core,prim,h]⟩
theorem C8 {x a b:Opd} {g:Bool} {v:AV} (h:ev s x = some (.lit (.bool g))) (hg:g = true) (ha:ev s a = some v):One T c n0 s H (.pick x a b) v H:=⟨0,by subst hg; simp [core,prim,h,ha]⟩
theorem C7 {x a b:Opd} {g:Bool} {v:AV} (h:ev s x = some (.lit (.bool g))) (hg:g = false) (ha:ev s b = some v):One T c n0 s H (.pick x a b) v H:=⟨0,by subst hg; simp [core,prim,h,ha]⟩
theorem qm {hc:List (Option (List Nat))} {ops:List AOper} {d src:Nat} {x:Opd} {v:AV} (h:ev s x = some v) (k:L5 T c n0 ops ((d,v) :: s) H hc R):L5 T c n0 (⟨some d,.mv x,none,[],[],0,src⟩ :: ops) s H hc R:=A0 (E09 h) rfl k
theorem A5w {k r:Nat}:One T c (H0.length + k0) s (H0++l) (.nil k r) (.asl (H0.length + (k0 + r)) 0) (H0++l.set (k0 + r) (.arr k false [])) :=
 ⟨0,by simp only [core,prim,Nat.add_assoc,F8]⟩
theorem I3 {zs:List AV} {r:Nat}:One T c (H0.length + k0) s (H0++l) (.alloc zs [] r) (.ptr (H0.length + (k0 + r)) 0) (H0++l.set (k0 + r) (.cells zs)) :=
 ⟨0,by simp only [core,prim,M8,Nat.add_assoc,F8]⟩
theorem C31 {zs:List AV} {j q k r:Nat}:One T c (H0.length + k0) s (H0++l) (.alloc zs [(j,q,k)] r) (.ptr (H0.length + (k0 + r)) 0) (H0++(l.set (k0 + q) (.arr k false [])).set (k0 + r) (.cells (zs.set j (.asl (H0.length + (k0 + q)) 0)))) :=
 ⟨0,by simp only [core,prim,M8,Nat.add_assoc,F8]⟩
theorem E5 {n r:Nat} {x:Opd} {v:AV} {cs:List AV} (h:ev s x = some v) (hc:v.cellsOf = cs) (hn:Nat.beq cs.length n = true):One T c (H0.length + k0) s (H0++l) (.box n x r) (.ptr (H0.length + (k0 + r)) 0) (H0++l.set (k0 + r) (.cells cs)) :=
 ⟨0,by subst hc; simp only [core,prim,h,hn,if_true,Nat.add_assoc,F8]⟩
theorem Q4 {z cs:List AV} {parts:List (Nat × Nat × Opd)} {ps:List (Nat × Nat × AV)} (h1:R2 s parts = some ps) (h2:A72 z ps = some cs):One T c n0 s H (.build z parts) (.agg cs) H:=⟨0,by simp [core,prim,h1,h2]⟩
theorem J4 {k n:Nat} {z:List AV} {parts:List (Nat × Opd)} {ps:List (Nat × AV)} {rows:List (List AV)} (h1:K5 s parts = some ps) (h2:A2w k (List.replicate n z) ps = some rows) (h3:B10 rows = true):One T c n0 s H (.lits k z n parts none) (.seq k rows) H :=
 ⟨0,by simp [core,prim,h1,h2,h3]⟩
theorem D4d {k n r:Nat} {z:List AV} {parts:List (Nat × Opd)} {ps:List (Nat × AV)} {rows:List (List AV)} (h1:K5 s parts = some ps) (h2:A2w k (List.replicate n z) ps = some rows) (h3:B10 rows = true) :
  One T c (H0.length + k0) s (H0++l) (.lits k z n parts (some r)) (.asl (H0.length + (k0 + r)) n) (H0++l.set (k0 + r) (.arr k false rows)) :=
 ⟨0,by simp [core,prim,h1,h2,h3,Nat.add_assoc,F8]⟩
theorem B2 {a:Opd} {j o:Nat} {cs:List AV} {x:AV} (h:ev s a = some (.ptr (H0.length + j) o)) (hl:l[j]? = some (.cells cs)) (hd:(cs.drop o).head? = some x):One T c n0 s (H0++l) (.load none a) x (H0++l) :=
 ⟨0,by
  simp only [core,prim,h,F0,D8 hl]
  cases hc:cs.drop o with
  | nil=>simp [hc] at hd
  | cons y t=>simp only [hc,List.head?_cons,Option.some.injEq] at hd; subst hd; rfl⟩
theorem A3m {a:Opd} {j o k:Nat} {cs ds:List AV} (h:ev s a = some (.ptr (H0.length + j) o)) (hl:l[j]? = some (.cells cs)) (hk:Nat.ble k (cs.drop o).length = true) (hd:(cs.drop o).take k = ds):One T c n0 s (H0++l) (.load (some k) a) (.agg ds) (H0++l) :=
 ⟨0,by simp only [core,prim,h,F0,D8 hl,hk,if_true,hd]⟩
theorem F7 {a:Opd} {b o:Nat} {cs:List AV} {x:AV} (h:ev s a = some (.ptr b o)) (hl:hcells H0 b = some cs) (hd:(cs.drop o).head? = some x):One T c n0 s (H0++l) (.load none a) x (H0++l) :=
 ⟨0,by
  simp only [core,prim,h,F0,D6 hl]
  cases hc:cs.drop o with
  | nil=>simp [hc] at hd
  | cons y t=>simp only [hc,List.head?_cons,Option.some.injEq] at hd; subst hd; rfl⟩
theorem B7j {a:Opd} {b o k:Nat} {cs ds:List AV} (h:ev s a = some (.ptr b o)) (hl:hcells H0 b = some cs) (hk:Nat.ble k (cs.drop o).length = true) (hd:(cs.drop o).take k = ds):One T c n0 s (H0++l) (.load (some k) a) (.agg ds) (H0++l) :=
 ⟨0,by simp only [core,prim,h,F0,D6 hl,hk,if_true,hd]⟩
theorem L2 {a:Opd} {cs:List AV} {x:AV} (h:ev s a = some (.cptr cs)) (hd:cs.head? = some x):One T c n0 s H (.load none a) x H :=
 ⟨0,by
  simp only [core,prim,h,F0]
  cases cs with
  | nil=>simp at hd
  | cons y t=>simp only [List.head?_cons,Option.some.injEq] at hd; subst hd; rfl⟩
theorem C32 {a:Opd} {k:Nat} {cs ds:List AV} (h:ev s a = some (.cptr cs)) (hk:Nat.ble k cs.length = true) (hd:cs.take k = ds):One T c n0 s H (.load (some k) a) (.agg ds) H :=
 ⟨0,by simp only [core,prim,h,F0,hk,if_true,hd]⟩
theorem A3l {a:Opd} {j n i o k:Nat} {p:Bool} {rows:List (List AV)} {r:List AV} {x:AV} (h:ev s a = some (.eptr (H0.length + j) n i o)) (hl:l[j]? = some (.arr k p rows)) (hn:rows.length = n) (hr:rows[i]? = some r) (hd:(r.drop o).head? = some x):One T c n0 s (H0++l) (.load none a) x (H0++l) :=
 ⟨0,by
  simp only [core,prim,h,F0,N2 hl,hn,Nat.beq_refl,if_true,hr]
  cases hc:r.drop o with
  | nil=>simp [hc] at hd
  | cons y t=>simp only [hc,List.head?_cons,Option.some.injEq] at hd; subst hd; rfl⟩
theorem E2 {b:Nat}:∀{vs:List AV},vs.all AV.plain = true→c.okL b vs = true
 | [],_=>rfl
 | v :: vs,h=>by
  simp only [List.all_cons,Bool.and_eq_true] at h
  simp only [Sc.okL,Sc.ok,h.1,E2 h.2,Bool.or_true,Bool.true_or,Bool.and_self]
theorem A0u {b:Nat} (hb:c.cur≤b):∀{vs:List AV},c.okL b vs = true
 | []=>rfl
 | v :: vs=>by simp only [Sc.okL,Sc.ok,Nat.ble_eq_true_of_le hb,Bool.true_or,A0u hb,Bool.and_self]
theorem E8 {a x:Opd} {j o k:Nat} {cs ds:List AV} {v:AV} (h:ev s a = some (.ptr (H0.length + j) o)) (hv:ev s x = some v) (hl:l[j]? = some (.cells cs)) (hk:(Nat.beq v.cellsOf.length k && Nat.ble (o + k) cs.length) = true) (hok:c.okL (H0.length + j) v.cellsOf = true) (hd:splice cs o v.cellsOf = ds) :
  One T c n0 s (H0++l) (.store k a x) (.tup []) (H0++l.set j (.cells ds)) :=
 ⟨0,by simp only [core,prim,h,hv,A5t hl,hk,hok,Bool.and_self,if_true,hd,F8]⟩
theorem B0x {H:A1}:∀{vs:List AV},vs.all AV.plain = true→U6 H vs = some (vs,H)
 | [],_=>rfl
 | v :: vs,h=>by
  simp only [List.all_cons,Bool.and_eq_true] at h
  have:frv H v = some (v,H):= by cases v <;> first | rfl | (simp [AV.plain] at h)
  simp only [U6,this,B0x h.2]
theorem B2e {a x:Opd} {j n i o k kk:Nat} {rows:List (List AV)} {r ds:List AV} {v:AV} (h:ev s a = some (.eptr (H0.length + j) n i o)) (hv:ev s x = some v) (hp:v.cellsOf.all AV.plain = true) (hz:v.cellsOf.all AV.frz = true) (hl:l[j]? = some (.arr kk false rows)) (hn:rows.length = n) (hr:rows[i]? = some r)
  (hk:(Nat.beq v.cellsOf.length k && Nat.ble (o + k) r.length) = true) (hd:splice r o v.cellsOf = ds) :
  One T c n0 s (H0++l) (.store k a x) (.tup []) (H0++l.set j (.arr kk false (rows.set i ds))) :=
 ⟨0,by
  rw [Bool.and_eq_true] at hk
  simp only [core,prim,h,hv,B0x hp,O2 hl,hr,hn,Nat.beq_refl,hk.1,hk.2,hz,Bool.and_self,if_true,hd,F8]⟩
def D1o:AV→Bool
 | .ptr _ _ | .eptr _ _ _ _ | .cptr _ | .fn (.func _) _ _=>true
 | _=>false
theorem L6 {x:Opd} {v:AV} (h:ev s x = some v) (hv:D1o v = true):One T c n0 s H (.nilck x) v H:=⟨0,by
 cases v with
 | fn f a b=>cases f <;> first | (simp [core,prim,h]; done) | (simp [D1o] at hv)
 | _=>first | (simp [core,prim,h]; done) | (simp [D1o] at hv)⟩
theorem O8 {op:BinOp} {x y:Opd} {a b v:AV} (hx:ev s x = some a) (hy:ev s y = some b) (hv:A54 op a b = some v):One T c n0 s H (.bin op x y) v H:=⟨0,by simp [core,prim,hx,hy,hv]⟩
theorem D5g {ng:Bool} {x y:Opd} {a b:Bool} (hx:ev s x = some (.lit (.bool a))) (hy:ev s y = some (.lit (.bool b))):One T c n0 s H (.beq ng x y) (.lit (.bool (if ng then !(a == b) else a == b))) H:=⟨0,by simp [core,prim,hx,hy]⟩
theorem D1u {ng:Bool} {ks:List Nat} {x y:Opd} {a b:List AV} {t:Bool} (hx:ev s x = some (.agg a)) (hy:ev s y = some (.agg b)) (ha:kinds ks a = true) (hb:kinds ks b = true) (ht:F3 a b = some t):One T c n0 s H (.cmp ng ks x y) (.lit (.bool (if ng then !t else t))) H :=
 ⟨0,by simp [core,prim,hx,hy,ha,hb,ht]⟩
theorem B1t:F3 [] [] = some true:=rfl
theorem V5 {k:IntKind} {a b:Int} {l m:List AV} {t:Bool} (h:F3 l m = some t):F3 (.lit (.int k a) :: l) (.lit (.int k b) :: m) = some ((a == b) && t):= by
 simp only [F3,A2i,if_true]
 cases a == b <;> simp [h]
theorem C37 {op:UnOp} {x:Opd} {a v:AV} (hx:ev s x = some a) (hv:unV op a = some v):One T c n0 s H (.un op x) v H:=⟨0,by simp [core,prim,hx,hv]⟩
theorem A7q {k k':IntKind} {x:Opd} {n:Int} (h:ev s x = some (.lit (.int k' n))):One T c n0 s H (.conv k x) (.lit (.int k (k.wrap n))) H:=⟨0,by simp [core,prim,h]⟩
theorem A28 {f:Fn} {a b:List Opd} {u w:List AV} (h1:evs s a = some u) (h2:evs s b = some w):One T c n0 s H (.mkfn f a b) (.fn f u w) H:=⟨0,by simp [core,prim,h1,h2]⟩
theorem C0k {α:Type} {bytes:Nat} {n:Int} {z:α} {r:List α} (h:C30 bytes n z = some r):(0≤n∧n * bytes≤1099511627776∧n≤1099511627776)∧r = List.replicate n.toNat z:= by
 unfold C30 at h; split at h
 ·next e=>simp only [Option.some.injEq] at h; exact ⟨e,h.symm⟩
 ·cases h
theorem C0o {α:Type} {f:α→List AV} {k bytes r:Nat} {z:List AV} {x y:Opd} {n:Int} {zt:α} {e:List α} (hx:ev s x = some (.lit (.int .i64 n))) (hy:ev s y = some (.lit (.int .i64 n))) (hz:f zt = z) (h:C30 bytes n zt = some e) :
  One T c (H0.length + k0) s (H0++l) (.mkslice k bytes z x y r) (.asl (H0.length + (k0 + r)) e.length) (H0++l.set (k0 + r) (.arr k false (e.map f))):=⟨0,by
 obtain ⟨h1,h2⟩:=C0k h
 subst h2; subst hz
 simp only [core,prim,hx,hy,h1,and_self,if_true,Nat.add_assoc,F8,List.length_replicate,List.map_replicate]⟩
theorem A3q {α:Type} {e m:List α} {lo hi:Int} (h:slc e lo hi = some m):(0≤lo∧lo≤hi∧hi≤e.length)∧m = (e.take hi.toNat).drop lo.toNat:= by
 unfold slc at h; split at h
 ·next e1=>simp only [Option.some.injEq] at h; exact ⟨e1,h.symm⟩
 ·cases h
theorem C36 {α:Type} {f:α→List AV} {k:Nat} {x:Opd} {lo hi:Option Opd} {e m:List α} {a b:Int} (h:ev s x = some (.seq k (e.map f))) (h1:bnd s 0 lo = some a) (h2:bnd s e.length hi = some b) (hm:slc e a b = some m):One T c n0 s H (.sliceQ k x lo hi) (.seq k (m.map f)) H:=⟨0,by
 obtain ⟨h3,rfl⟩:=A3q hm
 simp only [core,prim,h,Option.bind_some,A5h,h1,List.length_map,h2,h3,and_self,if_true,List.map_drop,List.map_take]⟩
theorem D8g {α:Type} {f:α→List AV} {kk k j n r:Nat} {x:Opd} {hi:Option Opd} {e m:List α} {b:Int} (h:ev s x = some (.asl (H0.length + j) n)) (hl:l[j]? = some (.arr k false (e.map f))) (hn:e.length = n) (h2:bnd s e.length hi = some b) (hm:slc e 0 b = some m) :
  One T c (H0.length + k0) s (H0++l) (.cut kk x hi r) (.asl (H0.length + (k0 + r)) m.length) (H0++(l.set j .dead).set (k0 + r) (.arr k false (m.map f))):=⟨0,by
 obtain ⟨h3,rfl⟩:=A3q hm
 subst hn
 have h4:(e.take b.toNat).length = b.toNat:= by rw [List.length_take]; omega
 have h5:(Nat.beq (e.map f).length e.length && decide (0≤b∧b≤(e.length:Int))) = true:= by rw [List.length_map,Nat.beq_refl,decide_eq_true ⟨h3.2.1,h3.2.2⟩]; rfl
 simp only [core,prim,h,O2 hl,h2,h5,if_true,F8,Nat.add_assoc,Int.toNat_zero,List.drop_zero,h4,List.map_take]⟩
theorem D8w {α:Type} {f:α→List AV} {k:Nat} {x:Opd} {lo hi:Option Opd} {e m:List α} {a b:Int} (h:ev s x = some (.seq k (e.map f))) (h1:bnd s 0 lo = some a) (h2:bnd s e.length hi = some b) (hm:slc e a b = some m):One T c n0 s H (.sub k x lo hi) (.seq k (m.map f)) H:=⟨0,by
 obtain ⟨h3,rfl⟩:=A3q hm
 simp only [core,prim,h,h1,List.length_map,h2,h3,and_self,if_true,List.map_drop,List.map_take]⟩
theorem D6g {α:Type} {f:α→List AV} {k j m:Nat} {p:Bool} {x:Opd} {lo hi:Option Opd} {e:List α} {a b:Int} (h:ev s x = some (.asl (H0.length + j) m)) (hl:l[j]? = some (.arr k p (e.map f))) (hm:e.length = m) (h1:bnd s 0 lo = some a) (h2:bnd s m hi = some b) (h3:0≤a∧a≤b∧b≤m) :
  One T c n0 s (H0++l) (.sub k x lo hi) (if a = b then .seq k [] else .csl (H0.length + j) a.toNat m (b.toNat - a.toNat)) (H0++l):=⟨0,by
 simp only [core,prim,h,N2 hl,h1,h2,h3,hm,List.length_map,and_self,if_true]⟩
theorem C6b {α:Type} {f:α→List AV} {k j o m q:Nat} {p:Bool} {kk:IntKind} {x i:Opd} {e:List α} {n:Int} (h:ev s x = some (.csl (H0.length + j) o m q)) (hi:ev s i = some (.lit (.int kk n))) (hl:l[j]? = some (.arr k p (e.map f))) (hm:e.length = m) (h1:0≤n) (h2:n < q) :
  One T c n0 s (H0++l) (.idxS k x i) (.eptr (H0.length + j) m (o + n.toNat) 0) (H0++l):=⟨0,by simp [core,prim,h,hi,N2 hl,h1,h2,hm]⟩
theorem D37 {α:Type} {f:α→List AV} {k j o m q:Nat} {z:List AV} {x:Opd} {e:List α} {a:α} (h:ev s x = some (.csl (H0.length + j) o m q)) (hl:l[j]? = some (.arr k false (e.map f))) (hm:e.length = m) (hz:f a = z) (ho:o + q≤m) (hq:0 < q) :
  One T c n0 s (H0++l) (.clear k z x) (.tup []) (H0++l.set j (.arr k false ((e.take o++(List.replicate q a++e.drop (o + q))).map f))):=⟨0,by
 subst hz
 simp only [core,prim,h,O2 hl,List.length_map,hm,ho,hq,and_self,if_true,F8,List.map_append,List.map_take,List.map_drop,List.map_replicate]⟩
theorem B9 {off b o:Nat} {x:Opd} (h:ev s x = some (.ptr b o)):One T c n0 s H (.fieldAddr off x) (.ptr b (o + off)) H:=⟨0,by simp [core,prim,h]⟩
theorem D8h {off b n i o:Nat} {x:Opd} (h:ev s x = some (.eptr b n i o)):One T c n0 s H (.fieldAddr off x) (.eptr b n i (o + off)) H:=⟨0,by simp [core,prim,h]⟩
theorem A04 {off:Nat} {x:Opd} {cs ds:List AV} (h:ev s x = some (.cptr cs)) (hd:cs.drop off = ds):One T c n0 s H (.fieldAddr off x) (.cptr ds) H:=⟨0,by simp [core,prim,h,hd]⟩
theorem A5v {α:Type} {e:List α} {n:Int} {a:α} (h:idx e n = some a):0≤n∧e[n.toNat]? = some a:= by
 unfold idx at h; split at h
 ·next h1=>exact ⟨h1,h⟩
 ·cases h
theorem E9 {α:Type} {f:α→List AV} {k:Nat} {kk:IntKind} {x i:Opd} {e:List α} {n:Int} {a:α} (h:ev s x = some (.seq k (e.map f))) (hi:ev s i = some (.lit (.int kk n))) (ha:idx e n = some a):One T c n0 s H (.idxS k x i) (.cptr (f a)) H:=⟨0,by
 obtain ⟨h1,h2⟩:=A5v ha
 simp [core,prim,h,hi,h1,h2]⟩
theorem A45 {α:Type} {f:α→List AV} {k j m:Nat} {p:Bool} {kk:IntKind} {x i:Opd} {e:List α} {n:Int} {a:α} (h:ev s x = some (.asl (H0.length + j) m)) (hi:ev s i = some (.lit (.int kk n))) (hl:l[j]? = some (.arr k p (e.map f))) (hm:e.length = m) (ha:idx e n = some a) :
  One T c n0 s (H0++l) (.idxS k x i) (.eptr (H0.length + j) m n.toNat 0) (H0++l):=⟨0,by
 obtain ⟨h1,h2⟩:=A5v ha
 have h3:n < m:= by
  have:=(List.getElem?_eq_some_iff.1 h2).1
  omega
 simp [core,prim,h,hi,N2 hl,h1,h3,hm]⟩
theorem A39 {α:Type} {f:α→List AV} {e:List α} {n:Int} {a:α} (ha:idx e n = some a):(e.map f)[n.toNat]? = some (f a):= by
 rw [List.getElem?_map,(A5v ha).2]; rfl
theorem A9y {k n b o:Nat} {kk:IntKind} {x i:Opd} {m:Int} (h:ev s x = some (.ptr b o)) (hi:ev s i = some (.lit (.int kk m))) (h0:0≤m∧m < n):One T c n0 s H (.idxA k n x i) (.ptr b (o + m.toNat * k)) H:=⟨0,by simp [core,prim,h,hi,h0]⟩
theorem A8u {kk:IntKind} {x i:Opd} {b:ByteArray} {n a:Int} (h:ev s x = some (.lit (.string b))) (hi:ev s i = some (.lit (.int kk n))) (ha:B23 b n = some a):One T c n0 s H (.idxStr x i) (.lit (.int .u8 a)) H:=⟨0,by
 unfold B23 at ha
 split at ha
 ·next h1 =>
  simp only [Option.map_eq_some_iff] at ha
  obtain ⟨c',h2,rfl⟩:=ha
  simp [core,prim,h,hi,h1,h2]
 ·cases ha⟩
theorem A9 {x:Opd} {i:Nat} {cs:List AV} {v:AV} (h:ev s x = some (.tup cs)) (hv:cs[i]? = some v):One T c n0 s H (.extract x i) v H:=⟨0,by simp [core,prim,h,hv]⟩
theorem C12 {x:Opd} {b:ByteArray} (h:ev s x = some (.lit (.string b))):One T c n0 s H (.lenS x) (.lit (.int .i64 b.size)) H:=⟨0,by simp [core,prim,h]⟩
theorem F6 {α:Type} {f:α→List AV} {k:Nat} {x:Opd} {e:List α} (h:ev s x = some (.seq k (e.map f))):One T c n0 s H (.lenL x) (.lit (.int .i64 e.length)) H:=⟨0,by simp [core,prim,h]⟩
theorem D4f {r:Nat}:One T c (H0.length + k0) s (H0++l) (.mkmap r) (.mp (H0.length + (k0 + r))) (H0++l.set (k0 + r) (.map [])):=⟨0,by simp only [core,prim,Nat.add_assoc,F8]⟩
theorem C11 {α:Type} {f:α→List AV} {k j n:Nat} {p:Bool} {x:Opd} {e:List α} (h:ev s x = some (.asl (H0.length + j) n)) (hl:l[j]? = some (.arr k p (e.map f))) (hn:e.length = n):One T c n0 s (H0++l) (.lenL x) (.lit (.int .i64 e.length)) (H0++l):=⟨0,by
 simp [core,prim,h,N2 hl,hn]⟩
theorem C9d {mx:Bool} {xs:List Opd} {x v:AV} {vs:List AV} (h:evs s xs = some (x :: vs)) (hv:mmV mx x vs = some v):One T c n0 s H (.mm mx xs) v H:=⟨0,by simp [core,prim,h,hv]⟩
theorem B1n {α:Type} {b:Nat} {e m r:List α} (h:app b e m = some r):((e.length + m.length) * b≤1099511627776∧e.length + m.length≤1099511627776)∧r = e++m:= by
 unfold app at h; split at h
 ·next h1=>simp only [Option.some.injEq] at h; exact ⟨h1,h.symm⟩
 ·cases h
theorem E4 {α:Type} {f:α→List AV} (hf:∀a,(f a).all AV.frz = true) (e:List α):B10 (e.map f) = true:= by
 simp [B10,List.all_map]
 intro a _ x hx
 have:=hf a
 rw [List.all_eq_true] at this
 exact this x hx
def rd (H:A1) (v:AV) (k:Nat) (rows:List (List AV)):Prop:=V8 H v = some rows∧kOf H v = some k
theorem A5b {H:A1} {k:Nat} {rows:List (List AV)}:rd H (.seq k rows) k rows:=⟨rfl,rfl⟩
theorem A44 {α:Type} {f:α→List AV} {k bytes j n:Nat} {p:Bool} {r:Option Nat} {x y:Opd} {e m d:List α} {v:AV} (hd:ev s x = some (.asl (H0.length + j) n)) (hx:ev s y = some v) (hl:l[j]? = some (.arr k p (d.map f))) (hn:d.length = n) (hr:rd (H0++l) v k (m.map f)) (hf:∀a,(f a).all AV.frz = true) (h:app bytes d m = some e) :
  One T c n0 s (H0++l) (.append k bytes x y r false) (.asl (H0.length + j) e.length) (H0++l.set j (.arr k p (e.map f))):=⟨0,by
 obtain ⟨h1,rfl⟩:=B1n h
 subst hn
 simp [core,prim,hd,hx,hr.1,hr.2,E4 hf,O2 hl,h1,F8]⟩
theorem D6e {α:Type} {f:α→List AV} {k j n:Nat} {x y:Opd} {m d:List α} {v:AV} (hd:ev s x = some (.asl (H0.length + j) n)) (hx:ev s y = some v) (hl:l[j]? = some (.arr k false (d.map f))) (hn:d.length = n) (hr:rd (H0++l) v k (m.map f)) (hf:∀a,(f a).all AV.frz = true) :
  One T c n0 s (H0++l) (.copy k x y) (.lit (.int .i64 (min m.length n:Nat))) (H0++l.set j (.arr k false ((m.take (min m.length n)++d.drop (min m.length n)).map f))):=⟨0,by
 subst hn
 simp [core,prim,hd,hx,hr.1,hr.2,E4 hf,O2 hl,F8]⟩
theorem D4i {x:Opd} {b:ByteArray} {r:Nat} (h:ev s x = some (.lit (.string b))):One T c (H0.length + k0) s (H0++l) (.range x r) (.itr (H0.length + (k0 + r))) (H0++l.set (k0 + r) (.iter b 0)):=⟨0,by simp only [core,prim,h,Nat.add_assoc,F8]⟩
theorem D4h {x:Opd} {b:ByteArray} {j pos:Nat} (h:ev s x = some (.itr (H0.length + j))) (hl:l[j]? = some (.iter b pos)) (hp:pos < b.size) :
  One T c n0 s (H0++l) (.next x) (.tup [.lit (.bool true),.lit (.int .i64 pos),.lit (.int .i32 (Utf8.decode b pos).1)]) (H0++l.set j (.iter b (pos + (Utf8.decode b pos).2))):=⟨0,by simp only [core,prim,h,S4,hl,hp,if_true,F8]⟩
theorem D4g {x:Opd} {b:ByteArray} {j pos:Nat} (h:ev s x = some (.itr (H0.length + j))) (hl:l[j]? = some (.iter b pos)) (hp:¬ pos < b.size) :
  One T c n0 s (H0++l) (.next x) (.tup [.lit (.bool false)]) (H0++l):=⟨0,by simp only [core,prim,h,S4,hl,hp,if_false]⟩
theorem C34 {x y:Opd} {a b r:Int} (hx:ev s x = some (.lit (.int .i64 a))) (hy:ev s y = some (.lit (.int .i64 b))) (h:C9o a b = some r):One T c n0 s H (.bin .quo x y) (.lit (.int .i64 r)) H:=O8 hx hy (by
 unfold C9o at h
 split at h
 ·cases h
 ·next hb=>simp only [Option.some.injEq] at h; subst h; simp [A54,A8c,hb])
theorem C35 {x y:Opd} {a b r:Int} (hx:ev s x = some (.lit (.int .i64 a))) (hy:ev s y = some (.lit (.int .i64 b))) (h:B79 a b = some r):One T c n0 s H (.bin .rem x y) (.lit (.int .i64 r)) H:=O8 hx hy (by
 unfold B79 at h
 split at h
 ·cases h
 ·next hb=>simp only [Option.some.injEq] at h; subst h; simp [A54,A8c,hb])
theorem D11 {k k':IntKind} {x y:Opd} {a b r:Int} (hx:ev s x = some (.lit (.int k a))) (hy:ev s y = some (.lit (.int k' b))) (h:D2v k a b = some r):One T c n0 s H (.bin .shr x y) (.lit (.int k r)) H:=O8 hx hy (by
 unfold D2v at h
 split at h
 ·cases h
 ·next hb=>simp only [Option.some.injEq] at h; subst h; simp only [A54,hb,if_false])
theorem B2c {α β:Type} {f:α→β} (l:List α) (i:Int) (x:α):(l.map f).set i.toNat (f x) = (Y3 l i x).map f:= by
 unfold Y3; rw [List.map_set]
theorem W1 {α:Type} (l:List α) (i:Int) (x:α):(Y3 l i x).length = l.length:=List.length_set ..
def fz1:AV→AV
 | .fresh k rows=>.seq k rows
 | v=>v
def fzA:AV→AV
 | .agg cs=>.agg (cs.map fz1)
 | v=>fz1 v
def E1 (T:Tab) (c:Sc) (H:A1) (f:AV) (aq rs:List AV):Prop:=J1 T c H f aq rs H∧bdL H.length rs = true
def W0 (T:Tab) (c:Sc) (H:A1) (f:AV) (aq rs:List AV):Prop:=∃ rs',E1 T c H f aq rs'∧rs'.map fzA = rs
theorem E1.frz {H:A1} {f:AV} {aq rs:List AV} (h:E1 T c H f aq rs):W0 T c H f aq (rs.map fzA):=⟨rs,h,rfl⟩
theorem C3s {n0:Nat} {H:A1}:∀(cs:List AV) (j:Nat),A2k n0 H [] j cs = (cs.map fz1,H)
 | [],_=>rfl
 | v :: cs,j=>by
  have:inC n0 H [] j v = (fz1 v,H):= by cases v <;> rfl
  simp only [A2k,this,C3s cs,List.map_cons]
theorem C1t {n0:Nat} {H:A1} (v:AV):inV n0 H [] v = (fzA v,H):= by
 cases v <;> simp [inV,fzA,C3s,inC,V7,fz1]
theorem A0a {n0:Nat} {H:A1}:∀(rs:List AV),U7 n0 H rs [] = (rs.map fzA,H)
 | []=>rfl
 | v :: rs=>by simp only [U7,List.headD_nil,C1t,List.tail_nil,A0a rs,List.map_cons]
theorem B8 {f:Opd} {args:List Opd} {d src:Nat} {fv:AV} {aq as' rs:List AV} {H1:A1} {hc:List (Option (List Nat))} {ops:List AOper} (hf:ev s f = some fv) (ha:evs s args = some aq) (hz:P3 H aq = some (as',H1)) (hcall:W0 T c H1 fv as' rs)
  (k:L5 T c n0 ops ((d,packed rs) :: s) H1 (some [] :: hc) R):L5 T c n0 (⟨some d,.call f args [] false,none,[],[],0,src⟩ :: ops) s H hc R:= by
 obtain ⟨rs',⟨⟨n,e⟩,hb⟩,rfl⟩:=hcall
 have hz':Z0 [] H aq = some (as',H1):=hz
 refine A9z (v:=packed (rs'.map fzA)) (H1:=H1) ⟨n,?_⟩ (by simp [writes]) k
 simp only [core,S0,hf,ha,Bool.false_eq_true,if_false,hz',e,A0a]
theorem B3z {f:Opd} {args:List Opd} {fv:AV} {aq as' rs:List AV} {H1:A1} (hf:ev s f = some fv) (ha:evs s args = some aq) (hp:aq.all (O5 H) = true) (hz:P3 H aq = some (as',H1)) (hcall:W0 T c (H.map AO.toRo) fv as' rs):One T c n0 s H (.call f args [] true) (packed rs) H:= by
 obtain ⟨rs',⟨⟨n,e⟩,hb⟩,rfl⟩:=hcall
 have hz':Z0 [] H aq = some (as',H1):=hz
 refine ⟨n,?_⟩
 rw [List.length_map] at hb
 simp only [core,S0,hf,ha,if_true,hp,Bool.or_true,hz',e,hb,A0a]
theorem B3l:List.map fzA [] = []:=rfl
theorem A9r {v v':AV} {l l':List AV} (h:fzA v = v') (k:l.map fzA = l'):(v :: l).map fzA = v' :: l':= by rw [List.map_cons,h,k]
theorem U1 {f:Opd} {args:List Opd} {d src:Nat} {fv:AV} {aq as' rs:List AV} {hc:List (Option (List Nat))} {ops:List AOper} {H1:A1} (hf:ev s f = some fv) (ha:evs s args = some aq) (hp:aq.all (O5 H) = true) (hz:P3 H aq = some (as',H1)) (hcall:W0 T c (H.map AO.toRo) fv as' rs)
  (k:L5 T c n0 ops ((d,packed rs) :: s) H hc R):L5 T c n0 (⟨some d,.call f args [] true,none,[],[],0,src⟩ :: ops) s H hc R:= by
 obtain ⟨rs',⟨⟨n,e⟩,hb⟩,rfl⟩:=hcall
 have hz':Z0 [] H aq = some (as',H1):=hz
 refine A9z (v:=packed (rs'.map fzA)) (H1:=H) ⟨n,?_⟩ (by simp [writes]) k
 rw [List.length_map] at hb
 simp only [core,S0,hf,ha,if_true,hp,Bool.or_true,hz',e,hb,A0a]
theorem A0e {H:A1}:([]:List AV).all (O5 H) = true:=rfl
theorem T0 {H:A1} {v:AV} {l:List AV} (h:O5 H v = true) (k:l.all (O5 H) = true):(v :: l).all (O5 H) = true:= by rw [List.all_cons,h,k]; rfl
theorem B7 {H:A1}:P3 H [] = some ([],H):=rfl
theorem A2 {H H1 H2:A1} {v v':AV} {vs vs':List AV} (h:Q9 H v = some (v',H1)) (k:P3 H1 vs = some (vs',H2)):P3 H (v :: vs) = some (v' :: vs',H2):= by
 simp only [P3,h,k]
theorem D0 {H:A1} {cs:List AV} (h:cs.all AV.plain = true):Q9 H (.agg cs) = some (.agg cs,H):= by
 simp only [Q9,B0x h,Option.map_some]
theorem C1m {j n k:Nat} {p:Bool} {rows:List (List AV)} (hl:l[j]? = some (.arr k p rows)) (hn:rows.length = n):Q9 (H0++l) (.asl (H0.length + j) n) = some (.seq k rows,H0++l.set j (.arr k true rows)):= by
 cases p with
 | false=>simp [Q9,frv,N2 hl,O2 hl,hn,F8]
 | true =>
  have:l.set j (.arr k true rows) = l:= by
   obtain ⟨hj,e1⟩:=List.getElem?_eq_some_iff.1 hl
   rw [← e1]; exact List.set_getElem_self hj
  simp [Q9,frv,N2 hl,hn,this]
theorem D19 {k:Option Nat} {a:Opd} {v:AV} {H':A1} (h:One T c n0 s H (.load k a) v H'):prim c n0 s H (.load k a) = some (v,H'):= by
 obtain ⟨n,e⟩:=h; exact e
theorem B6 {H:A1}:results s H [] = some []:=rfl
theorem A6 {H:A1} {t:Nat} {v:AV} {l:List ARes} {vs:List AV} (h:sget s t = some v) (k:results s H l = some vs):results s H (.tmp t :: l) = some (v :: vs):= by
 simp only [results,h,k,Option.bind_some,Option.map_some]
theorem A93 {H H':A1} {t:Nat} {q:Option Nat} {v:AV} {l:List ARes} {vs:List AV} (h:One (fun _=>none) ⟨0,[]⟩ 0 s H (.load q (.t t)) v H') (k:results s H l = some vs):results s H (.cell t q :: l) = some (v :: vs):= by
 simp only [results,D19 h,k,Option.bind_some,Option.map_some]
theorem D5y {j n k:Nat} {p:Bool} {rows:List (List AV)} (hl:l[j]? = some (.arr k p rows)) (hn:rows.length = n):frv (H0++l) (.asl (H0.length + j) n) = some (.seq k rows,H0++l.set j (.arr k true rows)):=C1m hl hn
structure RetQ (H0:A1) (rv:List ARes) (rs:List AV) (e:Ex) (s:B4) (H:A1):Prop where
 he:(match e with | .exit _=>False | _=>True)
 hr:∃rs0 H1,results s H rv = some rs0∧P4 H0.length H rs0 = some (rs,H1)∧bdL H0.length rs = true∧H1.take H0.length = H0
theorem D0p {i:Nat} {af:AFunc} {first cap args aq rs:List AV} (haf:T i = some af) (has:first++args++cap = aq) (hn:(Nat.beq aq.length af.nargs && Nat.blt af.nargs 1000) = true)
  (h:WP T af.body (J7 0 aq) H0 ⟨H0.length,c.cur :: c.outer⟩ (RetQ H0 af.results rs)):E1 T c H0 (.fn (.func i) first cap) args rs:= by
 obtain ⟨e,S',s',H',h1,h2,h3,rs0,H1,h4,h5,h6,h7⟩:=h _ (Sub.refl _)
 refine ⟨?_,h6⟩
 have ht:trunc H0.length rs H1 = H0:= by simp [trunc,h6,h7]
 have:=J1.fn (c:=c) (H:=H0) (f:=.fn (.func i) first cap) (args:=args) (rs:=rs) (rs1:=rs) (rs0:=rs0) rfl haf rfl has.symm hn rfl h1 (by cases e <;> first | rfl | exact h3.elim) (R3 h2 h4) h5 rfl rfl
 rw [ht] at this
 exact this
theorem B5 {B:Nat} {H:A1}:P4 B H [] = some ([],H):=rfl
theorem A5 {B:Nat} {H H1 H2:A1} {v v':AV} {vs vs':List AV} (h:T3 B H v = some (v',H1)) (k:P4 B H1 vs = some (vs',H2)):P4 B H (v :: vs) = some (v' :: vs',H2):= by
 simp only [P4,h,k]
theorem B32 {B:Nat} {H:A1} {cs:List AV} (h:cs.all (fun v=>match v with | .lit _ | .seq _ _=>true | _=>false) = true):T3 B H (.agg cs) = some (.agg cs,H):= by
 have h1:S7 B H cs = some (cs,H):= by
  induction cs with
  | nil=>rfl
  | cons v cs ih =>
   simp only [List.all_cons,Bool.and_eq_true] at h
   have:=ih h.2
   cases v with
   | lit | seq=>simp only [S7,Z6,this]
   | _=>simp at h
 simp only [T3,h1,Option.map_some]
theorem A49 {j n k:Nat} {rows:List (List AV)} (hl:l[j]? = some (.arr k false rows)) (hn:rows.length = n):T3 H0.length (H0++l) (.asl (H0.length + j) n) = some (.fresh k rows,H0++l.set j .dead):= by
 have:Nat.ble H0.length (H0.length + j) = true:=Nat.ble_eq_true_of_le (Nat.le_add_right _ _)
 simp [T3,Z6,O2 hl,this,hn,F8]
theorem A95 {o:AOper} (h:rbox s o.op = none) {hc:List (Option (List Nat))}:N1 s o hc = true:= by unfold N1; rw [h]
theorem D5w {H:A1}:U6 H [] = some ([],H):=rfl
theorem A7h {H H1 H2:A1} {v v':AV} {vs vs':List AV} (h:frv H v = some (v',H1)) (k:U6 H1 vs = some (vs',H2)):U6 H (v :: vs) = some (v' :: vs',H2):= by simp only [U6,h,k]
theorem D3l {H H1:A1} {cs cs':List AV} (h:U6 H cs = some (cs',H1)):Q9 H (.agg cs) = some (.agg cs',H1):= by simp only [Q9,h,Option.map_some]
theorem B8f {b:Nat}:(([]:List (Option (List Nat))).all fun e=>match e with | none=>true | some hs=>hs.contains b) = true:=rfl
theorem B4e {b:Nat} {hs:List Nat} {r:List (Option (List Nat))} (h:hs.contains b = true) (k:(r.all fun e=>match e with | none=>true | some hs=>hs.contains b) = true):((some hs :: r).all fun e=>match e with | none=>true | some hs=>hs.contains b) = true:= by
 rw [List.all_cons,k]; simp only [h,Bool.and_self]
theorem D0q {i:Nat} {af:AFunc} {first cap args aq rs:List AV} (haf:T i = some af) (has:first++args++cap = aq) (hn:(Nat.beq aq.length af.nargs && Nat.blt af.nargs 1000) = true)
  (h:WP T af.body (J7 0 aq) H0 ⟨H0.length,c.cur :: c.outer⟩ (fun e s H=>∃ rs',RetQ H0 af.results rs' e s H∧rs'.map fzA = rs)):W0 T c H0 (.fn (.func i) first cap) args rs:= by
 obtain ⟨e,S',s',H',h1,h2,rs',⟨h3,rs0,H1,h4,h5,h6,h7⟩,h8⟩:=h _ (Sub.refl _)
 refine ⟨rs',⟨?_,h6⟩,h8⟩
 have ht:trunc H0.length rs' H1 = H0:= by simp [trunc,h6,h7]
 have:=J1.fn (c:=c) (H:=H0) (f:=.fn (.func i) first cap) (args:=args) (rs:=rs') (rs1:=rs') (rs0:=rs0) rfl haf rfl has.symm hn rfl h1 (by cases e <;> first | rfl | exact h3.elim) (R3 h2 h4) h5 rfl rfl
 rw [ht] at this
 exact this
theorem U5 {ac:ACode} {Q:Ex→B4→A1→Prop} (h:WP T ac s (H0++[]) c Q):WP T ac s H0 c Q:= by rwa [List.append_nil] at h
theorem bdn {N:Nat}:Y9 N [] = true:=rfl
theorem bdc {N:Nat} {t:Nat} {v:AV} {s:B4} (h:v.bd N = true) (k:Y9 N s = true):Y9 N ((t,v) :: s) = true:= by simp only [Y9,h,k,Bool.and_self]
theorem A4 {N:Nat} {v:Value}:(AV.lit v).bd N = true:= by simp only [AV.bd]
theorem K0 {N k:Nat} {rows:List (List AV)}:(AV.seq k rows).bd N = true:= by simp only [AV.bd]
theorem X7 {N k:Nat} {rows:List (List AV)}:(AV.fresh k rows).bd N = true:= by simp only [AV.bd]
theorem K8 {N j k o:Nat} (h:Nat.ble (j + 1) k = true):(AV.ptr (N + j) o).bd (N + k) = true:= by simp only [AV.bd]; exact Nat.ble_eq_true_of_le (by have:=Nat.le_of_ble_eq_true h; omega)
theorem D5q {N j k:Nat} (h:Nat.ble (j + 1) k = true):(AV.itr (N + j)).bd (N + k) = true:= by simp only [AV.bd]; exact Nat.ble_eq_true_of_le (by have:=Nat.le_of_ble_eq_true h; omega)
theorem A05 {N j k n:Nat} (h:Nat.ble (j + 1) k = true):(AV.asl (N + j) n).bd (N + k) = true:= by simp only [AV.bd]; exact Nat.ble_eq_true_of_le (by have:=Nat.le_of_ble_eq_true h; omega)
theorem A4f {H:A1} {b:Nat} {cs:List AV} (h:hcells H b = some cs):b < H.length:= by
 unfold hcells hget at h
 cases e:H[b]? with
 | none=>simp [e] at h
 | some o=>exact (List.getElem?_eq_some_iff.1 e).1
theorem A5o {H:A1} {b o k:Nat} {cs:List AV} (h:hcells H b = some cs):(AV.ptr b o).bd (H.length + k) = true:= by
 have:=A4f h
 simp only [AV.bd]; exact Nat.ble_eq_true_of_le (by omega)
mutual
theorem bd_more {N M:Nat} (h:N≤M):(v:AV)→v.bd N = true→v.bd M = true
 | .lit _,_ | .nils _,_ | .seq _ _,_ | .fresh _ _,_ | .undef,_=>by simp only [AV.bd]
 | .xseq _ rows,k=>by simp only [AV.bd] at k ⊢; exact bdR_more h rows k
 | .ptr b _,k | .itr b,k | .eptr b _ _ _,k | .asl b _,k | .csl b _ _ _,k | .mp b,k=>by
  simp only [AV.bd] at k ⊢
  exact Nat.ble_eq_true_of_le (Nat.le_trans (Nat.le_of_ble_eq_true k) h)
 | .cptr cs,k | .agg cs,k | .tup cs,k=>by simp only [AV.bd] at k ⊢; exact bdL_more h k
 | .fn f a c,k=>by
  cases f <;> simp only [AV.bd,Bool.and_eq_true] at k ⊢
  all_goals first | exact ⟨bdL_more h k.1,bdL_more h k.2⟩ | exact ⟨Nat.ble_eq_true_of_le (Nat.le_trans (Nat.le_of_ble_eq_true k.1) h),bdL_more h k.2.1,bdL_more h k.2.2⟩ | exact ⟨⟨Nat.ble_eq_true_of_le (Nat.le_trans (Nat.le_of_ble_eq_true k.1.1) h),bdL_more h k.1.2⟩,bdL_more h k.2⟩
theorem bdL_more {N M:Nat} (h:N≤M):{vs:List AV}→bdL N vs = true→bdL M vs = true
 | [],_=>rfl
 | v :: vs,k=>by
  simp only [bdL,Bool.and_eq_true] at k ⊢
  exact ⟨bd_more h v k.1,bdL_more h k.2⟩
theorem bdR_more {N M:Nat} (h:N≤M):(rows:List (List AV))→bdR N rows = true→bdR M rows = true
 | [],_=>rfl
 | r :: rows,k=>by
  simp only [bdR,Bool.and_eq_true] at k ⊢
  exact ⟨bdL_more h k.1,bdR_more h rows k.2⟩
end
theorem C21 {N k i:Nat} {a b:List AV} (h:bdL N a = true∧bdL N b = true):(AV.fn (.func i) a b).bd (N + k) = true:= by
 simp only [AV.bd,bdL_more (Nat.le_add_right N k) h.1,bdL_more (Nat.le_add_right N k) h.2,Bool.and_self]
theorem D5p {N i:Nat} {a b:List AV} (ha:bdL N a = true) (hb:bdL N b = true):(AV.fn (.func i) a b).bd N = true:= by simp only [AV.bd,ha,hb,Bool.and_self]
theorem B3b {N:Nat} {cs:List AV} (h:cs.all (fun v=>match v with | .lit _ | .seq _ _ | .nils _ | .fresh _ _=>true | _=>false) = true):(AV.agg cs).bd N = true:= by
 simp only [AV.bd]
 induction cs with
 | nil=>rfl
 | cons v cs ih =>
  simp only [List.all_cons,Bool.and_eq_true] at h
  simp only [bdL,ih h.2,Bool.and_true]
  cases v with
  | lit | seq | nils | fresh=>simp only [AV.bd]
  | _=>simp at h
theorem B4d {H:A1} {l:List AO} {c:Sc} (h:R4 c H = true):R4 ⟨H.length,c.cur :: c.outer⟩ (H++l) = true:= by
 unfold R4 at h ⊢
 rw [List.all_cons,Nat.ble_eq_true_of_le (by simp),Bool.true_and]
 rw [List.all_eq_true] at h ⊢
 intro B hB
 have:=Nat.le_of_ble_eq_true (h B hB)
 exact Nat.ble_eq_true_of_le (by simp; omega)
theorem A8 {N:Nat}:bdL N [] = true:=rfl
theorem A3 {N:Nat} {v:AV} {vs:List AV} (h:v.bd N = true) (k:bdL N vs = true):bdL N (v :: vs) = true:= by simp only [bdL,h,k,Bool.and_self]
def Impl {α β:Type} (T:Tab) (H:A1) (i:Nat) (ff fc:List AV) (g:α→Option β) (ea:α→List AV) (er:β→List AV):Prop :=
 (bdL H.length ff = true∧bdL H.length fc = true)∧∀ (H':A1),H.length≤H'.length→(∀ b cs,hcells H b = some cs→hcells H' b = some cs)→∀ c x r,g x = some r→W0 T c H' (.fn (.func i) ff fc) (ea x) (er r)
theorem Impl.mono {α β:Type} {H H1:A1} {i:Nat} {ff fc:List AV} {g:α→Option β} {ea:α→List AV} {er:β→List AV} (h:Impl T H i ff fc g ea er) (hl:H.length≤H1.length) (hag:∀b cs,hcells H b = some cs→hcells H1 b = some cs):Impl T H1 i ff fc g ea er :=
 ⟨⟨bdL_more hl h.1.1,bdL_more hl h.1.2⟩,fun H' hl' k c x r e=>h.2 H' (Nat.le_trans hl hl') (fun b cs hb=>k b cs (hag b cs hb)) c x r e⟩
theorem Impl.app {α β:Type} {H:A1} {i:Nat} {ff fc:List AV} {g:α→Option β} {ea:α→List AV} {er:β→List AV} (h:Impl T H i ff fc g ea er) (l:List AO):Impl T (H++l) i ff fc g ea er :=
 h.mono (by simp) (fun b cs hb=>D6 hb l)
theorem Impl.call {α β:Type} {H:A1} {i:Nat} {ff fc:List AV} {g:α→Option β} {ea:α→List AV} {er:β→List AV} (h:Impl T H i ff fc g ea er) {x:α} {r:β} (e:g x = some r) (l:List AO):W0 T c (H++l) (.fn (.func i) ff fc) (ea x) (er r) :=
 h.2 _ (by simp) (fun b cs hb=>D6 hb l) c x r e
theorem retq {rv:List ARes} {rs rs0:List AV} {H1:List AO} {e:Ex} (he:(match e with | .exit _=>False | _=>True)) (h1:results s (H0++l) rv = some rs0) (h2:P4 H0.length (H0++l) rs0 = some (rs,H0++H1)) (h3:bdL H0.length rs = true):RetQ H0 rv rs e s (H0++l) :=
 ⟨he,rs0,_,h1,h2,h3,by simp⟩
theorem A2z {i:Nat} {first cap args rs aq:List AV} {H:A1} (h:E1 T c H (.fn (.func i) [] []) aq rs) (has:aq = first++args++cap:= by rfl):E1 T c H (.fn (.func i) first cap) args rs:= by
 subst has
 obtain ⟨⟨n,e⟩,hb⟩:=h
 refine ⟨⟨n,?_⟩,hb⟩
 cases n with
 | zero=>simp [mach] at e
 | succ m =>
  rw [R8] at e ⊢
  simpa [K9] using e
theorem D52 {B j n k:Nat} {rows:List (List AV)} (hl:l[j]? = some (.arr k false rows)) (hn:rows.length = n) (hB:Nat.ble B j = true):T3 (H0.length + B) (H0++l) (.asl (H0.length + j) n) = some (.fresh k rows,H0++l.set j .dead):= by
 have:Nat.ble (H0.length + B) (H0.length + j) = true:=Nat.ble_eq_true_of_le (Nat.add_le_add_left (Nat.le_of_ble_eq_true hB) _)
 simp [T3,Z6,O2 hl,this,hn,F8]
theorem D3t {B j n k:Nat} {rows:List (List AV)} (hl:l[j]? = some (.arr k false rows)) (hn:rows.length = n) (hB:Nat.ble B j = false):T3 (H0.length + B) (H0++l) (.asl (H0.length + j) n) = some (.seq k rows,H0++l.set j (.arr k true rows)):= by
 have:Nat.ble (H0.length + B) (H0.length + j) = false:= by
  cases h:Nat.ble (H0.length + B) (H0.length + j) with
  | false=>rfl
  | true =>
   have h1:=Nat.le_of_ble_eq_true h
   have:=Nat.ble_eq_true_of_le (show B≤j by omega)
   rw [hB] at this; cases this
 simp [T3,Z6,O2 hl,this,frv,N2 hl,hn,F8]
theorem A9s {N:Nat} {rs vs:List AV} {H3:A1} (hb:bdL N rs = false) (hv:rs.map fzA = vs):U7 n0 (trunc N rs H3) rs [] = (vs,H3):= by
 rw [A0a,hv]; simp [trunc,hb]
theorem T6 {N:Nat} {v:AV} {vs:List AV} (h:v.bd N = false):bdL N (v :: vs) = false:= by simp only [bdL,h,Bool.false_and]
theorem A5p {N B j o:Nat} (h:Nat.ble B j = true):(AV.ptr (N + j) o).bd (N + B) = false:= by
 simp only [AV.bd]
 cases e:Nat.blt (N + j) (N + B) with
 | false=>rfl
 | true=>have:=Nat.le_of_ble_eq_true e; have:=Nat.le_of_ble_eq_true h; omega
theorem B3c {N i:Nat} {a b:List AV} (h:bdL N b = false):(AV.fn (.func i) a b).bd N = false:= by simp only [AV.bd,h,Bool.and_false]
theorem A9u {k:Nat} (h:l.length = k):(H0++l).length = H0.length + k:= by rw [List.length_append,h]
theorem Impl.callP {α β:Type} {H:A1} {i:Nat} {ff fc:List AV} {g:α→Option β} {ea:α→List AV} {er:β→List AV} (h:Impl T H i ff fc g ea er) {x:α} {r:β} (e:g x = some r) (l:List AO):W0 T c ((H++l).map AO.toRo) (.fn (.func i) ff fc) (ea x) (er r) :=
 h.2 _ (by simp) (fun b cs hb=>by rw [B3m]; exact D6 hb l) c x r e
end
section
variable {T:Tab} {s s' S:B4} {H0 H H':A1} {l l':List AO} {c:Sc} {n0 k0:Nat} {hc:List (Option (List Nat))} {ops:List AOper} {Q:Ex→B4→A1→Prop} {R:B4→A1→Prop}
inductive RL (s:B4):List Nat→B4→Prop
 | n:RL s [] []
 | k {t:Nat} {v:AV} {l:List Nat} {s':B4} (h:sget s t = some v) (r:RL s l s'):RL s (t :: l) ((t,v) :: s')
 | x {t:Nat} {l:List Nat} {s':B4} (r:RL s l s'):RL s (t :: l) s'
theorem RL.sub {l:List Nat} {s':B4} (h:RL s l s'):Sub s' s:= by
 induction h with
 | n=>exact Sub.nil _
 | k h _ ih=>exact Sub.cons h ih
 | x _ ih=>exact ih
theorem RL.ok {l:List Nat} {s':B4} (h:RL s l s'):(s'.all fun x=>l.contains x.1) = true:= by
 have:∀x ∈ s',x.1 ∈ l:= by
  induction h with
  | n=>intro x hx; simp at hx
  | k h _ ih =>
   intro x hx
   rcases List.mem_cons.1 hx with rfl | hx
   ·exact List.mem_cons_self
   ·exact List.mem_cons_of_mem _ (ih x hx)
  | x _ ih=>intro y hy; exact List.mem_cons_of_mem _ (ih y hy)
 rw [List.all_eq_true]
 intro x hx
 simpa using this x hx
theorem en {live:List Nat} (h:RL s live s') (k:Q .normal s' H):L5 T c n0 [] s H hc (RG live Q):=⟨0,s,H,rfl,s',h.sub,h.ok,k⟩
theorem es {live:List Nat} {b:ACode} (h:RL s live s') (k:WP T b s' H c Q):L5 T c n0 [] s H hc (RG live (C5g T b c Q)):=en h k
theorem rg {d:Bool} {nres:Nat} {live:List Nat} (k0:Nat) (hk:l.length = k0) (h:L5 T c (H0.length + k0) ops s (H0++(l++List.replicate nres .dead)) [] (RG live Q)):WP T (.region d nres [] ops live) s (H0++l) c Q:=B8v k0 hk h
theorem r0 {d:Bool} {live:List Nat} (h:L5 T c (H0.length + l.length) ops s (H0++l) [] (RG live Q)):WP T (.region d 0 [] ops live) s (H0++l) c Q :=
 B8v l.length rfl (by rw [List.replicate_zero,List.append_nil]; exact h)
theorem sg {d:Bool} {nres:Nat} {live:List Nat} {b:ACode} (k0:Nat) (hk:l.length = k0) (h:L5 T c (H0.length + k0) ops s (H0++(l++List.replicate nres .dead)) [] (RG live (C5g T b c Q))):WP T (.seq (.region d nres [] ops live) b) s (H0++l) c Q:=C6x (rg k0 hk h)
theorem s0 {d:Bool} {live:List Nat} {b:ACode} (h:L5 T c (H0.length + l.length) ops s (H0++l) [] (RG live (C5g T b c Q))):WP T (.seq (.region d 0 [] ops live) b) s (H0++l) c Q:=C6x (r0 h)
theorem C2 {a b:ACode} (h:WP T a s H c (C5g T b c Q)):WP T (.seq a b) s H c Q:=C6x h
theorem C3 (h:Q .normal s H):WP T .skip s H c Q:=D48 h
theorem G6 {id:Nat} (h:Q (.exit id) s H):WP T (.exit id) s H c Q:=D46 h
theorem C5 (h:Q .ret s H):WP T .ret s H c Q:=D66 h
theorem C6 {id:Nat} {a:ACode} (h:WP T a s H c (B6e id Q)):WP T (.block id a) s H c Q:=D28 h
theorem C8i {a:ACode} (h:WP T a s H c Q):WP T (.scope a) s H c Q:=D29 h
theorem N6 {x:Opd} {t:Bool} {a b:ACode} (h:ev s x = some (.lit (.bool t))) (ht:t = true) (k:WP T a s H c Q):WP T (.cond x a b) s H c Q:=C5a h ht k
theorem P7 {x:Opd} {t:Bool} {a b:ACode} (h:ev s x = some (.lit (.bool t))) (ht:t = false) (k:WP T b s H c Q):WP T (.cond x a b) s H c Q:=C49 h ht k
theorem A6i {ac:ACode} {Q1:Ex→B4→A1→Prop} (h:WP T ac s H c (fun e s' H'=>∃ s0,Sub s0 s'∧Q1 e s0 H')) (k:∀e s' H',Q1 e s' H'→Q e s' H'):WP T ac s H c Q:=D47 h k
theorem D26 {tr:Bool} {live:List Nat} {bd:ACode} (k:Nat) (hk:l.length = k) (s':B4) (hr:∀S,Sub s S→restrict S live = s') (h:WP T bd s' (H0++l) (bif tr then ⟨H0.length + k,c.cur :: c.outer⟩ else c) (UnQ T tr live bd c (H0.length + k) Q)):WP T (.loop tr live bd) s (H0++l) c Q:=C95 k hk s' hr h
theorem wi {ρ:Type} {x:Opd} {e:Bool} {A B:Option ρ} {r:ρ} {a b:ACode} (h:(if e = true then A else B) = some r) (hx:ev s x = some (.lit (.bool e))) (k1:e = true→A = some r→WP T a s H c Q) (k2:e = false→B = some r→WP T b s H c Q):WP T (.cond x a b) s H c Q:= by
 cases e with
 | true=>exact C5a hx rfl (k1 rfl h)
 | false=>exact C49 hx rfl (k2 rfl h)
theorem oB {α β:Type} {o:Option α} {f:α→Option β} {r:β} {P:Prop} (h:o.bind f = some r) (k:∀x,o = some x→f x = some r→P):P:= by
 obtain ⟨x,h1,h2⟩:=D4j h
 exact k x h1 h2
theorem os {α:Type} {a b:α} (h:some a = some b):a = b:=Option.some.inj h
def GQ (d:Nat) (v:AV) (s:B4) (H:A1) (s1:B4) (H1:A1):Prop:=H1 = H∧Sub ((d,v) :: s) s1
theorem C40:∀{s:B4} {t:Nat} {v:AV},sget s t = some v→∃ x ∈ s,x.1 = t
 | [],_,_,h=>by simp [M1,I7] at h
 | x :: s,t,v,h=>by
  simp only [M1,I7] at h
  cases hb:Nat.beq x.1 t with
  | true=>exact ⟨x,by simp,Nat.eq_of_beq_eq_true hb⟩
  | false=>rw [hb] at h; obtain ⟨y,h1,h2⟩:=C40 h; exact ⟨y,by simp [h1],h2⟩
theorem C44:∀{n:Nat} {s s1:B4},s1.drop n = s→((s1.take n).all fun y=>s.all fun x=>!Nat.beq y.1 x.1) = true→Sub s s1
 | 0,s,s1,h,_=>by rw [List.drop_zero] at h; subst h; exact Sub.refl _
 | n + 1,s,[],h,_=>by simp at h; subst h; exact Sub.refl _
 | n + 1,s,y :: s1,h,k=>by
  simp only [List.drop_succ_cons] at h
  simp only [List.take_succ_cons,List.all_cons,Bool.and_eq_true] at k
  have ih:=C44 h k.2
  intro t v e
  obtain ⟨x,hx,rfl⟩:=C40 e
  have:=List.all_eq_true.1 k.1 x hx
  simp only [Bool.not_eq_true'] at this
  simp only [M1,I7,this,cond_false]
  exact ih _ _ e
theorem ge (n:Nat) {d:Nat} {v:AV} {s1:B4} (hv:sget s1 d = some v) (hd:s1.drop n = s) (hk:((s1.take n).all fun y=>s.all fun x=>!Nat.beq y.1 x.1) = true):L5 T c n0 [] s1 H hc (GQ d v s H):=⟨0,s1,H,rfl,rfl,Sub.cons hv (C44 hd hk)⟩
theorem gpR (n d:Nat) (v:AV) (t:Nat) {g:Bool} (_hg:sget s t = some (.lit (.bool g))) (hq:calm (ops.drop n) = true) (h1:g = true→L5 T c n0 (ops.take n) s H hc (GQ d v s H)) (h2:g = false→L5 T c n0 (ops.take n) s H hc (GQ d v s H))
  (hR:∀a b H,Sub a b→R a H→R b H) (k:L5 T c n0 (ops.drop n) ((d,v) :: s) H [] R):L5 T c n0 ops s H hc R:= by
 have:L5 T c n0 (ops.take n) s H hc (GQ d v s H):= by
  cases g
  ·exact h2 rfl
  ·exact h1 rfl
 exact B33 n ((d,v) :: s) H hq this hR k
theorem gp {live:List Nat} (n d:Nat) (v:AV) (t:Nat) {g:Bool} (hg:sget s t = some (.lit (.bool g))) (hq:calm (ops.drop n) = true) (h1:g = true→L5 T c n0 (ops.take n) s H hc (GQ d v s H)) (h2:g = false→L5 T c n0 (ops.take n) s H hc (GQ d v s H))
  (k:L5 T c n0 (ops.drop n) ((d,v) :: s) H [] (RG live Q)):L5 T c n0 ops s H hc (RG live Q) :=
 gpR n d v t hg hq h1 h2 (fun _ _ _ h ⟨s',a,b,d⟩=>⟨s',a.trans h,b,d⟩) k
theorem gq {d1:Nat} {v1:AV} {s1:B4} {H1:A1} (n d:Nat) (v:AV) (t:Nat) {g:Bool} (hg:sget s t = some (.lit (.bool g))) (hq:calm (ops.drop n) = true) (h1:g = true→L5 T c n0 (ops.take n) s H hc (GQ d v s H)) (h2:g = false→L5 T c n0 (ops.take n) s H hc (GQ d v s H))
  (k:L5 T c n0 (ops.drop n) ((d,v) :: s) H [] (GQ d1 v1 s1 H1)):L5 T c n0 ops s H hc (GQ d1 v1 s1 H1) :=
 gpR n d v t hg hq h1 h2 (fun _ _ _ h q=>⟨q.1,q.2.trans h⟩) k
theorem bt {e:Bool} {α:Type} {A B:Option α} {r:α} (h:(if e = true then A else B) = some r) (he:e = true):A = some r:= by rw [if_pos he] at h; exact h
theorem bf {e:Bool} {α:Type} {A B:Option α} {r:α} (h:(if e = true then A else B) = some r) (he:e = false):B = some r:= by rw [if_neg (by rw [he]; decide)] at h; exact h
def PX (i:Nat) (s0:B4) (H0:A1) (e:Ex) (s':B4) (H':A1):Prop:=e = .exit i∧s' = s0∧H' = H0
theorem wl {γ σ ρ:Type} {live:List Nat} {bd:ACode} {body:σ→Option (σ ⊕ ρ)} {x0:σ} {r:ρ} (st:σ→B4) (lh:γ→σ→List AO) (N:Nat) (P:ρ→Ex→B4→A1→Prop) (g0:γ) (h:loop body x0 = some r) (hs:st x0 = s) (hl:lh g0 x0 = l)
  (hN:∀g x,(lh g x).length = N) (hlive:∀x,(st x).map (·.1) = live) (hnd:B04 live = true) (hbd:∀x,Y9 (H0.length + N) (st x) = true)
  (hbody:∀g x o,body x = some o→WP T bd (st x) (H0++lh g x) ⟨H0.length + N,c.cur :: c.outer⟩ (C6z true st (fun g x=>H0++lh g x) (H0.length + N) P o))
  (k:∀e s' H',e.out = true→P r e s' H'→Q e s' H'):WP T (.loop true live bd) s (H0++l) c Q:= by
 subst hs; subst hl
 exact A03 (B8u st (fun g x=>H0++lh g x) (H0.length + N) P (fun g x=>by rw [List.length_append,hN]) hlive (A43 hnd) (fun x _=>hbd x) hbody h g0) fun e s' H' q=>k e s' H' q.1 q.2
theorem lnT {γ:Type} {s0:B4} {L:γ→List AO} {N:Nat} (g:γ) (hl:l.take N = L g) (hs:Sub s0 s'):Ex.normal = Ex.normal∧Sub s0 s'∧∃ g',(bif true then (H0++l).take (H0.length + N) else H0++l) = H0++L g' :=
 ⟨rfl,hs,g,by rw [cond_true,A66,hl]⟩
theorem lx {R:B4→Prop} {o:Bool} {s0:B4} (ho:o = true) (hr:R s0) (hs:Sub s0 s'):o = true∧∃ s0,Sub s0 s'∧R s0:=⟨ho,s0,hs,hr⟩
theorem me {R:B4→Prop} {s0:B4} (hr:R s0) (hs:Sub s0 s'):∃s0,Sub s0 s'∧R s0:=⟨s0,hs,hr⟩
theorem px {i:Nat} {s0:B4} {H:A1}:PX i s0 H (.exit i) s0 H:=⟨rfl,rfl,rfl⟩
theorem F2 {x y:Opd} {a b:Int} (hx:ev s x = some (.lit (.int .i64 a))) (hy:ev s y = some (.lit (.int .i64 b))):One T c n0 s H (.bin .add x y) (.lit (.int .i64 (w64 (a + b)))) H:=O8 hx hy rfl
theorem T5 {x y:Opd} {a b:Int} (hx:ev s x = some (.lit (.int .i64 a))) (hy:ev s y = some (.lit (.int .i64 b))):One T c n0 s H (.bin .sub x y) (.lit (.int .i64 (w64 (a - b)))) H:=O8 hx hy rfl
theorem B0b {x y:Opd} {a b:Int} (hx:ev s x = some (.lit (.int .i64 a))) (hy:ev s y = some (.lit (.int .i64 b))):One T c n0 s H (.bin .mul x y) (.lit (.int .i64 (w64 (a * b)))) H:=O8 hx hy rfl
section
variable {x y:Opd} {a b:Int} {kk:IntKind}
theorem A6l {op:BinOp} {v:Value} (h:A8c op kk a b = some v):A54 op (.lit (.int kk a)) (.lit (.int kk b)) = some (.lit v):= by
 cases op <;> first | (simp only [A54,if_true,h,Option.map_some]; done) | (simp [A8c] at h)
theorem G0 (hx:ev s x = some (.lit (.int kk a))) (hy:ev s y = some (.lit (.int kk b))):One T c n0 s H (.bin .eql x y) (.lit (.bool (a == b))) H:=O8 hx hy (A6l rfl)
theorem J5 (hx:ev s x = some (.lit (.int kk a))) (hy:ev s y = some (.lit (.int kk b))):One T c n0 s H (.bin .neq x y) (.lit (.bool (a != b))) H:=O8 hx hy (A6l rfl)
theorem I0 (hx:ev s x = some (.lit (.int kk a))) (hy:ev s y = some (.lit (.int kk b))):One T c n0 s H (.bin .lss x y) (.lit (.bool (decide (a < b)))) H:=O8 hx hy (A6l rfl)
theorem A4a (hx:ev s x = some (.lit (.int kk a))) (hy:ev s y = some (.lit (.int kk b))):One T c n0 s H (.bin .leq x y) (.lit (.bool (decide (a≤b)))) H:=O8 hx hy (A6l rfl)
theorem Y8 (hx:ev s x = some (.lit (.int kk a))) (hy:ev s y = some (.lit (.int kk b))):One T c n0 s H (.bin .gtr x y) (.lit (.bool (decide (a > b)))) H:=O8 hx hy (A6l rfl)
theorem A71 (hx:ev s x = some (.lit (.int kk a))) (hy:ev s y = some (.lit (.int kk b))):One T c n0 s H (.bin .geq x y) (.lit (.bool (decide (a ≥ b)))) H:=O8 hx hy (A6l rfl)
end
theorem D6d {x y:Opd} {a b:Bool} (hx:ev s x = some (.lit (.bool a))) (hy:ev s y = some (.lit (.bool b))):One T c n0 s H (.beq true x y) (.lit (.bool (!(a == b)))) H:=D5g hx hy
theorem D1w {ks:List Nat} {x y:Opd} {a b:List AV} {t:Bool} (hx:ev s x = some (.agg a)) (hy:ev s y = some (.agg b)) (ha:kinds ks a = true) (hb:kinds ks b = true) (ht:F3 a b = some t):One T c n0 s H (.cmp true ks x y) (.lit (.bool (!t))) H:=D1u hx hy ha hb ht
theorem C6a {ks:List Nat} {x y:Opd} {a b:List AV} {t:Bool} (hx:ev s x = some (.agg a)) (hy:ev s y = some (.agg b)) (ha:kinds ks a = true) (hb:kinds ks b = true) (ht:F3 a b = some t):One T c n0 s H (.cmp false ks x y) (.lit (.bool t)) H:=D1u hx hy ha hb ht
theorem D0i {x y:Opd} {a b:ByteArray} (hx:ev s x = some (.lit (.string a))) (hy:ev s y = some (.lit (.string b))):One T c n0 s H (.bin .eql x y) (.lit (.bool (eqS a b))) H:=O8 hx hy rfl
theorem D7t {x y:Opd} {a b:ByteArray} (hx:ev s x = some (.lit (.string a))) (hy:ev s y = some (.lit (.string b))):One T c n0 s H (.bin .neq x y) (.lit (.bool (!eqS a b))) H:=O8 hx hy rfl
theorem Q8 {x:Opd} {b:Bool} (hx:ev s x = some (.lit (.bool b))):One T c n0 s H (.un .not x) (.lit (.bool (!b))) H:=C37 hx rfl
theorem D2 {a:Opd} {j k:Nat} {cs:List AV} (h:ev s a = some (.ptr (H0.length + j) 0)) (hl:l[j]? = some (.cells cs)) (hk:Nat.beq cs.length k = true):One T c n0 s (H0++l) (.load (some k) a) (.agg cs) (H0++l):= by
 have hk:=Nat.eq_of_beq_eq_true hk
 exact A3m h hl (by rw [List.drop_zero,hk]; exact Nat.ble_eq_true_of_le (Nat.le_refl _)) (by rw [List.drop_zero,List.take_of_length_le (by omega)])
theorem F5 {a:Opd} {k:Nat} {cs:List AV} (h:ev s a = some (.cptr cs)) (hk:Nat.beq cs.length k = true):One T c n0 s H (.load (some k) a) (.agg cs) H:= by
 have hk:=Nat.eq_of_beq_eq_true hk
 exact C32 h (by rw [hk]; exact Nat.ble_eq_true_of_le (Nat.le_refl _)) (List.take_of_length_le (by omega))
end
section
variable {T:Tab} {H0:A1} {c:Sc}
theorem cE {i:Nat} {af:AFunc} {args rs:List AV} (haf:T i = some af) (hn:(Nat.beq args.length af.nargs && Nat.blt af.nargs 1000) = true)
  (h:WP T af.body (J7 0 args) (H0++[]) ⟨H0.length,c.cur :: c.outer⟩ (RetQ H0 af.results rs)):E1 T c H0 (.fn (.func i) [] []) args rs :=
 D0p haf (List.append_nil _) hn (U5 h)
theorem cF {i:Nat} {af:AFunc} {args rs:List AV} (haf:T i = some af) (hn:(Nat.beq args.length af.nargs && Nat.blt af.nargs 1000) = true)
  (h:WP T af.body (J7 0 args) (H0++[]) ⟨H0.length,c.cur :: c.outer⟩ (fun e s H=>∃ rs',RetQ H0 af.results rs' e s H∧rs'.map fzA = rs)):W0 T c H0 (.fn (.func i) [] []) args rs :=
 D0q haf (List.append_nil _) hn (U5 h)
end
section
variable {S:B4} {t1 t2 t3 t4 t5 t6 t7 t8 t9 t10 t11 t12 t13 t14:Nat} {v1 v2 v3 v4 v5 v6 v7 v8 v9 v10 v11 v12 v13 v14:AV}
theorem ra1 (h1:sget S t1 = some v1):RL S [t1] [(t1,v1)]:=.k h1 .n
theorem su1 (h1:sget S t1 = some v1):Sub [(t1,v1)] S:=.cons h1 (.nil _)
theorem ra2 (h1:sget S t1 = some v1) (h2:sget S t2 = some v2):RL S [t1,t2] [(t1,v1),(t2,v2)]:=.k h1 (.k h2 .n)
theorem su2 (h1:sget S t1 = some v1) (h2:sget S t2 = some v2):Sub [(t1,v1),(t2,v2)] S:=.cons h1 (.cons h2 (.nil _))
theorem ra3 (h1:sget S t1 = some v1) (h2:sget S t2 = some v2) (h3:sget S t3 = some v3):RL S [t1,t2,t3] [(t1,v1),(t2,v2),(t3,v3)]:=.k h1 (.k h2 (.k h3 .n))
theorem su3 (h1:sget S t1 = some v1) (h2:sget S t2 = some v2) (h3:sget S t3 = some v3):Sub [(t1,v1),(t2,v2),(t3,v3)] S:=.cons h1 (.cons h2 (.cons h3 (.nil _)))
theorem ra4 (h1:sget S t1 = some v1) (h2:sget S t2 = some v2) (h3:sget S t3 = some v3) (h4:sget S t4 = some v4):RL S [t1,t2,t3,t4] [(t1,v1),(t2,v2),(t3,v3),(t4,v4)]:=.k h1 (.k h2 (.k h3 (.k h4 .n)))
theorem su4 (h1:sget S t1 = some v1) (h2:sget S t2 = some v2) (h3:sget S t3 = some v3) (h4:sget S t4 = some v4):Sub [(t1,v1),(t2,v2),(t3,v3),(t4,v4)] S:=.cons h1 (.cons h2 (.cons h3 (.cons h4 (.nil _))))
theorem ra5 (h1:sget S t1 = some v1) (h2:sget S t2 = some v2) (h3:sget S t3 = some v3) (h4:sget S t4 = some v4) (h5:sget S t5 = some v5):RL S [t1,t2,t3,t4,t5] [(t1,v1),(t2,v2),(t3,v3),(t4,v4),(t5,v5)]:=.k h1 (.k h2 (.k h3 (.k h4 (.k h5 .n))))
theorem su5 (h1:sget S t1 = some v1) (h2:sget S t2 = some v2) (h3:sget S t3 = some v3) (h4:sget S t4 = some v4) (h5:sget S t5 = some v5):Sub [(t1,v1),(t2,v2),(t3,v3),(t4,v4),(t5,v5)] S:=.cons h1 (.cons h2 (.cons h3 (.cons h4 (.cons h5 (.nil _)))))
theorem ra6 (h1:sget S t1 = some v1) (h2:sget S t2 = some v2) (h3:sget S t3 = some v3) (h4:sget S t4 = some v4) (h5:sget S t5 = some v5) (h6:sget S t6 = some v6):RL S [t1,t2,t3,t4,t5,t6] [(t1,v1),(t2,v2),(t3,v3),(t4,v4),(t5,v5),(t6,v6)]:=.k h1 (.k h2 (.k h3 (.k h4 (.k h5 (.k h6 .n)))))
theorem su6 (h1:sget S t1 = some v1) (h2:sget S t2 = some v2) (h3:sget S t3 = some v3) (h4:sget S t4 = some v4) (h5:sget S t5 = some v5) (h6:sget S t6 = some v6):Sub [(t1,v1),(t2,v2),(t3,v3),(t4,v4),(t5,v5),(t6,v6)] S:=.cons h1 (.cons h2 (.cons h3 (.cons h4 (.cons h5 (.cons h6 (.nil _))))))
theorem ra7 (h1:sget S t1 = some v1) (h2:sget S t2 = some v2) (h3:sget S t3 = some v3) (h4:sget S t4 = some v4) (h5:sget S t5 = some v5) (h6:sget S t6 = some v6) (h7:sget S t7 = some v7):RL S [t1,t2,t3,t4,t5,t6,t7] [(t1,v1),(t2,v2),(t3,v3),(t4,v4),(t5,v5),(t6,v6),(t7,v7)]:=.k h1 (.k h2 (.k h3 (.k h4 (.k h5 (.k h6 (.k h7 .n))))))
theorem su7 (h1:sget S t1 = some v1) (h2:sget S t2 = some v2) (h3:sget S t3 = some v3) (h4:sget S t4 = some v4) (h5:sget S t5 = some v5) (h6:sget S t6 = some v6) (h7:sget S t7 = some v7):Sub [(t1,v1),(t2,v2),(t3,v3),(t4,v4),(t5,v5),(t6,v6),(t7,v7)] S:=.cons h1 (.cons h2 (.cons h3 (.cons h4 (.cons h5 (.cons h6 (.cons h7 (.nil _)))))))
theorem ra8 (h1:sget S t1 = some v1) (h2:sget S t2 = some v2) (h3:sget S t3 = some v3) (h4:sget S t4 = some v4) (h5:sget S t5 = some v5) (h6:sget S t6 = some v6) (h7:sget S t7 = some v7) (h8:sget S t8 = some v8):RL S [t1,t2,t3,t4,t5,t6,t7,t8] [(t1,v1),(t2,v2),(t3,v3),(t4,v4),(t5,v5),(t6,v6),(t7,v7),(t8,v8)]:=.k h1 (.k h2 (.k h3 (.k h4 (.k h5 (.k h6 (.k h7 (.k h8 .n)))))))
theorem su8 (h1:sget S t1 = some v1) (h2:sget S t2 = some v2) (h3:sget S t3 = some v3) (h4:sget S t4 = some v4) (h5:sget S t5 = some v5) (h6:sget S t6 = some v6) (h7:sget S t7 = some v7) (h8:sget S t8 = some v8):Sub [(t1,v1),(t2,v2),(t3,v3),(t4,v4),(t5,v5),(t6,v6),(t7,v7),(t8,v8)] S:=.cons h1 (.cons h2 (.cons h3 (.cons h4 (.cons h5 (.cons h6 (.cons h7 (.cons h8 (.nil _))))))))
theorem ra9 (h1:sget S t1 = some v1) (h2:sget S t2 = some v2) (h3:sget S t3 = some v3) (h4:sget S t4 = some v4) (h5:sget S t5 = some v5) (h6:sget S t6 = some v6) (h7:sget S t7 = some v7) (h8:sget S t8 = some v8) (h9:sget S t9 = some v9):RL S [t1,t2,t3,t4,t5,t6,t7,t8,t9] [(t1,v1),(t2,v2),(t3,v3),(t4,v4),(t5,v5),(t6,v6),(t7,v7),(t8,v8),(t9,v9)]:=.k h1 (.k h2 (.k h3 (.k h4 (.k h5 (.k h6 (.k h7 (.k h8 (.k h9 .n))))))))
theorem ra10 (h1:sget S t1 = some v1) (h2:sget S t2 = some v2) (h3:sget S t3 = some v3) (h4:sget S t4 = some v4) (h5:sget S t5 = some v5) (h6:sget S t6 = some v6) (h7:sget S t7 = some v7) (h8:sget S t8 = some v8) (h9:sget S t9 = some v9) (h10:sget S t10 = some v10):RL S [t1,t2,t3,t4,t5,t6,t7,t8,t9,t10] [(t1,v1),(t2,v2),(t3,v3),(t4,v4),(t5,v5),(t6,v6),(t7,v7),(t8,v8),(t9,v9),(t10,v10)]:=.k h1 (.k h2 (.k h3 (.k h4 (.k h5 (.k h6 (.k h7 (.k h8 (.k h9 (.k h10 .n)))))))))
theorem ra11 (h1:sget S t1 = some v1) (h2:sget S t2 = some v2) (h3:sget S t3 = some v3) (h4:sget S t4 = some v4) (h5:sget S t5 = some v5) (h6:sget S t6 = some v6) (h7:sget S t7 = some v7) (h8:sget S t8 = some v8) (h9:sget S t9 = some v9) (h10:sget S t10 = some v10) (h11:sget S t11 = some v11):RL S [t1,t2,t3,t4,t5,t6,t7,t8,t9,t10,t11] [(t1,v1),(t2,v2),(t3,v3),(t4,v4),(t5,v5),(t6,v6),(t7,v7),(t8,v8),(t9,v9),(t10,v10),(t11,v11)]:=.k h1 (.k h2 (.k h3 (.k h4 (.k h5 (.k h6 (.k h7 (.k h8 (.k h9 (.k h10 (.k h11 .n))))))))))
theorem ra12 (h1:sget S t1 = some v1) (h2:sget S t2 = some v2) (h3:sget S t3 = some v3) (h4:sget S t4 = some v4) (h5:sget S t5 = some v5) (h6:sget S t6 = some v6) (h7:sget S t7 = some v7) (h8:sget S t8 = some v8) (h9:sget S t9 = some v9) (h10:sget S t10 = some v10) (h11:sget S t11 = some v11) (h12:sget S t12 = some v12):RL S [t1,t2,t3,t4,t5,t6,t7,t8,t9,t10,t11,t12] [(t1,v1),(t2,v2),(t3,v3),(t4,v4),(t5,v5),(t6,v6),(t7,v7),(t8,v8),(t9,v9),(t10,v10),(t11,v11),(t12,v12)]:=.k h1 (.k h2 (.k h3 (.k h4 (.k h5 (.k h6 (.k h7 (.k h8 (.k h9 (.k h10 (.k h11 (.k h12 .n)))))))))))
theorem ra14 (h1:sget S t1 = some v1) (h2:sget S t2 = some v2) (h3:sget S t3 = some v3) (h4:sget S t4 = some v4) (h5:sget S t5 = some v5) (h6:sget S t6 = some v6) (h7:sget S t7 = some v7) (h8:sget S t8 = some v8) (h9:sget S t9 = some v9) (h10:sget S t10 = some v10) (h11:sget S t11 = some v11) (h12:sget S t12 = some v12) (h13:sget S t13 = some v13) (h14:sget S t14 = some v14):RL S [t1,t2,t3,t4,t5,t6,t7,t8,t9,t10,t11,t12,t13,t14] [(t1,v1),(t2,v2),(t3,v3),(t4,v4),(t5,v5),(t6,v6),(t7,v7),(t8,v8),(t9,v9),(t10,v10),(t11,v11),(t12,v12),(t13,v13),(t14,v14)]:=.k h1 (.k h2 (.k h3 (.k h4 (.k h5 (.k h6 (.k h7 (.k h8 (.k h9 (.k h10 (.k h11 (.k h12 (.k h13 (.k h14 .n)))))))))))))
end
end Am
end
section
namespace Am
open Go
mutual
def AV.cl (N:Nat):AV→Bool
 | .lit _ | .nils _ | .undef=>true
 | .seq _ rows | .fresh _ rows=>freeR rows
 | .xseq _ rows=>clR N rows
 | .ptr b _ | .itr b | .eptr b _ _ _ | .asl b _ | .csl b _ _ _ | .mp b=>Nat.blt b N
 | .cptr cs | .agg cs | .tup cs=>clL N cs
 | .fn (.yield l) a c=>Nat.blt l N && clL N a && clL N c
 | .fn _ a c=>clL N a && clL N c
def clL (N:Nat):List AV→Bool
 | []=>true
 | x :: l=>x.cl N && clL N l
def clR (N:Nat):List (List AV)→Bool
 | []=>true
 | x :: l=>clL N x && clR N l
end
section
variable {p g:Nat}
end
def clS (N:Nat) (s:B4):Bool:=s.all fun x=>x.2.cl N
def clM (N:Nat) (es:List (AV × AV)):Bool:=es.all fun x=>x.1.cl N && x.2.cl N
def AO.cl (N:Nat):AO→Bool
 | .dead | .iter _ _=>true
 | .cells cs=>clL N cs
 | .arr _ _ rows=>clR N rows
 | .stk _ rows anc=>clR N rows && anc.all fun b=>Nat.blt b N
 | .map es=>clM N es
 | .loop _ s _ a b _ _=>clS N s && a.free && b.free
 | .mit m _ _=>Nat.blt m N
 | .ro o=>o.cl N
section
variable {p g:Nat}
end
def grL (N:Nat) (L:A1):Bool:=L.all fun o=>o.anc.all fun b=>Nat.ble N b
def D7q {α:Type} (T:Tab) (i:Nat) (fc:List AV) (ea:α→AV) (pre:A1→Prop) (it:∀(σ ρ:Type),(α→σ→Option (σ ⊕ ρ))→σ→Option (σ ⊕ ρ)):Prop :=
 ∀ {σ ρ:Type} (Hm:σ ⊕ ρ→A1) (N:Nat),(∀ x,(Hm x).length = N)→(∀ x,pre (Hm x))→∀ (y:AV),y.bd N = true→y.cellsOf = [y]→∀ (body:α→σ→Option (σ ⊕ ρ)),
  (∀ {L:A1} {c:Sc} {x:α} {s:σ} {o:σ ⊕ ρ},R4 c (Hm (.inl s)++L) = true→grL N L = true→body x s = some o→J1 T c (Hm (.inl s)++L) y [ea x] [.b o.isLeft] (Hm o++L)) →
  ∀ {s0:σ} {o:σ ⊕ ρ},it σ ρ body s0 = some o→∀ {c:Sc},R4 c (Hm (.inl s0)) = true→J1 T c (Hm (.inl s0)) (.fn (.func i) [] fc) [y] [] (Hm o)
section
variable {T:Tab} {s:B4} {H0:A1} {l:List AO} {c:Sc} {Q:Ex→B4→A1→Prop}
def C2b {σ ρ:Type} (ex:ρ→Ex):σ ⊕ ρ→Option Ex
 | .inl _=>none
 | .inr r=>some (ex r)
def D71 {σ ρ:Type} (ex:ρ→Ex):σ ⊕ ρ→Ex
 | .inl _=>.normal
 | .inr r=>ex r
end
end Am
namespace Am
open Go
section
variable {T:Tab} {s:B4} {H0 H:A1} {l:List AO} {c:Sc} {n0 N:Nat}
theorem Q5 {f:Opd} {args:List Opd} {fv:AV} {aq as' rs rs':List AV} {H1 H2:A1} (hf:ev s f = some fv) (ha:evs s args = some aq) (hz:P3 H aq = some (as',H1)) (hcall:J1 T c H1 fv as' rs H2) (hr:rs.map fzA = rs'):One T c n0 s H (.call f args [] false) (packed rs') H2:= by
 obtain ⟨n,e⟩:=hcall
 have hz':Z0 [] H aq = some (as',H1):=hz
 exact ⟨n,by simp only [core,S0,hf,ha,Bool.false_eq_true,if_false,hz',e,A0a,hr]⟩
def A79 (H0 H':A1) (rv:List ARes) (rs:List AV) (e:Ex) (s:B4) (H:A1):Prop :=
 (match e with | .exit _=>False | _=>True)∧∃ rs0 H1,results s H rv = some rs0∧P4 H0.length H rs0 = some (rs,H1)∧bdL H0.length rs = true∧H1.take H0.length = H'
theorem Z7 {i:Nat} {af:AFunc} {first cap args aq rs:List AV} {H':A1} (haf:T i = some af) (has:first++args++cap = aq) (hn:(Nat.beq aq.length af.nargs && Nat.blt af.nargs 1000) = true)
  (h:WP T af.body (J7 0 aq) H ⟨H.length,c.cur :: c.outer⟩ (A79 H H' af.results rs)):J1 T c H (.fn (.func i) first cap) args rs H':= by
 obtain ⟨e,S',s',H2,h1,h2,h3,rs0,H1,h4,h5,h6,h7⟩:=h _ (Sub.refl _)
 refine J1.fn (af:=af) (bd:=af.body) (aq:=aq) (rs0:=rs0) (rs1:=rs) (H1:=H1) (e:=e) (st':=⟨S',H2,⟨H.length,c.cur :: c.outer⟩⟩) rfl haf rfl has.symm hn rfl h1 (by cases e <;> first | rfl | exact h3.elim) (R3 h2 h4) h5 rfl ?_
 unfold trunc
 rw [h6,if_pos rfl,h7]
theorem A9c {H H':A1} {n:Nat} (h:R4 c H = true) (hl:H.length≤H'.length) (hn:n≤H'.length):R4 ⟨n,c.cur :: c.outer⟩ H' = true:= by
 unfold R4 at h ⊢
 rw [List.all_cons,Nat.ble_eq_true_of_le hn,Bool.true_and]
 rw [List.all_eq_true] at h ⊢
 intro B hB
 have:=Nat.le_of_ble_eq_true (h B hB)
 exact Nat.ble_eq_true_of_le (by omega)
theorem B8d {H0 H1 H':A1} {rv:List ARes} {rs rs0:List AV} {e:Ex} (he:(match e with | .exit _=>False | _=>True)) (h1:results s H1 rv = some rs0) (h2:P4 H0.length H1 rs0 = some (rs,H1)) (h3:bdL H0.length rs = true) (h4:H1.take H0.length = H'):A79 H0 H' rv rs e s H1 :=
 ⟨he,rs0,H1,h1,h2,h3,h4⟩
end
end Am
end
section
namespace Am
open Go
section
variable {β:Type} {n:Nat}
end
section
variable {T:Tab} {s:B4} {H0 H:A1} {l:List AO} {c:Sc} {n0 k0:Nat} {β:Type} {n:Nat} {kk:IntKind} {g:β→List AV} {es:List (IArr n × β)} {k:IArr n} {ks:List Nat}
theorem C0f {b:Nat} {o:AO} (h:b < H0.length):hset (H0++l) b o = hset H0 b o++l:= by
 unfold hset
 exact List.set_append_left _ _ h
theorem C81 {b:Nat} {o:AO} (h:hget H0 b = some o) (l:List AO):hget (H0++l) b = some o:= by
 have hb:b < H0.length:= by
  unfold hget at h
  exact (List.getElem?_eq_some_iff.1 h).1
 unfold hget at h ⊢
 rw [List.getElem?_append_left hb]; exact h
theorem C0d (H0:A1) (l:List AO) {b:Nat} (hb:b < H0.length):∀js:List Nat,hide (H0++l) (js.map (H0.length + ·)++[b]) = hset H0 b .dead++V3 l js
 | []=>by simp only [List.map_nil,List.nil_append,hide,V3]; exact C0f hb
 | j :: js=>by
  simp only [List.map_cons,List.cons_append,hide,C0d H0 l hb js,V3]
  have:=F8 (hset H0 b .dead) (V3 l js) j .dead
  rw [F4] at this
  exact this
theorem B5h (H0:A1) (l m:List AO) {b:Nat} (hb:b < H0.length):∀js:List Nat,unhide (H0++l) (hset H0 b .dead++m) (js.map (H0.length + ·)++[b]) = H0++R6 l m js
 | []=>by
  have h1:hget (H0++l) b = some H0[b]:= by
   unfold hget; rw [List.getElem?_append_left hb]; simp [hb]
  simp only [List.map_nil,List.nil_append,unhide,R6,h1]
  rw [C0f (by rw [F4]; exact hb)]
  congr 1
  unfold hset
  rw [List.set_set]
  exact List.set_getElem_self hb
 | j :: js=>by
  have h1:hget (H0++l) (H0.length + j) = l[j]?:= by rw [S4]
  simp only [List.map_cons,List.cons_append,unhide,R6,h1,B5h H0 l m hb js]
  cases l[j]? with
  | none=>rfl
  | some o=>exact F8 _ _ _ _
theorem B82 (N b:Nat) {js:List Nat}:(js.map (N + ·)++[b]).contains b = true:= by
 simp only [List.contains_iff_mem,List.mem_append,List.mem_singleton,or_true]
theorem D51 {op:AOp} {d:Option Nat} {gd:Option (Nat × Bool)} {hid:List Nat} {hida:List (Nat × List Nat)} {inc src:Nat} {bs js:List Nat} {k0 b:Nat} (jh:List Nat) (ejh:hid.map (H0.length + k0 + ·) = jh.map (H0.length + ·)) (hw:ways s (H0++V3 l jh) hida = some bs) (e:jh.map (H0.length + ·)++bs = js.map (H0.length + ·)++[b]) (hall:(js.all fun j=>Nat.blt j l.length && C1b l j) = true) (hb:b < H0.length) (hbn:hstk H0 b = none) :
  A2j (H0.length + k0) s (H0++l) ⟨d,op,gd,hid,hida,inc,src⟩ = some (js.map (H0.length + ·)++[b]):= by
 have h0:(js.all fun j=>Nat.blt j l.length) = true:= by
  rw [List.all_eq_true] at hall ⊢
  intro x hx
  have:=hall x hx
  rw [Bool.and_eq_true] at this
  exact this.1
 have h1:((js.map (H0.length + ·)++[b]).all fun b=>Nat.blt b (H0++l).length) = true:= by
  rw [List.all_append,C61 H0 l h0]
  simp only [List.all_cons,List.all_nil,Bool.and_true,Bool.true_and]
  exact Nat.ble_eq_true_of_le (by rw [List.length_append]; omega)
 have h2:(bs.all fun b=>(hstk (H0++V3 l jh) b).isNone) = true:= by
  rw [List.all_eq_true]
  intro x hx
  have hm:x ∈ js.map (H0.length + ·)++[b]:=e ▸ List.mem_append_right _ hx
  rcases List.mem_append.1 hm with hm | hm
  ·obtain ⟨j,hj,rfl⟩:=List.mem_map.1 hm
   have:=List.all_eq_true.1 hall j hj
   rw [Bool.and_eq_true] at this
   rw [B28 H0 this.2]; rfl
  ·rw [List.mem_singleton.1 hm,A4z (H:=H0) (List.getElem?_append_left hb),hbn]; rfl
 unfold A2j
 simp only [ejh,B14,hw,e,h1,h2,Bool.or_true,Bool.and_true,if_true]
theorem D2e {R:B4→A1→Prop} {hc:List (Option (List Nat))} {ops:List AOper} {op:AOp} {d:Option Nat} {hid:List Nat} {hida:List (Nat × List Nat)} {inc src b:Nat} {v:AV} {l1:List AO} (js:List Nat) (l2:List AO) (hb:b < H0.length) (hhs:A2j n0 s (H0++l) ⟨d,op,none,hid,hida,inc,src⟩ = some (js.map (H0.length + ·)++[b])) (hseen:N1 s ⟨d,op,none,hid,hida,inc,src⟩ hc = true)
  (h:One T c n0 s (hset H0 b .dead++V3 l js) op v (hset H0 b .dead++l1)) (hle:Nat.ble l.length l1.length = true) (hw:writes op = true) (e:R6 l l1 js = l2) (k:L5 T c n0 ops (sput s d v) (H0++l2) (some (js.map (H0.length + ·)++[b]) :: hc) R) :
  L5 T c n0 (⟨d,op,none,hid,hida,inc,src⟩ :: ops) s (H0++l) hc R:= by
 subst e
 obtain ⟨n1,e1⟩:=h
 obtain ⟨n2,s1,Hf,e2,h2⟩:=k
 refine ⟨max n1 n2,s1,Hf,?_,h2⟩
 have e1':=C1k (I6 T (Nat.le_max_left n1 n2)) e1
 have hle':Nat.ble (H0++l).length (hset H0 b .dead++l1).length = true:=Nat.ble_eq_true_of_le (by have:=Nat.le_of_ble_eq_true hle; rw [List.length_append,List.length_append,F4]; omega)
 simp only [opers,oper,wanted,hhs,hseen,C0d H0 l hb,e1',hle',Bool.or_true,if_true,B5h H0 l l1 hb,hw]
 exact W7 (I6 T (Nat.le_max_right n1 n2)) e2
def cpy {α:Type} (d m:List α):List α:=m.take (min m.length d.length)++d.drop (min m.length d.length)
theorem D38 {α:Type} {f:α→List AV} {k j n:Nat} {x y:Opd} {m d:List α} {v:AV} (hd:ev s x = some (.asl (H0.length + j) n)) (hx:ev s y = some v) (hl:l[j]? = some (.arr k false (d.map f))) (hn:d.length = n) (hr:rd (H0++l) v k (m.map f)) (hf:∀a,(f a).all AV.frz = true) :
  One T c n0 s (H0++l) (.copy k x y) (.lit (.int .i64 (min m.length n:Nat))) (H0++l.set j (.arr k false ((cpy d m).map f))):= by
 have:=D6e (T:=T) (c:=c) (n0:=n0) hd hx hl hn hr hf
 subst hn
 exact this
theorem D1t {a x:Opd} {j o k N:Nat} {cs ds:List AV} {v:AV} (hN:H0.length = N) (h:ev s a = some (.ptr (N + j) o)) (hv:ev s x = some v) (hl:l[j]? = some (.cells cs)) (hk:(Nat.beq v.cellsOf.length k && Nat.ble (o + k) cs.length) = true) (hok:v.cellsOf.all AV.plain = true) (hd:splice cs o v.cellsOf = ds) :
  One T c n0 s (H0++l) (.store k a x) (.tup []) (H0++l.set j (.cells ds)):= by subst hN; exact E8 h hv hl hk (E2 hok) hd
end
theorem A57 {α:Type} {l:List α} {i:Int} {w:α} (h:idx l i = some w):0≤i∧i < l.length:= by
 unfold idx at h
 split at h
 ·have:=(List.getElem?_eq_some_iff.1 h).1
  exact ⟨by assumption,by omega⟩
 ·cases h
theorem B0y {α:Type} {l:List α} {i:Int} {w:α} (h:idx l i = some w):l[i.toNat]? = some w:= by
 unfold idx at h
 split at h
 ·exact h
 ·cases h
theorem B6x {α:Type} {f:α→List AV} {k:Nat} (hk:∀a,(f a).length = k):∀e:List α,((e.map f).flatten).length = e.length * k
 | []=>by simp
 | a :: e=>by rw [List.map_cons,List.flatten_cons,List.length_append,hk a,B6x hk e,List.length_cons,Nat.succ_mul,Nat.add_comm]
theorem A21 {α:Type} {f:α→List AV} {k:Nat} (hk:∀a,(f a).length = k) (post:List AV):∀{e:List α} {i:Nat} {y:α},e[i]? = some y→((e.map f).flatten++post).drop (i * k) = f y++(((e.drop (i + 1)).map f).flatten++post)
 | [],_,_,h=>by simp at h
 | a :: e,0,y,h=>by
  simp only [List.getElem?_cons_zero,Option.some.injEq] at h
  subst h
  simp
 | a :: e,i + 1,y,h=>by
  simp only [List.getElem?_cons_succ] at h
  have ih:=A21 hk post h
  rw [List.map_cons,List.flatten_cons,List.append_assoc,Nat.succ_mul,Nat.add_comm,← List.drop_drop,List.drop_left' (hk a),ih]
  rfl
theorem C3g {α:Type} {f:α→List AV} {k:Nat} (hk:∀a,(f a).length = k) (post:List AV) (z:α):∀{e:List α} {i:Nat} {y:α},e[i]? = some y→splice ((e.map f).flatten++post) (i * k) (f z) = ((e.set i z).map f).flatten++post
 | [],_,_,h=>by simp at h
 | a :: e,0,y,h=>by
  unfold splice
  simp only [Nat.zero_mul,List.take_zero,List.nil_append,Nat.zero_add,List.map_cons,List.flatten_cons,List.set_cons_zero,List.append_assoc]
  rw [hk z,List.drop_left' (hk a)]
 | a :: e,i + 1,y,h=>by
  simp only [List.getElem?_cons_succ] at h
  have ih:=C3g hk post z h
  unfold splice at ih ⊢
  simp only [List.map_cons,List.flatten_cons,List.set_cons_succ,List.append_assoc] at ih ⊢
  rw [← ih,Nat.succ_mul,Nat.add_comm (i * k) k,← hk a,List.take_append,List.take_of_length_le (Nat.le_add_right _ _),Nat.add_sub_cancel_left,Nat.add_assoc,← List.drop_drop,List.drop_left,List.append_assoc]
section
variable {T:Tab} {s:B4} {H0 H:A1} {l:List AO} {c:Sc} {n0 k0:Nat} {α:Type} {f:α→List AV} {k o n:Nat} {kk:IntKind} {x i a:Opd} {m:Int} {y z:α} {e e2:List α} {cs ds post:List AV}
theorem D1x {b:Nat} (h:ev s x = some (.ptr b o)) (hi:ev s i = some (.lit (.int kk m))) (hn:e.length = n) (hy:idx e m = some y):One T c n0 s H (.idxA k n x i) (.ptr b (o + m.toNat * k)) H :=
 ⟨0,by
  have hb:=A57 hy
  rw [hn] at hb
  simp only [core,prim,h,hi,if_pos hb]⟩
theorem C7w {b:Nat} (h:ev s a = some (.ptr b (o + m.toNat * k))) (hc:hcells H b = some cs) (hcs:cs.drop o = (e.map f).flatten++post) (hk:∀a,(f a).length = k) (hy:idx e m = some y):∃r,cs.drop (o + m.toNat * k) = f y++r :=
 ⟨_,by rw [← List.drop_drop,hcs,A21 hk post (B0y hy)]⟩
theorem D1z {b:Nat} {g:α→AV} (hf:∀a,f a = [g a]) (h:ev s a = some (.ptr b (o + m.toNat * 1))) (hc:hcells H b = some cs) (hcs:cs.drop o = (e.map f).flatten++post) (hy:idx e m = some y):One T c n0 s H (.load none a) (g y) H :=
 ⟨0,by
  obtain ⟨r,hr⟩:=C7w h hc hcs (fun a=>by rw [hf]; rfl) hy
  rw [hf] at hr
  simp only [core,prim,h,F0,hc,hr,List.singleton_append]⟩
theorem D12 {j:Nat} {v:AV} (h:ev s a = some (.ptr (H0.length + j) (o + m.toNat * k))) (hv:ev s x = some v) (hvc:v.cellsOf = f z) (hl:l[j]? = some (.cells cs)) (ho:Nat.ble o cs.length = true) (hcs:cs.drop o = (e.map f).flatten++post) (hk:∀a,(f a).length = k) (hy:idx e m = some y) (he2:e2 = Y3 e m z) (hds:cs.take o++((e2.map f).flatten++post) = ds) (hok:c.okL (H0.length + j) v.cellsOf = true) :
  One T c n0 s (H0++l) (.store k a x) (.tup []) (H0++l.set j (.cells ds)):= by
 have hb:=B0y hy
 have hlt:=(List.getElem?_eq_some_iff.1 hb).1
 have ho:=Nat.le_of_ble_eq_true ho
 have hzk:=hk z
 have hmul:m.toNat * k + k≤e.length * k:= by
  have:=Nat.mul_le_mul_right k (show m.toNat + 1≤e.length by omega)
  rw [Nat.succ_mul] at this; exact this
 have hle:o + m.toNat * k + k≤cs.length:= by
  have:=congrArg List.length hcs
  rw [List.length_drop,List.length_append,B6x hk] at this
  omega
 refine E8 h hv hl ?_ hok ?_
 ·rw [hvc,hzk,Nat.beq_refl,Bool.true_and]
  exact Nat.ble_eq_true_of_le (by omega)
 ·rw [← hds,hvc,he2]
  have h1:=C3g hk post z hb
  have e1:splice cs (o + m.toNat * k) (f z) = cs.take o++splice (cs.drop o) (m.toNat * k) (f z):= by
   unfold splice
   rw [List.take_add,Nat.add_assoc,← List.drop_drop]
   simp only [List.append_assoc]
  rw [e1,hcs,h1]; rfl
theorem D4c {b:Nat} (h:ev s x = some (.csl b o k n)):One T c n0 s H (.lenL x) (.lit (.int .i64 n)) H:=⟨0,by simp only [core,prim,h]⟩
end
structure Ar2 (α:Type) where
 mk ::
 (x0 x1:α)
 deriving DecidableEq
def Ar2.l {α:Type} (a:Ar2 α):List α:=[a.x0,a.x1]
def Ar2.set {α:Type} (a:Ar2 α) (i:Int) (v:α):Ar2 α:=⟨if i = 0 then v else a.x0,if i = 1 then v else a.x1⟩
theorem Ar2.set_l {α:Type} {a:Ar2 α} {i:Int} {v w:α} (h:idx a.l i = some w):(a.set i v).l = Y3 a.l i v:= by
 obtain ⟨h0,h1⟩:=A57 h
 have h1:i < 2:=h1
 rcases (by omega:i = 0∨i = 1) with rfl | rfl
 all_goals rfl
structure Ar3 (α:Type) where
 mk ::
 (x0 x1 x2:α)
 deriving DecidableEq
def Ar3.l {α:Type} (a:Ar3 α):List α:=[a.x0,a.x1,a.x2]
def Ar3.set {α:Type} (a:Ar3 α) (i:Int) (v:α):Ar3 α:=⟨if i = 0 then v else a.x0,if i = 1 then v else a.x1,if i = 2 then v else a.x2⟩
def C24 {α:Type} (f:α→List AV) (a:Ar3 α):List AV:=f a.x0++(f a.x1++(f a.x2++[]))
theorem Ar3.set_l {α:Type} {a:Ar3 α} {i:Int} {v w:α} (h:idx a.l i = some w):(a.set i v).l = Y3 a.l i v:= by
 obtain ⟨h0,h1⟩:=A57 h
 have h1:i < 3:=h1
 rcases (by omega:i = 0∨i = 1∨i = 2) with rfl | rfl | rfl
 all_goals rfl
structure Ar4 (α:Type) where
 mk ::
 (x0 x1 x2 x3:α)
 deriving DecidableEq
def Ar4.l {α:Type} (a:Ar4 α):List α:=[a.x0,a.x1,a.x2,a.x3]
def Ar4.set {α:Type} (a:Ar4 α) (i:Int) (v:α):Ar4 α:=⟨if i = 0 then v else a.x0,if i = 1 then v else a.x1,if i = 2 then v else a.x2,if i = 3 then v else a.x3⟩
theorem Ar4.set_l {α:Type} {a:Ar4 α} {i:Int} {v w:α} (h:idx a.l i = some w):(a.set i v).l = Y3 a.l i v:= by
 obtain ⟨h0,h1⟩:=A57 h
 have h1:i < 4:=h1
 rcases (by omega:i = 0∨i = 1∨i = 2∨i = 3) with rfl | rfl | rfl | rfl
 all_goals rfl
structure Ar5 (α:Type) where
 mk ::
 (x0 x1 x2 x3 x4:α)
 deriving DecidableEq
def Ar5.l {α:Type} (a:Ar5 α):List α:=[a.x0,a.x1,a.x2,a.x3,a.x4]
def Ar5.set {α:Type} (a:Ar5 α) (i:Int) (v:α):Ar5 α:=⟨if i = 0 then v else a.x0,if i = 1 then v else a.x1,if i = 2 then v else a.x2,if i = 3 then v else a.x3,if i = 4 then v else a.x4⟩
theorem Ar5.set_l {α:Type} {a:Ar5 α} {i:Int} {v w:α} (h:idx a.l i = some w):(a.set i v).l = Y3 a.l i v:= by
 obtain ⟨h0,h1⟩:=A57 h
 have h1:i < 5:=h1
 rcases (by omega:i = 0∨i = 1∨i = 2∨i = 3∨i = 4) with rfl | rfl | rfl | rfl | rfl
 all_goals rfl
structure Ar6 (α:Type) where
 mk ::
 (x0 x1 x2 x3 x4 x5:α)
 deriving DecidableEq
def Ar6.l {α:Type} (a:Ar6 α):List α:=[a.x0,a.x1,a.x2,a.x3,a.x4,a.x5]
def Ar6.set {α:Type} (a:Ar6 α) (i:Int) (v:α):Ar6 α:=⟨if i = 0 then v else a.x0,if i = 1 then v else a.x1,if i = 2 then v else a.x2,if i = 3 then v else a.x3,if i = 4 then v else a.x4,if i = 5 then v else a.x5⟩
theorem Ar6.set_l {α:Type} {a:Ar6 α} {i:Int} {v w:α} (h:idx a.l i = some w):(a.set i v).l = Y3 a.l i v:= by
 obtain ⟨h0,h1⟩:=A57 h
 have h1:i < 6:=h1
 rcases (by omega:i = 0∨i = 1∨i = 2∨i = 3∨i = 4∨i = 5) with rfl | rfl | rfl | rfl | rfl | rfl
 all_goals rfl
structure Ar10 (α:Type) where
 mk ::
 (x0 x1 x2 x3 x4 x5 x6 x7 x8 x9:α)
 deriving DecidableEq
def Ar10.l {α:Type} (a:Ar10 α):List α:=[a.x0,a.x1,a.x2,a.x3,a.x4,a.x5,a.x6,a.x7,a.x8,a.x9]
def Ar10.set {α:Type} (a:Ar10 α) (i:Int) (v:α):Ar10 α:=⟨if i = 0 then v else a.x0,if i = 1 then v else a.x1,if i = 2 then v else a.x2,if i = 3 then v else a.x3,if i = 4 then v else a.x4,if i = 5 then v else a.x5,if i = 6 then v else a.x6,if i = 7 then v else a.x7,if i = 8 then v else a.x8,if i = 9 then v else a.x9⟩
theorem Ar10.set_l {α:Type} {a:Ar10 α} {i:Int} {v w:α} (h:idx a.l i = some w):(a.set i v).l = Y3 a.l i v:= by
 obtain ⟨h0,h1⟩:=A57 h
 have h1:i < 10:=h1
 rcases (by omega:i = 0∨i = 1∨i = 2∨i = 3∨i = 4∨i = 5∨i = 6∨i = 7∨i = 8∨i = 9) with rfl | rfl | rfl | rfl | rfl | rfl | rfl | rfl | rfl | rfl
 all_goals rfl
structure KeyOk {κ:Type} [DecidableEq κ] (ag:Bool) (ks:List Nat) (av:κ→AV) (kc:κ→List AV):Prop where
 cells:∀a,G9 ag (av a) = some (kc a)
 kinds:∀a,kinds ks (kc a) = true
 eql:∀a b,F3 (kc a) (kc b) = some (decide (a = b))
theorem C5t (k:IntKind) (x y:Int) (l m:List AV):F3 (.lit (.int k x) :: l) (.lit (.int k y) :: m) = bif decide (x = y) then F3 l m else some false:= by
 simp only [F3,A2i,if_true]
 by_cases h:x = y
 ·subst h; simp
 ·rw [show (x == y) = false from beq_eq_false_iff_ne.mpr h,decide_eq_false h]; rfl
section
variable {κ β:Type} [DecidableEq κ]
def kfind (k:κ):List (κ × β)→Nat→Option (Nat × β)
 | [],_=>none
 | e :: es,i=>if k = e.1 then some (i,e.2) else kfind k es (i + 1)
def kget (es:List (κ × β)) (k:κ):Option β:=(kfind k es 0).map (·.2)
def kset (es:List (κ × β)) (k:κ) (v:β):List (κ × β):=match kfind k es 0 with
 | some (i,_)=>es.set i (k,v)
 | none=>es++[(k,v)]
def kE (av:κ→AV) (gv:β→AV) (e:κ × β):AV × AV:=(av e.1,gv e.2)
theorem A9o {ag:Bool} {ks:List Nat} {av:κ→AV} {kc:κ→List AV} (hK:KeyOk ag ks av kc) (gv:β→AV) (k:κ):∀(es:List (κ × β)) (i:Nat),findKey ag ks (kc k) (es.map (kE av gv)) i = some ((kfind k es i).map fun x=>(x.1,gv x.2))
 | [],_=>rfl
 | e :: es,i=>by
  simp only [List.map_cons,kE,findKey,hK.cells,hK.kinds,if_true,hK.eql]
  by_cases h:k = e.1
  ·simp only [kfind,h,decide_true,if_true,Option.map_some]
  ·simp only [kfind,h,decide_false,if_false]
   exact A9o hK gv k es (i + 1)
end
section
variable {T:Tab} {s:B4} {H0 H:A1} {l:List AO} {c:Sc} {n0 k0:Nat} {κ β:Type} [DecidableEq κ] {ag:Bool} {ks:List Nat} {av:κ→AV} {kc:κ→List AV} {gv:β→AV} {es:List (κ × β)} {k:κ} {x i:Opd} {b:Nat} {z:β}
theorem D4a {zz:AV} (hK:KeyOk ag ks av kc) (hx:ev s x = some (.mp b)) (hm:hmap H b = some (es.map (kE av gv))) (hi:ev s i = some (av k)) (hz:zz = gv z):One T c n0 s H (.lookup zz ag ks x i true) (.tup [gv ((kget es k).getD z),.lit (.bool (kget es k).isSome)]) H:= by
 subst hz
 refine ⟨0,?_⟩
 simp only [core,prim,hx,hm,hi,hK.cells,hK.kinds,if_true,A9o hK]
 unfold kget
 cases kfind k es 0 with
 | none=>rfl
 | some y=>rfl
theorem D6f {m:Opd} {v:β} (hK:KeyOk ag ks av kc) (hx:ev s m = some (.mp b)) (hm:A8m H b = some (es.map (kE av gv))) (hi:ev s i = some (av k)) (hv:ev s x = some (gv v)) (hg:((gv v).cellsOf.all AV.frz && !(gv v).cellsOf.isEmpty) = true):One T c n0 s H (.mupd ag ks m i x) (.tup []) (hset H b (.map ((kset es k v).map (kE av gv)))):= by
 refine ⟨0,?_⟩
 have h3:(Am.kinds ks (kc k) && (gv v).cellsOf.all AV.frz && !(gv v).cellsOf.isEmpty) = true:= by
  rw [hK.kinds,Bool.true_and]; exact hg
 simp only [core,prim,hx,hi,hv,hm,hK.cells,h3,if_true,A9o hK]
 unfold kset
 cases kfind k es 0 with
 | none=>simp [kE]
 | some y=>simp [kE,List.map_set]
omit [DecidableEq κ] in
theorem D1y (hx:ev s x = some (.mp b)) (hm:hmap H b = some (es.map (kE av gv))):One T c n0 s H (.lenM x) (.lit (.int .i64 es.length)) H:=⟨0,by simp only [core,prim,hx,hm,List.length_map]⟩
theorem A8o {j:Nat} {es:List (AV × AV)} (h:l[j]? = some (.map es)):hmap (H0++l) (H0.length + j) = some es:= by
 unfold hmap; rw [S4,h]
theorem C80 {j:Nat} {es:List (AV × AV)} (h:l[j]? = some (.map es)):A8m (H0++l) (H0.length + j) = some es:= by
 unfold A8m; rw [S4,h]
theorem D4b {m:Opd} {v:β} {j:Nat} (hK:KeyOk ag ks av kc) (hx:ev s m = some (.mp (H0.length + j))) (hm:l[j]? = some (.map (es.map (kE av gv)))) (hi:ev s i = some (av k)) (hv:ev s x = some (gv v)) (hg:((gv v).cellsOf.all AV.frz && !(gv v).cellsOf.isEmpty) = true):One T c n0 s (H0++l) (.mupd ag ks m i x) (.tup []) (H0++l.set j (.map ((kset es k v).map (kE av gv)))):= by
 have:=D6f (T:=T) (c:=c) (n0:=n0) hK hx (C80 hm) hi hv hg
 rwa [F8] at this
end
def first {ρ:Type} (f:Nat→Option ρ):Nat→Option ρ
 | 0=>none
 | n + 1=>match first f n with
  | some r=>some r
  | none=>f n
def iter {τ:Type} (g:Nat→τ→τ):Nat→τ→τ
 | 0,t=>t
 | n + 1,t=>g n (iter g n t)
theorem J3 {ρ:Type} {f:Nat→Option ρ}:∀{n:Nat},first f n = none↔∀ i,i < n→f i = none
 | 0=>⟨fun _ i hi=>absurd hi (Nat.not_lt_zero i),fun _=>rfl⟩
 | n + 1=>by
  unfold first
  cases hf:first f n with
  | none =>
   have h0:=J3.mp hf
   constructor
   ·intro h i hi
    by_cases e:i = n
    ·rw [e]; exact h
    ·exact h0 i (by omega)
   ·intro h; exact h n (Nat.lt_succ_self n)
  | some r =>
   constructor
   ·intro h; exact absurd h (by simp)
   ·intro h
    rw [J3.mpr fun i hi=>h i (Nat.lt_succ_of_lt hi)] at hf
    exact absurd hf (by simp)
theorem S3 {ρ:Type} {f:Nat→Option ρ} {r:ρ}:∀{n:Nat},first f n = some r→∃ i,i < n∧f i = some r∧∀ j,j < i→f j = none
 | 0,h=>absurd h (by simp [first])
 | n + 1,h=>by
  unfold first at h
  cases hf:first f n with
  | none =>
   rw [hf] at h
   exact ⟨n,Nat.lt_succ_self n,h,J3.mp hf⟩
  | some q =>
   rw [hf] at h
   obtain ⟨i,hi,h1,h2⟩:=S3 (hf.trans (by simpa using h))
   exact ⟨i,Nat.lt_succ_of_lt hi,h1,h2⟩
theorem A6o {ρ:Type} {f:Nat→Option ρ} {r:ρ} {n i:Nat} (hi:i < n) (h:f i = some r) (hj:∀j,j < i→f j = none):first f n = some r:= by
 cases hf:first f n with
 | none=>rw [J3.mp hf i hi] at h; exact absurd h (by simp)
 | some q =>
  obtain ⟨k,hk,h1,h2⟩:=S3 hf
  have e:k = i:= by
   rcases Nat.lt_trichotomy k i with l | l | l
   ·rw [hj k l] at h1; exact absurd h1 (by simp)
   ·exact l
   ·rw [h2 i l] at h; exact absurd h (by simp)
  rw [e,h] at h1; exact h1.symm
theorem C0i {σ ρ:Type} {b:σ→Option (σ ⊕ ρ)} {u:Nat→σ} {n:Nat} {r:ρ} (hs:∀i,i < n→b (u i) = some (.inl (u (i + 1)))) (he:b (u n) = some (.inr r)) :
  ∀ k j m,j + k = n→k < m→A6t b m (u j) = some r
 | 0,j,0,_,h=>absurd h (Nat.not_lt_zero _)
 | 0,j,m + 1,hj,_=>by
  rw [L9]
  have:j = n:= by omega
  rw [this,he]
 | k + 1,j,0,_,h=>absurd h (Nat.not_lt_zero _)
 | k + 1,j,m + 1,hj,hm=>by
  rw [L9,hs j (by omega)]
  exact C0i hs he k (j + 1) m (by omega) (by omega)
theorem A41 {σ ρ:Type} {b:σ→Option (σ ⊕ ρ)} (u:Nat→σ) (n:Nat) {r:ρ} (hn:n < 9223372036854775808) (hs:∀i,i < n→b (u i) = some (.inl (u (i + 1)))) (he:b (u n) = some (.inr r)) :
  loop b (u 0) = some r:=C0i hs he n 0 _ (by omega) (by omega)
theorem A9v {σ ρ:Type} {b:σ→Option (σ ⊕ ρ)} (u:Nat→σ) (n:Nat) (f:Nat→Option ρ) (z:ρ) (hn:n < 9223372036854775808)
  (hs:∀i,i < n→(∀ j,j < i→f j = none)→b (u i) = some (match f i with | some r=>.inr r | none=>.inl (u (i + 1))))
  (he:(∀ j,j < n→f j = none)→b (u n) = some (.inr z)) :
  loop b (u 0) = some ((first f n).getD z):= by
 cases hf:first f n with
 | none =>
  have h0:=J3.mp hf
  refine A41 u n hn ?_ (he h0)
  intro i hi
  rw [hs i hi fun j hj=>h0 j (by omega),h0 i hi]
 | some r =>
  obtain ⟨i,hi,h1,h2⟩:=S3 hf
  refine A41 u i (by omega) ?_ ?_
  ·intro j hj
   rw [hs j (by omega) fun k hk=>h2 k (by omega),h2 j hj]
  ·rw [hs i hi h2,h1]; rfl
theorem G1 {n:Int} (h:-9223372036854775808≤n∧n≤9223372036854775807):w64 n = n :=
 Go.IntWalk.i64_in n h
theorem K1 {α:Type} [Inhabited α] {l:List α} {i:Nat} (h:i < l.length):idx l (i:Int) = some l[i]!:= by
 unfold idx
 rw [if_pos (Int.natCast_nonneg i),Int.toNat_natCast,List.getElem?_eq_getElem h,getElem!_pos l i h]
theorem W3 {α:Type} [Inhabited α] {l:List α} {i:Int} (h0:0≤i) (h:i < l.length):idx l i = some l[i.toNat]!:= by
 have e:i = (i.toNat:Int):= by omega
 rw [e,K1 (by omega)]; rfl
theorem B0t {α:Type} {k:Nat} {l m:List α} (hk:k≤64) (h:l.length + m.length≤1073741824):app k l m = some (l++m):= by
 unfold app
 rw [if_pos]
 refine ⟨Nat.le_trans (Nat.mul_le_mul h hk) (by decide),by omega⟩
theorem B6d {α:Type} {l:List α} {i:Nat} (h:i≤l.length):slc l 0 (i:Int) = some (l.take i):= by
 unfold slc
 rw [if_pos ⟨Int.le_refl 0,Int.natCast_nonneg i,by omega⟩,Int.toNat_natCast]; rfl
theorem A9w {ρ:Type} {b:Int→Option (Int ⊕ ρ)} (n:Nat) (f:Nat→Option ρ) (z:ρ) (hn:n < 9223372036854775808)
  (hs:∀i:Nat,i < n→(∀ j,j < i→f j = none)→b (i:Int) = some (match f i with | some r=>.inr r | none=>.inl (w64 ((i:Int) + 1))))
  (he:b (n:Int) = some (.inr z)) :
  loop b 0 = some ((first f n).getD z):= by
 refine A9v (fun i=>(i:Int)) n f z hn ?_ (fun _=>he)
 intro i hi hj
 rw [hs i hi hj,G1 (by omega)]
 rfl
theorem A40 {α:Type} {m:List α} {i:Nat} {x:α} (h:m[i]? = some x):idx m (i:Int) = some x:= by
 unfold idx
 rw [if_pos (Int.natCast_nonneg i),Int.toNat_natCast,h]
theorem D1j {σ ρ:Type} {b:σ→Option (σ ⊕ ρ)} (I:Nat→σ→Prop) (n:Nat) (J:ρ→Prop) (hn:n < 9223372036854775808)
  (hs:∀i s,i < n→I i s→∃ s',b s = some (.inl s')∧I (i + 1) s') (he:∀s,I n s→∃ r,b s = some (.inr r)∧J r) (s:σ) (h0:I 0 s):∃r,loop b s = some r∧J r:= by
 have key:∀k i s m,i + k = n→k < m→I i s→∃ r,A6t b m s = some r∧J r:= by
  intro k
  induction k with
  | zero =>
   intro i s m hi hm hI
   obtain ⟨m',rfl⟩:∃m',m = m' + 1:=⟨m - 1,by omega⟩
   have:i = n:= by omega
   subst this
   obtain ⟨r,h1,h2⟩:=he s hI
   exact ⟨r,by rw [L9,h1],h2⟩
  | succ k ih =>
   intro i s m hi hm hI
   obtain ⟨m',rfl⟩:∃m',m = m' + 1:=⟨m - 1,by omega⟩
   obtain ⟨s',h1,h2⟩:=hs i s (by omega) hI
   obtain ⟨r,h3,h4⟩:=ih (i + 1) s' m' (by omega) (by omega) h2
   exact ⟨r,by rw [L9,h1]; exact h3,h4⟩
 exact key n 0 s _ (by omega) hn h0
section
variable {σ ρ:Type}
end
def B6g (H:A1) (k:Nat) (v:AV) (rows:List (List AV)):Prop :=
 (v = .nils k∧rows = [])∨∃ b anc,v = .asl b rows.length∧hget H b = some (.stk k rows anc)
def Young (H:A1) (v:AV):Prop:=∀ b n,v = .asl b n→((H.drop (b + 1)).all fun o=>!o.grew b) = true
theorem B6g.rd {H:A1} {k:Nat} {v:AV} {rows:List (List AV)} (h:B6g H k v rows):rd H v k rows:= by
 rcases h with ⟨rfl,rfl⟩ | ⟨b,anc,rfl,h⟩
 ·exact ⟨rfl,rfl⟩
 ·have h1:harr H b = none:= by unfold harr; rw [h]
  have h2:hstk H b = some (k,rows,anc):= by unfold hstk; rw [h]
  exact ⟨by simp only [V8,h1,h2,Nat.beq_refl,if_true],by simp only [kOf,h1,h2,Option.map_some]⟩
theorem B6g.len {T:Tab} {s:B4} {H:A1} {c:Sc} {n0 k:Nat} {x:Opd} {v:AV} {rows:List (List AV)} (h:B6g H k v rows) (hx:ev s x = some v):One T c n0 s H (.lenL x) (.lit (.int .i64 rows.length)) H:=⟨0,by
 rcases h with ⟨rfl,rfl⟩ | ⟨b,anc,rfl,h⟩
 ·simp only [core,prim,hx,List.length_nil]
 ·have h1:harr H b = none:= by unfold harr; rw [h]
  have h2:hstk H b = some (k,rows,anc):= by unfold hstk; rw [h]
  simp only [core,prim,hx,h1,h2,if_true]⟩
theorem D05 {H L:A1} {b:Nat} {o:AO} (h:hget H b = some o):hget (H++L) b = some o:= by
 unfold hget at h ⊢
 rw [List.getElem?_append_left (List.getElem?_eq_some_iff.1 h).1,h]
theorem B6g.app {H L:A1} {k:Nat} {v:AV} {rows:List (List AV)} (h:B6g H k v rows):B6g (H++L) k v rows:= by
 rcases h with h | ⟨b,anc,e,h⟩
 ·exact .inl h
 ·exact .inr ⟨b,anc,e,D05 h⟩
theorem B6g.lt {H:A1} {k:Nat} {v:AV} {rows:List (List AV)} (h:B6g H k v rows) {b n:Nat} (e:v = .asl b n):b < H.length:= by
 rcases h with ⟨rfl,_⟩ | ⟨b',anc,rfl,h⟩
 ·cases e
 ·cases e; exact (List.getElem?_eq_some_iff.1 h).1
theorem Young.app {H L:A1} {k:Nat} {v:AV} {rows:List (List AV)} (hs:B6g H k v rows) (h:Young H v) (hL:(L.all fun o=>!o.isS) = true):Young (H++L) v:= by
 intro b n e
 have hb:=hs.lt e
 rw [List.drop_append_of_le_length hb,List.all_append,h b n e,Bool.true_and]
 rw [List.all_eq_true] at hL ⊢
 intro o ho
 have:=hL o ho
 cases o with
 | stk=>cases this
 | ro o=>cases o <;> first | rfl | cases this
 | _=>rfl
theorem B3p {n0:Nat} {H:A1}:∀(rs:List AV) (n:Nat),U7 n0 H rs (List.replicate n []) = (rs.map fzA,H)
 | [],_=>rfl
 | v :: rs,0=>A0a _
 | v :: rs,n + 1=>by simp only [U7,List.replicate_succ,List.headD_cons,C1t,List.tail_cons,B3p rs n,List.map_cons]
section
variable {T:Tab} {s:B4} {H0:A1} {l:List AO} {c:Sc} {k0:Nat}
theorem A18 {f:Opd} {args:List Opd} {fv:AV} {aq rs rs':List AV} {n0:Nat} {H H2:A1} (hf:ev s f = some fv) (ha:evs s args = some aq) (hcall:J1 T c H fv aq rs H2) (hr:rs.map fzA = rs'):One T c n0 s H (.call f args (List.replicate 9 []) false) (packed rs') H2:= by
 obtain ⟨n,e⟩:=hcall
 have hz:Z0 (List.replicate 9 []) H aq = some (aq,H):=rfl
 have hi:U7 n0 H2 rs (List.replicate 9 []) = (rs.map fzA,H2):=B3p rs 9
 exact ⟨n,by simp only [core,S0,hf,ha,Bool.false_eq_true,if_false,hz,e,hi,hr]⟩
theorem U8 {f:Opd} {args:List Opd} {fv:AV} {aq rs:List AV} {n0:Nat} {H:A1} (hf:ev s f = some fv) (ha:evs s args = some aq) (hcall:W0 T c H fv aq rs):One T c n0 s H (.call f args (List.replicate 9 []) false) (packed rs) H:= by
 obtain ⟨rs',⟨h,hb⟩,rfl⟩:=hcall
 exact A18 hf ha h rfl
end
inductive Sh where
 | int (k:IntKind)
 | bool
 | str
 | seq (k:Nat) (l:List Sh)
mutual
def Sat:Sh→AV→Prop
 | .int k,x=>∃ n,x = .lit (.int k n)∧(Lit.int k n).wf = true
 | .bool,x=>∃ b,x = .lit (.bool b)
 | .str,x=>∃ s:ByteArray,x = .lit (.string s)∧s.size≤maxLen
 | .seq k l,x=>∃ rows:List (List AV),x = .seq k rows∧rows.length≤maxLen∧∀ r ∈ rows,SatL l r
def SatL:List Sh→List AV→Prop
 | [],r=>r = []
 | s :: l,r=>∃ x q,r = x :: q∧Sat s x∧SatL l q
end
theorem SatL.len:∀{l:List Sh} {r:List AV},SatL l r→r.length = l.length
 | [],r,h=>by simp only [SatL] at h; rw [h]; rfl
 | s :: l,r,h=>by
  simp only [SatL] at h
  obtain ⟨x,q,rfl,_,hq⟩:=h
  rw [List.length_cons,List.length_cons,hq.len]
theorem SatL.app:∀{l m:List Sh} {r q:List AV},SatL l r→SatL m q→SatL (l++m) (r++q)
 | [],m,r,q,h,hq=>by simp only [SatL] at h; rw [h]; exact hq
 | s :: l,m,r,q,h,hq=>by
  simp only [SatL] at h
  obtain ⟨x,u,rfl,hx,hu⟩:=h
  show SatL (s :: (l++m)) (x :: (u++q))
  simp only [SatL]
  exact ⟨x,u++q,rfl,hx,hu.app hq⟩
def lay (P:Program):List (Field × List Sh)→Nat→Option (List Sh)
 | [],_=>some []
 | (f,l) :: r,off=>if f.offset = off∧l.length = P.cellsOf f.type then (lay P r (off + l.length)).map (l++·) else none
def C41 (P:Program):Nat→TypeId→Option (List Sh)
 | 0,_=>none
 | n + 1,t=>match P.underlying t with
  | some (.int k)=>some [.int k]
  | some .bool=>some [.bool]
  | some .string=>some [.str]
  | some (.slice e)=>(C41 P n e).bind fun l=>if l.length = P.cellsOf e∧0 < l.length then some [.seq l.length l] else none
  | some (.struct fs)=>(fs.toList.mapM fun f=>(C41 P n f.type).map fun l=>(f,l)).bind fun xs=>(lay P xs 0).bind fun l=>if l.length = P.cellsOf t then some l else none
  | _=>none
def Cells (Φ:Nat→Nat→Option Value) (l:List Sh) (cs:List Value):Prop :=
 ∃ r:List AV,SatL l r∧r.length = cs.length∧∀ (j:Nat) (x:AV),r[j]? = some x→∃ v,cs[j]? = some v∧Den Φ x v∧v.oneCell' = true
theorem Cells.app {Φ:Nat→Nat→Option Value} {l m:List Sh} {cs ds:List Value} (h:Cells Φ l cs) (k:Cells Φ m ds):Cells Φ (l++m) (cs++ds):= by
 obtain ⟨r,h1,h2,h3⟩:=h
 obtain ⟨q,k1,k2,k3⟩:=k
 refine ⟨r++q,h1.app k1,by rw [List.length_append,List.length_append,h2,k2],?_⟩
 intro j x hx
 by_cases c:j < r.length
 ·rw [List.getElem?_append_left c] at hx
  obtain ⟨v,e,hv⟩:=h3 j x hx
  exact ⟨v,by rw [List.getElem?_append_left (by omega)]; exact e,hv⟩
 ·rw [List.getElem?_append_right (by omega)] at hx
  obtain ⟨v,e,hv⟩:=k3 _ x hx
  exact ⟨v,by rw [List.getElem?_append_right (by omega),← h2]; exact e,hv⟩
theorem Cells.one {Φ:Nat→Nat→Option Value} {s:Sh} {x:AV} {v:Value} (h:Sat s x) (hd:Den Φ x v) (h1:v.oneCell' = true):Cells Φ [s] [v]:= by
 refine ⟨[x],by simp only [SatL]; exact ⟨x,[],rfl,h,rfl⟩,rfl,?_⟩
 intro j y hy
 match j with
 | 0=>exact ⟨v,rfl,by have:x = y:= by simpa using hy
                      subst this; exact ⟨hd,h1⟩⟩
 | j + 1=>simp at hy
theorem B9r {P:Program} {Φ:Nat→Nat→Option Value}:∀(xs:List (Field × List Sh)) (off:Nat) (l:List Sh) (cs:List Value),
  lay P xs off = some l→(∀ x ∈ xs,Cells Φ x.2 ((cs.drop x.1.offset).take (P.cellsOf x.1.type)))→off≤cs.length→Cells Φ l ((cs.drop off).take l.length)
 | [],off,l,cs,h,_,_=>by
  obtain rfl:=Option.some.inj h
  exact ⟨[],rfl,by simp,by simp⟩
 | (f,m) :: xs,off,l,cs,h,hx,ho=>by
  unfold lay at h
  split at h
  ·rename_i hc
   obtain ⟨q,hq,rfl⟩:=Option.map_eq_some_iff.mp h
   have h1:=hx (f,m) (List.mem_cons_self ..)
   simp only [] at h1
   rw [hc.1,← hc.2] at h1
   have hlen:((cs.drop off).take m.length).length = m.length:= by
    obtain ⟨r,h2,h3,_⟩:=h1
    rw [← h3,h2.len]
   rw [List.length_take,List.length_drop] at hlen
   have h2:=B9r xs (off + m.length) q cs hq (fun x hx'=>hx x (List.mem_cons_of_mem _ hx')) (by omega)
   have e:(cs.drop off).take (m++q).length = (cs.drop off).take m.length++(cs.drop (off + m.length)).take q.length:= by
    rw [List.length_append,List.take_add,List.drop_drop]
   rw [e]
   exact h1.app h2
  ·exact absurd h (by simp)
theorem C3x {α β:Type} {f:α→Option β}:∀{l:List α} {r:List β},l.mapM f = some r→∀ (i:Nat) y,r[i]? = some y→∃ x,l[i]? = some x∧f x = some y
 | [],r,h,i,y,hy=>by
  have:r = []:= by simpa using h.symm
  subst this; simp at hy
 | a :: l,r,h,i,y,hy=>by
  rw [List.mapM_cons] at h
  obtain ⟨b,hb,h⟩:=Option.bind_eq_some_iff.mp h
  obtain ⟨q,hq,h⟩:=Option.bind_eq_some_iff.mp h
  obtain rfl:=Option.some.inj h
  match i with
  | 0=>exact ⟨a,rfl,by rw [hb]; simpa using hy⟩
  | i + 1=>exact C3x hq i y (by simpa using hy)
theorem C90 {W:World} {a:Addr} {v:Value} (h:W.cell? a = some v):a.spot = none:= by
 unfold World.cell? at h
 split at h
 ·split at h
  ·exact absurd h (by simp)
  ·rename_i hn
   cases hs:a.spot with
   | none=>rfl
   | some x=>rw [hs] at hn; exact absurd rfl hn
 ·exact absurd h (by simp)
theorem D0c {a:Addr} (h:a.spot = none) (n:Nat):a.add n = ⟨a.block,a.off + n,none⟩:= by
 unfold Addr.add
 split
 ·rename_i e
  subst e
  cases a; simp only at h; subst h; rfl
 ·rfl
theorem A8d {H:Type} {enc:TypeId × Value→H} {P:Program} {W:World} {base:Nat} {sp:Nat→Bool} {held:Bool}:∀(n:Nat) (t:TypeId) (l:List Sh) (cs:List Value) (fuel:Nat) (x:DataW H × List MemPlace),
  C41 P n t = some l→DataW.trod enc P W base sp held fuel t cs = some x→Cells (fun β o=>W.cell? ⟨β,o,none⟩) l cs∧cs.length = l.length
 | 0,_,_,_,_,_,h,_=>absurd h (by simp [C41])
 | n + 1,t,l,cs,fuel,x,h,hx=>by
  unfold C41 at h
  split at h
  ·rename_i k hu
   obtain rfl:=Option.some.inj h
   obtain ⟨m,rfl,_,hw⟩:=DataW.trod_int hu hx
   exact ⟨Cells.one (x:=.lit (.int k m)) (by simp only [Sat]; exact ⟨m,rfl,hw⟩) (.lit _ rfl) rfl,rfl⟩
  ·rename_i hu
   obtain rfl:=Option.some.inj h
   obtain ⟨m,rfl,_⟩:=DataW.trod_bool hu hx
   exact ⟨Cells.one (x:=.lit (.bool m)) (by simp only [Sat]; exact ⟨m,rfl⟩) (.lit _ rfl) rfl,rfl⟩
  ·rename_i hu
   obtain rfl:=Option.some.inj h
   obtain ⟨m,rfl,_,hw⟩:=DataW.trod_string hu hx
   exact ⟨Cells.one (x:=.lit (.string m)) (by simp only [Sat]; exact ⟨m,rfl,hw⟩) (.lit _ rfl) rfl,rfl⟩
  ·rename_i e hu
   obtain ⟨m,hm,h⟩:=Option.bind_eq_some_iff.mp h
   split at h
   ·rename_i hc
    obtain rfl:=Option.some.inj h
    rcases DataW.trod_slice hu hx with ⟨rfl,_⟩ | ⟨a,len,cap,elems,rest,n',_,rfl,_,hb,hlc,hcm,hel,hcell,_,_⟩
    ·exact ⟨Cells.one (x:=.seq m.length []) (by simp only [Sat]; exact ⟨[],rfl,Nat.zero_le _,by simp⟩) (.seq0 _ _ _) rfl,rfl⟩
    ·cases len with
     | zero=>exact ⟨Cells.one (x:=.seq m.length []) (by simp only [Sat]; exact ⟨[],rfl,Nat.zero_le _,by simp⟩) (.seq0 _ _ _) rfl,rfl⟩
     | succ len0 =>
     have each0:∀i,i < len0 + 1→∃ ci:List Value,W.cells? base (a.add (i * P.cellsOf e)) (P.cellsOf e) = some ci∧Cells (fun β o=>W.cell? ⟨β,o,none⟩) m ci∧ci.length = m.length:= by
      intro i hi
      have h1:=hcell i hi
      rw [List.getElem?_eq_getElem (by omega)] at h1
      obtain ⟨ci,hci,h2⟩:=Option.bind_eq_some_iff.mp h1
      have:=A8d n e m ci _ _ hm h2
      exact ⟨ci,hci,this.1,this.2⟩
     have hs:a.spot = none:= by
      obtain ⟨ci,hci,_,hl⟩:=each0 0 (by omega)
      obtain ⟨_,_,hk⟩:=World.cells?_some hci
      have h0:=hk 0 (by omega)
      rw [List.getElem?_eq_getElem (by omega)] at h0
      have e0:(a.add (0 * P.cellsOf e)).add 0 = a:= by simp [Addr.add]
      rw [e0] at h0
      exact C90 h0
     have each:∀i,i < len0 + 1→∃ r:List AV,SatL m r∧r.length = m.length∧∀ (j:Nat) (x:AV),r[j]? = some x→∃ v,W.cell? ⟨a.block,a.off + (i * m.length + j),none⟩ = some v∧Den (fun β o=>W.cell? ⟨β,o,none⟩) x v:= by
      intro i hi
      obtain ⟨ci,hci,⟨r,hr1,hr2,hr3⟩,hl⟩:=each0 i hi
      obtain ⟨_,hlen,hk⟩:=World.cells?_some hci
      refine ⟨r,hr1,hr1.len,?_⟩
      intro j x hx
      obtain ⟨v,hv,hd,_⟩:=hr3 j x hx
      refine ⟨v,?_,hd⟩
      have hj:j < ci.length:=(List.getElem?_eq_some_iff.mp hv).1
      have:=hk j (by omega)
      rw [D0c hs,D0c rfl,hv] at this
      rw [← this,← hc.1]
      congr 2
      show a.off + (i * m.length + j) = a.off + i * m.length + j
      omega
     let R:Nat→List AV:=fun i=>if hi:i < len0 + 1 then Classical.choose (each i hi) else []
     have hR:∀i,i < len0 + 1→SatL m (R i)∧(R i).length = m.length∧∀ (j:Nat) (x:AV),(R i)[j]? = some x→∃ v,W.cell? ⟨a.block,a.off + (i * m.length + j),none⟩ = some v∧Den (fun β o=>W.cell? ⟨β,o,none⟩) x v:= by
      intro i hi
      have:R i = Classical.choose (each i hi):=dif_pos hi
      rw [this]
      exact Classical.choose_spec (each i hi)
     have hget:∀(i:Nat) (r:List AV),((List.range (len0 + 1)).map R)[i]? = some r→i < len0 + 1∧r = R i:= by
      intro i r hr
      rw [List.getElem?_map] at hr
      obtain ⟨y,hy,e⟩:=Option.map_eq_some_iff.mp hr
      obtain ⟨hi,e2⟩:=List.getElem?_eq_some_iff.mp hy
      rw [List.getElem_range] at e2
      rw [List.length_range] at hi
      subst e2
      exact ⟨hi,e.symm⟩
     have hmem:∀r ∈ (List.range (len0 + 1)).map R,∃ i,i < len0 + 1∧r = R i:= by
      intro r hr
      obtain ⟨i,hi,e⟩:=List.mem_map.mp hr
      exact ⟨i,List.mem_range.mp hi,e.symm⟩
     have hd:Den (fun β o=>W.cell? ⟨β,o,none⟩) (.seq m.length ((List.range (len0 + 1)).map R)) (.slice (some a) ((List.range (len0 + 1)).map R).length cap):= by
      refine .seq m.length _ a cap (fun i j=>(W.cell? ⟨a.block,a.off + (i * m.length + j),none⟩).getD undef) hs (by simpa using hlc) ?_ ?_ ?_
      ·intro r hr
       obtain ⟨i,hi,rfl⟩:=hmem r hr
       exact (hR i hi).2.1
      ·intro i r j x hr hx
       obtain ⟨hi,rfl⟩:=hget i r hr
       obtain ⟨v,hv,_⟩:=(hR i hi).2.2 j x hx
       show W.cell? _ = some ((W.cell? _).getD undef)
       rw [hv]; rfl
      ·intro i r j x hr hx
       obtain ⟨hi,rfl⟩:=hget i r hr
       obtain ⟨v,hv,hdv⟩:=(hR i hi).2.2 j x hx
       show Den _ x ((W.cell? _).getD undef)
       rw [hv]; exact hdv
     rw [List.length_map,List.length_range] at hd
     refine ⟨Cells.one (x:=.seq m.length ((List.range (len0 + 1)).map R)) ?_ hd rfl,rfl⟩
     simp only [Sat]
     refine ⟨_,rfl,by rw [List.length_map,List.length_range]; omega,?_⟩
     intro r hr
     obtain ⟨i,hi,rfl⟩:=hmem r hr
     exact (hR i hi).1
   ·exact absurd h (by simp)
  ·rename_i fs hu
   obtain ⟨xs,hxs,h⟩:=Option.bind_eq_some_iff.mp h
   obtain ⟨m,hm,h⟩:=Option.bind_eq_some_iff.mp h
   split at h
   ·rename_i hc
    obtain rfl:=Option.some.inj h
    obtain ⟨ys,n',_,_,hl,hlen,hf⟩:=DataW.trod_struct hu hx
    have key:=B9r (Φ:=fun β o=>W.cell? ⟨β,o,none⟩) xs 0 m cs hm (fun y hy=>by
     obtain ⟨i,hi,e⟩:=List.mem_iff_getElem.mp hy
     obtain ⟨f,hf1,hf2⟩:=C3x hxs i y (by rw [List.getElem?_eq_getElem hi,e])
     obtain ⟨l',hl',rfl⟩:=Option.map_eq_some_iff.mp hf2
     have hfi:fs[i]? = some f:= by rw [← Array.getElem?_toList]; exact hf1
     have h2:=hf i f hfi
     have hib:i < fs.size:= by
      obtain ⟨q,_⟩:=Array.getElem?_eq_some_iff.mp hfi
      exact q
     rw [List.getElem?_eq_getElem (by omega)] at h2
     exact (A8d n f.type l' _ _ _ hl' h2).1) (Nat.zero_le _)
    have e:(cs.drop 0).take m.length = cs:= by rw [List.drop_zero,List.take_of_length_le (by omega)]
    rw [e] at key
    exact ⟨key,by omega⟩
   ·exact absurd h (by simp)
  ·exact absurd h (by simp)
variable {T:Tab} {c:Sc}
theorem B4y {n i:Nat} {seen:List Nat}:i ∈ K7 n seen↔i < n∧i ∉ seen:= by
 unfold K7
 rw [List.mem_filter,List.mem_range]
 simp
theorem C58 {n i:Nat} {seen:List Nat} (h:i ∈ K7 n seen):(K7 n (seen++[i])).length < (K7 n seen).length:= by
 have e:K7 n (seen++[i]) = (K7 n seen).filter fun j=>j != i:= by
  unfold K7
  rw [List.filter_filter]
  refine List.filter_congr fun j _=>?_
  rw [Bool.eq_iff_iff]
  simp [and_comm]
 rw [e]
 exact List.length_filter_lt_length_iff_exists.mpr ⟨i,h,by simp⟩
theorem C94 {x:Opd} {nx ok l m n:Nat} {live0 live liveX:List Nat} {rest:ACode} {es:List (AV × AV)} {e0:Ex} (st:List Nat→B4) (hp:List Nat→A1) (sE:B4) (HE:A1)
  (hlive:∀seen,(st seen).map (·.1) = live) (hnd:live.Nodup) (hX:sE.map (·.1) = liveX) (hndX:liveX.Nodup)
  (hx:∀seen,ev (st seen) x = some (.itr l)) (hl:∀seen,hget (hp seen) l = some (.mit m n seen)) (hm:∀seen,hmap (hp seen) m = some es)
  (hif:(decide (es.length = n) && !live0.contains nx && !live0.contains ok && !Nat.beq nx ok) = true)
  (hstep:∀seen i,seen.Nodup→(∀ j ∈ seen,j < n)→i < n→i ∉ seen→WP T rest ((ok,.b true) :: restrict (st seen) live0) (hset (hp seen) l (.mit m n (seen++[i]))) ⟨(hp seen).length,c.cur :: c.outer⟩
   (fun e s' H'=>e = .normal∧Sub (st (seen++[i])) s'∧H'.take (hp seen).length = hp (seen++[i])))
  (hbd:∀seen i,Y9 (hp seen).length (st (seen++[i])) = true)
  (hend:∀seen,seen.Nodup→(∀ j,j ∈ seen↔j < n)→WP T rest ((ok,.b false) :: restrict (st seen) live0) (hp seen) c
   (fun e s' H'=>e = e0∧e.out = true∧Sub sE s'∧(∃ a b d,hget H' l = some (.mit a b d))∧hset H' l .dead = HE)) :
  WP T (.loopM x nx ok live0 live liveX rest) (st []) (hp []) c (fun e s' H'=>e = e0∧s' = sE∧H' = HE):= by
 have key:∀(k:Nat) (seen:List Nat) (S:B4),(K7 n seen).length < k→seen.Nodup→(∀ j ∈ seen,j < n)→Sub (st seen) S→G7 T (.loopM x nx ok live0 live liveX rest) ⟨S,hp seen,c⟩ e0 ⟨sE,HE,c⟩:= by
  intro k
  induction k with
  | zero=>intro seen S h; exact absurd h (Nat.not_lt_zero _)
  | succ k ih =>
   intro seen S hk h1 h2 hS
   have hxS:ev S x = some (.itr l):=A1p hS (hx seen)
   have hsub:∀t:Bool,Sub ((ok,.b t) :: restrict (st seen) live0) ((ok,.b t) :: restrict S live0):=fun t u v hv=>by
    simp only [I7] at hv ⊢
    cases hq:Nat.beq ok u with
    | true=>rw [hq] at hv; exact hv
    | false=>rw [hq] at hv; exact (hS.restrict live0) u v hv
   by_cases h0:K7 n seen = []
   ·obtain ⟨e,S1,s1,H1,q1,q2,rfl,q4,q5,⟨a,b,d,q6⟩,q7⟩:=hend seen h1 (fun j=>⟨h2 j,fun hj=>by
     by_cases hc:j ∈ seen
     ·exact hc
     ·have:j ∈ K7 n seen:=B4y.mpr ⟨hj,hc⟩
      rw [h0] at this; cases this⟩) _ (hsub false)
    refine G7.loopM_end (st1:=⟨S1,H1,c⟩) (st:=⟨S,hp seen,c⟩) rfl hxS (hl seen) (hm seen) hif h0 q1 q4 ?_
    unfold A2g
    simp only [q6]
    rw [O1 hX hndX (q5.trans q2),q7]
   ·refine G7.loopM_step (st:=⟨S,hp seen,c⟩) rfl hxS (hl seen) (hm seen) hif h0 (fun i hi=>.inl ?_)
    obtain ⟨hi1,hi2⟩:=B4y.mp hi
    obtain ⟨e,S1,s1,H1,q1,q2,rfl,q4,q5⟩:=hstep seen i h1 h2 hi1 hi2 _ (hsub true)
    have hr:restrict S1 live = st (seen++[i]):=O1 (hlive _) hnd (q4.trans q2)
    refine ⟨⟨S1,H1,⟨(hp seen).length,c.cur :: c.outer⟩⟩,q1,by simp only [hr]; exact hbd seen i,?_⟩
    simp only [hr,q5]
    refine ih (seen++[i]) _ (by have:=C58 hi; omega) ?_ (fun j hj=>?_) (Sub.refl _)
    ·rw [List.nodup_append]
     refine ⟨h1,by simp,fun a ha b hb=>?_⟩
     have:b = i:= by simpa using hb
     subst this
     rintro rfl
     exact hi2 ha
    ·rcases List.mem_append.1 hj with hj | hj
     ·exact h2 j hj
     ·have:j = i:= by simpa using hj
      omega
 intro S hS
 exact ⟨e0,sE,sE,HE,key _ [] S (Nat.lt_succ_self _) List.nodup_nil (by simp) hS,Sub.refl _,rfl,rfl,rfl⟩
end Am
end
section
set_option maxRecDepth 100000
namespace Go.Proofs.YtjpjdglddmhplaaGreat
open Go Am
namespace Cd
def c9:ACode :=
 (.s 1 [q 0 3 (.box 4 0 0),M 1 6 (.b false)] [1,2,3] (.seq (.s 0 [LK 0 21 4 3,CL 1 22 33 [21],q 2 23 (.un .not 22)] [1,2,3,23] (.cond 23 (.s 0 [LK 0 25 4 3,q 1 26 (.call (.f 20) [25,.c (.seq 3 []),.i 0] [] false),M 2 24 26,EX 3 27 24 0,EX 4 28 24 1,M 5 7 27,M 6 8 28] [8] (.s 0 [M 0 29 8,B 1 30 .neq 29 (.i 0),M 2 31 30,G 3 32 31 true (.call (.f 19) [] [] false),q 4 33 (.pick 31 32 (.b false)),M 5 6 33] [6] .ret)) .skip)) (.s 0 [LK 0 34 4 3,M 1 35 1,CL 2 36 38 [34,35],M 3 9 36] [2,3,9] (.s 0 [LK 0 38 4 3,M 1 39 9,CL 2 40 20 [38,39,.i 364],M 3 37 40,EX 4 41 37 0,EX 5 42 37 1,M 6 10 41,M 7 11 42] [2,3,9,10,11] (.s 0 [FA 0 43 2 3,L 1 44 43,M 2 12 44] [2,3,9,10,11,12] (.seq (.s 0 [M 0 13 (.i 0)] [2,3,9,10,11,12,13] (.block 0 (.loop true [2,3,9,10,11,12,13] (.seq (.s 0 [M 0 45 13,FA 1 46 3 3,L 2 47 46,LE 3 48 47,B 4 49 .lss 45 48] [2,3,9,10,11,12,13,49] (.cond 49 .skip (.exit 0))) (.seq (.block 1 (.g 0 [M 0 52 12,FA 1 53 3 3,L 2 54 53,M 3 55 13,IX 4 56 2 54 55,FA 5 57 1 56,L 6 58 57,B 7 59 .add 52 58,M 8 12 59] [2,3,9,10,11,12,13])) (.g 0 [M 0 50 13,B 1 51 .add 50 (.i 1),M 2 13 51] [2,3,9,10,11,12,13])))))) (.s 0 [M 0 60 2,q 1 61 (.conv .i64 60),B 2 62 .rem 61 (.i 365),M 3 14 62] [3,9,10,11,12,14] (.s 0 [LK 0 64 4 3,M 1 65 9,M 2 66 14,CL 3 67 20 [64,65,66],M 4 63 67,EX 5 68 63 0,EX 6 69 63 1,M 7 15 68,M 8 16 69] [3,9,10,11,12,14,15,16] (.s 0 [LK 0 71 4 3,M 1 72 9,CL 2 73 22 [71,72],M 3 70 73,EX 4 74 70 0,EX 5 75 70 1,M 6 17 74,M 7 18 75] [3,9,10,11,12,14,15,16,17,18] (.seq (.s 0 [M 0
 76 11,B 1 77 .neq 76 (.i 0),M 2 78 77,G 3 79 78 false (.mv 16),G 4 80 78 false (.bin .neq 79 (.i 0)),q 5 81 (.pick 78 (.b true) 80),M 6 82 81,G 7 83 82 false (.mv 10),G 8 84 82 false (.mv 12),G 9 85 82 false (.load (some 4) 3),G 10 86 82 false (.mv 9),G 11 87 82 false (.call (.f 37) [85,86] [] false),G 12 88 82 false (.bin .sub 84 87),G 13 89 82 false (.bin .neq 83 88),q 14 90 (.pick 82 (.b true) 89),M 15 91 90,G 16 92 91 false (.mv 15),G 17 93 91 false (.mv 10),G 18 94 91 false (.mv 12),G 19 95 91 false (.bin .sub 93 94),G 20 96 91 false (.fieldAddr 2 3),G 21 97 91 false (.load none 96),G 22 98 91 false (.bin .add 95 97),G 23 99 91 false (.bin .lss 92 98),q 24 100 (.pick 91 (.b true) 99),M 25 101 100,G 26 102 101 false (.mv 15),G 27 103 101 false (.mv 12),G 28 104 101 false (.bin .gtr 102 103),q 29 105 (.pick 101 (.b true) 104)] [3,9,14,15,17,18,105] (.cond 105 (.s 0 [M 0 6 (.b false)] [6] .ret) .skip)) (.seq (.s 0 [M 0 106 18,B 1 107 .neq 106 (.i 0)] [3,9,14,15,17,18,107] (.cond 107 (.s 0 [M 0 108 18,B 1 109 .eql 108 (.i 4),M 2 110 109,G 3 111 110 true (.mv 15),G 4 112 110 true (.bin .geq 111 (.i 0)),q 5 113 (.pick 110 112 (.b false)),M 6 114 113,G 7 115 114 true (.call (.f 19) [] [] false),q 8 116 (.pick 114 115 (.b false)),M 9 6 116] [6] .ret) .skip)) (.seq (.s 0 [M 0 117 17,B 1 118 .lss 117 (.i 0),M 2 119 118,G 3 120 119 false (.mv 17),G 4 121 119 false (.bin .gtr 120 (.i 364)),q 5 122 (.pick 119 (.b true) 121),M 6 123 122,G 7 124 123 false (.mv 14),G 8 125 123 false
 (.mv 17),G 9 126 123 false (.bin .lss 124 125),G 10 127 123 false (.mv 126),G 11 128 127 true (.mv 15),G 12 129 127 true (.bin .lss 128 (.i 0)),G 13 130 123 false (.pick 127 129 (.b false)),q 14 131 (.pick 123 (.b true) 130)] [3,9,17,131] (.cond 131 (.s 0 [M 0 6 (.b false)] [6] .ret) .skip)) (.s 0 [LK 0 133 4 3,M 1 134 9,M 2 135 17,CL 3 136 20 [133,134,135],M 4 132 136,EX 5 137 132 0,EX 6 138 132 1,M 7 19 137,M 8 20 138] [19,20] (.s 0 [M 0 139 20,B 1 140 .eql 139 (.i 0),M 2 141 140,G 3 142 141 true (.mv 19),G 4 143 141 true (.bin .lss 142 (.i 0)),q 5 144 (.pick 141 143 (.b false)),M 6 145 144,G 7 146 145 true (.call (.f 19) [] [] false),q 8 147 (.pick 145 146 (.b false)),M 9 6 147] [6] .ret))))))))))))))
def a9:AFunc:=⟨3,c9,[.tmp 6]⟩
def c10:ACode :=
 (.s 1 [q 0 1 (.box 4 0 0),M 1 2 (.i 0),M 2 3 (.i 0),M 3 4 (.i 0)] [1] (.seq (.s 0 [FA 0 11 0 1,L 1 12 11,LE 2 13 12,B 3 14 .gtr 13 (.i 5)] [1,14] (.cond 14 (.s 0 [M 0 2 (.i 1),M 1 3 (.i 0),M 2 4 (.i 3)] [2,3,4] .ret) .skip)) (.seq (.s 0 [FA 0 15 0 1,L 1 16 15,LE 2 17 16,M 3 18 (.i 0)] [1,16,17,18] (.block 0 (.loop true [1,16,17,18] (.s 0 [B 0 19 .lss 18 17] [1,16,17,18,19] (.seq (.cond 19 .skip (.exit 0)) (.seq (.block 1 (.s 1 [M 0 20 18,IX 1 21 8 16 18,LK 2 22 8 21,q 3 6 (.alloc [.lit (.string ⟨#[]⟩),.lit (.int .i64 0),.lit (.bool false),.lit (.int .i64 0),.lit (.int .i64 0),.lit (.int .i64 0),.lit (.int .i64 0),.lit (.int .i64 0)] [] 0),M 4 5 20,ST 5 8 6 22] [1,5,6,16,17,18] (.s 0 [FA 0 23 0 1,L 1 24 23,M 2 25 5,CL 3 26 41 [24,25,.f 42],M 4 4 26] [1,4,5,6,16,17,18] (.seq (.s 0 [M 0 27 4,B 1 28 .eql 27 (.i 0),M 2 29 28,G 3 30 29 true (.load (some 8) 6),G 4 31 29 true (.call (.f 43) [30] [] false),q 5 32 (.pick 29 31 (.b false))] [1,4,5,16,17,18,32] (.cond 32 (.g 0 [M 0 4 (.i 7)] [1,4,5,16,17,18]) .skip)) (.s 0 [M 0 33 4,B 1 34 .neq 33 (.i 0)] [1,4,5,16,17,18,34] (.cond 34 (.s 0 [M 0 35 5,M 1 36 4,M 2 2 (.i 1),M 3 3 35,M 4 4 36] [2,3,4] .ret) .skip)))))) (.g 0 [B 0 37 .add 18 (.i 1),M 1 18 37] [1,16,17,18]))))))) (.seq (.s 0 [FA 0 38 1 1,L 1 39 38,LE 2 40 39,B 3 41 .gtr 40 (.i 3)] [1,41] (.cond 41 (.s 0 [M 0 2 (.i 2),M 1 3 (.i 0),M 2 4 (.i 3)] [2,3,4] .ret) .skip)) (.seq (.s 0 [FA 0 42 1 1,L 1 43 42,LE 2 44 43,M 3 45 (.i 0)] [1,43,44,45] (.block 2 (.loop true [1,43,44,45] (.s
 0 [B 0 46 .lss 45 44] [1,43,44,45,46] (.seq (.cond 46 .skip (.exit 2)) (.seq (.block 3 (.s 1 [M 0 47 45,IX 1 48 4 43 45,LK 2 49 4 48,q 3 8 (.alloc [.lit (.string ⟨#[]⟩),.lit (.int .i64 0),.lit (.int .i64 0),.lit (.int .i64 0)] [] 0),M 4 7 47,ST 5 4 8 49] [1,7,8,43,44,45] (.s 0 [FA 0 50 1 1,L 1 51 50,M 2 52 7,CL 3 53 44 [51,52,.f 45],M 4 4 53] [1,4,7,8,43,44,45] (.seq (.block 4 (.s 0 [M 0 55 4,B 1 56 .neq 55 (.i 0),M 2 54 56] [1,4,7,8,43,44,45,54] (.cond 54 .skip (.s 0 [FA 0 58 1 8,L 1 59 58,FA 2 60 2 8,L 3 61 60,q 4 62 (.lits 1 [.lit (.int .i64 0)] 2 [(0,59),(1,61)] none),CL 5 63 46 [.i 0,.i 364,62],M 6 64 63,G 7 65 64 false (.fieldAddr 3 8),G 8 66 64 false (.load none 65),G 9 67 64 false (.lits 1 [.lit (.int .i64 0)] 1 [(0,66)] none),G 10 68 64 false (.call (.f 46) [.i 0,.i 15,67] [] false),q 11 69 (.pick 64 (.b true) 68),M 12 57 69] [1,4,7,8,43,44,45,57] (.cond 57 (.g 0 [M 0 4 (.i 7)] [1,4,7,43,44,45]) (.s 0 [FA 0 71 1 8,L 1 72 71,FA 2 73 2 8,L 3 74 73,B 4 75 .gtr 72 74,M 5 70 75] [1,4,7,43,44,45,70] (.cond 70 (.g 0 [M 0 4 (.i 2)] [1,4,7,43,44,45]) .skip))))))) (.s 0 [M 0 76 4,B 1 77 .neq 76 (.i 0)] [1,4,7,43,44,45,77] (.cond 77 (.s 0 [M 0 78 7,M 1 79 4,M 2 2 (.i 2),M 3 3 78,M 4 4 79] [2,3,4] .ret) .skip)))))) (.g 0 [B 0 80 .add 45 (.i 1),M 1 45 80] [1,43,44,45]))))))) (.seq (.block 5 (.s 0 [FA 0 82 2 1,L 1 83 82,q 2 84 (.lits 1 [.lit (.int .i64 0)] 1 [(0,83)] none),CL 3 85 46 [.i 0,.i 10000,84],M 4 81 85] [1,81] (.cond 81 (.s 0 [M 0 2 (.i 3),M 1 3 (.i 0),M 2 4 (.i 7)]
 [2,3,4] .ret) (.s 0 [FA 0 87 3 1,L 1 88 87,LE 2 89 88,B 3 90 .gtr 89 (.i 3),M 4 86 90] [1,86] (.cond 86 (.s 0 [M 0 2 (.i 4),M 1 3 (.i 0),M 2 4 (.i 3)] [2,3,4] .ret) .skip))))) (.seq (.s 0 [FA 0 91 3 1,L 1 92 91,LE 2 93 92,M 3 94 (.i 0)] [92,93,94] (.block 6 (.loop true [92,93,94] (.s 0 [B 0 95 .lss 94 93] [92,93,94,95] (.seq (.cond 95 .skip (.exit 6)) (.seq (.block 7 (.s 1 [M 0 96 94,IX 1 97 2 92 94,LK 2 98 2 97,q 3 10 (.alloc [.lit (.int .i64 0),.lit (.int .i64 0)] [] 0),M 4 9 96,ST 5 2 10 98] [9,10,92,93,94] (.s 0 [FA 0 99 0 10,L 1 100 99,q 2 101 (.lits 1 [.lit (.int .i64 0)] 1 [(0,100)] none),CL 3 102 46 [.i 0,.i 364,101],M 4 103 102,G 5 104 103 false (.fieldAddr 1 10),G 6 105 103 false (.load none 104),G 7 106 103 false (.lits 1 [.lit (.int .i64 0)] 1 [(0,105)] none),G 8 107 103 false (.call (.f 46) [.i 0,.i 10000,106] [] false),q 9 108 (.pick 103 (.b true) 107)] [9,92,93,94,108] (.cond 108 (.s 0 [M 0 109 9,M 1 2 (.i 4),M 2 3 109,M 3 4 (.i 7)] [2,3,4] .ret) .skip)))) (.g 0 [B 0 110 .add 94 (.i 1),M 1 94 110] [92,93,94]))))))) (.s 0 [M 0 2 (.i 0),M 1 3 (.i 0),M 2 4 (.i 0)] [2,3,4] .ret))))))))
def a10:AFunc:=⟨1,c10,[.tmp 2,.tmp 3,.tmp 4]⟩
def c11:ACode :=
 (.s 1 [q 0 1 (.box 4 0 0),M 1 2 (.i 0),M 2 3 (.i 0),M 3 4 (.i 0)] [1] (.seq (.s 0 [FA 0 11 0 1,L 1 12 11,LE 2 13 12,B 3 14 .gtr 13 (.i 5)] [1,14] (.cond 14 (.s 0 [M 0 2 (.i 1),M 1 3 (.i 0),M 2 4 (.i 3)] [2,3,4] .ret) .skip)) (.s 1 [q 0 5 (.nil 1 0)] [1,5] (.seq (.s 0 [M 0 6 (.i 0)] [1,5,6] (.block 0 (.loop true [1,5,6] (.seq (.s 0 [M 0 15 6,FA 1 16 0 1,L 2 17 16,LE 3 18 17,B 4 19 .lss 15 18] [1,5,6,19] (.cond 19 .skip (.exit 0))) (.seq (.block 1 (.s 0 [FA 0 22 0 1,L 1 23 22,M 2 24 6,IX 3 25 8 23 24,FA 4 26 0 25,L 5 27 26,M 6 28 5,CL 7 29 47 [27,28],M 8 7 29] [1,5,6,7] (.s 0 [M 0 30 5,FA 1 31 0 1,L 2 32 31,M 3 33 6,IX 4 34 8 32 33,FA 5 35 0 34,L 6 36 35,q 7 37 (.lits 1 [.lit (.string ⟨#[]⟩)] 1 [(0,36)] none),q 8 38 (.append 1 16 30 37 none false),M 9 5 38] [1,5,6,7] (.seq (.s 0 [M 0 39 7,B 1 40 .eql 39 (.i 0),M 2 41 40,G 3 42 41 true (.fieldAddr 0 1),G 4 43 41 true (.load none 42),G 5 44 41 true (.mv 6),G 6 45 41 true (.idxS 8 43 44),G 7 46 41 true (.load (some 8) 45),G 8 47 41 true (.call (.f 48) [46] [] false),G 9 48 41 true (.un .not 47),q 10 49 (.pick 41 48 (.b false))] [1,5,6,7,49] (.cond 49 (.g 0 [M 0 7 (.i 7)] [1,5,6,7]) .skip)) (.s 0 [M 0 50 7,B 1 51 .neq 50 (.i 0)] [1,5,6,7,51] (.cond 51 (.s 0 [M 0 52 6,M 1 53 7,M 2 2 (.i 1),M 3 3 52,M 4 4 53] [2,3,4] .ret) .skip)))))) (.g 0 [M 0 20 6,B 1 21 .add 20 (.i 1),M 2 6 21] [1,5,6])))))) (.seq (.s 0 [FA 0 54 1 1,L 1 55 54,LE 2 56 55,B 3 57 .gtr 56 (.i 3)] [1,57] (.cond 57 (.s 0 [M 0 2 (.i 2),M 1 3 (.i 0),M 2 4 (.i 3)] [2,3,4]
 .ret) .skip)) (.s 1 [q 0 5 (.nil 1 0)] [1,5] (.seq (.s 0 [M 0 8 (.i 0)] [1,5,8] (.block 2 (.loop true [1,5,8] (.seq (.s 0 [M 0 58 8,FA 1 59 1 1,L 2 60 59,LE 3 61 60,B 4 62 .lss 58 61] [1,5,8,62] (.cond 62 .skip (.exit 2))) (.seq (.block 3 (.s 0 [FA 0 65 1 1,L 1 66 65,M 2 67 8,IX 3 68 4 66 67,FA 4 69 0 68,L 5 70 69,M 6 71 5,CL 7 72 47 [70,71],M 8 9 72] [1,5,8,9] (.s 0 [M 0 73 5,FA 1 74 1 1,L 2 75 74,M 3 76 8,IX 4 77 4 75 76,FA 5 78 0 77,L 6 79 78,q 7 80 (.lits 1 [.lit (.string ⟨#[]⟩)] 1 [(0,79)] none),q 8 81 (.append 1 16 73 80 none false),M 9 5 81] [1,5,8,9] (.seq (.s 0 [M 0 82 9,B 1 83 .eql 82 (.i 0)] [1,5,8,9,83] (.cond 83 (.g 0 [FA 0 84 1 1,L 1 85 84,M 2 86 8,IX 3 87 4 85 86,LK 4 88 4 87,CL 5 89 49 [88],M 6 9 89] [1,5,8,9]) .skip)) (.s 0 [M 0 90 9,B 1 91 .neq 90 (.i 0)] [1,5,8,9,91] (.cond 91 (.s 0 [M 0 92 8,M 1 93 9,M 2 2 (.i 2),M 3 3 92,M 4 4 93] [2,3,4] .ret) .skip)))))) (.g 0 [M 0 63 8,B 1 64 .add 63 (.i 1),M 2 8 64] [1,5,8])))))) (.seq (.s 0 [FA 0 94 2 1,L 1 95 94,CL 2 96 50 [95,.i 0,.i 10000],q 3 97 (.un .not 96)] [1,97] (.cond 97 (.s 0 [M 0 2 (.i 3),M 1 3 (.i 0),M 2 4 (.i 7)] [2,3,4] .ret) .skip)) (.seq (.s 0 [FA 0 98 3 1,L 1 99 98,LE 2 100 99,B 3 101 .gtr 100 (.i 3)] [1,101] (.cond 101 (.s 0 [M 0 2 (.i 4),M 1 3 (.i 0),M 2 4 (.i 3)] [2,3,4] .ret) .skip)) (.seq (.s 0 [M 0 10 (.i 0)] [1,10] (.block 4 (.loop true [1,10] (.seq (.s 0 [M 0 102 10,FA 1 103 3 1,L 2 104 103,LE 3 105 104,B 4 106 .lss 102 105] [1,10,106] (.cond 106 .skip (.exit 4))) (.seq (.block 5 (.s 0 [FA 0
 109 3 1,L 1 110 109,M 2 111 10,IX 3 112 2 110 111,FA 4 113 0 112,L 5 114 113,CL 6 115 50 [114,.i 0,.i 364],q 7 116 (.un .not 115),M 8 117 116,G 9 118 117 false (.fieldAddr 3 1),G 10 119 117 false (.load none 118),G 11 120 117 false (.mv 10),G 12 121 117 false (.idxS 2 119 120),G 13 122 117 false (.fieldAddr 1 121),G 14 123 117 false (.load none 122),G 15 124 117 false (.call (.f 50) [123,.i 0,.i 10000] [] false),G 16 125 117 false (.un .not 124),q 17 126 (.pick 117 (.b true) 125)] [1,10,126] (.cond 126 (.s 0 [M 0 127 10,M 1 2 (.i 4),M 2 3 127,M 3 4 (.i 7)] [2,3,4] .ret) .skip))) (.g 0 [M 0 107 10,B 1 108 .add 107 (.i 1),M 2 10 108] [1,10])))))) (.s 0 [M 0 2 (.i 0),M 1 3 (.i 0),M 2 4 (.i 0)] [2,3,4] .ret)))))))))))
def a11:AFunc:=⟨1,c11,[.tmp 2,.tmp 3,.tmp 4]⟩
def c12:ACode :=
 (.s 1 [q 0 3 (.box 4 0 0),M 1 6 (.i 0),M 2 7 (.i 0)] [1,2,3] (.s 0 [LK 0 11 4 3,CL 1 12 51 [11],M 2 10 12,EX 3 13 10 0,EX 4 14 10 1,M 5 8 13,M 6 9 14] [1,2,3,9] (.seq (.block 0 (.s 0 [M 0 16 9,B 1 17 .neq 16 (.i 0),M 2 15 17] [1,2,3,9,15] (.cond 15 (.s 0 [M 0 18 9,M 1 6 (.i 0),M 2 7 18] [6,7] .ret) (.s 0 [FA 0 20 0 3,L 1 21 20,LE 2 22 21,B 3 23 .sub 22 (.i 1),M 4 24 1,q 5 25 (.lits 1 [.lit (.int .i64 0)] 1 [(0,24)] none),CL 6 26 46 [.i 0,23,25],M 7 19 26] [1,2,3,19] (.cond 19 (.s 0 [M 0 6 (.i 0),M 1 7 (.i 4)] [6,7] .ret) (.s 0 [FA 0 28 0 3,L 1 29 28,M 2 30 1,IX 3 31 8 29 30,FA 4 32 2 31,L 5 33 32,q 6 34 (.un .not 33),M 7 27 34] [1,2,3,27] (.cond 27 (.s 0 [M 0 6 (.i 0),M 1 7 (.i 2)] [6,7] .ret) (.s 0 [M 0 36 2,q 1 37 (.lits 1 [.lit (.int .i64 0)] 1 [(0,36)] none),CL 2 38 46 [.i 0,.i 364,37],M 3 35 38] [1,2,3,35] (.cond 35 (.s 0 [M 0 6 (.i 0),M 1 7 (.i 7)] [6,7] .ret) (.s 0 [M 0 40 2,FA 1 41 0 3,L 2 42 41,M 3 43 1,IX 4 44 8 42 43,FA 5 45 7 44,L 6 46 45,B 7 47 .gtr 40 46,M 8 39 47] [1,2,3,39] (.cond 39 (.s 0 [M 0 6 (.i 0),M 1 7 (.i 9)] [6,7] .ret) .skip))))))))))) (.s 0 [FA 0 48 0 3,L 1 49 48,M 2 50 1,IX 3 51 8 49 50,LK 4 52 8 51,q 5 53 (.build [.lit (.string ⟨#[]⟩),.lit (.int .i64 0),.lit (.int .i64 0),.lit (.int .i64 0)] []),M 6 54 2,CL 7 55 52 [52,53,54],M 8 6 55,M 9 7 (.i 0)] [6,7] .ret))))
def a12:AFunc:=⟨3,c12,[.tmp 6,.tmp 7]⟩
def c14:ACode :=
 (.s 1 [q 0 3 (.box 4 0 0),M 1 6 (.i 0),M 2 7 (.i 0)] [1,2,3] (.s 0 [LK 0 11 4 3,CL 1 12 51 [11],M 2 10 12,EX 3 13 10 0,EX 4 14 10 1,M 5 8 13,M 6 9 14] [1,2,3,8,9] (.seq (.block 0 (.s 0 [M 0 16 9,B 1 17 .neq 16 (.i 0),M 2 15 17] [1,2,3,8,9,15] (.cond 15 (.s 0 [M 0 18 9,M 1 6 (.i 0),M 2 7 18] [6,7] .ret) (.s 0 [FA 0 20 0 3,L 1 21 20,LE 2 22 21,B 3 23 .sub 22 (.i 1),M 4 24 1,q 5 25 (.lits 1 [.lit (.int .i64 0)] 1 [(0,24)] none),CL 6 26 46 [.i 0,23,25],M 7 27 26,G 8 28 27 false (.fieldAddr 1 3),G 9 29 27 false (.load none 28),G 10 30 27 false (.lenL 29),G 11 31 27 false (.bin .sub 30 (.i 1)),G 12 32 27 false (.mv 2),G 13 33 27 false (.lits 1 [.lit (.int .i64 0)] 1 [(0,32)] none),G 14 34 27 false (.call (.f 46) [.i 0,31,33] [] false),q 15 35 (.pick 27 (.b true) 34),M 16 19 35] [1,2,3,8,19] (.cond 19 (.s 0 [M 0 6 (.i 0),M 1 7 (.i 4)] [6,7] .ret) (.s 0 [FA 0 37 0 3,L 1 38 37,M 2 39 1,IX 3 40 8 38 39,FA 4 41 2 40,L 5 42 41,q 6 43 (.un .not 42),M 7 36 43] [1,2,3,8,36] (.cond 36 (.s 0 [M 0 6 (.i 0),M 1 7 (.i 2)] [6,7] .ret) (.sd 0 [M 0 45 8,NK 1 46 45,FA 2 47 4 46,q 3 48 (.idxA 3 3 47 (.i 2)),FA 4 49 2 48,L 5 50 49,FA 6 51 0 3,L 7 52 51,M 8 53 1,IX 9 54 8 52 53,LK 10 55 8 54,FA 11 56 1 3,L 12 57 56,M 13 58 2,IX 14 59 4 57 58,LK 15 60 4 59,q 16 61 (.call 50 [55,60,.i 0] [] false),q 17 62 (.un .not 61),M 18 44 62] [1,2,3,44] (.cond 44 (.s 0 [M 0 6 (.i 0),M 1 7 (.i 9)] [6,7] .ret) .skip))))))))) (.sd 0 [FA 0 63 0 3,L 1 64 63,M 2 65 1,IX 3 66 8 64 65,LK 4 67 8 66,FA 5 68 1 3,L 6 69 68,M 7
 70 2,IX 8 71 4 69 70,LK 9 72 4 71,CL 10 73 55 [67,72,.i 0],M 11 6 73,M 12 7 (.i 0)] [6,7] .ret))))
def a14:AFunc:=⟨3,c14,[.tmp 6,.tmp 7]⟩
def c16:ACode :=
 (.s 2 [q 0 2 (.box 4 0 0),q 1 4 (.nil 1 1),M 2 5 (.i 0)] [1,2,4] (.scope (.s 0 [LK 0 10 4 2,CL 1 11 51 [10],M 2 9 11,EX 3 12 9 0,EX 4 13 9 1,M 5 6 12,M 6 5 13] [1,2,4,5,6] (.seq (.block 0 (.s 0 [M 0 15 5,B 1 16 .neq 15 (.i 0),M 2 14 16] [1,2,4,5,6,14] (.cond 14 (.s 1 [M 0 17 5,q 1 4 (.nil 1 0),M 2 5 17] [4,5] .ret) (.s 0 [FA 0 19 1 2,L 1 20 19,LE 2 21 20,B 3 22 .sub 21 (.i 1),M 4 23 1,q 5 24 (.lits 1 [.lit (.int .i64 0)] 1 [(0,23)] none),CL 6 25 46 [.i 0,22,24],M 7 18 25] [1,2,4,6,18] (.cond 18 (.s 1 [q 0 4 (.nil 1 0),M 1 5 (.i 4)] [4,5] .ret) .skip))))) (.seq .skip (.seq (.s 0 [FA 0 26 0 2,L 1 27 26,LE 2 28 27,M 3 29 (.i 0)] [1,4,6,28,29] (.block 1 (.loop true [1,4,6,28,29] (.s 0 [B 0 30 .lss 29 28] [1,4,6,28,29,30] (.seq (.cond 30 .skip (.exit 1)) (.seq (.block 2 (.s 0 [M 0 31 29,M 1 7 31] [1,4,6,7,28,29] (.s 0 [M 0 32 (.i 0)] [1,4,6,7,28,29,32] (.block 3 (.loop true [1,4,6,7,28,29,32] (.s 0 [B 0 33 .lss 32 (.i 3)] [1,4,6,7,28,29,32,33] (.seq (.cond 33 .skip (.exit 3)) (.seq (.block 4 (.s 0 [M 0 34 32,M 1 8 34] [1,4,6,7,8,28,29,32] (.s 0 [M 0 35 6,M 1 36 1,M 2 37 7,M 3 38 8,q 4 39 (.build [.lit (.int .i64 0),.lit (.int .i64 0),.lit (.int .i64 0)] [(0,1,37),(1,1,38)]),CL 5 40 57 [35,36,39],B 6 41 .eql 40 (.i 0)] [1,4,6,7,28,29,32,41] (.cond 41 (.s 0 [M 0 42 4,M 1 43 7,q 2 44 (.lits 1 [.lit (.int .i64 0)] 1 [(0,43)] none),q 3 45 (.append 1 8 42 44 none false),M 4 4 45] [1,4,6,28,29] (.exit 2)) .skip)))) (.g 0 [B 0 46 .add 32 (.i 1),M 1 32 46] [1,4,6,7,28,29,32]))))))))) (.g 0
 [B 0 47 .add 29 (.i 1),M 1 29 47] [1,4,6,28,29]))))))) (.s 0 [M 0 48 4,M 1 4 48,M 2 5 (.i 0)] [4,5] .ret)))))))
def a16:AFunc:=⟨2,c16,[.tmp 4,.tmp 5]⟩
def c18:ACode :=
 (.s 0 [M 0 4 (.b false)] [0,1] (.s 0 [M 0 7 0,LE 1 8 7,M 2 9 1,LE 3 10 9,B 4 11 .eql 8 10,M 5 5 11] [0,1,5] (.seq (.s 0 [M 0 6 (.i 0)] [0,1,5,6] (.block 0 (.loop true [0,1,5,6] (.seq (.s 0 [M 0 12 5,M 1 13 12,G 2 14 13 true (.mv 6),G 3 15 13 true (.mv 0),G 4 16 13 true (.lenL 15),G 5 17 13 true (.bin .lss 14 16),q 6 18 (.pick 13 17 (.b false))] [0,1,5,6,18] (.cond 18 .skip (.exit 0))) (.seq (.block 1 (.gd 0 [M 0 21 0,M 1 22 6,IX 2 23 1 21 22,L 3 24 23,M 4 25 1,M 5 26 6,IX 6 27 1 25 26,L 7 28 27,B 8 29 .eql 24 28,M 9 5 29] [0,1,5,6])) (.g 0 [M 0 19 6,B 1 20 .add 19 (.i 1),M 2 6 20] [0,1,5,6])))))) (.s 0 [M 0 30 5,M 1 4 30] [4] .ret))))
def a18:AFunc:=⟨2,c18,[.tmp 4]⟩
def c19:ACode :=
 (.s 0 [M 0 0 (.b false)] [] (.s 2 [CL 0 32 59 [.c (.lit (.bool false))],CL 1 33 59 [.c (.lit (.bool true))],q 2 1 (.alloc [.seq 8 [],.seq 4 [],.lit (.int .i64 0),.seq 2 []] [] 0),q 3 2 (.alloc [.seq 8 [],.seq 4 [],.lit (.int .i64 0),.seq 2 []] [] 1),ST 4 4 1 32,ST 5 4 2 33] [1,2] (.s 0 [LK 0 35 4 1,CL 1 36 12 [35,.i 0,.i 10],M 2 34 36,EX 3 37 34 0,EX 4 38 34 1,M 5 3 37,M 6 4 38] [1,2,3,4] (.s 0 [LK 0 40 4 1,CL 1 41 14 [40,.i 2,.i 2],M 2 39 41,EX 3 42 39 0,EX 4 43 39 1,M 5 5 42,M 6 6 43] [1,2,3,4,5,6] (.s 0 [LK 0 45 4 1,CL 1 46 14 [45,.i 2,.i 1],M 2 44 46,EX 3 47 44 0,EX 4 48 44 1,M 5 7 47,M 6 8 48] [1,2,3,4,5,6,8] (.s 0 [LK 0 50 4 1,CL 1 51 16 [50,.i 1],M 2 49 51,EX 3 52 49 0,EX 4 53 49 1,M 5 9 52,M 6 10 53] [1,2,3,4,5,6,8,9,10] (.sd 0 [LK 0 55 4 1,CP 1 56 60 [],CL 2 57 20 [55,56,.i 45],M 3 54 57,EX 4 58 54 0,EX 5 59 54 1,M 6 11 58,M 7 12 59] [1,2,3,4,5,6,8,9,10,11,12] (.sd 0 [LK 0 61 4 1,CP 1 62 60 [],CL 2 63 22 [61,62],M 3 60 63,EX 4 64 60 0,EX 5 65 60 1,M 6 13 64,M 7 14 65] [1,2,3,4,5,6,8,9,10,11,12,14] (.sd 0 [LK 0 67 4 2,CP 1 68 60 [],CL 2 69 22 [67,68],M 3 66 69,EX 4 70 66 0,EX 5 71 66 1,M 6 15 70,M 7 16 71] [1,2,3,4,5,6,8,9,10,11,12,14,15,16] (.s 0 [LK 0 73 4 1,CL 1 74 26 [73],M 2 72 74,EX 3 75 72 0,EX 4 76 72 1,EX 5 77 72 2,EX 6 78 72 3,M 7 17 75,M 8 18 76,M 9 19 77,M 10 20 78] [1,2,3,4,5,6,8,9,10,11,12,14,15,16,17,18,19,20] (.s 0 [LK 0 80 4 2,CL 1 81 26 [80],M 2 79 81,EX 3 82 79 0,EX 4 83 79 1,EX 5 84 79 2,EX 6 85 79 3,M 7 21 82,M 8 22 83,M 9 23 84,M 10 24 85]
 [1,2,3,4,5,6,8,9,10,11,12,14,15,16,17,18,19,20,22,24] (.s 0 [LK 0 87 4 2,CL 1 88 29 [87],M 2 86 88,EX 3 89 86 0,EX 4 90 86 1,EX 5 91 86 2,M 6 25 89,M 7 26 90,M 8 27 91] [1,2,3,4,5,6,8,9,10,11,12,14,15,16,17,18,19,20,22,24,25,26,27] (.s 0 [LK 0 93 4 2,CL 1 94 31 [93],M 2 92 94,EX 3 95 92 0,EX 4 96 92 1,M 5 28 95,M 6 29 96] [1,3,4,5,6,8,9,10,11,12,14,15,16,17,18,19,20,22,24,25,26,27,28,29] (.sd 0 [LK 0 98 4 1,CP 1 99 60 [],CL 2 100 24 [98,99],M 3 97 100,EX 4 101 97 0,EX 5 102 97 1,M 6 30 101,M 7 31 102] [3,4,5,6,8,9,10,11,12,14,15,16,17,18,19,20,22,24,25,26,27,28,29,30,31] (.s 0 [M 0 103 4,B 1 104 .eql 103 (.i 0),M 2 105 104,G 3 106 105 true (.mv 6),G 4 107 105 true (.bin .eql 106 (.i 0)),q 5 108 (.pick 105 107 (.b false)),M 6 109 108,G 7 110 109 true (.mv 10),G 8 111 109 true (.bin .eql 110 (.i 0)),q 9 112 (.pick 109 111 (.b false)),M 10 113 112,G 11 114 113 true (.mv 12),G 12 115 113 true (.bin .eql 114 (.i 0)),q 13 116 (.pick 113 115 (.b false)),M 14 117 116,G 15 118 117 true (.mv 16),G 16 119 117 true (.bin .eql 118 (.i 0)),q 17 120 (.pick 117 119 (.b false)),M 18 121 120,G 19 122 121 true (.mv 20),G 20 123 121 true (.bin .eql 122 (.i 0)),q 21 124 (.pick 121 123 (.b false)),M 22 125 124,G 23 126 125 true (.mv 24),G 24 127 125 true (.bin .eql 126 (.i 0)),q 25 128 (.pick 125 127 (.b false)),M 26 129 128,G 27 130 129 true (.mv 27),G 28 131 129 true (.bin .eql 130 (.i 0)),q 29 132 (.pick 129 131 (.b false)),M 30 133 132,G 31 134 133 true (.mv 29),G 32 135 133 true (.bin .eql
 134 (.i 0)),q 33 136 (.pick 133 135 (.b false)),M 34 137 136,G 35 138 137 true (.mv 31),G 36 139 137 true (.bin .eql 138 (.i 0)),q 37 140 (.pick 137 139 (.b false)),M 38 141 140,G 39 142 141 true (.mv 8),G 40 143 141 true (.bin .eql 142 (.i 9)),q 41 144 (.pick 141 143 (.b false)),M 42 145 144,G 43 146 145 true (.mv 14),G 44 147 145 true (.bin .eql 146 (.i 4)),q 45 148 (.pick 145 147 (.b false)),M 46 149 148,G 47 150 149 true (.mv 3),G 48 151 149 true (.bin .eql 150 (.i 110)),q 49 152 (.pick 149 151 (.b false)),M 50 153 152,G 51 154 153 true (.mv 5),G 52 155 153 true (.bin .eql 154 (.i 48)),q 53 156 (.pick 153 155 (.b false)),M 54 157 156,G 55 158 157 true (.mv 9),G 56 159 157 true (.lits 1 [.lit (.int .i64 0)] 3 [(0,.i 0),(1,.i 1),(2,.i 2)] none),G 57 160 157 true (.call (.f 18) [158,159] [] false),q 58 161 (.pick 157 160 (.b false)),M 59 162 161,G 60 163 162 true (.mv 11),G 61 164 162 true (.bin .eql 163 (.i 102)),q 62 165 (.pick 162 164 (.b false)),M 63 166 165,G 64 167 166 true (.mv 15),G 65 168 166 true (.bin .eql 167 (.i 0)),q 66 169 (.pick 166 168 (.b false)),M 67 170 169,G 68 171 170 true (.mv 17),G 69 172 170 true (.call (.f 61) [.i 0,.i 2,.i 0] [] false),G 70 173 170 true (.call (.f 61) [.i 1,.i 0,.i 0] [] false),G 71 174 170 true (.call (.f 61) [.i 2,.i 2,.i 0] [] false),G 72 175 170 true (.lits 3 [.lit (.int .i64 0),.lit (.int .i64 0),.lit (.int .i64 0)] 3 [(0,172),(1,173),(2,174)] none),G 73 176 170 true (.call (.f 28) [171,175] [] false),q 74 177 (.pick 170 176
 (.b false)),M 75 178 177,G 76 179 178 true (.mv 18),G 77 180 178 true (.bin .eql 179 (.i 0)),q 78 181 (.pick 178 180 (.b false)),M 79 182 181,G 80 183 182 true (.mv 19),G 81 184 182 true (.bin .eql 183 (.i 78)),q 82 185 (.pick 182 184 (.b false)),M 83 186 185,G 84 187 186 true (.mv 22),G 85 188 186 true (.bin .eql 187 (.i 2)),q 86 189 (.pick 186 188 (.b false)),M 87 190 189,G 88 191 190 true (.mv 25),G 89 192 190 true (.lits 1 [.lit (.int .i64 0)] 2 [(0,.i 0),(1,.i 2)] none),G 90 193 190 true (.call (.f 18) [191,192] [] false),q 91 194 (.pick 190 193 (.b false)),M 92 195 194,G 93 196 195 true (.mv 26),G 94 197 195 true (.lits 1 [.lit (.int .i64 0)] 2 [(0,.i 0),(1,.i 2)] none),G 95 198 195 true (.call (.f 18) [196,197] [] false),q 96 199 (.pick 195 198 (.b false)),M 97 200 199,G 98 201 200 true (.mv 28),G 99 202 200 true (.bin .eql 201 (.i 58)),q 100 203 (.pick 200 202 (.b false)),M 101 204 203,G 102 205 204 true (.mv 30),G 103 206 204 true (.lits 1 [.lit (.int .i64 0)] 1 [(0,.i 2)] none),G 104 207 204 true (.call (.f 18) [205,206] [] false),q 105 208 (.pick 204 207 (.b false)),M 106 0 208] [0] .ret)))))))))))))))
def a19:AFunc:=⟨0,c19,[.tmp 0]⟩
def c20:ACode :=
 (.s 1 [q 0 3 (.box 4 0 0),M 1 6 (.i 0),M 2 7 (.i 0)] [1,2,3] (.s 0 [LK 0 11 4 3,M 1 12 1,CL 2 13 62 [11,12],M 3 10 13,EX 4 14 10 0,EX 5 15 10 1,M 6 8 14,M 7 9 15] [1,2,8,9] (.seq (.block 0 (.s 0 [M 0 17 9,B 1 18 .neq 17 (.i 0),M 2 16 18] [1,2,8,9,16] (.cond 16 (.s 0 [M 0 19 9,M 1 6 (.i 0),M 2 7 19] [6,7] .ret) (.s 0 [M 0 21 2,q 1 22 (.lits 1 [.lit (.int .i64 0)] 1 [(0,21)] none),CL 2 23 46 [.i 0,.i 364,22],M 3 20 23] [1,2,8,20] (.cond 20 (.s 0 [M 0 6 (.i 0),M 1 7 (.i 7)] [6,7] .ret) .skip))))) (.s 0 [M 0 24 8,M 1 25 1,M 2 26 2,q 3 27 (.call (.f 63) [24,25,26] [[],[],[],[],[],[],[],[],[]] false),M 4 6 27,M 5 7 (.i 0)] [6,7] .ret))))
def a20:AFunc:=⟨3,c20,[.tmp 6,.tmp 7]⟩
def c22:ACode :=
 (.s 1 [q 0 2 (.box 4 0 0),M 1 4 (.i 0),M 2 5 (.i 0)] [1,2] (.s 0 [LK 0 11 4 2,M 1 12 1,CL 2 13 62 [11,12],M 3 10 13,EX 4 14 10 0,EX 5 15 10 1,M 6 6 14,M 7 7 15] [1,6,7] (.seq (.s 0 [M 0 16 7,B 1 17 .neq 16 (.i 0)] [1,6,7,17] (.cond 17 (.s 0 [M 0 18 7,M 1 4 (.i 0),M 2 5 18] [4,5] .ret) .skip)) (.s 0 [M 0 20 6,M 1 21 1,q 2 22 (.call (.f 66) [20,21] [[],[],[],[],[],[],[],[],[]] false),M 3 19 22,EX 4 23 19 0,EX 5 24 19 1,M 6 8 23,M 7 9 24] [8,9] (.seq (.s 0 [M 0 25 8,B 1 26 .eql 25 (.i 0)] [9,26] (.cond 26 (.s 0 [M 0 4 (.i 0),M 1 5 (.i 4)] [4,5] .ret) .skip)) (.s 0 [M 0 27 9,M 1 4 27,M 2 5 (.i 0)] [4,5] .ret))))))
def a22:AFunc:=⟨2,c22,[.tmp 4,.tmp 5]⟩
def c24:ACode :=
 (.s 2 [q 0 2 (.box 4 0 0),q 1 4 (.nil 1 1),M 2 5 (.i 0)] [1,2,4] (.s 0 [LK 0 11 4 2,M 1 12 1,CL 2 13 62 [11,12],M 3 10 13,EX 4 14 10 0,EX 5 15 10 1,M 6 6 14,M 7 5 15] [1,2,4,5,6] (.seq (.s 0 [M 0 16 5,B 1 17 .neq 16 (.i 0)] [1,2,4,5,6,17] (.cond 17 (.s 1 [M 0 18 5,q 1 4 (.nil 1 0),M 2 5 18] [4,5] .ret) .skip)) (.s 0 [M 0 19 6,q 1 20 (.mkfn (.func 68) [19] []),M 2 7 20] [1,2,4,7] (.seq (.s 0 [FA 0 21 0 2,L 1 22 21,LE 2 23 22,M 3 24 (.i 0)] [1,4,7,22,23,24] (.block 0 (.loop true [1,4,7,22,23,24] (.s 0 [B 0 25 .lss 24 23] [1,4,7,22,23,24,25] (.seq (.cond 25 .skip (.exit 0)) (.seq (.block 1 (.s 1 [M 0 26 24,IX 1 27 8 22 24,LK 2 28 8 27,q 3 9 (.alloc [.lit (.string ⟨#[]⟩),.lit (.int .i64 0),.lit (.bool false),.lit (.int .i64 0),.lit (.int .i64 0),.lit (.int .i64 0),.lit (.int .i64 0),.lit (.int .i64 0)] [] 0),M 4 8 26,ST 5 8 9 28] [1,4,7,8,9,22,23,24] (.s 0 [FA 0 29 2 9,L 1 30 29,M 2 31 30,G 3 32 31 true (.fieldAddr 7 9),G 4 33 31 true (.load none 32),G 5 34 31 true (.bin .lss 33 (.i 364)),q 6 35 (.pick 31 34 (.b false)),M 7 36 35,G 8 37 36 true (.mv 7),G 9 38 36 true (.mv 1),G 10 39 36 true (.mv 8),G 11 40 36 true (.call 37 [38,39] [] false),G 12 41 36 true (.un .not 40),q 13 42 (.pick 36 41 (.b false))] [1,4,7,8,22,23,24,42] (.cond 42 (.g 0 [M 0 43 4,M 1 44 8,q 2 45 (.lits 1 [.lit (.int .i64 0)] 1 [(0,44)] none),q 3 46 (.append 1 8 43 45 none false),M 4 4 46] [1,4,7,22,23,24]) .skip)))) (.g 0 [B 0 47 .add 24 (.i 1),M 1 24 47] [1,4,7,22,23,24]))))))) (.s 0 [M 0 48 4,M 1 4 48,M 2
 5 (.i 0)] [4,5] .ret))))))
def a24:AFunc:=⟨2,c24,[.tmp 4,.tmp 5]⟩
def c26:ACode :=
 (.s 1 [q 0 1 (.box 4 0 0),M 1 2 (.c (.seq 3 [])),M 2 3 (.i 0),M 3 4 (.i 0),M 4 5 (.i 0)] [1] (.s 0 [LK 0 10 4 1,CL 1 11 51 [10],M 2 9 11,EX 3 12 9 0,EX 4 13 9 1,M 5 6 12,M 6 5 13] [5,6] (.seq (.s 0 [M 0 14 5,B 1 15 .neq 14 (.i 0)] [5,6,15] (.cond 15 (.s 0 [M 0 16 5,M 1 2 (.c (.seq 3 [])),M 2 3 (.i 0),M 3 4 (.i 0),M 4 5 16] [2,3,4,5] .ret) .skip)) (.s 1 [M 0 18 6,CL 1 19 70 [18],CL 2 20 69 [19,.f 71],M 3 17 20,EX 4 21 17 0,EX 5 22 17 1,q 6 7 (.alloc [.seq 3 [],.lit (.int .i64 0),.lit (.int .i64 0),.lit (.int .i64 0),.lit (.int .i64 0),.lit (.int .i64 0),.lit (.int .i64 0)] [] 0),ST 7 7 7 21,M 8 8 22] [7] (.sd 0 [FA 0 23 0 7,L 1 24 23,FA 2 25 1 7,L 3 26 25,FA 4 27 2 7,L 5 28 27,M 6 2 24,M 7 3 26,M 8 4 28,M 9 5 (.i 0)] [2,3,4,5] .ret)))))
def a26:AFunc:=⟨1,c26,[.tmp 2,.tmp 3,.tmp 4,.tmp 5]⟩
def c28:ACode :=
 (.s 0 [M 0 4 (.b false)] [0,1] (.seq (.s 0 [M 0 6 0,LE 1 7 6,M 2 8 1,LE 3 9 8,B 4 10 .neq 7 9] [0,1,10] (.cond 10 (.s 0 [M 0 4 (.b false)] [4] .ret) .skip)) (.seq (.s 0 [M 0 5 (.i 0)] [0,1,5] (.block 0 (.loop true [0,1,5] (.seq (.s 0 [M 0 11 5,M 1 12 0,LE 2 13 12,B 3 14 .lss 11 13] [0,1,5,14] (.cond 14 .skip (.exit 0))) (.seq (.block 1 (.sd 0 [M 0 17 0,M 1 18 5,IX 2 19 3 17 18,LK 3 20 3 19,M 4 21 1,M 5 22 5,IX 6 23 3 21 22,LK 7 24 3 23,q 8 25 (.cmp true [0,0,0] 20 24)] [0,1,5,25] (.cond 25 (.s 0 [M 0 4 (.b false)] [4] .ret) .skip))) (.g 0 [M 0 15 5,B 1 16 .add 15 (.i 1),M 2 5 16] [0,1,5])))))) (.s 0 [M 0 4 (.b true)] [4] .ret))))
def a28:AFunc:=⟨2,c28,[.tmp 4]⟩
def c29:ACode :=
 (.s 3 [q 0 1 (.box 4 0 0),q 1 2 (.nil 1 1),q 2 3 (.nil 1 2),M 3 4 (.i 0)] [1,2,3] (.s 0 [LK 0 16 4 1,CL 1 17 51 [16],M 2 15 17,EX 3 18 15 0,EX 4 19 15 1,M 5 5 18,M 6 4 19] [1,2,3,4,5] (.seq (.s 0 [M 0 20 4,B 1 21 .neq 20 (.i 0)] [1,2,3,4,5,21] (.cond 21 (.s 2 [M 0 22 4,q 1 2 (.nil 1 0),q 2 3 (.nil 1 1),M 3 4 22] [2,3,4] .ret) .skip)) (.s 1 [M 0 24 5,CL 1 25 70 [24],CL 2 26 69 [25,.f 74],M 3 23 26,EX 4 27 23 0,EX 5 28 23 1,q 6 6 (.alloc [.seq 3 [],.lit (.int .i64 0),.lit (.int .i64 0),.lit (.int .i64 0),.lit (.int .i64 0),.lit (.int .i64 0),.lit (.int .i64 0)] [] 0),ST 7 7 6 27,M 8 7 28] [1,2,3,5,6] (.s 2 [q 0 29 (.mkmap 0),q 1 8 (.alloc [.lit (.map none)] [] 1),ST 2 1 8 29] [1,2,3,5,6,8] (.seq (.s 0 [M 0 30 5,CL 1 31 70 [30]] [1,2,3,6,8,31] (.block 0 (.rangeFunc 31 [32] [6,8] (.g 1 [q 0 9 (.alloc [.seq 3 [],.lit (.int .i64 0),.lit (.int .i64 0),.lit (.int .i64 0),.lit (.int .i64 0),.lit (.int .i64 0),.lit (.int .i64 0)] [] 0),ST 1 7 9 32] [6,8,9]) (.block 1 (.s 0 [L 0 34 8,FA 1 35 4 9,LK 2 36 3 35,q 3 37 (.lookup (.lit (.int .i64 0)) true [0,0,0] 34 36 true),M 4 33 37,EX 5 38 33 0,EX 6 39 33 1,M 7 10 38,M 8 11 39] [6,8,9,10,11] (.s 0 [FA 0 40 1 9,L 1 41 40,FA 2 42 1 6,L 3 43 42,B 4 44 .eql 41 43,M 5 45 44,G 6 46 45 true (.mv 11),G 7 47 45 true (.un .not 46),G 8 48 45 true (.mv 47),G 9 49 48 false (.fieldAddr 2 9),G 10 50 48 false (.load none 49),G 11 51 48 false (.mv 10),G 12 52 48 false (.bin .lss 50 51),G 13 53 45 true (.pick 48 (.b true) 52),q 14 54 (.pick 45 53 (.b
 false))] [8,9,54] (.cond 54 (.g 0 [L 0 55 8,FA 1 56 4 9,LK 2 57 3 56,FA 3 58 2 9,L 4 59 58,r 5 (.mupd true [0,0,0] 55 57 59)] []) .skip))))))) (.seq (.s 0 [FA 0 60 1 1,L 1 61 60,LE 2 62 61,M 3 63 (.i 0)] [2,3,8,62,63] (.block 2 (.loop true [2,3,8,62,63] (.s 0 [B 0 64 .lss 63 62] [2,3,8,62,63,64] (.seq (.cond 64 .skip (.exit 2)) (.seq (.block 3 (.s 0 [M 0 65 63,M 1 12 65] [2,3,8,12,62,63] (.s 0 [M 0 13 (.i 0)] [2,3,8,12,13,62,63] (.seq (.s 1 [L 0 66 8,q 1 67 (.rangeM 66 0)] [2,3,8,12,13,62,63,67] (.block 4 (.loopM 67 68 69 [2,3,8,12,13,62,63,67] [2,3,8,12,13,62,63,67] [2,3,8,12,13,62,63] (.seq (.cond 69 .skip (.exit 4)) (.block 5 (.s 1 [q 0 70 (.entry 67),EX 1 71 70 0,q 2 14 (.alloc [.lit (.int .i64 0),.lit (.int .i64 0),.lit (.int .i64 0)] [] 0),ST 3 3 14 71] [2,3,8,12,13,14,62,63,67] (.s 0 [LK 0 72 3 14,q 1 73 (.build [.lit (.int .i64 0),.lit (.int .i64 0),.lit (.int .i64 0)] []),q 2 74 (.cmp true [0,0,0] 72 73),M 3 75 74,G 4 76 75 true (.mv 12),G 5 77 75 true (.idxA 1 3 14 76),G 6 78 75 true (.load none 77),G 7 79 75 true (.bin .gtr 78 (.i 0)),q 8 80 (.pick 75 79 (.b false))] [2,3,8,12,13,62,63,67,80] (.cond 80 (.g 0 [M 0 81 13,B 1 82 .add 81 (.i 1),M 2 13 82] [2,3,8,12,13,62,63,67]) .skip)))))))) (.seq (.s 0 [M 0 83 13,B 1 84 .eql 83 (.i 0)] [2,3,8,12,13,62,63,84] (.cond 84 (.g 0 [M 0 85 2,M 1 86 12,q 2 87 (.lits 1 [.lit (.int .i64 0)] 1 [(0,86)] none),q 3 88 (.append 1 8 85 87 none false),M 4 2 88] [2,3,8,12,13,62,63]) .skip)) (.s 0 [M 0 89 13,L 1 90 8,q 2 91 (.lenM 90),B
 3 92 .lss 89 91] [2,3,8,12,62,63,92] (.cond 92 (.g 0 [M 0 93 3,M 1 94 12,q 2 95 (.lits 1 [.lit (.int .i64 0)] 1 [(0,94)] none),q 3 96 (.append 1 8 93 95 none false),M 4 3 96] [2,3,8,62,63]) .skip))))))) (.g 0 [B 0 97 .add 63 (.i 1),M 1 63 97] [2,3,8,62,63]))))))) (.s 0 [M 0 98 2,M 1 99 3,M 2 2 98,M 3 3 99,M 4 4 (.i 0)] [2,3,4] .ret))))))))
def a29:AFunc:=⟨1,c29,[.tmp 2,.tmp 3,.tmp 4]⟩
def c31:ACode :=
 (.s 1 [q 0 1 (.box 4 0 0),M 1 2 (.i 0),M 2 3 (.i 0)] [1] (.s 0 [LK 0 9 4 1,CL 1 10 51 [9],M 2 8 10,EX 3 11 8 0,EX 4 12 8 1,M 5 4 11,M 6 5 12] [4,5] (.seq (.s 0 [M 0 13 5,B 1 14 .neq 13 (.i 0)] [4,5,14] (.cond 14 (.s 0 [M 0 15 5,M 1 2 (.i 0),M 2 3 15] [2,3] .ret) .skip)) (.s 1 [M 0 17 4,CL 1 18 75 [17],CL 2 19 69 [18,.f 76],M 3 16 19,EX 4 20 16 0,EX 5 21 16 1,q 6 6 (.alloc [.seq 3 [],.lit (.int .i64 0),.lit (.int .i64 0),.lit (.int .i64 0),.lit (.int .i64 0),.lit (.int .i64 0),.lit (.int .i64 0)] [] 0),ST 7 7 6 20,M 8 7 21] [6,7] (.seq (.block 0 (.s 0 [M 0 23 7,q 1 24 (.un .not 23),M 2 25 24,G 3 26 25 false (.fieldAddr 1 6),G 4 27 25 false (.load none 26),G 5 28 25 false (.bin .gtr 27 (.i 0)),q 6 29 (.pick 25 (.b true) 28),M 7 30 29,G 8 31 30 false (.fieldAddr 3 6),G 9 32 30 false (.load none 31),G 10 33 30 false (.bin .gtr 32 (.i 10000)),q 11 34 (.pick 30 (.b true) 33),M 12 22 34] [6,22] (.cond 22 (.s 0 [M 0 2 (.i 0),M 1 3 (.i 9)] [2,3] .ret) (.s 0 [FA 0 36 3 6,L 1 37 36,B 2 38 .eql 37 (.i 0),M 3 35 38] [6,35] (.cond 35 (.s 0 [M 0 2 (.i 0),M 1 3 (.i 4)] [2,3] .ret) .skip))))) (.s 0 [FA 0 39 3 6,L 1 40 39,M 2 2 40,M 3 3 (.i 0)] [2,3] .ret))))))
def a31:AFunc:=⟨1,c31,[.tmp 2,.tmp 3]⟩
def c33:ACode :=
 (.s 1 [q 0 1 (.box 4 0 0),M 1 2 (.b false)] [1] (.s 0 [LK 0 7 4 1,CL 1 8 11 [7],M 2 6 8,EX 3 9 6 0,EX 4 10 6 1,EX 5 11 6 2,M 6 3 9,M 7 4 10,M 8 5 11] [5] (.s 0 [M 0 12 5,B 1 13 .eql 12 (.i 0),M 2 2 13] [2] .ret)))
def a33:AFunc:=⟨1,c33,[.tmp 2]⟩
def c37:ACode :=
 (.s 1 [q 0 2 (.box 4 0 0),M 1 4 (.i 0)] [1,2] (.s 0 [M 0 5 (.i 0)] [1,2,5] (.seq (.s 0 [M 0 6 (.i 0)] [1,2,5,6] (.block 0 (.loop true [1,2,5,6] (.seq (.s 0 [M 0 9 6,M 1 10 1,LE 2 11 10,B 3 12 .lss 9 11] [1,2,5,6,12] (.cond 12 .skip (.exit 0))) (.seq (.block 1 (.sd 0 [LK 0 16 4 2,M 1 17 6,M 2 18 1,M 3 19 6,IX 4 20 3 18 19,LK 5 21 3 20,CL 6 22 78 [16,17,21],M 7 15 22,EX 8 23 15 0,EX 9 24 15 1,M 10 7 23,M 11 8 24] [1,2,5,6,7] (.g 0 [M 0 25 5,M 1 26 7,B 2 27 .add 25 26,M 3 5 27] [1,2,5,6]))) (.g 0 [M 0 13 6,B 1 14 .add 13 (.i 1),M 2 6 14] [1,2,5,6])))))) (.s 0 [M 0 28 5,M 1 4 28] [4] .ret))))
def a37:AFunc:=⟨2,c37,[.tmp 4]⟩
def c38:ACode :=
 (.s 1 [q 0 2 (.box 4 0 0),M 1 4 (.c (.seq 3 []))] [1,2] (.s 1 [q 0 5 (.nil 3 0)] [1,2,5] (.seq (.s 0 [M 0 6 (.i 0)] [1,2,5,6] (.block 0 (.loop true [1,2,5,6] (.seq (.s 0 [M 0 10 6,FA 1 11 1 2,L 2 12 11,LE 3 13 12,B 4 14 .lss 10 13] [1,2,5,6,14] (.cond 14 .skip (.exit 0))) (.seq (.block 1 (.sd 1 [M 0 17 1,M 1 18 6,B 2 19 .mul (.i 3) 18,⟨some 20,.call (.f 79) [17,19] [] true,none,[0],[],0,3⟩,FA 4 21 0 2,⟨some 22,.load none 21,none,[0],[],0,5⟩,⟨some 23,.lenL 22,none,[0],[],0,6⟩,B 7 24 .add 23 (.i 1),B 8 25 .rem 20 24,B 9 26 .sub 25 (.i 1),M 10 27 1,M 11 28 6,B 12 29 .mul (.i 3) 28,B 13 30 .add 29 (.i 1),⟨some 31,.call (.f 79) [27,30] [] true,none,[0],[],0,14⟩,B 15 32 .rem 31 (.i 3),⟨some 33,.call (.f 61) [26,32,.i 0] [] true,none,[0],[],0,16⟩,q 17 7 (.alloc [.lit (.int .i64 0),.lit (.int .i64 0),.lit (.int .i64 0)] [] 0),ST 18 3 7 33] [1,2,5,6,7] (.seq (.s 0 [FA 0 34 1 7,L 1 35 34,B 2 36 .eql 35 (.i 1)] [1,2,5,6,7,36] (.cond 36 (.gd 0 [M 0 37 1,M 1 38 6,B 2 39 .mul (.i 3) 38,B 3 40 .add 39 (.i 2),CP 4 41 79 [37,40],FA 5 42 1 2,L 6 43 42,M 7 44 6,IX 8 45 4 43 44,FA 9 46 1 45,L 10 47 46,B 11 48 .add 47 (.i 1),B 12 49 .rem 41 48,FA 13 50 2 7,ST 14 1 50 49] [1,2,5,6,7]) .skip)) (.s 0 [M 0 8 (.b false)] [1,2,5,6,7,8] (.seq (.s 0 [M 0 9 (.i 0)] [1,2,5,6,7,8,9] (.block 2 (.loop true [1,2,5,6,7,8,9] (.seq (.s 0 [M 0 51 9,M 1 52 6,B 2 53 .lss 51 52] [1,2,5,6,7,8,9,53] (.cond 53 .skip (.exit 2))) (.seq (.block 3 (.gd 0 [M 0 56 8,M 1 57 56,G 2 58 57 false (.mv 5),G 3 59 57 false (.mv 9),G
 4 60 57 false (.idxS 3 58 59),G 5 61 57 false (.fieldAddr 0 60),G 6 62 57 false (.load none 61),G 7 63 57 false (.fieldAddr 0 7),G 8 64 57 false (.load none 63),G 9 65 57 false (.bin .eql 62 64),q 10 66 (.pick 57 (.b true) 65),M 11 8 66] [1,2,5,6,7,8,9])) (.g 0 [M 0 54 9,B 1 55 .add 54 (.i 1),M 2 9 55] [1,2,5,6,7,8,9])))))) (.seq (.s 0 [FA 0 67 0 7,L 1 68 67,B 2 69 .eql 68 (.i (-1)),M 3 70 69,G 4 71 70 false (.mv 8),q 5 72 (.pick 70 (.b true) 71),M 6 73 72,G 7 74 73 false (.load (some 4) 2),G 8 75 73 false (.mv 6),G 9 76 73 false (.load (some 3) 7),G 10 77 73 false (.call (.f 58) [74,75,76] [] false),G 11 78 73 false (.bin .neq 77 (.i 0)),q 12 79 (.pick 73 (.b true) 78)] [1,2,5,6,7,79] (.cond 79 (.g 0 [CL 0 80 61 [.i (-1),.i 0,.i 0],ST 1 3 7 80] [1,2,5,6,7]) .skip)) (.g 0 [M 0 81 5,LK 1 82 3 7,q 2 83 (.lits 3 [.lit (.int .i64 0),.lit (.int .i64 0),.lit (.int .i64 0)] 1 [(0,82)] none),q 3 84 (.append 3 24 81 83 none false),M 4 5 84] [1,2,5,6]))))))) (.g 0 [M 0 15 6,B 1 16 .add 15 (.i 1),M 2 6 16] [1,2,5,6])))))) (.s 0 [M 0 85 5,M 1 4 85] [4] .ret))))
def a38:AFunc:=⟨2,c38,[.tmp 4]⟩
def c41:ACode :=
 (.s 3 [q 0 3 (.box 1 0 0),q 1 4 (.box 1 1 1),q 2 5 (.box 1 2 2),M 3 6 (.i 0)] [3,4,5] (.seq (.block 0 (.sd 0 [L 0 8 5,L 1 9 3,L 2 10 4,IX 3 11 8 9 10,LK 4 12 8 11,q 5 13 (.call 8 [12] [] false),CL 6 14 81 [13],q 7 15 (.un .not 14),M 8 7 15] [3,4,5,7] (.cond 7 (.s 0 [M 0 6 (.i 6)] [6] .ret) (.s 0 [L 0 17 3,L 1 18 4,q 2 19 (.sliceQ 8 17 none (some 18)),q 3 20 (.mkfn (.func 83) [] [5,3,4]),CL 4 21 82 [19,20],M 5 16 21] [16] (.cond 16 (.s 0 [M 0 6 (.i 5)] [6] .ret) .skip))))) (.s 0 [M 0 6 (.i 0)] [6] .ret)))
def a41:AFunc:=⟨3,c41,[.tmp 6]⟩
def c42:ACode :=
 (.s 1 [q 0 1 (.box 8 0 0),M 1 2 (.c (.lit (.string ⟨#[]⟩)))] [1] (.s 0 [FA 0 3 0 1,L 1 4 3,M 2 2 4] [2] .ret))
def a42:AFunc:=⟨1,c42,[.tmp 2]⟩
def c43:ACode :=
 (.s 1 [q 0 1 (.box 8 0 0),M 1 2 (.b false)] [1] (.seq (.s 0 [FA 0 3 2 1,L 1 4 3,q 2 5 (.un .not 4)] [1,5] (.cond 5 (.s 0 [FA 0 6 1 1,L 1 7 6,q 2 8 (.lits 1 [.lit (.int .i64 0)] 1 [(0,7)] none),CL 3 9 46 [.i 0,.i 15,8],M 4 10 9,G 5 11 10 false (.fieldAddr 3 1),G 6 12 10 false (.load none 11),G 7 13 10 false (.fieldAddr 4 1),G 8 14 10 false (.load none 13),G 9 15 10 false (.fieldAddr 5 1),G 10 16 10 false (.load none 15),G 11 17 10 false (.fieldAddr 6 1),G 12 18 10 false (.load none 17),G 13 19 10 false (.fieldAddr 7 1),G 14 20 10 false (.load none 19),G 15 21 10 false (.lits 1 [.lit (.int .i64 0)] 5 [(0,12),(1,14),(2,16),(3,18),(4,20)] none),G 16 22 10 false (.call (.f 46) [.i 0,.i 0,21] [] false),q 17 23 (.pick 10 (.b true) 22),M 18 2 23] [2] .ret) .skip)) (.s 0 [FA 0 24 1 1,L 1 25 24,q 2 26 (.lits 1 [.lit (.int .i64 0)] 1 [(0,25)] none),CL 3 27 46 [.i 0,.i 15,26],M 4 28 27,G 5 29 28 false (.fieldAddr 3 1),G 6 30 28 false (.load none 29),G 7 31 28 false (.lits 1 [.lit (.int .i64 0)] 1 [(0,30)] none),G 8 32 28 false (.call (.f 46) [.i 0,.i 5000,31] [] false),q 9 33 (.pick 28 (.b true) 32),M 10 34 33,G 11 35 34 false (.fieldAddr 4 1),G 12 36 34 false (.load none 35),G 13 37 34 false (.lits 1 [.lit (.int .i64 0)] 1 [(0,36)] none),G 14 38 34 false (.call (.f 46) [.i 0,.i 500,37] [] false),q 15 39 (.pick 34 (.b true) 38),M 16 40 39,G 17 41 40 false (.fieldAddr 5 1),G 18 42 40 false (.load none 41),G 19 43 40 false (.lits 1 [.lit (.int .i64 0)] 1 [(0,42)] none),G 20 44 40 false
 (.call (.f 46) [.i 0,.i 100,43] [] false),q 21 45 (.pick 40 (.b true) 44),M 22 46 45,G 23 47 46 false (.fieldAddr 6 1),G 24 48 46 false (.load none 47),G 25 49 46 false (.fieldAddr 7 1),G 26 50 46 false (.load none 49),G 27 51 46 false (.lits 1 [.lit (.int .i64 0)] 2 [(0,48),(1,50)] none),G 28 52 46 false (.call (.f 46) [.i 0,.i 364,51] [] false),q 29 53 (.pick 46 (.b true) 52),M 30 2 53] [2] .ret)))
def a43:AFunc:=⟨1,c43,[.tmp 2]⟩
def c44:ACode :=
 (.s 3 [q 0 3 (.box 1 0 0),q 1 4 (.box 1 1 1),q 2 5 (.box 1 2 2),M 3 6 (.i 0)] [3,4,5] (.seq (.block 0 (.sd 0 [L 0 8 5,L 1 9 3,L 2 10 4,IX 3 11 4 9 10,LK 4 12 4 11,q 5 13 (.call 8 [12] [] false),CL 6 14 81 [13],q 7 15 (.un .not 14),M 8 7 15] [3,4,5,7] (.cond 7 (.s 0 [M 0 6 (.i 6)] [6] .ret) (.s 0 [L 0 17 3,L 1 18 4,q 2 19 (.sliceQ 4 17 none (some 18)),q 3 20 (.mkfn (.func 85) [] [5,3,4]),CL 4 21 84 [19,20],M 5 16 21] [16] (.cond 16 (.s 0 [M 0 6 (.i 5)] [6] .ret) .skip))))) (.s 0 [M 0 6 (.i 0)] [6] .ret)))
def a44:AFunc:=⟨3,c44,[.tmp 6]⟩
def c45:ACode :=
 (.s 1 [q 0 1 (.box 4 0 0),M 1 2 (.c (.lit (.string ⟨#[]⟩)))] [1] (.s 0 [FA 0 3 0 1,L 1 4 3,M 2 2 4] [2] .ret))
def a45:AFunc:=⟨1,c45,[.tmp 2]⟩
def c46:ACode :=
 (.s 2 [q 0 3 (.box 1 0 0),q 1 4 (.box 1 1 1),M 2 6 (.b false)] [2,3,4] (.s 0 [M 0 7 2,q 1 8 (.mkfn (.func 87) [] [3,4]),CL 2 9 86 [7,8],M 3 6 9] [6] .ret))
def a46:AFunc:=⟨3,c46,[.tmp 6]⟩
def c47:ACode :=
 (.s 0 [M 0 4 (.i 0)] [0,1] (.seq (.s 0 [M 0 5 0,CL 1 6 88 [5],q 2 7 (.un .not 6)] [0,1,7] (.cond 7 (.s 0 [M 0 4 (.i 6)] [4] .ret) .skip)) (.seq (.s 0 [M 0 8 1,M 1 9 0,CL 2 10 89 [8,9],B 3 11 .geq 10 (.i 0)] [11] (.cond 11 (.s 0 [M 0 4 (.i 5)] [4] .ret) .skip)) (.s 0 [M 0 4 (.i 0)] [4] .ret))))
def a47:AFunc:=⟨2,c47,[.tmp 4]⟩
def c48:ACode :=
 (.s 1 [q 0 1 (.box 8 0 0),M 1 2 (.b false)] [1] (.seq (.s 0 [FA 0 3 1 1,L 1 4 3,CL 2 5 50 [4,.i 0,.i 15],q 3 6 (.un .not 5)] [1,6] (.cond 6 (.s 0 [M 0 2 (.b false)] [2] .ret) .skip)) (.seq (.s 0 [FA 0 7 2 1,L 1 8 7,q 2 9 (.un .not 8)] [1,9] (.cond 9 (.s 0 [FA 0 10 3 1,L 1 11 10,B 2 12 .eql 11 (.i 0),M 3 13 12,G 4 14 13 true (.fieldAddr 4 1),G 5 15 13 true (.load none 14),G 6 16 13 true (.bin .eql 15 (.i 0)),q 7 17 (.pick 13 16 (.b false)),M 8 18 17,G 9 19 18 true (.fieldAddr 5 1),G 10 20 18 true (.load none 19),G 11 21 18 true (.bin .eql 20 (.i 0)),q 12 22 (.pick 18 21 (.b false)),M 13 23 22,G 14 24 23 true (.fieldAddr 6 1),G 15 25 23 true (.load none 24),G 16 26 23 true (.bin .eql 25 (.i 0)),q 17 27 (.pick 23 26 (.b false)),M 18 28 27,G 19 29 28 true (.fieldAddr 7 1),G 20 30 28 true (.load none 29),G 21 31 28 true (.bin .eql 30 (.i 0)),q 22 32 (.pick 28 31 (.b false)),M 23 2 32] [2] .ret) .skip)) (.s 0 [FA 0 33 3 1,L 1 34 33,CL 2 35 50 [34,.i 0,.i 5000],M 3 36 35,G 4 37 36 true (.fieldAddr 4 1),G 5 38 36 true (.load none 37),G 6 39 36 true (.call (.f 50) [38,.i 0,.i 500] [] false),q 7 40 (.pick 36 39 (.b false)),M 8 41 40,G 9 42 41 true (.fieldAddr 5 1),G 10 43 41 true (.load none 42),G 11 44 41 true (.call (.f 50) [43,.i 0,.i 100] [] false),q 12 45 (.pick 41 44 (.b false)),M 13 46 45,G 14 47 46 true (.fieldAddr 6 1),G 15 48 46 true (.load none 47),G 16 49 46 true (.call (.f 50) [48,.i 0,.i 364] [] false),q 17 50 (.pick 46 49 (.b false)),M 18 51 50,G 19 52 51 true
 (.fieldAddr 7 1),G 20 53 51 true (.load none 52),G 21 54 51 true (.call (.f 50) [53,.i 0,.i 364] [] false),q 22 55 (.pick 51 54 (.b false)),M 23 2 55] [2] .ret))))
def a48:AFunc:=⟨1,c48,[.tmp 2]⟩
def c49:ACode :=
 (.s 1 [q 0 1 (.box 4 0 0),M 1 2 (.i 0)] [1] (.seq (.s 0 [FA 0 3 1 1,L 1 4 3,CL 2 5 50 [4,.i 0,.i 364],q 3 6 (.un .not 5),M 4 7 6,G 5 8 7 false (.fieldAddr 2 1),G 6 9 7 false (.load none 8),G 7 10 7 false (.call (.f 50) [9,.i 0,.i 364] [] false),G 8 11 7 false (.un .not 10),q 9 12 (.pick 7 (.b true) 11),M 10 13 12,G 11 14 13 false (.fieldAddr 3 1),G 12 15 13 false (.load none 14),G 13 16 13 false (.call (.f 50) [15,.i 0,.i 15] [] false),G 14 17 13 false (.un .not 16),q 15 18 (.pick 13 (.b true) 17)] [1,18] (.cond 18 (.s 0 [M 0 2 (.i 7)] [2] .ret) .skip)) (.seq (.s 0 [FA 0 19 1 1,L 1 20 19,FA 2 21 2 1,L 3 22 21,B 4 23 .gtr 20 22] [23] (.cond 23 (.s 0 [M 0 2 (.i 2)] [2] .ret) .skip)) (.s 0 [M 0 2 (.i 0)] [2] .ret))))
def a49:AFunc:=⟨1,c49,[.tmp 2]⟩
def c50:ACode :=
 (.s 0 [M 0 6 (.b false)] [0,1,2] (.s 0 [M 0 7 0,M 1 8 1,B 2 9 .geq 7 8,M 3 10 9,G 4 11 10 true (.mv 0),G 5 12 10 true (.mv 2),G 6 13 10 true (.bin .leq 11 12),q 7 14 (.pick 10 13 (.b false)),M 8 6 14] [6] .ret))
def a50:AFunc:=⟨3,c50,[.tmp 6]⟩
def c51:ACode :=
 (.s 1 [q 0 1 (.box 4 0 0),M 1 2 (.c (.lit (.pointer none))),M 2 3 (.i 0)] [1] (.seq (.s 0 [LK 0 11 4 1,CL 1 12 10 [11],M 2 10 12,EX 3 13 10 0,EX 4 14 10 1,EX 5 15 10 2,M 6 4 13,M 7 5 14,M 8 6 15] [1,6] (.s 0 [M 0 16 6,B 1 17 .neq 16 (.i 0)] [1,6,17] (.cond 17 (.s 0 [M 0 18 6,M 1 2 (.c (.lit (.pointer none))),M 2 3 18] [2,3] .ret) .skip))) (.s 2 [LK 0 19 4 1,q 1 20 (.lits 1 [.lit (.int .i64 0)] 1 [(0,.i 0)] (some 0)),q 2 21 (.build [.seq 8 [],.seq 4 [],.lit (.int .i64 0),.seq 2 [],.lit .nilFunc,.lit .nilFunc,.lit .nilFunc,.lit .nilFunc,.lit .nilFunc,.lit .nilFunc,.lit .nilFunc,.lit .nilFunc,.lit .nilFunc,.seq 1 []] [(0,4,19),(13,1,20)]),q 3 22 (.box 14 21 1),M 4 7 22] [1,7] (.s 0 [M 0 23 7,q 1 24 (.build [.lit .nilFunc,.lit .nilFunc,.lit .nilFunc] [(0,1,.f 90),(1,1,.f 91),(2,1,.f 92)]),NK 2 25 23,FA 3 26 4 25,q 4 27 (.idxA 3 3 26 (.i 0)),ST 5 3 27 24] [1,7] (.s 0 [M 0 28 7,q 1 29 (.build [.lit .nilFunc,.lit .nilFunc,.lit .nilFunc] [(0,1,.f 52),(1,1,.f 93),(2,1,.f 94)]),NK 2 30 28,FA 3 31 4 30,q 4 32 (.idxA 3 3 31 (.i 1)),ST 5 3 32 29] [1,7] (.s 0 [M 0 33 7,q 1 34 (.build [.lit .nilFunc,.lit .nilFunc,.lit .nilFunc] [(0,1,.f 55),(1,1,.f 95),(2,1,.f 96)]),NK 2 35 33,FA 3 36 4 35,q 4 37 (.idxA 3 3 36 (.i 2)),ST 5 3 37 34] [1,7] (.seq (.s 0 [FA 0 38 3 1,L 1 39 38,LE 2 40 39,M 3 41 (.i 0)] [7,39,40,41] (.block 0 (.loop true [7,39,40,41] (.s 0 [B 0 42 .lss 41 40] [7,39,40,41,42] (.seq (.cond 42 .skip (.exit 0)) (.seq (.block 1 (.s 1 [IX 0 43 2 39 41,LK 1 44 2 43,q 2 9 (.alloc [.lit
 (.int .i64 0),.lit (.int .i64 0)] [] 0),ST 3 2 9 44] [7,9,39,40,41] (.gd 0 [M 1 46 7,NK 2 47 46,FA 3 48 13 47,L 4 49 48,FA 5 50 0 9,L 6 51 50,q 7 52 (.lits 1 [.lit (.int .i64 0)] 1 [(0,51)] none),q 8 53 (.append 1 8 49 52 none false),M 0 45 7,NK 9 54 45,FA 10 55 13 54,ST 11 1 55 53] [7,39,40,41]))) (.g 0 [B 0 56 .add 41 (.i 1),M 1 41 56] [7,39,40,41]))))))) (.s 0 [M 0 57 7,NK 1 58 57,FA 2 59 13 58,L 3 60 59,q 4 61 (.call (.f 97) [60] [[],[],[],[],[],[],[],[],[]] false)] [7] (.s 0 [M 0 62 7,M 1 63 7,NK 2 64 63,FA 3 65 13 64,L 4 66 65,q 5 67 (.call (.f 98) [66] [[],[],[],[],[],[],[],[],[]] false),NK 6 68 62,FA 7 69 13 68,ST 8 1 69 67] [7] (.s 0 [M 0 70 7,M 1 2 70,M 2 3 (.i 0)] [2,3] .ret))))))))))
def a51:AFunc:=⟨1,c51,[.tmp 2,.tmp 3]⟩
def c52:ACode :=
 (.s 2 [q 0 3 (.box 8 0 0),q 1 4 (.box 4 1 1),M 2 6 (.i 0)] [2,3] (.s 0 [FA 0 7 3 3,L 1 8 7,FA 2 9 4 3,L 3 10 9,FA 4 11 6 3,L 5 12 11,M 6 13 2,B 7 14 .add 12 13,B 8 15 .quo 14 (.i 30),B 9 16 .add (.i 1) 15,B 10 17 .mul 10 16,B 11 18 .add 8 17,M 12 6 18] [6] .ret))
def a52:AFunc:=⟨3,c52,[.tmp 6]⟩
def c54:ACode :=
 (.s 1 [q 0 2 (.box 8 0 0),M 1 4 (.i 0)] [1,2] (.s 0 [FA 0 5 3 2,L 1 6 5,FA 2 7 4 2,L 3 8 7,FA 4 9 6 2,L 5 10 9,M 6 11 1,B 7 12 .add 10 11,B 8 13 .quo 12 (.i 30),B 9 14 .add 13 (.i 1),B 10 15 .mul 8 14,B 11 16 .add 6 15,M 12 4 16] [4] .ret))
def a54:AFunc:=⟨2,c54,[.tmp 4]⟩
def c55:ACode :=
 (.s 2 [q 0 3 (.box 8 0 0),q 1 4 (.box 4 1 1),M 2 6 (.i 0)] [3,4] (.s 0 [FA 0 7 5 3,L 1 8 7,FA 2 9 2 4,L 3 10 9,FA 4 11 1 4,L 5 12 11,B 6 13 .sub 10 12,B 7 14 .add 13 (.i 1),B 8 15 .mul 8 14,M 9 6 15] [6] .ret))
def a55:AFunc:=⟨3,c55,[.tmp 6]⟩
def c56:ACode :=
 (.s 2 [q 0 2 (.box 8 0 0),q 1 3 (.box 4 1 1),M 2 4 (.i 0)] [2,3] (.s 0 [FA 0 5 5 2,L 1 6 5,FA 2 7 2 3,L 3 8 7,FA 4 9 1 3,L 5 10 9,B 6 11 .sub 8 10,B 7 12 .add 11 (.i 1),B 8 13 .mul 6 12,M 9 4 13] [4] .ret))
def a56:AFunc:=⟨2,c56,[.tmp 4]⟩
def c57:ACode :=
 (.s 1 [q 0 5 (.box 3 2 0),M 1 6 (.i 0)] [0,1,5] (.seq (.block 0 (.sd 0 [LK 0 11 3 5,CP 1 12 99 [],q 2 13 (.cmp false [0,0,0] 11 12),M 3 10 13] [0,1,5,10] (.cond 10 (.s 0 [M 0 6 (.i 0)] [6] .ret) (.s 0 [FA 0 15 0 5,L 1 16 15,B 2 17 .eql 16 (.i (-1)),M 3 14 17] [0,1,5,14] (.cond 14 (.s 0 [M 0 6 (.i 2)] [6] .ret) (.sd 0 [M 0 19 0,NK 1 20 19,FA 2 21 0 20,FA 3 22 0 21,L 4 23 22,LE 5 24 23,B 6 25 .sub 24 (.i 1),FA 7 26 0 5,L 8 27 26,q 9 28 (.lits 1 [.lit (.int .i64 0)] 1 [(0,27)] none),CL 10 29 46 [.i 0,25,28],M 11 18 29] [0,1,5,18] (.cond 18 (.s 0 [M 0 6 (.i 4)] [6] .ret) .skip))))))) (.sd 2 [M 0 30 0,NK 1 31 30,FA 2 32 0 31,FA 3 33 0 32,⟨some 34,.load none 33,none,[0,1],[],0,4⟩,FA 5 35 0 5,⟨some 36,.load none 35,none,[0,1],[],0,6⟩,⟨some 37,.idxS 8 34 36,none,[0,1],[],0,7⟩,⟨some 38,.load (some 8) 37,none,[0,1],[],0,8⟩,q 17 7 (.alloc [.lit (.string ⟨#[]⟩),.lit (.int .i64 0),.lit (.bool false),.lit (.int .i64 0),.lit (.int .i64 0),.lit (.int .i64 0),.lit (.int .i64 0),.lit (.int .i64 0)] [] 0),q 18 8 (.alloc [.lit (.string ⟨#[]⟩),.lit (.int .i64 0),.lit (.int .i64 0),.lit (.int .i64 0)] [] 1),⟨none,.store 8 7 38,none,[],[(0,[])],0,19⟩,M 9 39 0,NK 10 40 39,FA 11 41 0 40,FA 12 42 1 41,⟨some 43,.load none 42,none,[0,1],[],1,13⟩,M 14 44 1,⟨some 45,.idxS 4 43 44,none,[0,1],[],1,15⟩,⟨some 46,.load (some 4) 45,none,[0,1],[],1,16⟩,ST 20 4 8 46] [0,5,7,8] (.s 0 [M 0 9 (.i 0)] [0,5,7,8,9] (.seq (.s 0 [FA 0 47 1 5,L 1 48 47,B 2 49 .eql 48 (.i 1)] [0,5,7,8,9,49] (.cond 49 (.g 0 [M 0 9 (.i 364)]
 [0,5,7,8,9]) .skip)) (.seq (.block 1 (.s 0 [FA 0 51 1 5,L 1 52 51,q 2 53 (.lits 1 [.lit (.int .i64 0)] 1 [(0,52)] none),CL 3 54 46 [.i 0,.i 2,53],M 4 55 54,G 5 56 55 false (.fieldAddr 2 7),G 6 57 55 false (.load none 56),G 7 58 55 false (.fieldAddr 1 5),G 8 59 55 false (.load none 58),G 9 60 55 false (.bin .neq 59 (.i 0)),G 10 61 55 false (.beq true 57 60),q 11 62 (.pick 55 (.b true) 61),M 12 63 62,G 13 64 63 false (.mv 9),G 14 65 63 false (.fieldAddr 2 5),G 15 66 63 false (.load none 65),G 16 67 63 false (.lits 1 [.lit (.int .i64 0)] 1 [(0,66)] none),G 17 68 63 false (.call (.f 46) [.i 0,64,67] [] false),q 18 69 (.pick 63 (.b true) 68),M 19 50 69] [0,5,7,8,50] (.cond 50 (.s 0 [M 0 6 (.i 2)] [6] .ret) (.sd 0 [FA 0 71 3 8,L 1 72 71,FA 2 73 1 7,L 3 74 73,B 4 75 .andNot 72 74,B 5 76 .neq 75 (.i 0),M 6 77 76,G 7 78 77 false (.mv 0),G 8 79 77 false (.fieldAddr 1 5),G 9 80 77 false (.load none 79),G 10 81 77 false (.nilck 78),G 11 82 77 false (.fieldAddr 4 81),G 12 83 77 false (.idxA 3 3 82 80),G 13 84 77 false (.fieldAddr 2 83),G 14 85 77 false (.load none 84),G 15 86 77 false (.load (some 8) 7),G 16 87 77 false (.load (some 4) 8),G 17 88 77 false (.fieldAddr 2 5),G 18 89 77 false (.load none 88),G 19 90 77 false (.call 85 [86,87,89] [] false),G 20 91 77 false (.un .not 90),q 21 92 (.pick 77 (.b true) 91),M 22 70 92] [70] (.cond 70 (.s 0 [M 0 6 (.i 9)] [6] .ret) .skip))))) (.s 0 [M 0 6 (.i 0)] [6] .ret)))))))
def a57:AFunc:=⟨3,c57,[.tmp 6]⟩
def c58:ACode :=
 (.s 2 [q 0 3 (.box 4 0 0),q 1 5 (.box 3 2 1),M 2 6 (.i 0)] [1,3,5] (.seq (.s 0 [FA 0 10 0 5,L 1 11 10,B 2 12 .eql 11 (.i (-1))] [1,3,5,12] (.cond 12 (.seq (.s 0 [FA 0 13 1 5,L 1 14 13,B 2 15 .neq 14 (.i 0),M 3 16 15,G 4 17 16 false (.fieldAddr 2 5),G 5 18 16 false (.load none 17),G 6 19 16 false (.bin .neq 18 (.i 0)),q 7 20 (.pick 16 (.b true) 19)] [20] (.cond 20 (.s 0 [M 0 6 (.i 2)] [6] .ret) .skip)) (.s 0 [M 0 6 (.i 0)] [6] .ret)) .skip)) (.seq (.s 0 [FA 0 21 0 5,L 1 22 21,FA 2 23 0 3,L 3 24 23,LE 4 25 24,B 5 26 .sub 25 (.i 1),CL 6 27 50 [22,.i 0,26],q 7 28 (.un .not 27)] [1,3,5,28] (.cond 28 (.s 0 [M 0 6 (.i 4)] [6] .ret) .skip)) (.sd 2 [FA 0 29 0 3,⟨some 30,.load none 29,none,[0,1],[],0,1⟩,FA 2 31 0 5,⟨some 32,.load none 31,none,[0,1],[],0,3⟩,⟨some 33,.idxS 8 30 32,none,[0,1],[],0,4⟩,⟨some 34,.load (some 8) 33,none,[0,1],[],0,5⟩,q 11 7 (.alloc [.lit (.string ⟨#[]⟩),.lit (.int .i64 0),.lit (.bool false),.lit (.int .i64 0),.lit (.int .i64 0),.lit (.int .i64 0),.lit (.int .i64 0),.lit (.int .i64 0)] [] 0),q 12 8 (.alloc [.lit (.string ⟨#[]⟩),.lit (.int .i64 0),.lit (.int .i64 0),.lit (.int .i64 0)] [] 1),⟨none,.store 8 7 34,none,[],[(3,[])],0,13⟩,FA 6 35 1 3,⟨some 36,.load none 35,none,[0,1],[],1,7⟩,M 8 37 1,⟨some 38,.idxS 4 36 37,none,[0,1],[],1,9⟩,⟨some 39,.load (some 4) 38,none,[0,1],[],1,10⟩,ST 14 4 8 39] [5,7,8] (.seq (.s 0 [LK 0 40 8 7,LK 1 41 3 5,CL 2 42 100 [40,41],q 3 43 (.un .not 42)] [5,7,8,43] (.cond 43 (.s 0 [M 0 6 (.i 2)] [6] .ret) .skip)) (.s 0 [FA 0 44 1 5,L
 1 45 44,B 2 46 .eql 45 (.i 1),M 3 47 46,G 4 48 47 true (.fieldAddr 2 5),G 5 49 47 true (.load none 48),G 6 50 47 true (.fieldAddr 7 7),G 7 51 47 true (.load none 50),G 8 52 47 true (.bin .gtr 49 51),G 9 53 47 true (.mv 52),G 10 54 53 false (.fieldAddr 2 5),G 11 55 53 false (.load none 54),G 12 56 53 false (.fieldAddr 1 8),G 13 57 53 false (.load none 56),G 14 58 53 false (.bin .gtr 55 57),G 15 59 47 true (.pick 53 (.b true) 58),q 16 60 (.pick 47 59 (.b false)),M 17 61 60,G 18 62 61 false (.fieldAddr 1 5),G 19 63 61 false (.load none 62),G 20 64 61 false (.bin .eql 63 (.i 2)),G 21 65 61 false (.mv 64),G 22 66 65 true (.fieldAddr 2 8),G 23 67 65 true (.load none 66),G 24 68 65 true (.fieldAddr 7 7),G 25 69 65 true (.load none 68),G 26 70 65 true (.bin .gtr 67 69),G 27 71 61 false (.pick 65 70 (.b false)),q 28 72 (.pick 61 (.b true) 71),M 29 9 72] [7,8,9] (.seq (.s 0 [M 0 73 9,M 1 74 73,G 2 75 74 false (.load (some 8) 7),G 3 76 74 false (.load (some 4) 8),G 4 77 74 false (.call (.f 101) [75,76] [] false),G 5 78 74 false (.un .not 77),q 6 79 (.pick 74 (.b true) 78)] [79] (.cond 79 (.s 0 [M 0 6 (.i 9)] [6] .ret) .skip)) (.s 0 [M 0 6 (.i 0)] [6] .ret))))))))
def a58:AFunc:=⟨3,c58,[.tmp 6]⟩
def c59:ACode :=
 (.s 1 [q 0 2 (.alloc [.seq 8 [],.seq 4 [],.lit (.int .i64 0),.seq 2 []] [] 0)] [0,2] (.s 1 [q 0 4 (.build [.lit (.string ⟨#[]⟩),.lit (.int .i64 0),.lit (.bool false),.lit (.int .i64 0),.lit (.int .i64 0),.lit (.int .i64 0),.lit (.int .i64 0),.lit (.int .i64 0)] [(0,1,.c (.lit (.string ⟨#[114,101,100]⟩))),(1,1,.i 3),(2,1,.c (.lit (.bool true))),(3,1,.i 90),(4,1,.i 10),(5,1,.i 3),(6,1,.i 20),(7,1,.i 100)]),q 1 5 (.build [.lit (.string ⟨#[]⟩),.lit (.int .i64 0),.lit (.bool false),.lit (.int .i64 0),.lit (.int .i64 0),.lit (.int .i64 0),.lit (.int .i64 0),.lit (.int .i64 0)] [(0,1,.c (.lit (.string ⟨#[98,108,117,101]⟩))),(1,1,.i 1)]),q 2 6 (.build [.lit (.string ⟨#[]⟩),.lit (.int .i64 0),.lit (.bool false),.lit (.int .i64 0),.lit (.int .i64 0),.lit (.int .i64 0),.lit (.int .i64 0),.lit (.int .i64 0)] [(0,1,.c (.lit (.string ⟨#[103,111,108,100]⟩))),(1,1,.i 7),(2,1,.c (.lit (.bool true))),(3,1,.i 120),(4,1,.i 5),(5,1,.i 8),(7,1,.i 60)]),q 3 7 (.lits 8 [.lit (.string ⟨#[]⟩),.lit (.int .i64 0),.lit (.bool false),.lit (.int .i64 0),.lit (.int .i64 0),.lit (.int .i64 0),.lit (.int .i64 0),.lit (.int .i64 0)] 3 [(0,4),(1,5),(2,6)] none),q 4 8 (.build [.lit (.string ⟨#[]⟩),.lit (.int .i64 0),.lit (.int .i64 0),.lit (.int .i64 0)] [(0,1,.c (.lit (.string ⟨#[113,117,101,101,110]⟩))),(1,1,.i 50),(2,1,.i 59),(3,1,.i 2)]),q 5 9 (.build [.lit (.string ⟨#[]⟩),.lit (.int .i64 0),.lit (.int .i64 0),.lit (.int .i64 0)] [(0,1,.c (.lit (.string ⟨#[98,105,115,104,111,112]⟩))),(1,1,.i 20),(2,1,.i
 80),(3,1,.i 1)]),q 6 10 (.build [.lit (.string ⟨#[]⟩),.lit (.int .i64 0),.lit (.int .i64 0),.lit (.int .i64 0)] [(0,1,.c (.lit (.string ⟨#[108,97,100,121]⟩))),(1,1,.i 45),(2,1,.i 50),(3,1,.i 4)]),q 7 11 (.lits 4 [.lit (.string ⟨#[]⟩),.lit (.int .i64 0),.lit (.int .i64 0),.lit (.int .i64 0)] 3 [(0,8),(1,9),(2,10)] none),q 8 12 (.build [.lit (.int .i64 0),.lit (.int .i64 0)] [(0,1,.i 40),(1,1,.i 150)]),q 9 13 (.lits 2 [.lit (.int .i64 0),.lit (.int .i64 0)] 1 [(0,12)] none),q 10 14 (.build [.seq 8 [],.seq 4 [],.lit (.int .i64 0),.seq 2 []] [(0,1,7),(1,1,11),(2,1,.i 100),(3,1,13)]),q 11 3 (.alloc [.seq 8 [],.seq 4 [],.lit (.int .i64 0),.seq 2 []] [] 0),ST 12 4 3 14] [0,2,3] (.seq (.s 0 [M 0 15 0] [2,3,15] (.cond 15 (.g 0 [FA 0 16 2 3,ST 1 1 16 (.i 20),FA 2 17 3 3,ST 3 1 17 (.c (.seq 2 []))] [2,3]) .skip)) (.s 0 [LK 0 18 4 3,ST 1 4 2 18] [2] .ret))))
def a59:AFunc:=⟨1,c59,[.cell 2 (some 4)]⟩
def c60:ACode :=
 (.s 0 [M 0 0 (.c (.seq 3 []))] [] (.s 0 [CL 0 1 61 [.i 0,.i 1,.i 0],CL 1 2 61 [.i 1,.i 0,.i 0],CL 2 3 61 [.i 2,.i 2,.i 0],q 3 4 (.lits 3 [.lit (.int .i64 0),.lit (.int .i64 0),.lit (.int .i64 0)] 3 [(0,1),(1,2),(2,3)] none),M 4 0 4] [0] .ret))
def a60:AFunc:=⟨0,c60,[.tmp 0]⟩
def c61:ACode :=
 (.s 1 [q 0 6 (.alloc [.lit (.int .i64 0),.lit (.int .i64 0),.lit (.int .i64 0)] [] 0)] [0,1,2,6] (.s 0 [M 0 7 0,M 1 8 1,M 2 9 2,q 3 10 (.build [.lit (.int .i64 0),.lit (.int .i64 0),.lit (.int .i64 0)] [(0,1,7),(1,1,8),(2,1,9)]),ST 4 3 6 10] [6] .ret))
def a61:AFunc:=⟨3,c61,[.cell 6 (some 3)]⟩
def c62:ACode :=
 (.s 1 [q 0 2 (.box 4 0 0),M 1 4 (.c (.lit (.pointer none))),M 2 5 (.i 0)] [1,2] (.s 0 [LK 0 11 4 2,CL 1 12 51 [11],M 2 10 12,EX 3 13 10 0,EX 4 14 10 1,M 5 6 13,M 6 7 14] [1,2,6,7] (.seq (.block 0 (.s 0 [M 0 16 7,B 1 17 .neq 16 (.i 0),M 2 15 17] [1,2,6,7,15] (.cond 15 (.s 0 [M 0 18 7,M 1 4 (.c (.lit (.pointer none))),M 2 5 18] [4,5] .ret) (.s 0 [M 0 20 1,LE 1 21 20,FA 2 22 1 2,L 3 23 22,LE 4 24 23,B 5 25 .neq 21 24,M 6 19 25] [1,6,19] (.cond 19 (.s 0 [M 0 4 (.c (.lit (.pointer none))),M 1 5 (.i 3)] [4,5] .ret) .skip))))) (.seq (.s 0 [M 0 26 1,LE 1 27 26,M 2 28 (.i 0)] [1,6,26,27,28] (.block 1 (.loop true [1,6,26,27,28] (.s 0 [B 0 29 .lss 28 27] [1,6,26,27,28,29] (.seq (.cond 29 .skip (.exit 1)) (.seq (.block 2 (.s 1 [M 0 30 28,IX 1 31 3 26 28,LK 2 32 3 31,q 3 9 (.alloc [.lit (.int .i64 0),.lit (.int .i64 0),.lit (.int .i64 0)] [] 0),M 4 8 30,ST 5 3 9 32] [1,6,8,9,26,27,28] (.s 0 [M 0 33 6,M 1 34 8,LK 2 35 3 9,CL 3 36 57 [33,34,35],M 4 7 36] [1,6,7,8,26,27,28] (.seq (.s 0 [M 0 37 7,B 1 38 .neq 37 (.i 4),M 2 39 38,G 3 40 39 true (.mv 1),G 4 41 39 true (.mv 8),G 5 42 39 true (.call (.f 102) [40,41] [[],[],[],[],[],[],[],[],[]] false),q 6 43 (.pick 39 42 (.b false))] [1,6,7,26,27,28,43] (.cond 43 (.g 0 [M 0 7 (.i 5)] [1,6,7,26,27,28]) .skip)) (.s 0 [M 0 44 7,B 1 45 .neq 44 (.i 0)] [1,6,7,26,27,28,45] (.cond 45 (.s 0 [M 0 46 7,M 1 4 (.c (.lit (.pointer none))),M 2 5 46] [4,5] .ret) .skip)))))) (.g 0 [B 0 47 .add 28 (.i 1),M 1 28 47] [1,6,26,27,28]))))))) (.s 0 [M 0 48 6,M 1 4 48,M
 2 5 (.i 0)] [4,5] .ret)))))
def a62:AFunc:=⟨2,c62,[.tmp 4,.tmp 5]⟩
def c63:ACode :=
 (.s 0 [M 0 6 (.i 0)] [0,1,2] (.s 0 [M 0 14 0,NK 1 15 14,FA 2 16 0 15,FA 3 17 2 16,L 4 18 17,M 5 7 18] [0,1,2,7] (.seq (.s 0 [M 0 19 0,NK 1 20 19,FA 2 21 0 20,FA 3 22 3 21,L 4 23 22,LE 5 24 23,M 6 25 (.i 0)] [0,1,2,7,23,24,25] (.block 0 (.loop true [0,1,2,7,23,24,25] (.s 0 [B 0 26 .lss 25 24] [0,1,2,7,23,24,25,26] (.seq (.cond 26 .skip (.exit 0)) (.seq (.block 1 (.s 1 [IX 0 27 2 23 25,LK 1 28 2 27,q 2 9 (.alloc [.lit (.int .i64 0),.lit (.int .i64 0)] [] 0),ST 3 2 9 28] [0,1,2,7,9,23,24,25] (.s 0 [FA 0 29 0 9,L 1 30 29,M 2 31 2,B 3 32 .leq 30 31] [0,1,2,7,9,23,24,25,32] (.cond 32 (.g 0 [M 0 33 7,FA 1 34 1 9,L 2 35 34,B 3 36 .add 33 35,M 4 7 36] [0,1,2,7,23,24,25]) .skip)))) (.g 0 [B 0 37 .add 25 (.i 1),M 1 25 37] [0,1,2,7,23,24,25]))))))) (.seq (.s 0 [M 0 38 1,LE 1 39 38,M 2 40 (.i 0)] [0,2,7,38,39,40] (.block 2 (.loop true [0,2,7,38,39,40] (.s 0 [B 0 41 .lss 40 39] [0,2,7,38,39,40,41] (.seq (.cond 41 .skip (.exit 2)) (.seq (.block 3 (.s 1 [M 0 42 40,IX 1 43 3 38 40,LK 2 44 3 43,q 3 11 (.alloc [.lit (.int .i64 0),.lit (.int .i64 0),.lit (.int .i64 0)] [] 0),M 4 10 42,ST 5 3 11 44] [0,2,7,10,11,38,39,40] (.s 0 [M 0 46 0,M 1 47 10,LK 2 48 3 11,CL 3 49 103 [46,47,48],M 4 45 49,EX 5 50 45 0,EX 6 51 45 1,M 7 12 50,M 8 13 51] [0,2,7,12,13,38,39,40] (.s 0 [M 0 52 13,M 1 53 2,B 2 54 .leq 52 53] [0,2,7,12,38,39,40,54] (.cond 54 (.g 0 [M 0 55 7,M 1 56 12,B 2 57 .sub 55 56,M 3 7 57] [0,2,7,38,39,40]) .skip))))) (.g 0 [B 0 58 .add 40 (.i 1),M 1 40 58] [0,2,7,38,39,40]))))))) (.s 0 [M 0 59
 7,M 1 6 59] [6] .ret)))))
def a63:AFunc:=⟨3,c63,[.tmp 6]⟩
def c66:ACode :=
 (.s 0 [M 0 4 (.i 0),M 1 5 (.i 0)] [0,1,4] (.s 0 [M 0 5 (.i 365)] [0,1,4,5] (.seq (.s 0 [M 0 11 1,LE 1 12 11,M 2 13 (.i 0)] [0,1,4,5,11,12,13] (.block 0 (.loop true [0,1,4,5,11,12,13] (.s 0 [B 0 14 .lss 13 12] [0,1,4,5,11,12,13,14] (.seq (.cond 14 .skip (.exit 0)) (.seq (.block 1 (.s 1 [M 0 15 13,IX 1 16 3 11 13,LK 2 17 3 16,q 3 7 (.alloc [.lit (.int .i64 0),.lit (.int .i64 0),.lit (.int .i64 0)] [] 0),M 4 6 15,ST 5 3 7 17] [0,1,4,5,6,7,11,12,13] (.s 0 [M 0 19 0,M 1 20 6,LK 2 21 3 7,CL 3 22 103 [19,20,21],M 4 18 22,EX 5 23 18 0,EX 6 24 18 1,M 7 8 23,M 8 9 24] [0,1,4,5,9,11,12,13] (.s 0 [M 0 25 0,M 1 26 1,M 2 27 9,q 3 28 (.call (.f 63) [25,26,27] [[],[],[],[],[],[],[],[],[]] false),M 4 10 28] [0,1,4,5,9,10,11,12,13] (.s 0 [M 0 29 10,B 1 30 .lss 29 (.i 0)] [0,1,4,5,9,10,11,12,13,30] (.cond 30 (.g 0 [M 0 31 4,M 1 32 10,q 2 33 (.un .neg 32),q 3 34 (.mm true [31,33]),M 4 35 5,M 5 36 9,q 6 37 (.mm false [35,36]),M 7 4 34,M 8 5 37] [0,1,4,5,11,12,13]) .skip)))))) (.g 0 [B 0 38 .add 13 (.i 1),M 1 13 38] [0,1,4,5,11,12,13]))))))) (.s 0 [M 0 39 4,M 1 40 5,M 2 4 39,M 3 5 40] [4,5] .ret))))
def a66:AFunc:=⟨2,c66,[.tmp 4,.tmp 5]⟩
def c68:ACode :=
 (.s 1 [q 0 5 (.box 1 2 0),M 1 6 (.b false)] [1,5] (.s 0 [M 0 7 1,q 1 8 (.mkfn (.func 105) [] [5]),CL 2 9 104 [7,8],M 3 6 9] [6] .ret))
def a68:AFunc:=⟨3,c68,[.tmp 6]⟩
def c69:ACode :=
 (.s 3 [q 0 3 (.box 1 1 0),q 1 4 (.alloc [.seq 3 [],.lit (.int .i64 0),.lit (.int .i64 0),.lit (.int .i64 0),.lit (.int .i64 0),.lit (.int .i64 0),.lit (.int .i64 0)] [] 1),q 2 5 (.alloc [.lit (.bool false)] [] 2)] [0,3,4,5] (.seq (.s 0 [M 0 7 0] [3,4,5,7] (.block 0 (.rangeFunc 7 [8] [3,4,5] (.g 1 [q 0 6 (.alloc [.seq 3 [],.lit (.int .i64 0),.lit (.int .i64 0),.lit (.int .i64 0),.lit (.int .i64 0),.lit (.int .i64 0),.lit (.int .i64 0)] [] 0),ST 1 7 6 8] [3,4,5,6]) (.block 1 (.s 0 [L 0 9 5,q 1 10 (.un .not 9),M 2 11 10,G 3 12 11 false (.load none 3),G 4 13 11 false (.load (some 7) 6),G 5 14 11 false (.load (some 7) 4),G 6 15 11 false (.call 12 [13,14] [] false),G 7 16 11 false (.bin .lss 15 (.i 0)),q 8 17 (.pick 11 (.b true) 16)] [4,5,6,17] (.cond 17 (.g 0 [LK 0 18 7 6,ST 1 7 4 18,ST 2 1 5 (.b true)] []) .skip)))))) (.sd 0 [LK 0 19 7 4,⟨none,.store 7 4 19,none,[],[(5,[])],0,2⟩,⟨some 20,.load none 5,none,[],[],1,1⟩,ST 3 1 5 20] [4,5] .ret)))
def a69:AFunc:=⟨2,c69,[.cell 4 (some 7),.cell 5 none]⟩
def c70:ACode :=
 (.s 1 [q 0 1 (.box 1 0 0),M 1 2 (.c (.lit .nilFunc))] [1] (.s 0 [q 0 3 (.mkfn (.func 106) [] [1]),M 1 2 3] [2] .ret))
def a70:AFunc:=⟨1,c70,[.tmp 2]⟩
def c71:ACode :=
 (.s 2 [q 0 2 (.box 7 0 0),q 1 3 (.box 7 1 1),M 2 4 (.i 0)] [2,3] (.s 0 [FA 0 5 1 2,L 1 6 5,FA 2 7 1 3,L 3 8 7,B 4 9 .sub 6 8,FA 5 10 2 2,L 6 11 10,FA 7 12 2 3,L 8 13 12,B 9 14 .sub 11 13,q 10 15 (.lits 1 [.lit (.int .i64 0)] 2 [(0,9),(1,14)] none),CL 11 16 72 [15],M 12 4 16] [4] .ret))
def a71:AFunc:=⟨2,c71,[.tmp 4]⟩
def c72:ACode :=
 (.s 0 [M 0 2 (.i 0)] [0] (.s 0 [M 0 3 (.i 0)] [0,3] (.seq (.s 0 [M 0 6 0,LE 1 7 6,M 2 8 (.i 0)] [3,6,7,8] (.block 0 (.loop true [3,6,7,8] (.s 0 [B 0 9 .lss 8 7] [3,6,7,8,9] (.seq (.cond 9 .skip (.exit 0)) (.seq (.block 1 (.s 0 [IX 0 10 1 6 8,L 1 11 10,M 2 5 11] [3,5,6,7,8] (.s 0 [M 0 12 5,M 1 13 3,B 2 14 .neq 12 13] [3,5,6,7,8,14] (.cond 14 (.s 0 [M 0 15 5,M 1 2 15] [2] .ret) .skip)))) (.g 0 [B 0 16 .add 8 (.i 1),M 1 8 16] [3,6,7,8]))))))) (.s 0 [M 0 17 3,M 1 2 17] [2] .ret))))
def a72:AFunc:=⟨1,c72,[.tmp 2]⟩
def c74:ACode :=
 (.s 2 [q 0 2 (.box 7 0 0),q 1 3 (.box 7 1 1),M 2 4 (.i 0)] [2,3] (.s 0 [FA 0 5 1 2,L 1 6 5,FA 2 7 1 3,L 3 8 7,B 4 9 .sub 6 8,M 5 4 9] [4] .ret))
def a74:AFunc:=⟨2,c74,[.tmp 4]⟩
def c75:ACode :=
 (.s 1 [q 0 1 (.box 1 0 0),M 1 2 (.c (.lit .nilFunc))] [1] (.s 0 [q 0 3 (.mkfn (.func 108) [] [1]),M 1 2 3] [2] .ret))
def a75:AFunc:=⟨1,c75,[.tmp 2]⟩
def c76:ACode :=
 (.s 2 [q 0 2 (.box 7 0 0),q 1 3 (.box 7 1 1),M 2 4 (.i 0)] [2,3] (.s 0 [FA 0 5 1 2,L 1 6 5,FA 2 7 1 3,L 3 8 7,B 4 9 .sub 6 8,FA 5 10 3 2,L 6 11 10,FA 7 12 3 3,L 8 13 12,B 9 14 .sub 11 13,q 10 15 (.lits 1 [.lit (.int .i64 0)] 2 [(0,9),(1,14)] none),CL 11 16 72 [15],M 12 4 16] [4] .ret))
def a76:AFunc:=⟨2,c76,[.tmp 4]⟩
def c78:ACode :=
 (.s 2 [q 0 3 (.box 4 0 0),q 1 5 (.box 3 2 1),M 2 6 (.i 0),M 3 7 (.i 0)] [1,3,5] (.seq (.block 0 (.s 0 [FA 0 9 0 5,L 1 10 9,B 2 11 .eql 10 (.i (-1)),M 3 8 11] [1,3,5,8] (.cond 8 (.s 0 [M 0 6 (.i 0),M 1 7 (.i 0)] [6,7] .ret) (.s 0 [FA 0 13 1 5,L 1 14 13,B 2 15 .eql 14 (.i 1),M 3 12 15] [1,3,5,12] (.cond 12 (.sd 0 [FA 0 16 0 3,L 1 17 16,FA 2 18 0 5,L 3 19 18,IX 4 20 8 17 19,LK 5 21 8 20,FA 6 22 2 5,L 7 23 22,CP 8 24 54 [21,23],FA 9 25 2 5,L 10 26 25,M 11 6 24,M 12 7 26] [6,7] .ret) (.s 0 [FA 0 28 1 5,L 1 29 28,B 2 30 .eql 29 (.i 2),M 3 27 30] [1,3,5,27] (.cond 27 (.sd 0 [FA 0 31 0 3,L 1 32 31,FA 2 33 0 5,L 3 34 33,IX 4 35 8 32 34,LK 5 36 8 35,FA 6 37 1 3,L 7 38 37,M 8 39 1,IX 9 40 4 38 39,LK 10 41 4 40,CP 11 42 56 [36,41],FA 12 43 1 3,L 13 44 43,M 14 45 1,IX 15 46 4 44 45,FA 16 47 1 46,L 17 48 47,M 18 6 42,M 19 7 48] [6,7] .ret) .skip))))))) (.s 0 [M 0 6 (.i 0),M 1 7 (.i 0)] [6,7] .ret)))
def a78:AFunc:=⟨3,c78,[.tmp 6,.tmp 7]⟩
def c79:ACode :=
 (.s 0 [M 0 4 (.i 0)] [0,1] (.seq (.s 0 [M 0 5 0,LE 1 6 5,B 2 7 .eql 6 (.i 0)] [0,1,7] (.cond 7 (.s 0 [M 0 4 (.i 0)] [4] .ret) .skip)) (.s 0 [M 0 8 0,M 1 9 1,M 2 10 0,LE 3 11 10,B 4 12 .rem 9 11,IX 5 13 1 8 12,L 6 14 13,q 7 15 (.conv .i64 14),M 8 4 15] [4] .ret)))
def a79:AFunc:=⟨2,c79,[.tmp 4]⟩
def c81:ACode :=
 (.s 0 [M 0 2 (.b false)] [0] (.seq (.s 1 [M 0 6 0,q 1 7 (.range 6 0)] [0,7] (.block 0 (.loop true [0,7] (.s 0 [q 0 8 (.next 7),EX 1 9 8 0] [0,7,8,9] (.seq (.cond 9 .skip (.exit 0)) (.block 1 (.s 0 [EX 0 10 8 1,EX 1 11 8 2,M 2 3 10,M 3 4 11] [0,3,4,7] (.s 0 [M 0 12 4,B 1 13 .leq (.c (.lit (.int .i32 97))) 12,M 2 14 13,G 3 15 14 true (.mv 4),G 4 16 14 true (.bin .leq 15 (.c (.lit (.int .i32 122)))),q 5 17 (.pick 14 16 (.b false)),M 6 5 17] [0,3,4,5,7] (.s 0 [M 0 18 5,q 1 19 (.un .not 18),M 2 20 19,G 3 21 20 true (.mv 3),G 4 22 20 true (.bin .eql 21 (.i 0)),G 5 23 20 true (.mv 22),G 6 24 23 false (.mv 4),G 7 25 23 false (.bin .neq 24 (.c (.lit (.int .i32 46)))),G 8 26 23 false (.mv 25),G 9 27 26 true (.mv 4),G 10 28 26 true (.bin .lss 27 (.c (.lit (.int .i32 48)))),G 11 29 26 true (.mv 28),G 12 30 29 false (.mv 4),G 13 31 29 false (.bin .gtr 30 (.c (.lit (.int .i32 57)))),G 14 32 26 true (.pick 29 (.b true) 31),G 15 33 23 false (.pick 26 32 (.b false)),G 16 34 20 true (.pick 23 (.b true) 33),q 17 35 (.pick 20 34 (.b false))] [0,7,35] (.cond 35 (.s 0 [M 0 2 (.b false)] [2] .ret) .skip)))))))))) (.s 0 [M 0 36 0,B 1 37 .neq 36 (.c (.lit (.string ⟨#[]⟩))),M 2 38 37,G 3 39 38 true (.mv 0),G 4 40 38 true (.lenS 39),G 5 41 38 true (.bin .leq 40 (.i 16)),q 6 42 (.pick 38 41 (.b false)),M 7 2 42] [2] .ret)))
def a81:AFunc:=⟨1,c81,[.tmp 2]⟩
def c82:ACode :=
 (.s 0 [M 0 4 (.b false)] [0,1] (.s 0 [M 0 5 0,M 1 6 1,CL 2 7 110 [5,6],B 3 8 .geq 7 (.i 0),M 4 4 8] [4] .ret))
def a82:AFunc:=⟨2,c82,[.tmp 4]⟩
def c83:ACode :=
 (.s 1 [q 0 4 (.box 8 0 0),M 1 5 (.b false)] [1,2,3,4] (.sd 0 [L 0 6 1,LK 1 7 8 4,q 2 8 (.call 6 [7] [] true),L 3 9 1,L 4 10 2,L 5 11 3,IX 6 12 8 10 11,LK 7 13 8 12,q 8 14 (.call 9 [13] [] false),B 9 15 .eql 8 14,M 10 5 15] [5] .ret))
def a83:AFunc:=⟨4,c83,[.tmp 5]⟩
def c84:ACode :=
 (.s 0 [M 0 4 (.b false)] [0,1] (.s 0 [M 0 5 0,M 1 6 1,CL 2 7 111 [5,6],B 3 8 .geq 7 (.i 0),M 4 4 8] [4] .ret))
def a84:AFunc:=⟨2,c84,[.tmp 4]⟩
def c85:ACode :=
 (.s 1 [q 0 4 (.box 4 0 0),M 1 5 (.b false)] [1,2,3,4] (.sd 0 [L 0 6 1,LK 1 7 4 4,q 2 8 (.call 6 [7] [] true),L 3 9 1,L 4 10 2,L 5 11 3,IX 6 12 4 10 11,LK 7 13 4 12,q 8 14 (.call 9 [13] [] false),B 9 15 .eql 8 14,M 10 5 15] [5] .ret))
def a85:AFunc:=⟨4,c85,[.tmp 5]⟩
def c86:ACode :=
 (.s 0 [M 0 4 (.b false)] [0,1] (.s 0 [M 0 5 0,M 1 6 1,CL 2 7 112 [5,6],B 3 8 .geq 7 (.i 0),M 4 4 8] [4] .ret))
def a86:AFunc:=⟨2,c86,[.tmp 4]⟩
def c87:ACode :=
 (.s 0 [M 0 4 (.b false)] [0,1,2] (.s 0 [M 0 5 0,L 1 6 1,B 2 7 .lss 5 6,M 3 8 7,G 4 9 8 false (.mv 0),G 5 10 8 false (.load none 2),G 6 11 8 false (.bin .gtr 9 10),q 7 12 (.pick 8 (.b true) 11),M 8 4 12] [4] .ret))
def a87:AFunc:=⟨3,c87,[.tmp 4]⟩
def c88:ACode :=
 (.s 0 [M 0 2 (.b false)] [0] (.seq (.s 0 [M 0 6 0,q 1 7 (.lenS 6),B 2 8 .eql 7 (.i 0),M 3 9 8,G 4 10 9 false (.mv 0),G 5 11 9 false (.lenS 10),G 6 12 9 false (.bin .gtr 11 (.i 16)),q 7 13 (.pick 9 (.b true) 12)] [0,13] (.cond 13 (.s 0 [M 0 2 (.b false)] [2] .ret) .skip)) (.seq (.s 0 [M 0 3 (.i 0)] [0,3] (.block 0 (.loop true [0,3] (.seq (.s 0 [M 0 14 3,M 1 15 0,q 2 16 (.lenS 15),B 3 17 .lss 14 16] [0,3,17] (.cond 17 .skip (.exit 0))) (.seq (.block 1 (.s 0 [M 0 20 0,M 1 21 3,q 2 22 (.idxStr 20 21),q 3 23 (.conv .i64 22),CL 4 24 113 [23,.i 97,.i 122],M 5 4 24] [0,3,4] (.s 0 [M 0 25 0,M 1 26 3,q 2 27 (.idxStr 25 26),q 3 28 (.conv .i64 27),CL 4 29 113 [28,.i 48,.i 57],M 5 30 29,G 6 31 30 false (.mv 0),G 7 32 30 false (.mv 3),G 8 33 30 false (.idxStr 31 32),G 9 34 30 false (.bin .eql 33 (.c (.lit (.int .u8 46)))),q 10 35 (.pick 30 (.b true) 34),M 11 5 35] [0,3,4,5] (.s 0 [M 0 36 4,q 1 37 (.un .not 36),M 2 38 37,G 3 39 38 true (.mv 3),G 4 40 38 true (.bin .eql 39 (.i 0)),G 5 41 38 true (.mv 40),G 6 42 41 false (.mv 5),G 7 43 41 false (.un .not 42),G 8 44 38 true (.pick 41 (.b true) 43),q 9 45 (.pick 38 44 (.b false))] [0,3,45] (.cond 45 (.s 0 [M 0 2 (.b false)] [2] .ret) .skip))))) (.g 0 [M 0 18 3,B 1 19 .add 18 (.i 1),M 2 3 19] [0,3])))))) (.s 0 [M 0 2 (.b true)] [2] .ret))))
def a88:AFunc:=⟨1,c88,[.tmp 2]⟩
def c89:ACode :=
 (.s 0 [M 0 4 (.i 0)] [0,1] (.seq (.s 0 [M 0 5 (.i 0)] [0,1,5] (.block 0 (.loop true [0,1,5] (.seq (.s 0 [M 0 6 5,M 1 7 0,LE 2 8 7,B 3 9 .lss 6 8] [0,1,5,9] (.cond 9 .skip (.exit 0))) (.seq (.block 1 (.s 0 [M 0 12 0,M 1 13 5,IX 2 14 1 12 13,L 3 15 14,M 4 16 1,B 5 17 .eql 15 16] [0,1,5,17] (.cond 17 (.s 0 [M 0 18 5,M 1 4 18] [4] .ret) .skip))) (.g 0 [M 0 10 5,B 1 11 .add 10 (.i 1),M 2 5 11] [0,1,5])))))) (.s 0 [M 0 4 (.i (-1))] [4] .ret)))
def a89:AFunc:=⟨2,c89,[.tmp 4]⟩
def c90:ACode :=
 (.s 2 [q 0 3 (.box 8 0 0),q 1 4 (.box 4 1 1),M 2 6 (.i 0)] [] (.s 0 [M 0 6 (.i 0)] [6] .ret))
def a90:AFunc:=⟨3,c90,[.tmp 6]⟩
def c91:ACode :=
 (.s 1 [q 0 2 (.box 4 0 0),M 1 4 (.i 0)] [] (.s 0 [M 0 4 (.i 0)] [4] .ret))
def a91:AFunc:=⟨2,c91,[.tmp 4]⟩
def c92:ACode :=
 (.s 2 [q 0 3 (.box 8 0 0),q 1 4 (.box 4 1 1),M 2 6 (.b false)] [2] (.s 0 [M 0 7 2,B 1 8 .eql 7 (.i 0),M 2 6 8] [6] .ret))
def a92:AFunc:=⟨3,c92,[.tmp 6]⟩
def c93:ACode :=
 (.s 1 [q 0 2 (.box 4 0 0),M 1 4 (.i 0)] [1] (.s 0 [M 0 5 1,M 1 4 5] [4] .ret))
def a93:AFunc:=⟨2,c93,[.tmp 4]⟩
def c94:ACode :=
 (.s 2 [q 0 3 (.box 8 0 0),q 1 4 (.box 4 1 1),M 2 6 (.b false)] [2,3,4] (.s 0 [M 0 7 2,FA 1 8 7 3,L 2 9 8,FA 3 10 1 4,L 4 11 10,q 5 12 (.mm false [9,11]),B 6 13 .leq 7 12,M 7 6 13] [6] .ret))
def a94:AFunc:=⟨3,c94,[.tmp 6]⟩
def c95:ACode :=
 (.s 1 [q 0 2 (.box 4 0 0),M 1 4 (.i 0)] [2] (.s 0 [FA 0 5 1 2,L 1 6 5,M 2 4 6] [4] .ret))
def a95:AFunc:=⟨2,c95,[.tmp 4]⟩
def c96:ACode :=
 (.s 2 [q 0 3 (.box 8 0 0),q 1 4 (.box 4 1 1),M 2 6 (.b false)] [3,4] (.s 0 [FA 0 7 2 4,L 1 8 7,FA 2 9 7 3,L 3 10 9,B 4 11 .leq 8 10,M 5 6 11] [6] .ret))
def a96:AFunc:=⟨3,c96,[.tmp 6]⟩
def c97:ACode :=
 (.s 0 [M 0 3 0,LE 1 4 3,M 2 2 4] [0,2] (.g 0 [M 0 5 0,M 1 6 2,M 2 7 2,q 3 8 (.conv .u64 7),CL 4 9 115 [8],q 5 10 (.call (.f 114) [5,.i 0,6,9] [[],[],[],[],[],[],[],[],[]] false)] []))
def a97:AFunc:=⟨1,c97,[]⟩
def c98:ACode :=
 (.s 1 [q 0 2 (.nil 1 0)] [0] (.seq (.s 0 [M 0 6 0,LE 1 7 6,B 2 8 .lss 7 (.i 2)] [0,8] (.cond 8 (.s 0 [M 0 9 0,M 1 2 9] [2] .ret) .skip)) (.seq (.s 0 [M 0 3 (.i 1)] [0,3] (.block 0 (.loop true [0,3] (.seq (.s 0 [M 0 10 3,M 1 11 0,LE 2 12 11,B 3 13 .lss 10 12] [0,3,13] (.cond 13 .skip (.exit 0))) (.seq (.block 1 (.sd 0 [M 0 16 0,M 1 17 3,IX 2 18 1 16 17,L 3 19 18,M 4 20 0,M 5 21 3,B 6 22 .sub 21 (.i 1),IX 7 23 1 20 22,L 8 24 23,B 9 25 .eql 19 24] [0,3,25] (.cond 25 (.s 0 [M 0 26 0,M 1 27 3,q 2 28 (.sub 1 26 (some 27) none),M 3 4 28] [0,3,4] (.seq (.s 0 [M 0 5 (.i 1)] [0,3,4,5] (.block 2 (.loop true [0,3,4,5] (.seq (.s 0 [M 0 29 5,M 1 30 4,LE 2 31 30,B 3 32 .lss 29 31] [0,3,4,5,32] (.cond 32 .skip (.exit 2))) (.seq (.block 3 (.sd 0 [M 0 35 4,M 1 36 5,IX 2 37 1 35 36,L 3 38 37,M 4 39 4,M 5 40 5,B 6 41 .sub 40 (.i 1),IX 7 42 1 39 41,L 8 43 42,B 9 44 .neq 38 43] [0,3,4,5,44] (.cond 44 (.s 0 [M 0 45 0,M 1 46 3,M 2 47 4,M 3 48 5,IX 4 49 1 47 48,L 5 50 49,IX 6 51 1 45 46,ST 7 1 51 50] [0,3,4,5] (.g 0 [M 0 52 3,B 1 53 .add 52 (.i 1),M 2 3 53] [0,3,4,5])) .skip))) (.g 0 [M 0 33 5,B 1 34 .add 33 (.i 1),M 2 5 34] [0,3,4,5])))))) (.s 0 [M 0 54 0,M 1 55 3,q 2 56 (.sub 1 54 (some 55) none),r 3 (.clear 1 [.lit (.int .i64 0)] 56)] [0,3] (.s 1 [M 0 57 0,M 1 58 3,q 2 59 (.cut 1 57 (some 58) 0),M 3 2 59] [2] .ret)))) .skip))) (.g 0 [M 0 14 3,B 1 15 .add 14 (.i 1),M 2 3 15] [0,3])))))) (.s 0 [M 0 60 0,M 1 2 60] [2] .ret))))
def a98:AFunc:=⟨1,c98,[.tmp 2]⟩
def c99:ACode :=
 (.s 1 [q 0 0 (.alloc [.lit (.int .i64 0),.lit (.int .i64 0),.lit (.int .i64 0)] [] 0)] [0] (.s 0 [q 0 1 (.build [.lit (.int .i64 0),.lit (.int .i64 0),.lit (.int .i64 0)] [(0,1,.i (-1))]),ST 1 3 0 1] [0] .ret))
def a99:AFunc:=⟨0,c99,[.cell 0 (some 3)]⟩
def c100:ACode :=
 (.s 2 [q 0 2 (.box 8 0 0),q 1 3 (.box 3 1 1),M 2 4 (.b false)] [2,3] (.seq (.s 0 [FA 0 5 2 2,L 1 6 5,q 2 7 (.un .not 6)] [3,7] (.cond 7 (.s 0 [FA 0 8 1 3,L 1 9 8,B 2 10 .eql 9 (.i 0),M 3 11 10,G 4 12 11 true (.fieldAddr 2 3),G 5 13 11 true (.load none 12),G 6 14 11 true (.bin .eql 13 (.i 0)),q 7 15 (.pick 11 14 (.b false)),M 8 4 15] [4] .ret) .skip)) (.s 0 [FA 0 16 1 3,L 1 17 16,B 2 18 .eql 17 (.i 2),M 3 19 18,G 4 20 19 true (.fieldAddr 2 3),G 5 21 19 true (.load none 20),G 6 22 19 true (.bin .eql 21 (.i 0)),q 7 23 (.pick 19 22 (.b false)),M 8 24 23,G 9 25 24 false (.fieldAddr 1 3),G 10 26 24 false (.load none 25),G 11 27 24 false (.bin .eql 26 (.i 1)),G 12 28 24 false (.mv 27),G 13 29 28 true (.fieldAddr 2 3),G 14 30 28 true (.load none 29),G 15 31 28 true (.call (.f 50) [30,.i 0,.i 364] [] false),G 16 32 24 false (.pick 28 31 (.b false)),q 17 33 (.pick 24 (.b true) 32),M 18 4 33] [4] .ret)))
def a100:AFunc:=⟨2,c100,[.tmp 4]⟩
def c101:ACode :=
 (.s 2 [q 0 2 (.box 8 0 0),q 1 3 (.box 4 1 1),M 2 4 (.b false)] [2,3] (.seq (.s 0 [M 0 5 (.i 1)] [2,3,5] (.block 0 (.loop true [2,3,5] (.seq (.s 0 [M 0 6 5,B 1 7 .leq 6 (.i 15)] [2,3,5,7] (.cond 7 .skip (.exit 0))) (.seq (.block 1 (.s 0 [FA 0 10 3 3,L 1 11 10,M 2 12 5,B 3 13 .quo 11 12,B 4 14 .rem 13 (.i 2),B 5 15 .eql 14 (.i 1),M 6 16 15,G 7 17 16 true (.fieldAddr 1 2),G 8 18 16 true (.load none 17),G 9 19 16 true (.mv 5),G 10 20 16 true (.bin .quo 18 19),G 11 21 16 true (.bin .rem 20 (.i 2)),G 12 22 16 true (.bin .eql 21 (.i 0)),q 13 23 (.pick 16 22 (.b false))] [2,3,5,23] (.cond 23 (.s 0 [M 0 4 (.b false)] [4] .ret) .skip))) (.g 0 [M 0 8 5,B 1 9 .mul (.i 2) 8,M 2 5 9] [2,3,5])))))) (.s 0 [M 0 4 (.b true)] [4] .ret)))
def a101:AFunc:=⟨2,c101,[.tmp 4]⟩
def c102:ACode :=
 (.s 2 [q 0 2 (.box 1 0 0),q 1 3 (.box 1 1 1),M 2 4 (.b false)] [2,3] (.s 0 [L 0 5 2,L 1 6 3,IX 2 7 3 5 6,FA 3 8 0 7,L 4 9 8,B 5 10 .neq 9 (.i (-1)),M 6 11 10,G 7 12 11 true (.load none 2),G 8 13 11 true (.load none 3),G 9 14 11 true (.sub 3 12 none (some 13)),G 10 15 11 true (.mkfn (.func 116) [] [2,3]),G 11 16 11 true (.call (.f 104) [14,15] [[],[],[],[],[],[],[],[],[]] false),q 12 17 (.pick 11 16 (.b false)),M 13 4 17] [4] .ret))
def a102:AFunc:=⟨2,c102,[.tmp 4]⟩
def c103:ACode :=
 (.s 1 [q 0 5 (.box 3 2 0),M 1 6 (.i 0),M 2 7 (.i 0)] [0,1,5] (.seq (.sd 0 [LK 0 9 3 5,CP 1 10 99 [],q 2 11 (.cmp false [0,0,0] 9 10)] [0,1,5,11] (.cond 11 (.s 0 [M 0 6 (.i 0),M 1 7 (.i 0)] [6,7] .ret) .skip)) (.sd 1 [M 0 12 0,FA 1 13 1 5,⟨some 14,.load none 13,none,[0],[],0,2⟩,NK 3 15 12,FA 4 16 4 15,q 5 17 (.idxA 3 3 16 14),⟨some 18,.load (some 3) 17,none,[0],[],0,6⟩,q 7 8 (.alloc [.lit .nilFunc,.lit .nilFunc,.lit .nilFunc] [] 0),ST 8 3 8 18] [0,1,5,8] (.sd 0 [FA 0 19 0 8,L 1 20 19,M 2 21 0,NK 3 22 21,FA 4 23 0 22,FA 5 24 0 23,L 6 25 24,FA 7 26 0 5,L 8 27 26,IX 9 28 8 25 27,LK 10 29 8 28,M 11 30 0,NK 12 31 30,FA 13 32 0 31,FA 14 33 1 32,L 15 34 33,M 16 35 1,IX 17 36 4 34 35,LK 18 37 4 36,FA 19 38 2 5,L 20 39 38,q 21 40 (.call 20 [29,37,39] [] true),FA 22 41 1 8,L 23 42 41,M 24 43 0,NK 25 44 43,FA 26 45 0 44,FA 27 46 1 45,L 28 47 46,M 29 48 1,IX 30 49 4 47 48,LK 31 50 4 49,FA 32 51 2 5,L 33 52 51,q 34 53 (.call 42 [50,52] [] false),M 35 6 40,M 36 7 53] [6,7] .ret))))
def a103:AFunc:=⟨3,c103,[.tmp 6,.tmp 7]⟩
def c104:ACode :=
 (.s 0 [M 0 4 (.b false)] [0,1] (.s 0 [M 0 5 0,M 1 6 1,q 2 7 (.call (.f 117) [5,6] [[],[],[],[],[],[],[],[],[]] false),B 3 8 .geq 7 (.i 0),M 4 4 8] [4] .ret))
def a104:AFunc:=⟨2,c104,[.tmp 4]⟩
def c105:ACode :=
 (.s 1 [q 0 2 (.box 3 0 0),M 1 3 (.b false)] [1,2] (.s 0 [FA 0 4 0 2,L 1 5 4,L 2 6 1,B 3 7 .eql 5 6,M 4 8 7,G 5 9 8 true (.fieldAddr 1 2),G 6 10 8 true (.load none 9),G 7 11 8 true (.bin .eql 10 (.i 1)),q 8 12 (.pick 8 11 (.b false)),M 9 3 12] [3] .ret))
def a105:AFunc:=⟨2,c105,[.tmp 3]⟩
def c106:ACode :=
 (.s 1 [q 0 2 (.box 1 0 0)] [1,2] (.scope (.seq .skip (.s 0 [L 0 4 1,CL 1 5 75 [4]] [2,5] (.block 0 (.rangeFunc 5 [6] [2] (.g 1 [q 0 3 (.alloc [.seq 3 [],.lit (.int .i64 0),.lit (.int .i64 0),.lit (.int .i64 0),.lit (.int .i64 0),.lit (.int .i64 0),.lit (.int .i64 0)] [] 0),ST 1 7 3 6] [2,3]) (.block 1 (.seq (.s 0 [FA 0 7 3 3,L 1 8 7,B 2 9 .gtr 8 (.i 0)] [2,3,9] (.cond 9 (.exit 1) .skip)) (.s 0 [L 0 10 2,LK 1 11 7 3,q 2 12 (.call 10 [11] [] false),q 3 13 (.un .not 12)] [13] (.cond 13 .ret .skip))))))))))
def a106:AFunc:=⟨2,c106,[]⟩
def c108:ACode :=
 (.s 1 [q 0 2 (.box 1 0 0)] [1,2] (.s 0 [L 0 9 1,CL 1 10 109 [9]] [1,2,10] (.block 0 (.rangeFunc 10 [11] [1,2] (.g 0 [M 0 3 11] [1,2,3]) (.block 1 (.s 3 [M 0 12 3,LE 1 13 12,q 2 14 (.mkslice 3 24 [.lit (.int .i64 0),.lit (.int .i64 0),.lit (.int .i64 0)] 13 13 0),q 3 15 (.build [.seq 3 [],.lit (.int .i64 0),.lit (.int .i64 0),.lit (.int .i64 0),.lit (.int .i64 0),.lit (.int .i64 0),.lit (.int .i64 0)] [(0,1,14)]),q 4 4 (.alloc [.nils 3,.lit (.int .i64 0),.lit (.int .i64 0),.lit (.int .i64 0),.lit (.int .i64 0),.lit (.int .i64 0),.lit (.int .i64 0)] [(0,1,3)] 2),ST 5 7 4 15] [1,2,3,4] (.s 0 [FA 0 16 0 4,L 1 17 16,M 2 18 3,q 3 19 (.copy 3 17 18)] [1,2,3,4] (.seq (.s 0 [M 0 20 3,LE 1 21 20,M 2 22 (.i 0)] [1,2,3,4,20,21,22] (.block 2 (.loop true [1,2,3,4,20,21,22] (.s 0 [B 0 23 .lss 22 21] [1,2,3,4,20,21,22,23] (.seq (.cond 23 .skip (.exit 2)) (.seq (.block 3 (.s 1 [M 0 24 22,IX 1 25 3 20 22,LK 2 26 3 25,q 3 6 (.alloc [.lit (.int .i64 0),.lit (.int .i64 0),.lit (.int .i64 0)] [] 0),M 4 5 24,ST 5 3 6 26] [1,2,3,4,5,6,20,21,22] (.s 0 [L 0 28 1,M 1 29 5,LK 2 30 3 6,CL 3 31 103 [28,29,30],M 4 27 31,EX 5 32 27 0,EX 6 33 27 1,M 7 7 32,M 8 8 33] [1,2,3,4,5,6,7,20,21,22] (.s 0 [FA 0 34 2 4,L 1 35 34,M 2 36 7,B 3 37 .add 35 36,FA 4 38 2 4,ST 5 1 38 37] [1,2,3,4,5,6,20,21,22] (.s 0 [M 0 39 5,FA 1 40 0 6,L 2 41 40,B 3 42 .add 41 (.i 1),FA 4 43 4 4,q 5 44 (.idxA 1 3 43 39),ST 6 1 44 42] [1,2,3,4,6,20,21,22] (.sd 0 [LK 0 45 3 6,CP 1 46 99 [],q 2 47 (.cmp false [0,0,0] 45 46)]
 [1,2,3,4,20,21,22,47] (.cond 47 (.g 0 [FA 0 48 1 4,L 1 49 48,B 2 50 .add 49 (.i 1),FA 3 51 1 4,ST 4 1 51 50] [1,2,3,4,20,21,22]) .skip))))))) (.g 0 [B 0 52 .add 22 (.i 1),M 1 22 52] [1,2,3,4,20,21,22]))))))) (.s 0 [L 0 54 1,M 1 55 3,q 2 56 (.call (.f 66) [54,55] [[],[],[],[],[],[],[],[],[]] false),M 3 53 56,EX 4 57 53 0,EX 5 58 53 1,FA 6 59 3 4,ST 7 1 59 57] [2,4] (.s 0 [L 0 60 2,LK 1 61 7 4,q 2 62 (.call 60 [61] [] false),q 3 63 (.un .not 62)] [63] (.cond 63 .ret .skip)))))))))))
def a108:AFunc:=⟨2,c108,[]⟩
def c109:ACode :=
 (.s 1 [q 0 1 (.box 1 0 0),M 1 2 (.c (.lit .nilFunc))] [1] (.s 0 [q 0 3 (.mkfn (.func 119) [] [1]),M 1 2 3] [2] .ret))
def a109:AFunc:=⟨1,c109,[.tmp 2]⟩
def c110:ACode :=
 (.s 0 [M 0 4 (.i 0)] [0,1] (.seq (.s 0 [M 0 6 0,LE 1 7 6,M 2 8 (.i 0)] [0,1,7,8] (.block 0 (.loop true [0,1,7,8] (.s 0 [B 0 9 .lss 8 7] [0,1,7,8,9] (.seq (.cond 9 .skip (.exit 0)) (.seq (.block 1 (.s 0 [M 0 10 8,M 1 5 10] [0,1,5,7,8] (.s 0 [M 0 11 1,M 1 12 0,M 2 13 5,IX 3 14 8 12 13,LK 4 15 8 14,q 5 16 (.call 11 [15] [] false)] [0,1,5,7,8,16] (.cond 16 (.s 0 [M 0 17 5,M 1 4 17] [4] .ret) .skip)))) (.g 0 [B 0 18 .add 8 (.i 1),M 1 8 18] [0,1,7,8]))))))) (.s 0 [M 0 4 (.i (-1))] [4] .ret)))
def a110:AFunc:=⟨2,c110,[.tmp 4]⟩
def c111:ACode :=
 (.s 0 [M 0 4 (.i 0)] [0,1] (.seq (.s 0 [M 0 6 0,LE 1 7 6,M 2 8 (.i 0)] [0,1,7,8] (.block 0 (.loop true [0,1,7,8] (.s 0 [B 0 9 .lss 8 7] [0,1,7,8,9] (.seq (.cond 9 .skip (.exit 0)) (.seq (.block 1 (.s 0 [M 0 10 8,M 1 5 10] [0,1,5,7,8] (.s 0 [M 0 11 1,M 1 12 0,M 2 13 5,IX 3 14 4 12 13,LK 4 15 4 14,q 5 16 (.call 11 [15] [] false)] [0,1,5,7,8,16] (.cond 16 (.s 0 [M 0 17 5,M 1 4 17] [4] .ret) .skip)))) (.g 0 [B 0 18 .add 8 (.i 1),M 1 8 18] [0,1,7,8]))))))) (.s 0 [M 0 4 (.i (-1))] [4] .ret)))
def a111:AFunc:=⟨2,c111,[.tmp 4]⟩
def c112:ACode :=
 (.s 0 [M 0 4 (.i 0)] [0,1] (.seq (.s 0 [M 0 6 0,LE 1 7 6,M 2 8 (.i 0)] [0,1,7,8] (.block 0 (.loop true [0,1,7,8] (.s 0 [B 0 9 .lss 8 7] [0,1,7,8,9] (.seq (.cond 9 .skip (.exit 0)) (.seq (.block 1 (.s 0 [M 0 10 8,M 1 5 10] [0,1,5,7,8] (.s 0 [M 0 11 1,M 1 12 0,M 2 13 5,IX 3 14 1 12 13,L 4 15 14,q 5 16 (.call 11 [15] [] false)] [0,1,5,7,8,16] (.cond 16 (.s 0 [M 0 17 5,M 1 4 17] [4] .ret) .skip)))) (.g 0 [B 0 18 .add 8 (.i 1),M 1 8 18] [0,1,7,8]))))))) (.s 0 [M 0 4 (.i (-1))] [4] .ret)))
def a112:AFunc:=⟨2,c112,[.tmp 4]⟩
def c113:ACode :=
 (.s 0 [M 0 6 (.b false)] [0,1,2] (.s 0 [M 0 7 0,M 1 8 1,B 2 9 .geq 7 8,M 3 10 9,G 4 11 10 true (.mv 0),G 5 12 10 true (.mv 2),G 6 13 10 true (.bin .leq 11 12),q 7 14 (.pick 10 13 (.b false)),M 8 6 14] [6] .ret))
def a113:AFunc:=⟨3,c113,[.tmp 6]⟩
def c114:ACode :=
 (.s 0 [M 0 8 (.b true)] [0,1,2,3,8] (.s 0 [M 0 9 (.b true)] [0,1,2,3,8,9] (.block 0 (.loop true [0,1,2,3,8,9] (.block 1 (.s 0 [M 0 19 2,M 1 20 1,B 2 21 .sub 19 20,M 3 10 21] [0,1,2,3,8,9,10] (.seq (.s 0 [M 0 22 10,B 1 23 .leq 22 (.i 12)] [0,1,2,3,8,9,10,23] (.cond 23 (.s 0 [M 0 24 0,M 1 25 1,M 2 26 2,q 3 27 (.call (.f 121) [24,25,26] [[],[],[],[],[],[],[],[],[]] false)] [] .ret) .skip)) (.seq (.s 0 [M 0 28 3,B 1 29 .eql 28 (.i 0)] [0,1,2,3,8,9,10,29] (.cond 29 (.s 0 [M 0 30 0,M 1 31 1,M 2 32 2,CL 3 33 122 [30,31,32]] [] .ret) .skip)) (.seq (.s 0 [M 0 34 8,q 1 35 (.un .not 34)] [0,1,2,3,8,9,10,35] (.cond 35 (.s 0 [M 0 36 0,M 1 37 1,M 2 38 2,CL 3 39 123 [36,37,38]] [0,1,2,3,8,9,10] (.g 0 [M 0 40 3,B 1 41 .sub 40 (.i 1),M 2 3 41] [0,1,2,3,8,9,10])) .skip)) (.s 0 [M 0 43 0,M 1 44 1,M 2 45 2,CL 3 46 124 [43,44,45],M 4 42 46,EX 5 47 42 0,EX 6 48 42 1,M 7 11 47,M 8 12 48] [0,1,2,3,8,9,10,11,12] (.seq (.s 0 [M 0 49 12,B 1 50 .eql 49 (.i 2)] [0,1,2,3,8,9,10,11,12,50] (.cond 50 (.s 0 [M 0 51 0,M 1 52 1,M 2 53 2,CL 3 54 125 [51,52,53]] [0,1,2,3,8,9,10,11] (.s 0 [M 0 55 2,B 1 56 .sub 55 (.i 1),M 2 57 11,M 3 58 1,B 4 59 .sub 57 58,B 5 60 .sub 56 59,M 6 11 60] [0,1,2,3,8,9,10,11] (.g 0 [M 0 12 (.i 1)] [0,1,2,3,8,9,10,11,12]))) .skip)) (.seq (.s 0 [M 0 61 8,M 1 62 61,G 2 63 62 true (.mv 9),q 3 64 (.pick 62 63 (.b false)),M 4 65 64,G 5 66 65 true (.mv 12),G 6 67 65 true (.bin .eql 66 (.i 1)),q 7 68 (.pick 65 67 (.b false))] [0,1,2,3,8,9,10,11,68] (.cond 68 (.s 0 [M 0 69 0,M 1 70 1,M 2 71
 2,CL 3 72 126 [69,70,71]] [0,1,2,3,8,9,10,11,72] (.cond 72 .ret .skip)) .skip)) (.seq (.sd 0 [M 0 73 1,B 1 74 .gtr 73 (.i 0),M 2 75 74,G 3 76 75 true (.mv 0),G 4 77 75 true (.mv 1),G 5 78 75 true (.bin .sub 77 (.i 1)),G 6 79 75 true (.idxS 1 76 78),G 7 80 75 true (.load none 79),G 8 81 75 true (.mv 0),G 9 82 75 true (.mv 11),G 10 83 75 true (.idxS 1 81 82),G 11 84 75 true (.load none 83),G 12 85 75 true (.call (.f 127) [80,84] [] false),G 13 86 75 true (.un .not 85),q 14 87 (.pick 75 86 (.b false))] [0,1,2,3,8,9,10,11,87] (.cond 87 (.s 0 [M 0 88 0,M 1 89 1,M 2 90 2,M 3 91 11,CL 4 92 128 [88,89,90,91],M 5 13 92] [0,2,3,8,9,13] (.s 0 [M 0 93 13,M 1 1 93] [0,1,2,3,8,9] (.exit 1))) .skip)) (.s 0 [M 0 95 0,M 1 96 1,M 2 97 2,M 3 98 11,CL 4 99 129 [95,96,97,98],M 5 94 99,EX 6 100 94 0,EX 7 101 94 1,M 8 14 100,M 9 15 101] [0,1,2,3,10,14,15] (.s 0 [M 0 102 15,M 1 9 102] [0,1,2,3,9,10,14] (.s 0 [M 0 103 14,M 1 104 1,B 2 105 .sub 103 104,M 3 106 2,M 4 107 14,B 5 108 .sub 106 107,M 6 16 105,M 7 17 108] [0,1,2,3,9,10,14,16,17] (.s 0 [M 0 109 10,B 1 110 .quo 109 (.i 8),M 2 18 110] [0,1,2,3,9,14,16,17,18] (.s 0 [M 0 111 16,M 1 112 17,B 2 113 .lss 111 112] [0,1,2,3,9,14,16,17,18,113] (.cond 113 (.s 0 [M 0 114 16,M 1 115 18,B 2 116 .geq 114 115,M 3 8 116] [0,1,2,3,8,9,14] (.s 0 [M 0 117 0,M 1 118 1,M 2 119 14,M 3 120 3,CL 4 121 114 [117,118,119,120]] [0,2,3,8,9,14] (.g 0 [M 0 122 14,B 1 123 .add 122 (.i 1),M 2 1 123] [0,1,2,3,8,9]))) (.s 0 [M 0 124 17,M 1 125 18,B 2 126 .geq 124 125,M 3 8
 126] [0,1,2,3,8,9,14] (.s 0 [M 0 127 0,M 1 128 14,B 2 129 .add 128 (.i 1),M 3 130 2,M 4 131 3,CL 5 132 114 [127,129,130,131]] [0,1,3,8,9,14] (.g 0 [M 0 133 14,M 1 2 133] [0,1,2,3,8,9]))))))))))))))))))))))
def a114:AFunc:=⟨4,c114,[]⟩
def c115:ACode :=
 (.s 0 [M 0 2 (.i 0)] [0] (.seq (.cond (.b false) (.s 0 [M 0 3 0,q 1 4 (.conv .u32 3),CL 2 5 130 [4],M 3 2 5] [2] .ret) .skip) (.s 0 [M 0 6 0,CL 1 7 131 [6],M 2 2 7] [2] .ret)))
def a115:AFunc:=⟨1,c115,[.tmp 2]⟩
def c116:ACode :=
 (.s 1 [q 0 3 (.box 3 0 0),M 1 4 (.b false)] [1,2,3] (.sd 0 [FA 0 5 0 3,L 1 6 5,L 2 7 1,L 3 8 2,IX 4 9 3 7 8,FA 5 10 0 9,L 6 11 10,B 7 12 .eql 6 11,M 8 4 12] [4] .ret))
def a116:AFunc:=⟨3,c116,[.tmp 4]⟩
def c117:ACode :=
 (.s 0 [M 0 4 (.i 0)] [0,1] (.seq (.s 0 [M 0 6 0,LE 1 7 6,M 2 8 (.i 0)] [0,1,7,8] (.block 0 (.loop true [0,1,7,8] (.s 0 [B 0 9 .lss 8 7] [0,1,7,8,9] (.seq (.cond 9 .skip (.exit 0)) (.seq (.block 1 (.s 0 [M 0 10 8,M 1 5 10] [0,1,5,7,8] (.s 0 [M 0 11 1,M 1 12 0,M 2 13 5,IX 3 14 3 12 13,LK 4 15 3 14,q 5 16 (.call 11 [15] [] false)] [0,1,5,7,8,16] (.cond 16 (.s 0 [M 0 17 5,M 1 4 17] [4] .ret) .skip)))) (.g 0 [B 0 18 .add 8 (.i 1),M 1 8 18] [0,1,7,8]))))))) (.s 0 [M 0 4 (.i (-1))] [4] .ret)))
def a117:AFunc:=⟨2,c117,[.tmp 4]⟩
def c119:ACode :=
 (.s 1 [q 0 2 (.box 1 0 0)] [1,2] (.s 3 [L 0 5 1,NK 1 6 5,FA 2 7 0 6,FA 3 8 1 7,L 4 9 8,LE 5 10 9,q 6 11 (.mkslice 3 24 [.lit (.int .i64 0),.lit (.int .i64 0),.lit (.int .i64 0)] 10 10 0),q 7 3 (.alloc [.nils 3] [(0,1,3)] 2),ST 8 1 3 11] [1,2,3] (.s 1 [q 0 4 (.alloc [.lit .nilFunc] [] 0)] [1,2,3,4] (.s 0 [q 0 12 (.mkfn (.func 120) [] [3,2,1,4]),ST 1 1 4 12] [4] (.g 0 [L 0 13 4,q 1 14 (.call 13 [.i 0] [] false)] [])))))
def a119:AFunc:=⟨2,c119,[]⟩
def c120:ACode :=
 (.s 0 [M 0 6 (.b false)] [0,1,2,3,4] (.seq (.s 0 [M 0 9 0,L 1 10 1,LE 2 11 10,B 3 12 .eql 9 11] [0,1,2,3,4,12] (.cond 12 (.s 0 [L 0 13 2,L 1 14 1,q 2 15 (.call 13 [14] [[],[],[],[],[],[],[],[],[]] false),M 3 6 15] [6] .ret) .skip)) (.seq (.sd 0 [L 0 16 3,NK 1 17 16,FA 2 18 0 17,FA 3 19 0 18,L 4 20 19,LE 5 21 20,B 6 22 .mul 21 (.i 3),L 7 23 3,NK 8 24 23,FA 9 25 13 24,L 10 26 25,LE 11 27 26,B 12 28 .mul 22 27,M 13 29 (.i 0)] [0,1,3,4,28,29] (.block 0 (.loop true [0,1,3,4,28,29] (.s 0 [B 0 30 .lss 29 28] [0,1,3,4,28,29,30] (.seq (.cond 30 .skip (.exit 0)) (.seq (.block 1 (.s 0 [M 0 31 29,M 1 7 31] [0,1,3,4,7,28,29] (.sd 1 [M 0 32 7,⟨some 33,.load none 3,none,[0],[],0,1⟩,NK 2 34 33,FA 3 35 13 34,⟨some 36,.load none 35,none,[0],[],0,4⟩,⟨some 37,.lenL 36,none,[0],[],0,5⟩,B 6 38 .quo 32 37,B 7 39 .quo 38 (.i 3),M 8 40 7,⟨some 41,.load none 3,none,[0],[],0,9⟩,NK 10 42 41,FA 11 43 13 42,⟨some 44,.load none 43,none,[0],[],0,12⟩,⟨some 45,.lenL 44,none,[0],[],0,13⟩,B 14 46 .quo 40 45,B 15 47 .rem 46 (.i 3),⟨some 48,.load none 3,none,[0],[],0,16⟩,NK 17 49 48,FA 18 50 13 49,⟨some 51,.load none 50,none,[0],[],0,19⟩,M 20 52 7,⟨some 53,.load none 3,none,[0],[],0,21⟩,NK 22 54 53,FA 23 55 13 54,⟨some 56,.load none 55,none,[0],[],0,24⟩,⟨some 57,.lenL 56,none,[0],[],0,25⟩,B 26 58 .rem 52 57,⟨some 59,.idxS 1 51 58,none,[0],[],0,27⟩,⟨some 60,.load none 59,none,[0],[],0,28⟩,q 29 61 (.build [.lit (.int .i64 0),.lit (.int .i64 0),.lit (.int .i64 0)] [(0,1,39),(1,1,47),(2,1,60)]),q 30 8 (.alloc [.lit
 (.int .i64 0),.lit (.int .i64 0),.lit (.int .i64 0)] [] 0),ST 31 3 8 61] [0,1,3,4,8,28,29] (.seq (.s 0 [L 0 62 1,M 1 63 0,LK 2 64 3 8,IX 3 65 3 62 63,ST 4 3 65 64] [0,1,3,4,8,28,29] (.s 0 [L 0 66 3,M 1 67 0,LK 2 68 3 8,CL 3 69 57 [66,67,68],B 4 70 .neq 69 (.i 0),M 5 71 70,G 6 72 71 false (.load none 1),G 7 73 71 false (.mv 0),G 8 74 71 false (.call (.f 102) [72,73] [[],[],[],[],[],[],[],[],[]] false),q 9 75 (.pick 71 (.b true) 74)] [0,1,3,4,28,29,75] (.cond 75 (.exit 1) .skip))) (.s 0 [L 0 76 4,M 1 77 0,B 2 78 .add 77 (.i 1),q 3 79 (.call 76 [78] [[],[],[],[],[],[],[],[],[]] false),q 4 80 (.un .not 79)] [0,1,3,4,28,29,80] (.cond 80 (.s 0 [M 0 6 (.b false)] [6] .ret) .skip)))))) (.g 0 [B 0 81 .add 29 (.i 1),M 1 29 81] [0,1,3,4,28,29]))))))) (.sd 0 [L 0 82 1,M 1 83 0,CP 2 84 99 [],IX 3 85 3 82 83,ST 4 3 85 84] [0,4] (.s 0 [L 0 86 4,M 1 87 0,B 2 88 .add 87 (.i 1),q 3 89 (.call 86 [88] [[],[],[],[],[],[],[],[],[]] false),M 4 6 89] [6] .ret)))))
def a120:AFunc:=⟨5,c120,[.tmp 6]⟩
def c121:ACode :=
 (.s 0 [M 0 8 1,B 1 9 .add 8 (.i 1),M 2 6 9] [0,1,2,6] (.block 0 (.loop true [0,1,2,6] (.seq (.s 0 [M 0 10 6,M 1 11 2,B 2 12 .lss 10 11] [0,1,2,6,12] (.cond 12 .skip (.exit 0))) (.seq (.block 1 (.s 0 [M 0 15 6,M 1 7 15] [0,1,2,6,7] (.block 2 (.loop true [0,1,2,6,7] (.seq (.sd 0 [M 0 16 7,M 1 17 1,B 2 18 .gtr 16 17,M 3 19 18,G 4 20 19 true (.mv 0),G 5 21 19 true (.mv 7),G 6 22 19 true (.idxS 1 20 21),G 7 23 19 true (.load none 22),G 8 24 19 true (.mv 0),G 9 25 19 true (.mv 7),G 10 26 19 true (.bin .sub 25 (.i 1)),G 11 27 19 true (.idxS 1 24 26),G 12 28 19 true (.load none 27),G 13 29 19 true (.call (.f 127) [23,28] [] false),q 14 30 (.pick 19 29 (.b false))] [0,1,2,6,7,30] (.cond 30 .skip (.exit 2))) (.seq (.block 3 (.gd 0 [M 0 33 0,M 1 34 7,M 5 38 0,M 6 39 7,B 7 40 .sub 39 (.i 1),IX 8 41 1 38 40,L 9 42 41,M 10 43 0,M 11 44 7,IX 12 45 1 43 44,L 13 46 45,IX 14 47 1 33 34,ST 15 1 47 42,M 2 35 0,M 3 36 7,B 4 37 .sub 36 (.i 1),IX 16 48 1 35 37,ST 17 1 48 46] [0,1,2,6,7])) (.g 0 [M 0 31 7,B 1 32 .sub 31 (.i 1),M 2 7 32] [0,1,2,6,7]))))))) (.g 0 [M 0 13 6,B 1 14 .add 13 (.i 1),M 2 6 14] [0,1,2,6]))))))
def a121:AFunc:=⟨3,c121,[]⟩
def c122:ACode :=
 (.s 0 [M 0 11 1,M 1 6 11] [0,1,2,6] (.s 0 [M 0 7 (.i 0)] [0,1,2,6,7] (.s 0 [M 0 12 2,M 1 13 1,B 2 14 .sub 12 13,M 3 8 14] [0,6,7,8] (.seq (.s 0 [M 0 15 8,B 1 16 .sub 15 (.i 1),B 2 17 .quo 16 (.i 2),M 3 9 17] [0,6,7,8,9] (.block 0 (.loop true [0,6,7,8,9] (.seq (.s 0 [M 0 18 9,B 1 19 .geq 18 (.i 0)] [0,6,7,8,9,19] (.cond 19 .skip (.exit 0))) (.seq (.block 1 (.g 0 [M 0 22 0,M 1 23 9,M 2 24 8,M 3 25 6,CL 4 26 132 [22,23,24,25]] [0,6,7,8,9])) (.g 0 [M 0 20 9,B 1 21 .sub 20 (.i 1),M 2 9 21] [0,6,7,8,9])))))) (.s 0 [M 0 27 8,B 1 28 .sub 27 (.i 1),M 2 10 28] [0,6,7,10] (.block 2 (.loop true [0,6,7,10] (.seq (.s 0 [M 0 29 10,B 1 30 .geq 29 (.i 0)] [0,6,7,10,30] (.cond 30 .skip (.exit 2))) (.seq (.block 3 (.sd 0 [M 0 33 0,M 1 34 6,M 6 39 0,M 7 40 6,M 8 41 10,B 9 42 .add 40 41,IX 10 43 1 39 42,L 11 44 43,M 12 45 0,M 13 46 6,IX 14 47 1 45 46,L 15 48 47,IX 16 49 1 33 34,ST 17 1 49 44,M 2 35 0,M 3 36 6,M 4 37 10,B 5 38 .add 36 37,IX 18 50 1 35 38,ST 19 1 50 48] [0,6,7,10] (.g 0 [M 0 51 0,M 1 52 7,M 2 53 10,M 3 54 6,CL 4 55 132 [51,52,53,54]] [0,6,7,10]))) (.g 0 [M 0 31 10,B 1 32 .sub 31 (.i 1),M 2 10 32] [0,6,7,10]))))))))))
def a122:AFunc:=⟨3,c122,[]⟩
def c123:ACode :=
 (.s 0 [M 0 11 2,M 1 12 1,B 2 13 .sub 11 12,M 3 6 13] [0,1,6] (.s 0 [M 0 14 6,B 1 15 .geq 14 (.i 8)] [0,1,6,15] (.cond 15 (.s 1 [M 0 16 6,q 1 17 (.conv .u64 16),q 2 7 (.alloc [.lit (.int .u64 0)] [] 0),ST 3 1 7 17] [0,1,6,7] (.s 0 [M 0 18 6,CL 1 19 133 [18],M 2 8 19] [0,1,6,7,8] (.s 0 [M 0 20 1,M 1 21 6,B 2 22 .quo 21 (.i 4),B 3 23 .mul 22 (.i 2),B 4 24 .add 20 23,B 5 25 .sub 24 (.i 1),M 6 9 25] [0,1,6,7,8,9] (.block 0 (.loop true [0,1,6,7,8,9] (.seq (.s 0 [M 0 26 9,M 1 27 1,M 2 28 6,B 3 29 .quo 28 (.i 4),B 4 30 .mul 29 (.i 2),B 5 31 .add 27 30,B 6 32 .add 31 (.i 1),B 7 33 .leq 26 32] [0,1,6,7,8,9,33] (.cond 33 .skip (.exit 0))) (.seq (.block 1 (.s 0 [CL 0 36 134 [7],M 1 37 8,B 2 38 .sub 37 (.c (.lit (.int .u64 1))),B 3 39 .and 36 38,q 4 40 (.conv .i64 39),M 5 10 40] [0,1,6,7,8,9,10] (.seq (.s 0 [M 0 41 10,M 1 42 6,B 2 43 .geq 41 42] [0,1,6,7,8,9,10,43] (.cond 43 (.g 0 [M 0 44 10,M 1 45 6,B 2 46 .sub 44 45,M 3 10 46] [0,1,6,7,8,9,10]) .skip)) (.gd 0 [M 0 47 0,M 1 48 9,M 6 53 0,M 7 54 1,M 8 55 10,B 9 56 .add 54 55,IX 10 57 1 53 56,L 11 58 57,M 12 59 0,M 13 60 9,IX 14 61 1 59 60,L 15 62 61,IX 16 63 1 47 48,ST 17 1 63 58,M 2 49 0,M 3 50 1,M 4 51 10,B 5 52 .add 50 51,IX 18 64 1 49 52,ST 19 1 64 62] [0,1,6,7,8,9])))) (.g 0 [M 0 34 9,B 1 35 .add 34 (.i 1),M 2 9 35] [0,1,6,7,8,9])))))))) .skip)))
def a123:AFunc:=⟨3,c123,[]⟩
def c124:ACode :=
 (.s 0 [M 0 6 (.i 0),M 1 7 (.i 0)] [0,1,2] (.s 0 [M 0 13 2,M 1 14 1,B 2 15 .sub 13 14,M 3 8 15] [0,1,8] (.s 1 [q 0 9 (.alloc [.lit (.int .i64 0)] [] 0)] [0,1,8,9] (.s 0 [M 0 16 1,M 1 17 8,B 2 18 .quo 17 (.i 4),B 3 19 .mul 18 (.i 1),B 4 20 .add 16 19,M 5 10 20] [0,1,8,9,10] (.s 0 [M 0 21 1,M 1 22 8,B 2 23 .quo 22 (.i 4),B 3 24 .mul 23 (.i 2),B 4 25 .add 21 24,M 5 11 25] [0,1,8,9,10,11] (.s 0 [M 0 26 1,M 1 27 8,B 2 28 .quo 27 (.i 4),B 3 29 .mul 28 (.i 3),B 4 30 .add 26 29,M 5 12 30] [0,8,9,10,11,12] (.seq (.s 0 [M 0 31 8,B 1 32 .geq 31 (.i 8)] [0,8,9,10,11,12,32] (.cond 32 (.seq (.s 0 [M 0 33 8,B 1 34 .geq 33 (.i 50)] [0,9,10,11,12,34] (.cond 34 (.s 0 [M 0 35 0,M 1 36 10,CL 2 37 135 [35,36,9],M 3 10 37] [0,9,10,11,12] (.s 0 [M 0 38 0,M 1 39 11,CL 2 40 135 [38,39,9],M 3 11 40] [0,9,10,11,12] (.g 0 [M 0 41 0,M 1 42 12,CL 2 43 135 [41,42,9],M 3 12 43] [0,9,10,11,12]))) .skip)) (.g 0 [M 0 44 0,M 1 45 10,M 2 46 11,M 3 47 12,CL 4 48 136 [44,45,46,47,9],M 5 11 48] [9,11])) .skip)) (.s 0 [L 0 49 9] [11,49] (.block 0 (.s 0 [B 0 52 .eql 49 (.i 0),M 1 51 52] [11,49,51] (.cond 51 (.s 0 [M 0 53 11,M 1 6 53,M 2 7 (.i 1)] [6,7] .ret) (.s 0 [B 0 55 .eql 49 (.i 12),M 1 54 55] [11,54] (.cond 54 (.s 0 [M 0 56 11,M 1 6 56,M 2 7 (.i 2)] [6,7] .ret) (.s 0 [M 0 50 11,M 1 6 50,M 2 7 (.i 0)] [6,7] .ret))))))))))))))
def a124:AFunc:=⟨3,c124,[.tmp 6,.tmp 7]⟩
def c125:ACode :=
 (.s 0 [M 0 8 1,M 1 6 8] [0,2,6] (.s 0 [M 0 9 2,B 1 10 .sub 9 (.i 1),M 2 7 10] [0,6,7] (.block 0 (.loop true [0,6,7] (.seq (.s 0 [M 0 11 6,M 1 12 7,B 2 13 .lss 11 12] [0,6,7,13] (.cond 13 .skip (.exit 0))) (.block 1 (.sd 0 [M 0 14 0,M 1 15 6,M 4 18 0,M 5 19 7,IX 6 20 1 18 19,L 7 21 20,M 8 22 0,M 9 23 6,IX 10 24 1 22 23,L 11 25 24,IX 12 26 1 14 15,ST 13 1 26 21,M 2 16 0,M 3 17 7,IX 14 27 1 16 17,ST 15 1 27 25] [0,6,7] (.s 0 [M 0 28 6,B 1 29 .add 28 (.i 1),M 2 6 29] [0,6,7] (.g 0 [M 0 30 7,B 1 31 .sub 30 (.i 1),M 2 7 31] [0,6,7])))))))))
def a125:AFunc:=⟨3,c125,[]⟩
def c126:ACode :=
 (.s 0 [M 0 6 (.b false)] [0,1,2] (.s 0 [M 0 11 1,B 1 12 .add 11 (.i 1),M 2 7 12] [0,1,2,7] (.seq (.s 0 [M 0 8 (.i 0)] [0,1,2,7,8] (.block 0 (.loop true [0,1,2,7,8] (.seq (.s 0 [M 0 13 8,B 1 14 .lss 13 (.i 5)] [0,1,2,7,8,14] (.cond 14 .skip (.exit 0))) (.seq (.block 1 (.seq (.block 2 (.loop true [0,1,2,7,8] (.seq (.sd 0 [M 0 17 7,M 1 18 2,B 2 19 .lss 17 18,M 3 20 19,G 4 21 20 true (.mv 0),G 5 22 20 true (.mv 7),G 6 23 20 true (.idxS 1 21 22),G 7 24 20 true (.load none 23),G 8 25 20 true (.mv 0),G 9 26 20 true (.mv 7),G 10 27 20 true (.bin .sub 26 (.i 1)),G 11 28 20 true (.idxS 1 25 27),G 12 29 20 true (.load none 28),G 13 30 20 true (.call (.f 127) [24,29] [] false),G 14 31 20 true (.un .not 30),q 15 32 (.pick 20 31 (.b false))] [0,1,2,7,8,32] (.cond 32 .skip (.exit 2))) (.block 3 (.g 0 [M 0 33 7,B 1 34 .add 33 (.i 1),M 2 7 34] [0,1,2,7,8]))))) (.seq (.s 0 [M 0 35 7,M 1 36 2,B 2 37 .eql 35 36] [0,1,2,7,8,37] (.cond 37 (.s 0 [M 0 6 (.b true)] [6] .ret) .skip)) (.seq (.s 0 [M 0 38 2,M 1 39 1,B 2 40 .sub 38 39,B 3 41 .lss 40 (.i 50)] [0,1,2,7,8,41] (.cond 41 (.s 0 [M 0 6 (.b false)] [6] .ret) .skip)) (.sd 0 [M 0 42 0,M 1 43 7,M 5 47 0,M 6 48 7,B 7 49 .sub 48 (.i 1),IX 8 50 1 47 49,L 9 51 50,M 10 52 0,M 11 53 7,IX 12 54 1 52 53,L 13 55 54,IX 14 56 1 42 43,ST 15 1 56 51,M 2 44 0,M 3 45 7,B 4 46 .sub 45 (.i 1),IX 16 57 1 44 46,ST 17 1 57 55] [0,1,2,7,8] (.seq (.s 0 [M 0 58 7,M 1 59 1,B 2 60 .sub 58 59,B 3 61 .geq 60 (.i 2)] [0,1,2,7,8,61] (.cond 61 (.s 0 [M 0 62 7,B 1 63 .sub 62 (.i
 1),M 2 9 63] [0,1,2,7,8,9] (.block 4 (.loop true [0,1,2,7,8,9] (.seq (.s 0 [M 0 64 9,B 1 65 .geq 64 (.i 1)] [0,1,2,7,8,9,65] (.cond 65 .skip (.exit 4))) (.seq (.block 5 (.seq (.sd 0 [M 0 68 0,M 1 69 9,IX 2 70 1 68 69,L 3 71 70,M 4 72 0,M 5 73 9,B 6 74 .sub 73 (.i 1),IX 7 75 1 72 74,L 8 76 75,CL 9 77 127 [71,76],q 10 78 (.un .not 77)] [0,1,2,7,8,9,78] (.cond 78 (.exit 4) .skip)) (.gd 0 [M 0 79 0,M 1 80 9,M 5 84 0,M 6 85 9,B 7 86 .sub 85 (.i 1),IX 8 87 1 84 86,L 9 88 87,M 10 89 0,M 11 90 9,IX 12 91 1 89 90,L 13 92 91,IX 14 93 1 79 80,ST 15 1 93 88,M 2 81 0,M 3 82 9,B 4 83 .sub 82 (.i 1),IX 16 94 1 81 83,ST 17 1 94 92] [0,1,2,7,8,9]))) (.g 0 [M 0 66 9,B 1 67 .sub 66 (.i 1),M 2 9 67] [0,1,2,7,8,9])))))) .skip)) (.s 0 [M 0 95 2,M 1 96 7,B 2 97 .sub 95 96,B 3 98 .geq 97 (.i 2)] [0,1,2,7,8,98] (.cond 98 (.s 0 [M 0 99 7,B 1 100 .add 99 (.i 1),M 2 10 100] [0,1,2,7,8,10] (.block 6 (.loop true [0,1,2,7,8,10] (.seq (.s 0 [M 0 101 10,M 1 102 2,B 2 103 .lss 101 102] [0,1,2,7,8,10,103] (.cond 103 .skip (.exit 6))) (.seq (.block 7 (.seq (.sd 0 [M 0 106 0,M 1 107 10,IX 2 108 1 106 107,L 3 109 108,M 4 110 0,M 5 111 10,B 6 112 .sub 111 (.i 1),IX 7 113 1 110 112,L 8 114 113,CL 9 115 127 [109,114],q 10 116 (.un .not 115)] [0,1,2,7,8,10,116] (.cond 116 (.exit 6) .skip)) (.gd 0 [M 0 117 0,M 1 118 10,M 5 122 0,M 6 123 10,B 7 124 .sub 123 (.i 1),IX 8 125 1 122 124,L 9 126 125,M 10 127 0,M 11 128 10,IX 12 129 1 127 128,L 13 130 129,IX 14 131 1 117 118,ST 15 1 131 126,M 2 119 0,M 3 120 10,B 4 121 .sub
 120 (.i 1),IX 16 132 1 119 121,ST 17 1 132 130] [0,1,2,7,8,10]))) (.g 0 [M 0 104 10,B 1 105 .add 104 (.i 1),M 2 10 105] [0,1,2,7,8,10])))))) .skip)))))))) (.g 0 [M 0 15 8,B 1 16 .add 15 (.i 1),M 2 8 16] [0,1,2,7,8])))))) (.s 0 [M 0 6 (.b false)] [6] .ret))))
def a126:AFunc:=⟨3,c126,[.tmp 6]⟩
def c127:ACode :=
 (.s 0 [M 0 4 (.b false)] [0,1] (.s 0 [M 0 5 0,CL 1 6 137 [5],M 2 7 6,G 3 8 7 true (.mv 1),G 4 9 7 true (.call (.f 137) [8] [] false),G 5 10 7 true (.un .not 9),q 6 11 (.pick 7 10 (.b false)),M 7 12 11,G 8 13 12 false (.mv 0),G 9 14 12 false (.mv 1),G 10 15 12 false (.bin .lss 13 14),q 11 16 (.pick 12 (.b true) 15),M 12 4 16] [4] .ret))
def a127:AFunc:=⟨2,c127,[.tmp 4]⟩
def c128:ACode :=
 (.s 0 [M 0 8 (.i 0)] [0,1,2,3] (.sd 0 [M 0 11 0,M 1 12 1,M 4 15 0,M 5 16 3,IX 6 17 1 15 16,L 7 18 17,M 8 19 0,M 9 20 1,IX 10 21 1 19 20,L 11 22 21,IX 12 23 1 11 12,ST 13 1 23 18,M 2 13 0,M 3 14 3,IX 14 24 1 13 14,ST 15 1 24 22] [0,1,2] (.s 0 [M 0 25 1,B 1 26 .add 25 (.i 1),M 2 27 2,B 3 28 .sub 27 (.i 1),M 4 9 26,M 5 10 28] [0,1,9,10] (.seq (.block 0 (.loop true [0,1,9,10] (.block 1 (.seq (.block 2 (.loop true [0,1,9,10] (.seq (.sd 0 [M 0 29 9,M 1 30 10,B 2 31 .leq 29 30,M 3 32 31,G 4 33 32 true (.mv 0),G 5 34 32 true (.mv 1),G 6 35 32 true (.idxS 1 33 34),G 7 36 32 true (.load none 35),G 8 37 32 true (.mv 0),G 9 38 32 true (.mv 9),G 10 39 32 true (.idxS 1 37 38),G 11 40 32 true (.load none 39),G 12 41 32 true (.call (.f 127) [36,40] [] false),G 13 42 32 true (.un .not 41),q 14 43 (.pick 32 42 (.b false))] [0,1,9,10,43] (.cond 43 .skip (.exit 2))) (.block 3 (.g 0 [M 0 44 9,B 1 45 .add 44 (.i 1),M 2 9 45] [0,1,9,10]))))) (.seq (.block 4 (.loop true [0,1,9,10] (.seq (.sd 0 [M 0 46 9,M 1 47 10,B 2 48 .leq 46 47,M 3 49 48,G 4 50 49 true (.mv 0),G 5 51 49 true (.mv 1),G 6 52 49 true (.idxS 1 50 51),G 7 53 49 true (.load none 52),G 8 54 49 true (.mv 0),G 9 55 49 true (.mv 10),G 10 56 49 true (.idxS 1 54 55),G 11 57 49 true (.load none 56),G 12 58 49 true (.call (.f 127) [53,57] [] false),q 13 59 (.pick 49 58 (.b false))] [0,1,9,10,59] (.cond 59 .skip (.exit 4))) (.block 5 (.g 0 [M 0 60 10,B 1 61 .sub 60 (.i 1),M 2 10 61] [0,1,9,10]))))) (.seq (.s 0 [M 0 62 9,M 1 63 10,B 2 64 .gtr 62
 63] [0,1,9,10,64] (.cond 64 (.exit 0) .skip)) (.sd 0 [M 0 65 0,M 1 66 9,M 4 69 0,M 5 70 10,IX 6 71 1 69 70,L 7 72 71,M 8 73 0,M 9 74 9,IX 10 75 1 73 74,L 11 76 75,IX 12 77 1 65 66,ST 13 1 77 72,M 2 67 0,M 3 68 10,IX 14 78 1 67 68,ST 15 1 78 76] [0,1,9,10] (.s 0 [M 0 79 9,B 1 80 .add 79 (.i 1),M 2 9 80] [0,1,9,10] (.g 0 [M 0 81 10,B 1 82 .sub 81 (.i 1),M 2 10 82] [0,1,9,10]))))))))) (.s 0 [M 0 83 9,M 1 8 83] [8] .ret)))))
def a128:AFunc:=⟨4,c128,[.tmp 8]⟩
def c129:ACode :=
 (.s 0 [M 0 8 (.i 0),M 1 9 (.b false)] [0,1,2,3] (.sd 0 [M 0 12 0,M 1 13 1,M 4 16 0,M 5 17 3,IX 6 18 1 16 17,L 7 19 18,M 8 20 0,M 9 21 1,IX 10 22 1 20 21,L 11 23 22,IX 12 24 1 12 13,ST 13 1 24 19,M 2 14 0,M 3 15 3,IX 14 25 1 14 15,ST 15 1 25 23] [0,1,2] (.s 0 [M 0 26 1,B 1 27 .add 26 (.i 1),M 2 28 2,B 3 29 .sub 28 (.i 1),M 4 10 27,M 5 11 29] [0,1,10,11] (.seq (.block 0 (.loop true [0,1,10,11] (.seq (.sd 0 [M 0 30 10,M 1 31 11,B 2 32 .leq 30 31,M 3 33 32,G 4 34 33 true (.mv 0),G 5 35 33 true (.mv 10),G 6 36 33 true (.idxS 1 34 35),G 7 37 33 true (.load none 36),G 8 38 33 true (.mv 0),G 9 39 33 true (.mv 1),G 10 40 33 true (.idxS 1 38 39),G 11 41 33 true (.load none 40),G 12 42 33 true (.call (.f 127) [37,41] [] false),q 13 43 (.pick 33 42 (.b false))] [0,1,10,11,43] (.cond 43 .skip (.exit 0))) (.block 1 (.g 0 [M 0 44 10,B 1 45 .add 44 (.i 1),M 2 10 45] [0,1,10,11]))))) (.seq (.block 2 (.loop true [0,1,10,11] (.seq (.sd 0 [M 0 46 10,M 1 47 11,B 2 48 .leq 46 47,M 3 49 48,G 4 50 49 true (.mv 0),G 5 51 49 true (.mv 11),G 6 52 49 true (.idxS 1 50 51),G 7 53 49 true (.load none 52),G 8 54 49 true (.mv 0),G 9 55 49 true (.mv 1),G 10 56 49 true (.idxS 1 54 55),G 11 57 49 true (.load none 56),G 12 58 49 true (.call (.f 127) [53,57] [] false),G 13 59 49 true (.un .not 58),q 14 60 (.pick 49 59 (.b false))] [0,1,10,11,60] (.cond 60 .skip (.exit 2))) (.block 3 (.g 0 [M 0 61 11,B 1 62 .sub 61 (.i 1),M 2 11 62] [0,1,10,11]))))) (.seq (.s 0 [M 0 63 10,M 1 64 11,B 2 65 .gtr 63 64]
 [0,1,10,11,65] (.cond 65 (.sd 0 [M 0 66 0,M 1 67 11,M 4 70 0,M 5 71 1,IX 6 72 1 70 71,L 7 73 72,M 8 74 0,M 9 75 11,IX 10 76 1 74 75,L 11 77 76,IX 12 78 1 66 67,ST 13 1 78 73,M 2 68 0,M 3 69 1,IX 14 79 1 68 69,ST 15 1 79 77] [11] (.s 0 [M 0 80 11,M 1 8 80,M 2 9 (.b true)] [8,9] .ret)) .skip)) (.sd 0 [M 0 81 0,M 1 82 10,M 4 85 0,M 5 86 11,IX 6 87 1 85 86,L 7 88 87,M 8 89 0,M 9 90 10,IX 10 91 1 89 90,L 11 92 91,IX 12 93 1 81 82,ST 13 1 93 88,M 2 83 0,M 3 84 11,IX 14 94 1 83 84,ST 15 1 94 92] [0,1,10,11] (.s 0 [M 0 95 10,B 1 96 .add 95 (.i 1),M 2 10 96] [0,1,10,11] (.s 0 [M 0 97 11,B 1 98 .sub 97 (.i 1),M 2 11 98] [0,1,10,11] (.seq (.block 4 (.loop true [0,1,10,11] (.block 5 (.seq (.block 6 (.loop true [0,1,10,11] (.seq (.sd 0 [M 0 99 10,M 1 100 11,B 2 101 .leq 99 100,M 3 102 101,G 4 103 102 true (.mv 0),G 5 104 102 true (.mv 10),G 6 105 102 true (.idxS 1 103 104),G 7 106 102 true (.load none 105),G 8 107 102 true (.mv 0),G 9 108 102 true (.mv 1),G 10 109 102 true (.idxS 1 107 108),G 11 110 102 true (.load none 109),G 12 111 102 true (.call (.f 127) [106,110] [] false),q 13 112 (.pick 102 111 (.b false))] [0,1,10,11,112] (.cond 112 .skip (.exit 6))) (.block 7 (.g 0 [M 0 113 10,B 1 114 .add 113 (.i 1),M 2 10 114] [0,1,10,11]))))) (.seq (.block 8 (.loop true [0,1,10,11] (.seq (.sd 0 [M 0 115 10,M 1 116 11,B 2 117 .leq 115 116,M 3 118 117,G 4 119 118 true (.mv 0),G 5 120 118 true (.mv 11),G 6 121 118 true (.idxS 1 119 120),G 7 122 118 true (.load none 121),G 8 123 118 true (.mv 0),G
 9 124 118 true (.mv 1),G 10 125 118 true (.idxS 1 123 124),G 11 126 118 true (.load none 125),G 12 127 118 true (.call (.f 127) [122,126] [] false),G 13 128 118 true (.un .not 127),q 14 129 (.pick 118 128 (.b false))] [0,1,10,11,129] (.cond 129 .skip (.exit 8))) (.block 9 (.g 0 [M 0 130 11,B 1 131 .sub 130 (.i 1),M 2 11 131] [0,1,10,11]))))) (.seq (.s 0 [M 0 132 10,M 1 133 11,B 2 134 .gtr 132 133] [0,1,10,11,134] (.cond 134 (.exit 4) .skip)) (.sd 0 [M 0 135 0,M 1 136 10,M 4 139 0,M 5 140 11,IX 6 141 1 139 140,L 7 142 141,M 8 143 0,M 9 144 10,IX 10 145 1 143 144,L 11 146 145,IX 12 147 1 135 136,ST 13 1 147 142,M 2 137 0,M 3 138 11,IX 14 148 1 137 138,ST 15 1 148 146] [0,1,10,11] (.s 0 [M 0 149 10,B 1 150 .add 149 (.i 1),M 2 10 150] [0,1,10,11] (.g 0 [M 0 151 11,B 1 152 .sub 151 (.i 1),M 2 11 152] [0,1,10,11]))))))))) (.sd 0 [M 0 153 0,M 1 154 11,M 4 157 0,M 5 158 1,IX 6 159 1 157 158,L 7 160 159,M 8 161 0,M 9 162 11,IX 10 163 1 161 162,L 11 164 163,IX 12 165 1 153 154,ST 13 1 165 160,M 2 155 0,M 3 156 1,IX 14 166 1 155 156,ST 15 1 166 164] [11] (.s 0 [M 0 167 11,M 1 8 167,M 2 9 (.b false)] [8,9] .ret))))))))))))
def a129:AFunc:=⟨4,c129,[.tmp 8,.tmp 9]⟩
def c130:ACode :=
 (.s 0 [M 0 2 (.i 0)] [0,2] (.seq (.s 0 [M 0 3 0,B 1 4 .geq 3 (.c (.lit (.int .u32 65536)))] [0,2,4] (.cond 4 (.s 0 [M 0 5 0,B 1 6 .shr 5 (.c (.lit (.int .u64 16))),M 2 0 6] [0] (.g 0 [M 0 2 (.i 16)] [0,2])) .skip)) (.seq (.s 0 [M 0 7 0,B 1 8 .geq 7 (.c (.lit (.int .u32 256)))] [0,2,8] (.cond 8 (.s 0 [M 0 9 0,B 1 10 .shr 9 (.c (.lit (.int .u64 8))),M 2 0 10] [0,2] (.g 0 [M 0 11 2,B 1 12 .add 11 (.i 8),M 2 2 12] [0,2])) .skip)) (.s 0 [M 0 13 2,M 1 14 0,q 2 15 (.conv .u8 14),q 3 16 (.idxStr (.c (.lit (.string ⟨#[0,1,2,2,3,3,3,3,4,4,4,4,4,4,4,4,5,5,5,5,5,5,5,5,5,5,5,5,5,5,5,5,6,6,6,6,6,6,6,6,6,6,6,6,6,6,6,6,6,6,6,6,6,6,6,6,6,6,6,6,6,6,6,6,7,7,7,7,7,7,7,7,7,7,7,7,7,7,7,7,7,7,7,7,7,7,7,7,7,7,7,7,7,7,7,7,7,7,7,7,7,7,7,7,7,7,7,7,7,7,7,7,7,7,7,7,7,7,7,7,7,7,7,7,7,7,7,7,8,8,8,8,8,8,8,8,8,8,8,8,8,8,8,8,8,8,8,8,8,8,8,8,8,8,8,8,8,8,8,8,8,8,8,8,8,8,8,8,8,8,8,8,8,8,8,8,8,8,8,8,8,8,8,8,8,8,8,8,8,8,8,8,8,8,8,8,8,8,8,8,8,8,8,8,8,8,8,8,8,8,8,8,8,8,8,8,8,8,8,8,8,8,8,8,8,8,8,8,8,8,8,8,8,8,8,8,8,8,8,8,8,8,8,8,8,8,8,8,8,8,8,8,8,8,8,8]⟩))) 15),q 4 17 (.conv .i64 16),B 5 18 .add 13 17,M 6 2 18] [2] .ret))))
def a130:AFunc:=⟨1,c130,[.tmp 2]⟩
def c131:ACode :=
 (.s 0 [M 0 2 (.i 0)] [0,2] (.seq (.s 0 [M 0 3 0,B 1 4 .geq 3 (.c (.lit (.int .u64 4294967296)))] [0,2,4] (.cond 4 (.s 0 [M 0 5 0,B 1 6 .shr 5 (.c (.lit (.int .u64 32))),M 2 0 6] [0] (.g 0 [M 0 2 (.i 32)] [0,2])) .skip)) (.seq (.s 0 [M 0 7 0,B 1 8 .geq 7 (.c (.lit (.int .u64 65536)))] [0,2,8] (.cond 8 (.s 0 [M 0 9 0,B 1 10 .shr 9 (.c (.lit (.int .u64 16))),M 2 0 10] [0,2] (.g 0 [M 0 11 2,B 1 12 .add 11 (.i 16),M 2 2 12] [0,2])) .skip)) (.seq (.s 0 [M 0 13 0,B 1 14 .geq 13 (.c (.lit (.int .u64 256)))] [0,2,14] (.cond 14 (.s 0 [M 0 15 0,B 1 16 .shr 15 (.c (.lit (.int .u64 8))),M 2 0 16] [0,2] (.g 0 [M 0 17 2,B 1 18 .add 17 (.i 8),M 2 2 18] [0,2])) .skip)) (.s 0 [M 0 19 2,M 1 20 0,q 2 21 (.conv .u8 20),q 3 22 (.idxStr (.c (.lit (.string ⟨#[0,1,2,2,3,3,3,3,4,4,4,4,4,4,4,4,5,5,5,5,5,5,5,5,5,5,5,5,5,5,5,5,6,6,6,6,6,6,6,6,6,6,6,6,6,6,6,6,6,6,6,6,6,6,6,6,6,6,6,6,6,6,6,6,7,7,7,7,7,7,7,7,7,7,7,7,7,7,7,7,7,7,7,7,7,7,7,7,7,7,7,7,7,7,7,7,7,7,7,7,7,7,7,7,7,7,7,7,7,7,7,7,7,7,7,7,7,7,7,7,7,7,7,7,7,7,7,7,8,8,8,8,8,8,8,8,8,8,8,8,8,8,8,8,8,8,8,8,8,8,8,8,8,8,8,8,8,8,8,8,8,8,8,8,8,8,8,8,8,8,8,8,8,8,8,8,8,8,8,8,8,8,8,8,8,8,8,8,8,8,8,8,8,8,8,8,8,8,8,8,8,8,8,8,8,8,8,8,8,8,8,8,8,8,8,8,8,8,8,8,8,8,8,8,8,8,8,8,8,8,8,8,8,8,8,8,8,8,8,8,8,8,8,8,8,8,8,8,8,8,8,8,8,8,8,8]⟩))) 21),q 4 23 (.conv .i64 22),B 5 24 .add 19 23,M 6 2 24] [2] .ret)))))
def a131:AFunc:=⟨1,c131,[.tmp 2]⟩
def c132:ACode :=
 (.s 0 [M 0 10 1,M 1 8 10] [0,2,3,8] (.block 0 (.loop true [0,2,3,8] (.block 1 (.s 0 [M 0 11 8,B 1 12 .mul (.i 2) 11,B 2 13 .add 12 (.i 1),M 3 9 13] [0,2,3,8,9] (.seq (.s 0 [M 0 14 9,M 1 15 2,B 2 16 .geq 14 15] [0,2,3,8,9,16] (.cond 16 (.exit 0) .skip)) (.seq (.sd 0 [M 0 17 9,B 1 18 .add 17 (.i 1),M 2 19 2,B 3 20 .lss 18 19,M 4 21 20,G 5 22 21 true (.mv 0),G 6 23 21 true (.mv 3),G 7 24 21 true (.mv 9),G 8 25 21 true (.bin .add 23 24),G 9 26 21 true (.idxS 1 22 25),G 10 27 21 true (.load none 26),G 11 28 21 true (.mv 0),G 12 29 21 true (.mv 3),G 13 30 21 true (.mv 9),G 14 31 21 true (.bin .add 29 30),G 15 32 21 true (.bin .add 31 (.i 1)),G 16 33 21 true (.idxS 1 28 32),G 17 34 21 true (.load none 33),G 18 35 21 true (.call (.f 127) [27,34] [] false),q 19 36 (.pick 21 35 (.b false))] [0,2,3,8,9,36] (.cond 36 (.g 0 [M 0 37 9,B 1 38 .add 37 (.i 1),M 2 9 38] [0,2,3,8,9]) .skip)) (.seq (.sd 0 [M 0 39 0,M 1 40 3,M 2 41 8,B 3 42 .add 40 41,IX 4 43 1 39 42,L 5 44 43,M 6 45 0,M 7 46 3,M 8 47 9,B 9 48 .add 46 47,IX 10 49 1 45 48,L 11 50 49,CL 12 51 127 [44,50],q 13 52 (.un .not 51)] [0,2,3,8,9,52] (.cond 52 .ret .skip)) (.sd 0 [M 0 53 0,M 1 54 3,M 2 55 8,B 3 56 .add 54 55,M 8 61 0,M 9 62 3,M 10 63 9,B 11 64 .add 62 63,IX 12 65 1 61 64,L 13 66 65,M 14 67 0,M 15 68 3,M 16 69 8,B 17 70 .add 68 69,IX 18 71 1 67 70,L 19 72 71,IX 20 73 1 53 56,ST 21 1 73 66,M 4 57 0,M 5 58 3,M 6 59 9,B 7 60 .add 58 59,IX 22 74 1 57 60,ST 23 1 74 72] [0,2,3,9] (.g 0 [M 0 75 9,M 1 8 75] [0,2,3,8]))))))))))
def a132:AFunc:=⟨4,c132,[]⟩
def c133:ACode :=
 (.s 0 [M 0 2 (.c (.lit (.int .u64 0)))] [0] (.s 0 [M 0 3 0,q 1 4 (.conv .u64 3),CL 2 5 115 [4],B 3 6 .shl (.c (.lit (.int .u64 1))) 5,M 4 2 6] [2] .ret))
def a133:AFunc:=⟨1,c133,[.tmp 2]⟩
def c134:ACode :=
 (.s 0 [M 0 2 (.c (.lit (.int .u64 0)))] [0] (.sd 0 [M 0 3 0,NK 1 4 3,L 2 5 4,M 3 6 0,NK 4 7 6,L 5 8 7,B 6 9 .shl 8 (.c (.lit (.int .u64 13))),B 7 10 .xor 5 9,NK 8 11 3,ST 9 1 11 10] [0] (.sd 0 [M 0 12 0,NK 1 13 12,L 2 14 13,M 3 15 0,NK 4 16 15,L 5 17 16,B 6 18 .shr 17 (.c (.lit (.int .u64 7))),B 7 19 .xor 14 18,NK 8 20 12,ST 9 1 20 19] [0] (.sd 0 [M 0 21 0,NK 1 22 21,L 2 23 22,M 3 24 0,NK 4 25 24,L 5 26 25,B 6 27 .shl 26 (.c (.lit (.int .u64 17))),B 7 28 .xor 23 27,NK 8 29 21,ST 9 1 29 28] [0] (.s 0 [M 0 30 0,NK 1 31 30,L 2 32 31,M 3 2 32] [2] .ret)))))
def a134:AFunc:=⟨1,c134,[.tmp 2]⟩
def c135:ACode :=
 (.s 0 [M 0 6 (.i 0)] [0,1,2] (.s 0 [M 0 7 0,M 1 8 1,B 2 9 .sub 8 (.i 1),M 3 10 1,M 4 11 1,B 5 12 .add 11 (.i 1),M 6 13 2,CL 7 14 136 [7,9,10,12,13],M 8 6 14] [6] .ret))
def a135:AFunc:=⟨3,c135,[.tmp 6]⟩
def c136:ACode :=
 (.s 0 [M 0 10 (.i 0)] [0,1,2,3,4] (.s 0 [M 0 12 0,M 1 13 1,M 2 14 2,M 3 15 4,CL 4 16 138 [12,13,14,15],M 5 11 16,EX 6 17 11 0,EX 7 18 11 1,M 8 1 17,M 9 2 18] [0,1,2,3,4] (.s 0 [M 0 20 0,M 1 21 2,M 2 22 3,M 3 23 4,CL 4 24 138 [20,21,22,23],M 5 19 24,EX 6 25 19 0,EX 7 26 19 1,M 8 2 25,M 9 3 26] [0,1,2,4] (.s 0 [M 0 28 0,M 1 29 1,M 2 30 2,M 3 31 4,CL 4 32 138 [28,29,30,31],M 5 27 32,EX 6 33 27 0,EX 7 34 27 1,M 8 1 33,M 9 2 34] [2] (.s 0 [M 0 35 2,M 1 10 35] [10] .ret)))))
def a136:AFunc:=⟨5,c136,[.tmp 10]⟩
def c137:ACode :=
 (.s 0 [M 0 2 (.b false)] [0] (.s 0 [M 0 3 0,M 1 4 0,B 2 5 .neq 3 4,M 3 2 5] [2] .ret))
def a137:AFunc:=⟨1,c137,[.tmp 2]⟩
def c138:ACode :=
 (.s 0 [M 0 8 (.i 0),M 1 9 (.i 0)] [0,1,2,3] (.seq (.sd 0 [M 0 10 0,M 1 11 2,IX 2 12 1 10 11,L 3 13 12,M 4 14 0,M 5 15 1,IX 6 16 1 14 15,L 7 17 16,CL 8 18 127 [13,17]] [1,2,3,18] (.cond 18 (.s 0 [M 0 19 3,NK 1 20 19,L 2 21 20,B 3 22 .add 21 (.i 1),NK 4 23 19,ST 5 1 23 22] [1,2] (.s 0 [M 0 24 2,M 1 25 1,M 2 8 24,M 3 9 25] [8,9] .ret)) .skip)) (.s 0 [M 0 26 1,M 1 27 2,M 2 8 26,M 3 9 27] [8,9] .ret)))
def a138:AFunc:=⟨4,c138,[.tmp 8,.tmp 9]⟩
def tab:Tab:=fun n=>match n with
 | 9=>some a9
 | 10=>some a10
 | 11=>some a11
 | 12=>some a12
 | 14=>some a14
 | 16=>some a16
 | 18=>some a18
 | 19=>some a19
 | 20=>some a20
 | 22=>some a22
 | 24=>some a24
 | 26=>some a26
 | 28=>some a28
 | 29=>some a29
 | 31=>some a31
 | 33=>some a33
 | 37=>some a37
 | 38=>some a38
 | 41=>some a41
 | 42=>some a42
 | 43=>some a43
 | 44=>some a44
 | 45=>some a45
 | 46=>some a46
 | 47=>some a47
 | 48=>some a48
 | 49=>some a49
 | 50=>some a50
 | 51=>some a51
 | 52=>some a52
 | 54=>some a54
 | 55=>some a55
 | 56=>some a56
 | 57=>some a57
 | 58=>some a58
 | 59=>some a59
 | 60=>some a60
 | 61=>some a61
 | 62=>some a62
 | 63=>some a63
 | 66=>some a66
 | 68=>some a68
 | 69=>some a69
 | 70=>some a70
 | 71=>some a71
 | 72=>some a72
 | 74=>some a74
 | 75=>some a75
 | 76=>some a76
 | 78=>some a78
 | 79=>some a79
 | 81=>some a81
 | 82=>some a82
 | 83=>some a83
 | 84=>some a84
 | 85=>some a85
 | 86=>some a86
 | 87=>some a87
 | 88=>some a88
 | 89=>some a89
 | 90=>some a90
 | 91=>some a91
 | 92=>some a92
 | 93=>some a93
 | 94=>some a94
 | 95=>some a95
 | 96=>some a96
 | 97=>some a97
 | 98=>some a98
 | 99=>some a99
 | 100=>some a100
 | 101=>some a101
 | 102=>some a102
 | 103=>some a103
 | 104=>some a104
 | 105=>some a105
 | 106=>some a106
 | 108=>some a108
 | 109=>some a109
 | 110=>some a110
 | 111=>some a111
 | 112=>some a112
 | 113=>some a113
 | 114=>some a114
 | 115=>some a115
 | 116=>some a116
 | 117=>some a117
 | 119=>some a119
 | 120=>some a120
 | 121=>some a121
 | 122=>some a122
 | 123=>some a123
 | 124=>some a124
 | 125=>some a125
 | 126=>some a126
 | 127=>some a127
 | 128=>some a128
 | 129=>some a129
 | 130=>some a130
 | 131=>some a131
 | 132=>some a132
 | 133=>some a133
 | 134=>some a134
 | 135=>some a135
 | 136=>some a136
 | 137=>some a137
 | 138=>some a138
 | _=>none
end Cd
end Go.Proofs.YtjpjdglddmhplaaGreat
end
