/- Texts that the claim stands on, one behind another. -/
import Derived.Test.YtjjmechghfjbmaaA2
import Derived.IntWalk
import Derived.Below
import Derived.ChangeArms
import Derived.ChangeReads
import Derived.OpenShut
import Derived.WideShapes
set_option linter.unusedVariables false
set_option linter.unusedSimpArgs false
set_option linter.unnecessarySimpa false
section
namespace Am
open Go
def ScB (p g B B':Nat):Prop:=(B≤p∧B' = B)∨(p≤B∧B' = B + g)∨(B = p∧p≤B'∧B'≤p + g)
inductive ScBs (p g:Nat):List Nat→List Nat→Prop
 | nil:ScBs p g [] []
 | cons {B B':Nat} {l l':List Nat} (h:ScB p g B B') (k:ScBs p g l l'):ScBs p g (B :: l) (B' :: l')
 | extra {B':Nat} {l l':List Nat} (h:∀b,B'≤rb p g b) (k:ScBs p g l l'):ScBs p g l (B' :: l')
 | drop {l l':List Nat} (k:ScBs p g l l'):ScBs p g (0 :: l) l'
structure ScR (p g:Nat) (c c':Sc):Prop where
 cur:ScB p g c.cur c'.cur
 outer:ScBs p g c.outer c'.outer
section
variable {p g:Nat} {G:A6} (hG:G.length = g)
theorem ScB.lt {B B':Nat} (h:ScB p g B B') (b:Nat):Nat.blt (rb p g b) B' = Nat.blt b B:= by
 have:rb p g b < B'↔b < B:= by
  rcases h with ⟨h1,rfl⟩ | ⟨h1,rfl⟩ | ⟨rfl,h1,h2⟩
  ·by_cases hb:b < p
   ·rw [B2x hb]
   ·rw [A8x (by omega)]; omega
  ·by_cases hb:b < p
   ·rw [B2x hb]; omega
   ·rw [A8x (by omega)]; omega
  ·by_cases hb:b < B
   ·rw [B2x hb]; omega
   ·rw [A8x (by omega)]; omega
 cases h1:Nat.blt (rb p g b) B' <;> cases h2:Nat.blt b B <;> first | rfl | skip
 ·have:=this.2 (Nat.le_of_ble_eq_true h2)
  have:=Nat.ble_eq_true_of_le this
  unfold Nat.blt at h1; rw [h1] at this; cases this
 ·have:=this.1 (Nat.le_of_ble_eq_true h1)
  have:=Nat.ble_eq_true_of_le this
  unfold Nat.blt at h2; rw [h2] at this; cases this
theorem ScB.le {B B':Nat} (h:ScB p g B B') (b:Nat):Nat.ble B' (rb p g b) = Nat.ble B b:= by
 have:B'≤rb p g b↔B≤b:= by
  rcases h with ⟨h1,rfl⟩ | ⟨h1,rfl⟩ | ⟨rfl,h1,h2⟩
  ·by_cases hb:b < p
   ·rw [B2x hb]
   ·rw [A8x (by omega)]; omega
  ·by_cases hb:b < p
   ·rw [B2x hb]; omega
   ·rw [A8x (by omega)]; omega
  ·by_cases hb:b < B
   ·rw [B2x hb]; omega
   ·rw [A8x (by omega)]; omega
 cases h1:Nat.ble B' (rb p g b) <;> cases h2:Nat.ble B b <;> first | rfl | skip
 ·have:=Nat.ble_eq_true_of_le (this.2 (Nat.le_of_ble_eq_true h2)); rw [h1] at this; cases this
 ·have:=Nat.ble_eq_true_of_le (this.1 (Nat.le_of_ble_eq_true h1)); rw [h2] at this; cases this
mutual
theorem bd_ren {B B':Nat} (h:ScB p g B B'):(v:AV)→(ren p g v).bd B' = v.bd B
 | .lit _ | .nils _ | .seq _ _ | .fresh _ _ | .undef=>by simp only [ren,AV.bd]
 | .xseq _ rows=>by simp only [ren,AV.bd]; exact bdR_ren h rows
 | .ptr b _ | .itr b | .eptr b _ _ _ | .asl b _ | .csl b _ _ _ | .mp b=>by simp only [ren,AV.bd]; exact h.lt b
 | .cptr cs | .agg cs | .tup cs=>by simp only [ren,AV.bd]; exact bdL_ren h cs
 | .fn f a c=>by
  simp only [ren]
  cases f <;> simp only [B8t,AV.bd,bdL_ren h a,bdL_ren h c,h.lt]
theorem bdL_ren {B B':Nat} (h:ScB p g B B'):(l:List AV)→bdL B' (renL p g l) = bdL B l
 | []=>by simp only [renL,bdL]
 | v :: l=>by simp only [renL,bdL,bd_ren h v,bdL_ren h l]
theorem bdR_ren {B B':Nat} (h:ScB p g B B'):(l:List (List AV))→bdR B' (renR p g l) = bdR B l
 | []=>by simp only [renR,bdR]
 | v :: l=>by simp only [renR,bdR,bdL_ren h v,bdR_ren h l]
end
theorem E2d {c c':Sc} (h:ScR p g c c') (b:Nat) (v:AV):c'.ok (rb p g b) (ren p g v) = c.ok b v:= by
 have:(c'.outer.all fun B=>Nat.ble B (rb p g b) || (ren p g v).bd B) = c.outer.all fun B=>Nat.ble B b || v.bd B:= by
  have h1:=h.outer
  generalize c.outer = l at h1
  generalize c'.outer = l' at h1
  induction h1 with
  | nil=>rfl
  | cons h1 _ ih=>simp only [List.all_cons,h1.le,bd_ren h1,ih]
  | extra h1 _ ih=>rw [List.all_cons,Nat.ble_eq_true_of_le (h1 b),ih]; rfl
  | drop _ ih=>rw [List.all_cons,Nat.ble_eq_true_of_le (Nat.zero_le b),ih]; rfl
 simp only [Sc.ok,D5z,h.cur.le,bd_ren h.cur,this]
theorem C81 {c c':Sc} (h:ScR p g c c') (b:Nat):∀l:List AV,c'.okL (rb p g b) (renL p g l) = c.okL b l
 | []=>by simp only [renL,Sc.okL]
 | v :: l=>by simp only [renL,Sc.okL,E2d h,C81 h b l]
theorem rbn {n0:Nat} (hn:p≤n0) (r:Nat):rb p g (n0 + r) = n0 + g + r:= by rw [A8x (by omega)]; omega
include hG
theorem A3j {H:A6} (hp:p≤H.length) {n0:Nat} (hn:p≤n0) (r:Nat) (o:AO):hset (I1 p g G H) (n0 + g + r) (Q5 p g o) = I1 p g G (hset H (n0 + r) o):= by
 rw [← rbn hn]; exact T1 hG hp _ _
theorem C01 {n0:Nat} (hn:p≤n0):∀(owns:List (Nat × Nat × Nat)) (zs:List AV) {H:A6} (hp:p≤H.length),S7 (n0 + g) owns (renL p g zs) (I1 p g G H) = (renL p g (S7 n0 owns zs H).1,I1 p g G (S7 n0 owns zs H).2)
 | [],zs,H,hp=>rfl
 | (j,r,k) :: l,zs,H,hp=>by
  simp only [S7]
  have h1:(renL p g zs).set j (.asl (n0 + g + r) 0) = renL p g (zs.set j (.asl (n0 + r) 0)):= by
   rw [U2,U2,List.map_set]; simp only [ren,rbn hn]
  have h2:hset (I1 p g G H) (n0 + g + r) (.arr k false []) = I1 p g G (hset H (n0 + r) (.arr k false [])):= by
   rw [← A3j hG hp hn]; simp only [Q5,renR]
  rw [h1,h2]
  exact C01 hn l _ (by rw [J7]; exact hp)
omit hG
theorem B5d {n0:Nat}:∀(owns:List (Nat × Nat × Nat)) (zs:List AV) (H:A6),(S7 n0 owns zs H).2.length = H.length
 | [],zs,H=>rfl
 | (j,r,k) :: l,zs,H=>by simp only [S7]; rw [B5d l]; exact J7 ..
theorem B51 (l:List (List AV)) (n:Nat):renR p g (l.take n) = (renR p g l).take n:= by simp only [A7p,List.map_take]
theorem B99 (l:List (List AV)) (n:Nat):renR p g (l.drop n) = (renR p g l).drop n:= by simp only [A7p,List.map_drop]
theorem C4n (l m:List (List AV)):renR p g (l++m) = renR p g l++renR p g m:= by simp only [A7p,List.map_append]
theorem B98 (l:List AV) (n:Nat):renL p g (l.take n) = (renL p g l).take n:= by simp only [U2,List.map_take]
theorem B50 (l:List AV) (n:Nat):renL p g (l.drop n) = (renL p g l).drop n:= by simp only [U2,List.map_drop]
theorem B8u (l:List AV) (n:Nat):(renL p g l)[n]? = (l[n]?).map (ren p g):= by simp only [U2,List.getElem?_map]
theorem C4o (l:List (List AV)) (n:Nat):(renR p g l)[n]? = (l[n]?).map (renL p g):= by
 simp only [A7p,List.getElem?_map]
 congr 1; funext r; rw [U2]
theorem C4p (z:List AV) (n:Nat):renR p g (List.replicate n z) = List.replicate n (renL p g z):= by simp only [A7p,List.map_replicate,U2]
include hG
theorem D1a {c c':Sc} (hc:ScR p g c c') {n0:Nat} (hn:p≤n0) {H:A6} (hp:p≤H.length) (s:C9) (op:AOp):prim c' (n0 + g) (V5 p g s) (I1 p g G H) (L9 p g op) = (prim c n0 s H op).map (ren2 p g G):= by
 cases op with
 | call=>rfl
 | mv x=>simp only [L9,prim,L1]; cases ev s x <;> rfl
 | pick x a b =>
  simp only [L9,prim,L1]
  cases ev s x with
  | none=>rfl
  | some v =>
   cases v with
   | lit u=>cases u with
    | bool t=>cases t <;> simp only [Option.map_some,ren] <;> first | (cases ev s a <;> rfl) | (cases ev s b <;> rfl)
    | _=>rfl
   | _=>rfl
 | nil k r=>simp only [L9,prim,Option.map_some,ren2,ren,rbn hn,← A3j hG hp hn,Q5,renR]
 | alloc zs owns r =>
  simp only [L9,prim,C01 hG hn owns zs hp,Option.map_some,ren2,ren,rbn hn]
  rw [← A3j hG (by rw [B5d]; exact hp) hn]; simp only [Q5]
 | box n x r =>
  simp only [L9,prim,L1]
  cases ev s x with
  | none=>rfl
  | some v =>
   simp only [Option.map_some,A6x,A2q]
   split
   ·simp only [Option.map_some,ren2,ren,rbn hn,← A3j hG hp hn,Q5]
   ·rfl
 | build z parts =>
  simp only [L9,prim,C0g]
  cases Y9 s parts with
  | none=>rfl
  | some ps =>
   simp only [Option.map_some,Option.bind_some,C6v]
   cases B4b z ps with
   | none=>rfl
   | some cs=>simp only [Option.map_some,ren2,ren]
 | lits k z n parts own =>
  simp only [L9,prim,B3e]
  cases O1 s parts with
  | none=>rfl
  | some ps =>
   simp only [Option.map_some,Option.bind_some,← C4p,B9d]
   cases A7z k (List.replicate n z) ps with
   | none=>rfl
   | some rows =>
    simp only [Option.map_some,Option.bind_some,C2p]
    split
    ·cases own with
     | none=>simp only [Option.map_some,ren2,ren]
     | some r=>simp only [Option.map_some,ren2,ren,rbn hn,← A3j hG hp hn,Q5]
    ·rfl
 | xlits k z n parts =>
  simp only [L9,prim,B3e]
  cases O1 s parts with
  | none=>rfl
  | some ps =>
   simp only [Option.map_some,Option.bind_some,← C4p,B9d]
   cases A7z k (List.replicate n z) ps with
   | none=>rfl
   | some rows=>simp only [Option.map_some,ren2,ren]
 | load k a =>
  cases k with
  | none =>
   simp only [L9,prim,L1]
   cases ev s a with
   | none=>rfl
   | some v =>
    simp only [Option.map_some,B8p hG hp]
    cases L5 H v with
    | none=>rfl
    | some l=>cases l <;> simp only [Option.map_some,renL] <;> rfl
  | some k =>
   simp only [L9,prim,L1]
   cases ev s a with
   | none=>rfl
   | some v =>
    simp only [Option.map_some,B8p hG hp]
    cases L5 H v with
    | none=>rfl
    | some l =>
     simp only [Option.map_some,A2q]
     split
     ·simp only [Option.map_some,ren2,ren,B98]
     ·rfl
 | storeN a k r =>
  simp only [L9,prim,L1]
  cases ev s a with
  | none=>rfl
  | some u =>
   cases u with
   | ptr b o =>
    have hp1:p≤(hset H (n0 + r) (.arr k false [])).length:= by simp only [hset,List.length_set]; exact hp
    have e:hset (I1 p g G H) (n0 + g + r) (.arr k false []) = I1 p g G (hset H (n0 + r) (.arr k false [])):=A3j hG hp hn r (.arr k false [])
    have e3:([.asl (n0 + g + r) 0]:List AV) = renL p g [.asl (n0 + r) 0]:= by simp only [renL,ren,rbn hn]
    simp only [Option.map_some,ren]
    rw [e,B1h hG hp1]
    cases A11 (hset H (n0 + r) (.arr k false [])) b with
    | none=>rfl
    | some cs =>
     rw [e3]
     simp only [Option.map_some,A2q,C81 hc,B03]
     split
     ·simp only [Option.map_some,ren2,ren,← T1 hG hp1,Q5,B03]
      try rfl
     ·rfl
   | _=>rfl
 | store k a x =>
  simp only [L9,prim,L1]
  cases ev s a with
  | none=>rfl
  | some u =>
   cases ev s x with
   | none=>cases u <;> rfl
   | some v =>
    cases u with
    | ptr b o =>
     simp only [Option.map_some,ren,B1h hG hp]
     cases A11 H b with
     | none=>rfl
     | some cs =>
      simp only [Option.map_some,A6x,A2q,C81 hc,B03]
      split
      ·simp only [Option.map_some,ren2,ren,renL,← T1 hG hp,Q5]
      ·rfl
    | eptr b n i o =>
     simp only [Option.map_some,ren,A6x,B72 hG v.cellsOf hp]
     cases e:A23 H v.cellsOf with
     | none=>rfl
     | some r =>
      have hp':p≤r.2.length:= by rw [B2l e]; exact hp
      simp only [Option.map_some,A9y hG hp']
      cases A5s r.2 b with
      | none=>rfl
      | some y =>
       obtain ⟨kk,q,rows⟩:=y
       cases q with
       | true=>rfl
       | false =>
        simp only [Option.map_some,C4o]
        cases rows[i]? with
        | none=>rfl
        | some rr =>
         simp only [Option.map_some,X1,A2q,B4i]
         split
         ·simp only [Option.map_some,ren2,ren,renL,← T1 hG hp',Q5,D1f,B03]
         ·rfl
    | _=>rfl
 | nilck x =>
  simp only [L9,prim,L1]
  cases ev s x with
  | none=>rfl
  | some v=>cases v with
   | fn f a b=>cases f <;> simp only [Option.map_some,ren,B8t] <;> first | rfl | simp only [Option.map_some,ren2,ren,B8t]
   | _=>simp only [Option.map_some,ren] <;> first | rfl | simp only [Option.map_some,ren2,ren]
 | bin op x y =>
  simp only [L9,prim,L1]
  cases ev s x with
  | none=>rfl
  | some u =>
   cases ev s y with
   | none=>rfl
   | some v=>simp only [Option.map_some,D6x]; cases B1w op u v <;> rfl
 | beq n x y =>
  simp only [L9,prim,L1]
  cases ev s x with
  | none=>rfl
  | some u =>
   cases ev s y with
   | none=>cases u with
    | lit u=>cases u <;> rfl
    | _=>rfl
   | some v=>cases u with
    | lit u=>cases u with
     | bool a=>cases v with
      | lit v=>cases v <;> simp only [Option.map_some,ren] <;> first | rfl | simp only [Option.map_some,ren2,ren]
      | _=>rfl
     | _=>rfl
    | _=>rfl
 | cmp n ks x y =>
  simp only [L9,prim,L1]
  cases ev s x with
  | none=>rfl
  | some u =>
   cases ev s y with
   | none=>cases u <;> rfl
   | some v=>cases u with
    | agg a=>cases v with
     | agg b =>
      simp only [Option.map_some,ren,A91,B6o]
      split
      ·cases N1 a b with
       | none=>rfl
       | some t=>simp only [Option.map_some,ren2,ren]
      ·rfl
     | _=>rfl
    | _=>rfl
 | un op x =>
  simp only [L9,prim,L1]
  cases ev s x with
  | none=>rfl
  | some u=>simp only [Option.map_some,E1a]; cases unV op u <;> rfl
 | conv k x =>
  simp only [L9,prim,L1]
  cases ev s x with
  | none=>rfl
  | some u=>cases u with
   | lit u=>cases u <;> simp only [Option.map_some,ren] <;> first | rfl | simp only [Option.map_some,ren2,ren]
   | _=>rfl
 | idc x =>
  simp only [L9,prim,L1]
  cases ev s x with
  | none=>rfl
  | some u=>cases u with
   | lit u=>cases u <;> simp only [Option.map_some,ren] <;> first | rfl | simp only [Option.map_some,ren2,ren]
   | _=>rfl
 | mkfn f a b =>
  simp only [L9,prim,C1q]
  cases evs s a with
  | none=>rfl
  | some u=>cases evs s b with
   | none=>rfl
   | some v=>simp only [Option.map_some,ren2,ren]
 | mkmap r=>simp only [L9,prim,Option.map_some,ren2,ren,rbn hn,← A3j hG hp hn,Q5,List.map_nil]
 | mkslice k bytes z x y r =>
  simp only [L9,prim,L1]
  cases ev s x with
  | none=>rfl
  | some u =>
   cases ev s y with
   | none=>cases u with
    | lit u=>cases u with
     | int k1 a=>cases k1 <;> rfl
     | _=>rfl
    | _=>rfl
   | some v=>cases u with
    | lit u=>cases u with
     | int k1 a=>cases v with
      | lit v=>cases v with
       | int k2 b =>
        cases k1 <;> cases k2 <;> simp only [Option.map_some,ren] <;> first | rfl | skip
        split
        ·simp only [Option.map_some,ren2,ren,rbn hn,← A3j hG hp hn,Q5,C4p]
        ·rfl
       | _=>cases k1 <;> rfl
      | _=>cases k1 <;> rfl
     | _=>rfl
    | _=>rfl
 | sliceS x lo hi =>
  simp only [L9,prim,L1,C1n]
  cases ev s x with
  | none=>rfl
  | some u=>cases u with
   | lit u=>cases u with
    | string b =>
     simp only [Option.map_some,ren]
     cases bnd s 0 lo with
     | none=>rfl
     | some l=>cases bnd s b.size hi with
      | none=>rfl
      | some h=>simp only; split <;> first | rfl | simp only [Option.map_some,ren2,ren]
    | _=>rfl
   | _=>rfl
 | mvz x =>
  simp only [L9,prim,L1]
  cases ev s x with
  | none=>rfl
  | some u=>simp only [Option.map_some,B71 hG hp]
 | sliceL kk x lo hi =>
  simp only [L9,prim,L1,C1n]
  cases ev s x with
  | none=>rfl
  | some u =>
   simp only [Option.map_some,B71 hG hp]
   cases A1a H u with
   | none=>rfl
   | some r =>
    obtain ⟨w,H1⟩:=r
    cases w with
    | seq k rows =>
     simp only [Option.map_some,ren2,ren,X1]
     cases bnd s 0 lo with
     | none=>rfl
     | some l=>cases bnd s rows.length hi with
      | none=>rfl
      | some h=>simp only; split <;> first | rfl | simp only [Option.map_some,ren2,ren,B51,B99]
    | _=>simp only [Option.map_some,ren2,ren] <;> rfl
 | sliceQ kk x lo hi =>
  simp only [L9,prim,L1,C1n]
  cases ev s x with
  | none=>rfl
  | some u=>cases u with
   | seq k rows =>
    simp only [Option.map_some,ren,X1]
    cases bnd s 0 lo with
    | none=>rfl
    | some l=>cases bnd s rows.length hi with
     | none=>rfl
     | some h=>simp only; split <;> first | rfl | simp only [Option.map_some,ren2,ren,B51,B99]
   | _=>rfl
 | sliceA k n x =>
  simp only [L9,prim,L1]
  cases ev s x with
  | none=>rfl
  | some u=>cases u with
   | ptr b o =>
    simp only [Option.map_some,ren,B3i hG hp]
    cases hcells H b with
    | none=>rfl
    | some cs=>simp only [Option.map_some,A2q]; split <;> first | rfl | simp only [Option.map_some,ren2,ren]
   | _=>rfl
 | fieldAddr off x =>
  simp only [L9,prim,L1]
  cases ev s x with
  | none=>rfl
  | some u=>cases u <;> simp only [Option.map_some,ren] <;> first | rfl | simp only [Option.map_some,ren2,ren,B50]
 | field k off x =>
  simp only [L9,prim,L1]
  cases ev s x with
  | none=>rfl
  | some u=>cases u with
   | agg cs=>cases k with
    | none=>simp only [Option.map_some,ren,B8u]; cases cs[off]? <;> rfl
    | some k=>simp only [Option.map_some,ren,A2q]; split <;> first | rfl | simp only [Option.map_some,ren2,ren,B50,B98]
   | _=>rfl
 | idxS k x i =>
  simp only [L9,prim,L1]
  cases ev s x with
  | none=>rfl
  | some u =>
   cases ev s i with
   | none=>cases u <;> rfl
   | some v=>cases v with
    | lit v=>cases v with
     | int k1 n=>cases u with
      | seq k' rows =>
       simp only [Option.map_some,ren,C4o]
       split
       ·cases rows[n.toNat]? with
        | none=>rfl
        | some r=>simp only [Option.map_some,ren2,ren]
       ·rfl
      | xseq k' rows =>
       simp only [Option.map_some,ren,C4o]
       split
       ·cases rows[n.toNat]? with
        | none=>rfl
        | some r=>simp only [Option.map_some,ren2,ren]
       ·rfl
      | asl b m =>
       simp only [Option.map_some,ren,B0j hG hp]
       cases harr H b with
       | none=>rfl
       | some y =>
        simp only [Option.map_some,X1]
        split
        ·simp only [Option.map_some,ren2,ren]
        ·rfl
      | _=>rfl
     | _=>cases u <;> rfl
    | _=>cases u <;> rfl
 | idxA k n x i =>
  simp only [L9,prim,L1]
  cases ev s x with
  | none=>rfl
  | some u =>
   cases ev s i with
   | none=>cases u <;> rfl
   | some v=>cases v with
    | lit v=>cases v with
     | int k1 m=>cases u <;> simp only [Option.map_some,ren] <;> first | rfl | (split <;> first | rfl | simp only [Option.map_some,ren2,ren,B50])
     | _=>cases u <;> rfl
    | _=>cases u <;> rfl
 | idxStr x i =>
  simp only [L9,prim,L1]
  cases ev s x with
  | none=>rfl
  | some u =>
   cases ev s i with
   | none=>cases u with
    | lit u=>cases u <;> rfl
    | _=>rfl
   | some v=>cases u with
    | lit u=>cases u with
     | string b=>cases v with
      | lit v=>cases v with
       | int k1 m =>
        simp only [Option.map_some,ren]
        split
        ·cases b[m.toNat]? <;> simp [ren2,ren]
        ·rfl
       | _=>rfl
      | _=>rfl
     | _=>rfl
    | _=>rfl
 | idxAgg k sz n x i =>
  simp only [L9,prim,L1]
  cases ev s x with
  | none=>rfl
  | some u =>
   cases ev s i with
   | none=>cases u <;> rfl
   | some v=>cases v with
    | lit v=>cases v with
     | int k1 m=>cases u with
      | agg cs =>
       simp only [Option.map_some,ren]
       split
       ·cases k with
        | none=>simp only [B8u]; cases cs[m.toNat * sz]? <;> rfl
        | some k=>simp only [A2q]; split <;> first | rfl | simp only [Option.map_some,ren2,ren,B50,B98]
       ·rfl
      | _=>rfl
     | _=>cases u <;> rfl
    | _=>cases u <;> rfl
 | lookup z ag ks x i ok =>
  simp only [L9,prim,L1]
  cases ev s x with
  | none=>rfl
  | some u =>
   cases ev s i with
   | none=>rfl
   | some key =>
    cases u with
    | mp b =>
     simp only [Option.map_some,ren,D0e hG hp,A25]
     cases hmap H b with
     | none=>cases J8 ag key <;> rfl
     | some es =>
      cases J8 ag key with
      | none=>rfl
      | some cs =>
       simp only [Option.map_some,A91,B4s]
       split
       ·cases findKey ag ks cs es 0 with
        | none=>rfl
        | some q=>cases q with
         | none=>cases ok <;> simp [ren2,ren,renL]
         | some q=>cases ok <;> simp [ren2,ren,renL]
       ·rfl
    | lit u=>cases u with
     | map m=>cases m with
      | none =>
       simp only [Option.map_some,ren,A25]
       cases J8 ag key with
       | none=>rfl
       | some cs =>
        simp only [Option.map_some,A91]
        split
        ·cases ok <;> simp [findKey,ren2,ren,renL]
        ·rfl
      | some m=>simp only [Option.map_some,ren,A25]; cases J8 ag key <;> rfl
     | _=>simp only [Option.map_some,ren,A25]; cases J8 ag key <;> rfl
    | _=>simp only [Option.map_some,ren,A25]; cases J8 ag key <;> rfl
 | mupd ag ks m x v =>
  simp only [L9,prim,L1]
  cases ev s m with
  | none=>rfl
  | some u =>
   cases ev s x with
   | none=>cases u <;> rfl
   | some key =>
    cases ev s v with
    | none=>cases u <;> rfl
    | some w=>cases u with
     | mp b =>
      simp only [Option.map_some,ren,D5a hG hp,A25]
      cases B77 H b with
      | none=>rfl
      | some es=>cases J8 ag key with
       | none=>rfl
       | some cs =>
        have he:(renL p g w.cellsOf).isEmpty = w.cellsOf.isEmpty:= by rw [U2]; cases w.cellsOf <;> rfl
        simp only [Option.map_some,A91,A6x,B4i,he,B4s]
        split
        ·cases findKey ag ks cs es 0 with
         | none=>rfl
         | some q=>cases q with
          | none=>simp only [Option.map_some,Option.map_none,ren2,ren,renL,← T1 hG hp,Q5,List.map_append,List.map_cons,List.map_nil]
          | some q=>simp only [Option.map_some,ren2,ren,renL,← T1 hG hp,Q5,List.map_set]
        ·rfl
     | _=>rfl
 | range x r =>
  simp only [L9,prim,L1]
  cases ev s x with
  | none=>rfl
  | some u=>cases u with
   | lit u=>cases u <;> simp only [Option.map_some,ren] <;> first | rfl | simp only [Option.map_some,ren2,ren,rbn hn,← A3j hG hp hn,Q5]
   | _=>rfl
 | next x =>
  simp only [L9,prim,L1]
  cases ev s x with
  | none=>rfl
  | some u=>cases u with
   | itr b =>
    simp only [Option.map_some,ren,A3i hG hp]
    cases hget H b with
    | none=>rfl
    | some o=>cases o with
     | iter t q =>
      simp only [Option.map_some,Q5]
      split
      ·simp only [Option.map_some,ren2,ren,renL,← T1 hG hp,Q5]
      ·simp only [Option.map_some,ren2,ren,renL]
     | _=>rfl
   | _=>rfl
 | extract x i =>
  simp only [L9,prim,L1]
  cases ev s x with
  | none=>rfl
  | some u=>cases u with
   | tup cs=>simp only [Option.map_some,ren,B8u]; cases cs[i]? <;> rfl
   | _=>rfl
 | lenS x =>
  simp only [L9,prim,L1]
  cases ev s x with
  | none=>rfl
  | some u=>cases u with
   | lit u=>cases u <;> simp only [Option.map_some,ren] <;> first | rfl | simp only [Option.map_some,ren2,ren]
   | _=>rfl
 | lenM x =>
  simp only [L9,prim,L1]
  cases ev s x with
  | none=>rfl
  | some u=>cases u with
   | mp b =>
    simp only [Option.map_some,ren,D0e hG hp]
    cases hmap H b <;> simp [ren2,ren]
   | lit u=>cases u with
    | map m=>cases m <;> simp [ren,ren2]
    | _=>rfl
   | _=>rfl
 | lenL x =>
  simp only [L9,prim,L1]
  cases ev s x with
  | none=>rfl
  | some u=>cases u with
   | asl b n =>
    simp only [Option.map_some,ren,B0j hG hp]
    cases harr H b with
    | none=>rfl
    | some y=>simp only [Option.map_some,X1]; split <;> simp [ren2,ren]
   | _=>simp [ren,ren2,X1]
 | mm mx xs =>
  simp only [L9,prim,C1q]
  cases evs s xs with
  | none=>rfl
  | some l=>cases l with
   | nil=>simp [renL]
   | cons x l=>simp only [Option.map_some,renL,D4g]; cases mmV mx x l <;> rfl
 | append k bytes d x r fz =>
  simp only [L9,prim,L1]
  cases ev s d with
  | none=>rfl
  | some u =>
   cases ev s x with
   | none=>rfl
   | some v =>
    simp only [Option.map_some,C4q hG hp,D4d hG hp]
    cases A6t H v with
    | none=>rfl
    | some new=>cases kOf H v with
     | none=>rfl
     | some k' =>
      simp only [Option.map_some,C2p]
      split
      ·cases u with
       | nils kk =>
        simp only [ren,X1]
        split
        ·cases fz with
         | true=>simp only [Option.map_some,ren2,ren]
         | false=>cases r with
          | none=>rfl
          | some r=>simp only [Option.map_some,ren2,ren,rbn hn,← A3j hG hp hn,Q5]
        ·rfl
       | asl b n =>
        simp only [ren,A9y hG hp]
        cases A5s H b with
        | none=>rfl
        | some y =>
         simp only [Option.map_some,X1]
         split
         ·cases fz with
          | true=>simp only [if_true,Option.map_some,ren2,ren,C4n,← T1 hG hp,Q5]
          | false=>simp only [Bool.false_eq_true,if_false,Option.map_some,ren2,ren,C4n,← T1 hG hp,Q5]
         ·rfl
       | _=>rfl
      ·rfl
 | copy k d x =>
  simp only [L9,prim,L1]
  cases ev s d with
  | none=>rfl
  | some u =>
   cases ev s x with
   | none=>cases u <;> rfl
   | some v=>cases u with
    | asl b n =>
     simp only [Option.map_some,ren,A9y hG hp,C4q hG hp,D4d hG hp]
     cases A5s H b with
     | none=>rfl
     | some y =>
      obtain ⟨kk,q,rows⟩:=y
      cases q with
      | true=>cases A6t H v <;> cases kOf H v <;> rfl
      | false=>cases A6t H v with
       | none=>cases kOf H v <;> rfl
       | some src=>cases kOf H v with
        | none=>rfl
        | some k' =>
         simp only [Option.map_some,X1,C2p]
         split
         ·simp only [Option.map_some,ren2,ren,← T1 hG hp,Q5,C4n,B51,B99]
         ·rfl
    | _=>rfl
 | cut k x hi r =>
  simp only [L9,prim,L1]
  cases ev s x with
  | none=>rfl
  | some u=>cases u with
   | asl b n =>
    simp only [Option.map_some,ren,A9y hG hp,C1n]
    cases A5s H b with
    | none=>rfl
    | some y =>
     obtain ⟨kk,q,rows⟩:=y
     cases q with
     | true=>rfl
     | false=>cases bnd s n hi with
      | none=>rfl
      | some h =>
       simp only [Option.map_some,X1]
       split
       ·have e1:hset (I1 p g G H) (rb p g b) .dead = I1 p g G (hset H b .dead):= by rw [← T1 hG hp]; simp only [Q5]
        simp only [Option.map_some,ren2,ren,rbn hn,e1]
        rw [← A3j hG (by rw [J7]; exact hp) hn]; simp only [Q5,B51]
       ·rfl
   | _=>rfl
end
section
variable {p g:Nat} {G:A6} (hG:G.length = g)
include hG
theorem Y5 {B B':Nat} (hB:ScB p g B B') {H:A6} (hp:p≤H.length) (v:AV):A5a B' (I1 p g G H) (ren p g v) = (A5a B H v).map (ren2 p g G):= by
 cases v with
 | asl b n =>
  have hf:=C8h hG hp (.asl b n)
  simp only [ren] at hf
  simp only [ren,A5a,A9y hG hp,hB.le]
  cases A5s H b with
  | none=>exact hf
  | some y =>
   obtain ⟨k,q,rows⟩:=y
   cases q with
   | true=>exact hf
   | false =>
    simp only [Option.map_some,X1]
    split
    ·split
     ·simp only [Option.map_some,ren2,ren,← T1 hG hp,Q5]
     ·rfl
    ·exact hf
 | nils k=>simp [ren,A5a,ren2,renR]
 | _=>simp [ren,A5a,ren2]
omit hG
theorem C34 {B:Nat} {H:A6} {v:AV} {r:AV × A6} (h:A5a B H v = some r):r.2.length = H.length:= by
 cases v with
 | asl b n =>
  simp only [A5a] at h
  split at h
  ·split at h
   ·split at h
    ·simp only [Option.some.injEq] at h; subst h; exact J7 ..
    ·cases h
   ·exact B73 h
  ·exact B73 h
 | nils k=>simp only [A5a,Option.some.injEq] at h; subst h; rfl
 | _=>simp only [A5a,Option.some.injEq] at h; subst h; rfl
theorem C7j {B:Nat}:∀{l:List AV} {H:A6} {r:List AV × A6},A1z B H l = some r→r.2.length = H.length
 | [],H,r,h=>by simp only [A1z,Option.some.injEq] at h; subst h; rfl
 | v :: l,H,r,h=>by
  simp only [A1z] at h
  split at h
  ·cases h
  ·next v' H' e1 =>
   split at h
   ·cases h
   ·next l' H'' e2 =>
    simp only [Option.some.injEq] at h; subst h
    have:=C34 e1; have:=C7j e2; simp_all
theorem D05 {B:Nat} {H:A6} {v:AV} {r:AV × A6} (h:A1v B H v = some r):r.2.length = H.length:= by
 cases v with
 | agg cs =>
  simp only [A1v,Option.map_eq_some_iff] at h
  obtain ⟨x,h1,rfl⟩:=h; exact C7j h1
 | _=>simp only [A1v] at h; exact C34 h
theorem C7l {B:Nat}:∀{l:List AV} {H:A6} {r:List AV × A6},A1l B H l = some r→r.2.length = H.length
 | [],H,r,h=>by simp only [A1l,Option.some.injEq] at h; subst h; rfl
 | v :: l,H,r,h=>by
  simp only [A1l] at h
  split at h
  ·cases h
  ·next v' H' e1 =>
   split at h
   ·cases h
   ·next l' H'' e2 =>
    simp only [Option.some.injEq] at h; subst h
    have:=D05 e1; have:=C7l e2; simp_all
include hG
theorem C7k {B B':Nat} (hB:ScB p g B B'):∀(l:List AV) {H:A6} (hp:p≤H.length),A1z B' (I1 p g G H) (renL p g l) = (A1z B H l).map fun r=>(renL p g r.1,I1 p g G r.2)
 | [],H,hp=>by simp [A1z,renL]
 | v :: l,H,hp=>by
  simp only [renL,A1z,Y5 hG hB hp]
  cases e:A5a B H v with
  | none=>rfl
  | some r =>
   simp only [Option.map_some,ren2]
   rw [C7k hB l (by rw [C34 e]; exact hp)]
   cases A1z B r.2 l with
   | none=>rfl
   | some q=>simp [renL]
theorem D8i {B B':Nat} (hB:ScB p g B B') {H:A6} (hp:p≤H.length) (v:AV):A1v B' (I1 p g G H) (ren p g v) = (A1v B H v).map (ren2 p g G):= by
 cases v with
 | agg cs =>
  simp only [ren,A1v,C7k hG hB cs hp]
  cases A1z B H cs <;> simp [ren2,ren]
 | nils k=>have:=Y5 hG hB hp (.nils k); simpa [ren,A1v] using this
 | lit u=>have:=Y5 hG hB hp (.lit u); simpa [ren,A1v] using this
 | seq k rows=>have:=Y5 hG hB hp (.seq k rows); simpa [ren,A1v] using this
 | xseq k rows=>have:=Y5 hG hB hp (.xseq k rows); simpa [ren,A1v] using this
 | ptr b o=>have:=Y5 hG hB hp (.ptr b o); simpa [ren,A1v] using this
 | itr b=>have:=Y5 hG hB hp (.itr b); simpa [ren,A1v] using this
 | eptr b n i o=>have:=Y5 hG hB hp (.eptr b n i o); simpa [ren,A1v] using this
 | cptr cs=>have:=Y5 hG hB hp (.cptr cs); simpa [ren,A1v] using this
 | asl b n=>have:=Y5 hG hB hp (.asl b n); simpa [ren,A1v] using this
 | csl b o k n=>have:=Y5 hG hB hp (.csl b o k n); simpa [ren,A1v] using this
 | mp b=>have:=Y5 hG hB hp (.mp b); simpa [ren,A1v] using this
 | fn f a c=>have:=Y5 hG hB hp (.fn f a c); simpa [ren,A1v] using this
 | tup cs=>have:=Y5 hG hB hp (.tup cs); simpa [ren,A1v] using this
 | fresh k rows=>have:=Y5 hG hB hp (.fresh k rows); simpa [ren,A1v] using this
 | undef=>have:=Y5 hG hB hp .undef; simpa [ren,A1v] using this
theorem C7m {B B':Nat} (hB:ScB p g B B'):∀(l:List AV) {H:A6} (hp:p≤H.length),A1l B' (I1 p g G H) (renL p g l) = (A1l B H l).map fun r=>(renL p g r.1,I1 p g G r.2)
 | [],H,hp=>by simp [A1l,renL]
 | v :: l,H,hp=>by
  simp only [renL,A1l,D8i hG hB hp]
  cases e:A1v B H v with
  | none=>rfl
  | some r =>
   simp only [Option.map_some,ren2]
   rw [C7m hB l (by rw [D05 e]; exact hp)]
   cases A1l B r.2 l with
   | none=>rfl
   | some q=>simp [renL]
theorem D34 {n0:Nat} (hn:p≤n0) {H:A6} (hp:p≤H.length) (own:List (Nat × Nat)) (j:Nat) (v:AV):inC (n0 + g) (I1 p g G H) own j (ren p g v) = ren2 p g G (inC n0 H own j v):= by
 cases v with
 | fresh k rows =>
  simp only [ren,inC]
  cases A2h j own with
  | none=>simp only [ren2,ren]
  | some r=>simp only [ren2,ren,rbn hn,X1,← A3j hG hp hn,Q5]
 | _=>simp [ren,inC,ren2]
omit hG
theorem C8o {n0:Nat} {H:A6} (own:List (Nat × Nat)) (j:Nat) (v:AV):(inC n0 H own j v).2.length = H.length:= by
 cases v with
 | fresh k rows=>simp only [inC]; cases A2h j own <;> simp [J7]
 | _=>simp [inC]
theorem D0f {n0:Nat} (own:List (Nat × Nat)):∀(l:List AV) (j:Nat) (H:A6),(A74 n0 H own j l).2.length = H.length
 | [],j,H=>rfl
 | v :: l,j,H=>by simp only [A74]; rw [D0f own l]; exact C8o ..
theorem D37 {n0:Nat} {H:A6} (own:List (Nat × Nat)) (v:AV):(inV n0 H own v).2.length = H.length:= by
 cases v with
 | agg cs=>simp only [inV]; exact D0f ..
 | _=>simp only [inV]; exact C8o ..
theorem C2v {n0:Nat}:∀(l:List AV) (own:List (List (Nat × Nat))) (H:A6),(A10 n0 H l own).2.length = H.length
 | [],own,H=>rfl
 | v :: l,own,H=>by simp only [A10]; rw [C2v l]; exact D37 ..
include hG
theorem D0h {n0:Nat} (hn:p≤n0) (own:List (Nat × Nat)):∀(l:List AV) (j:Nat) {H:A6} (hp:p≤H.length),A74 (n0 + g) (I1 p g G H) own j (renL p g l) = (renL p g (A74 n0 H own j l).1,I1 p g G (A74 n0 H own j l).2)
 | [],j,H,hp=>by simp [A74,renL]
 | v :: l,j,H,hp=>by
  simp only [renL,A74,D34 hG hn hp,ren2]
  rw [D0h hn own l (j + 1) (by rw [C8o]; exact hp)]
theorem D9w {n0:Nat} (hn:p≤n0) {H:A6} (hp:p≤H.length) (own:List (Nat × Nat)) (v:AV):inV (n0 + g) (I1 p g G H) own (ren p g v) = ren2 p g G (inV n0 H own v):= by
 cases v with
 | agg cs=>simp only [ren,inV,D0h hG hn own cs 0 hp,ren2]
 | fresh k rows=>have:=D34 hG hn hp own 0 (.fresh k rows); simpa [ren,inV] using this
 | _=>simp [ren,inV,inC,ren2]
theorem C2x {n0:Nat} (hn:p≤n0):∀(l:List AV) (own:List (List (Nat × Nat))) {H:A6} (hp:p≤H.length),A10 (n0 + g) (I1 p g G H) (renL p g l) own = (renL p g (A10 n0 H l own).1,I1 p g G (A10 n0 H l own).2)
 | [],own,H,hp=>by simp [A10,renL]
 | v :: l,own,H,hp=>by
  simp only [renL,A10,D9w hG hn hp,ren2]
  rw [C2x hn l own.tail (by rw [D37]; exact hp)]
omit hG
theorem C37 (l:List AV):packed (renL p g l) = ren p g (packed l):= by
 cases l with
 | nil=>simp [renL,packed,ren]
 | cons v l=>cases l <;> simp [renL,packed,ren]
theorem D0i {H:A6} (hp:p≤H.length) {B:Nat} (hB:p≤B) (hG:G.length = g):(I1 p g G H).take (B + g) = I1 p g G (H.take B):= by
 unfold I1
 have hl:((H.take p).map (Q5 p g)).length = p:= by simp; omega
 rw [List.take_append,hl,List.take_of_length_le (by rw [hl]; omega),List.take_append,hG,List.take_of_length_le (l:=G) (by omega),List.take_take,Nat.min_eq_left hB]
 congr 2
 rw [← List.map_take,List.drop_take]
 congr 2; omega
theorem C7y {B B':Nat} (hB:p≤B) (hB':B' = B + g) {H:A6} (hp:p≤H.length) (hG:G.length = g) (rs:List AV):trunc B' (renL p g rs) (I1 p g G H) = I1 p g G (trunc B rs H):= by
 subst hB'
 unfold trunc
 rw [bdL_ren (.inr (.inl ⟨hB,rfl⟩))]
 split
 ·exact D0i hp hB hG
 ·rfl
theorem C7x {B:Nat} (hB:p≤B) {H:A6} (hp:p≤H.length) (rs:List AV):p≤(trunc B rs H).length:= by
 unfold trunc; split
 ·rw [List.length_take]; omega
 ·exact hp
include hG
theorem C2q {H:A6} (hp:p≤H.length):∀l:List Nat,hide (I1 p g G H) (l.map (rb p g)) = I1 p g G (hide H l)∧(hide H l).length = H.length
 | []=>⟨rfl,rfl⟩
 | b :: l=>by
  obtain ⟨h1,h2⟩:=C2q hp l
  constructor
  ·simp only [List.map_cons,hide,h1]
   rw [← T1 hG (by rw [h2]; exact hp)]; simp only [Q5]
  ·simp only [hide,J7,h2]
theorem C44 {H0 H:A6} (hp0:p≤H0.length) (hp:p≤H.length):∀l:List Nat,unhide (I1 p g G H0) (I1 p g G H) (l.map (rb p g)) = I1 p g G (unhide H0 H l)∧(unhide H0 H l).length = H.length
 | []=>⟨rfl,rfl⟩
 | b :: l=>by
  obtain ⟨h1,h2⟩:=C44 hp0 hp l
  simp only [List.map_cons,unhide,A3i hG hp0,h1]
  cases hget H0 b with
  | none=>exact ⟨rfl,h2⟩
  | some o =>
   simp only [Option.map_some]
   exact ⟨T1 hG (by rw [h2]; exact hp) b o,by rw [J7,h2]⟩
omit hG
theorem C78 (v:AV):(ren p g v).box? = v.box?.map (rb p g):= by cases v <;> simp [ren,AV.box?]
include hG
theorem C2n {H:A6} (hp:p≤H.length):∀(l:List Nat) (b:Nat),follow (I1 p g G H) (rb p g b) l = (follow H b l).map (rb p g)
 | [],b=>rfl
 | o :: l,b=>by
  simp only [follow,B3i hG hp]
  cases hcells H b with
  | none=>rfl
  | some cs =>
   simp only [Option.map_some,B8u]
   cases h:cs[o]? with
   | none=>rfl
   | some v =>
    simp only [Option.map_some,Option.bind_some,C78]
    cases v.box? with
    | none=>rfl
    | some b'=>exact C2n hp l b'
theorem D1z (s:C9) {H:A6} (hp:p≤H.length):∀l:List (Nat × List Nat),ways (V5 p g s) (I1 p g G H) l = (ways s H l).map (List.map (rb p g))
 | []=>rfl
 | x :: l=>by
  simp only [ways,B23]
  cases sget s x.1 with
  | none=>rfl
  | some v =>
   simp only [Option.map_some,Option.bind_some,C78]
   cases v.box? with
   | none=>rfl
   | some b =>
    simp only [Option.map_some,C2n hG hp,D1z s hp l]
    cases follow H b x.2 with
    | none=>rfl
    | some b'=>cases ways s H l <;> rfl
omit hG
theorem C5b (op:AOp):writes (L9 p g op) = writes op:= by cases op <;> rfl
theorem D98 {n0:Nat} (hn:p≤n0) (l:List Nat):l.map (n0 + g + ·) = (l.map (n0 + ·)).map (rb p g):= by
 rw [List.map_map]; congr 1; funext r; simp only [Function.comp_def]; exact (rbn hn r).symm
theorem C9i {B B':Nat} (h:ScB p g B B') (l:List Nat):((l.map (rb p g)).all fun b=>Nat.blt b B') = l.all fun b=>Nat.blt b B:= by
 rw [List.all_map]; congr 1; funext b; exact h.lt b
include hG
theorem D7j {n0:Nat} (hn:p≤n0) (s:C9) {H:A6} (hp:p≤H.length) (o:AOper):A67 (n0 + g) (V5 p g s) (I1 p g G H) (A3f p g o) = (A67 n0 s H o).map (List.map (rb p g)):= by
 unfold A67
 simp only [A3f,D98 hn]
 obtain ⟨h1,h2⟩:=C2q hG hp (o.hid.map (n0 + ·))
 rw [h1,D1z hG s (by rw [h2]; exact hp)]
 cases ways s (hide H (o.hid.map (n0 + ·))) o.hida with
 | none=>rfl
 | some bs =>
  simp only [Option.map_some,C5b,← List.map_append]
  rw [C9i (.inr (.inl ⟨hp,A8e hG hp⟩))]
  split <;> rfl
omit hG
theorem D16 (op:AOp):U7 (L9 p g op) = (U7 op).map (G1 p g):= by cases op <;> rfl
theorem D8z (s:C9) (op:AOp):rbox (V5 p g s) (L9 p g op) = (rbox s op).map (rb p g):= by
 unfold rbox; rw [D16]
 cases U7 op with
 | none=>rfl
 | some x =>
  simp only [Option.map_some,Option.bind_some,L1]
  cases ev s x with
  | none=>rfl
  | some v=>exact C78 v
theorem C8b (l:List Nat) (b:Nat):(l.map (rb p g)).contains (rb p g b) = l.contains b:= by
 induction l with
 | nil=>rfl
 | cons a l ih=>simp only [List.map_cons,List.contains_cons,ih,E2o]
abbrev hcR (p g:Nat) (hc:List (Option (List Nat))):List (Option (List Nat)):=hc.map (Option.map (List.map (rb p g)))
theorem D3d (s:C9) (o:AOper) (hc:List (Option (List Nat))):R2 (V5 p g s) (A3f p g o) (hcR p g hc) = R2 s o hc:= by
 unfold R2
 simp only [A3f,D8z]
 cases rbox s o.op with
 | none=>rfl
 | some b =>
  simp only [Option.map_some,hcR,← List.map_take,List.all_map]
  congr 1; funext e
  cases e with
  | none=>rfl
  | some hs=>simp only [Function.comp_def,Option.map_some,C8b]
theorem D3l (s:C9) (x:Option (Nat × Bool)):wanted (V5 p g s) x = wanted s x:= by
 cases x with
 | none=>rfl
 | some x =>
  simp only [wanted,B23]
  cases sget s x.1 with
  | none=>rfl
  | some v=>cases v with
   | lit u=>cases u <;> simp [ren]
   | tup cs=>cases cs <;> simp [ren,renL]
   | _=>simp [ren]
theorem C4v (s:C9) (d:Option Nat) (v:AV):sput (V5 p g s) d (ren p g v) = V5 p g (sput s d v):= by cases d <;> rfl
omit hG in
theorem C98 {H H':A6} {v:AV} (h:A22 H v = some H'):H'.length = H.length:= by
 have other:(A1a H v).map (·.2) = some H'→H'.length = H.length:= by
  intro h0
  obtain ⟨r,h1,h2⟩:=Option.map_eq_some_iff.1 h0
  subst h2
  exact B4w h1
 cases v with
 | ptr b off =>
  simp only [A22] at h
  split at h
  ·split at h
   ·next e =>
    split at h
    ·simp only [Option.some.injEq] at h
     subst h
     rw [J7]
     exact B2l e
    ·cases h
   ·cases h
  ·cases h
 | _=>exact other h
include hG
theorem C99 {H:A6} (hp:p≤H.length) (v:AV):A22 (I1 p g G H) (ren p g v) = (A22 H v).map (I1 p g G):= by
 have other:(A1a (I1 p g G H) (ren p g v)).map (·.2) = ((A1a H v).map (·.2)).map (I1 p g G):= by
  rw [B71 hG hp]
  cases A1a H v <;> rfl
 cases v with
 | ptr b off =>
  simp only [ren,A22,B1h hG hp]
  cases A11 H b with
  | none=>rfl
  | some cs =>
   simp only [Option.map_some,B72 hG cs hp]
   cases e:A23 H cs with
   | none=>rfl
   | some r =>
    have hp':p≤r.2.length:= by rw [B2l e]; exact hp
    simp only [Option.map_some,B1h hG hp']
    cases A11 r.2 b with
    | none=>rfl
    | some cs1=>simp only [Option.map_some,← T1 hG hp',Q5]
 | _=>first | exact other | (simp only [ren] at other; simp only [ren,A22]; exact other)
theorem C0y (s:C9):∀(l:List Nat) {H:A6} (hp:p≤H.length),publish (V5 p g s) (I1 p g G H) l = (publish s H l).map (I1 p g G)∧∀ H',publish s H l = some H'→H'.length = H.length
 | [],H,hp=>⟨rfl,fun H' h=>by simp only [publish,Option.some.injEq] at h; subst h; rfl⟩
 | t :: l,H,hp=>by
  simp only [publish,B23]
  cases sget s t with
  | none=>exact ⟨rfl,fun H' h=>by cases h⟩
  | some v =>
   simp only [Option.map_some,C99 hG hp]
   cases e:A22 H v with
   | none=>exact ⟨rfl,fun H' h=>by cases h⟩
   | some r =>
    have hl:=C98 e
    obtain ⟨h1,h2⟩:=C0y s l (H:=r) (by rw [hl]; exact hp)
    exact ⟨h1,fun H' h=>by rw [h2 H' h,hl]⟩
theorem C4b {H:A6} (hp:p≤H.length) (v:AV):pubbed (I1 p g G H) (ren p g v) = pubbed H v:= by
 cases v with
 | asl b n=>simp only [ren,pubbed,B0j hG hp]; cases harr H b <;> rfl
 | _=>simp [ren,pubbed]
theorem D1b {H:A6} (hp:p≤H.length) (v:AV):X9 (I1 p g G H) (ren p g v) = X9 H v:= by
 cases v with
 | agg cs =>
  simp only [ren,X9,U2,List.all_map]
  congr 1; funext x; exact C4b hG hp x
 | asl b n=>have:=C4b hG hp (.asl b n); simpa [ren,X9] using this
 | _=>simp [ren,X9,pubbed]
omit hG
theorem D1v (o:AO):(Q5 p g o).toRo = Q5 p g o.toRo:= by
 cases o <;> simp [Q5,AO.toRo]
theorem E1y (H:A6):(I1 p g G H).map AO.toRo = I1 p g (G.map AO.toRo) (H.map AO.toRo):= by
 unfold I1
 simp only [List.map_append,List.map_map,List.map_take,List.map_drop]
 congr 2
 ·congr 1; funext o; exact D1v o
 ·congr 2; funext o; exact D1v o
theorem B5a (hG:G.length = g) (s:C9) {H:A6} (hp:p≤H.length):∀l:List ARes,results (V5 p g s) (I1 p g G H) l = (results s H l).map (renL p g)
 | []=>by simp [results,renL]
 | .tmp t :: l=>by
  simp only [results,B23,B5a hG s hp l]
  cases sget s t with
  | none=>rfl
  | some v=>cases results s H l <;> simp [renL]
 | .cell t k :: l=>by
  simp only [results,B5a hG s hp l]
  have h1:prim ⟨0,[]⟩ 0 (V5 p g s) (I1 p g G H) (.load k (.t t)) = prim ⟨0,[]⟩ (p + g) (V5 p g s) (I1 p g G H) (.load k (.t t)):= by cases k <;> rfl
  have h2:prim ⟨0,[]⟩ 0 s H (.load k (.t t)) = prim ⟨0,[]⟩ p s H (.load k (.t t)):= by cases k <;> rfl
  rw [h1,h2]
  have:=D1a hG (c:=⟨0,[]⟩) (c':=⟨0,[]⟩) ⟨.inl ⟨Nat.zero_le _,rfl⟩,.nil⟩ (Nat.le_refl p) hp s (.load k (.t t))
  simp only [L9,G1] at this
  rw [this]
  cases prim ⟨0,[]⟩ p s H (.load k (.t t)) with
  | none=>rfl
  | some r=>cases results s H l <;> simp [renL,ren2]
theorem B7o:∀(l:List AV) (i:Nat),R8 i (renL p g l) = V5 p g (R8 i l)
 | [],i=>by simp [renL,R8,V5]
 | v :: l,i=>by simp only [renL,R8,B7o l,V5,List.map_cons]
theorem A7q (s:C9):∀l:List Nat,restrict (V5 p g s) l = V5 p g (restrict s l)
 | []=>rfl
 | t :: l=>by
  simp only [restrict,B23,A7q s l]
  cases sget s t <;> rfl
theorem C6m {B B':Nat} (h:ScB p g B B'):∀s:C9,A63 B' (V5 p g s) = A63 B s
 | []=>rfl
 | x :: s=>by simp only [V5,List.map_cons,A63,bd_ren h]; rw [← V5,C6m h s]
theorem D4c {H:A6} (hp:p≤H.length) (l:List AO):I1 p g G (H++l) = I1 p g G H++l.map (Q5 p g):= by
 unfold I1
 rw [List.take_append_of_le_length hp,List.drop_append_of_le_length hp]
 simp only [List.map_append,List.append_assoc]
theorem D1e (a b:List AV):renL p g (a++b) = renL p g a++renL p g b:= by simp only [U2,List.map_append]
structure RenM (p g:Nat) (M:Mach):Prop where
 call:∀{G:A6},G.length = g→∀ {c c':Sc} {H:A6} {f:AV} {aq rs:List AV} {H':A6},ScR p g c c'→p≤H.length→M.call c H f aq = some (rs,H')→M.call c' (I1 p g G H) (ren p g f) (renL p g aq) = some (renL p g rs,I1 p g G H')∧p≤H'.length
 code:∀{G:A6},G.length = g→∀ {ac:ACode} {st:St} {e:Ex} {st':St} {c':Sc},ScR p g st.c c'→p≤st.H.length→M.code ac st = some (e,st') →
  M.code (M1 p g ac) ⟨V5 p g st.s,I1 p g G st.H,c'⟩ = some (e,⟨V5 p g st'.s,I1 p g G st'.H,c'⟩)∧p≤st'.H.length∧st'.c = st.c
theorem D8x {c:Sc} {n0:Nat} {s:C9} {H:A6} {op:AOp} {r:AV × A6} (h:prim c n0 s H op = some r):r.2.length = H.length:= by
 cases op
 case alloc zs owns q=>simp only [prim,Option.some.injEq] at h; subst h; simp only [J7,B5d]
 case nil=>simp only [prim,Option.some.injEq] at h; subst h; exact J7 ..
 case mkmap=>simp only [prim,Option.some.injEq] at h; subst h; exact J7 ..
 case call=>cases h
 case mv=>simp only [prim,Option.map_eq_some_iff] at h; obtain ⟨_,_,rfl⟩:=h; rfl
 case build=>simp only [prim,Option.bind_eq_some_iff,Option.map_eq_some_iff] at h; obtain ⟨_,_,_,_,rfl⟩:=h; rfl
 case xlits=>simp only [prim,Option.bind_eq_some_iff,Option.map_eq_some_iff] at h; obtain ⟨_,_,_,_,rfl⟩:=h; rfl
 case lits k z n parts own =>
  simp only [prim,Option.bind_eq_some_iff] at h
  obtain ⟨_,_,_,_,h⟩:=h
  split at h
  ·cases own <;> simp only [Option.some.injEq] at h <;> subst h
   ·rfl
   ·exact J7 ..
  ·cases h
 case load k a =>
  cases k <;> simp only [prim] at h
  ·split at h
   ·split at h
    ·simp only [Option.some.injEq] at h; subst h; rfl
    ·cases h
   ·cases h
  ·split at h
   ·split at h
    ·split at h
     ·simp only [Option.some.injEq] at h; subst h; rfl
     ·cases h
    ·cases h
   ·cases h
 case storeN a k r =>
  simp only [prim] at h
  split at h
  ·split at h
   ·split at h
    ·simp only [Option.some.injEq] at h; subst h; simp only [J7]
    ·cases h
   ·cases h
  ·cases h
 case store k a v =>
  simp only [prim] at h
  split at h
  ·split at h
   ·split at h
    ·simp only [Option.some.injEq] at h; subst h; exact J7 ..
    ·cases h
   ·cases h
  ·split at h
   ·cases h
   ·next e1 =>
    have hl:=B2l e1
    split at h
    ·split at h
     ·split at h
      ·simp only [Option.some.injEq] at h; subst h; simp only [J7]; exact hl
      ·cases h
     ·cases h
    ·cases h
  ·cases h
 case mvz x =>
  simp only [prim] at h
  split at h
  ·exact B4w h
  ·cases h
 case sliceL kk x lo hi =>
  simp only [prim] at h
  split at h
  ·split at h
   ·next e1 =>
    have hl:=B4w e1
    split at h
    ·split at h
     ·simp only [Option.some.injEq] at h; subst h; exact hl
     ·cases h
    ·cases h
   ·cases h
  ·cases h
 all_goals
  simp only [prim] at h
  repeat' split at h
  all_goals first
   | (cases h; done)
   | (simp only [Option.some.injEq] at h; subst h; first | rfl | exact J7 .. | (simp only [J7]; done))
   | (simp only [Option.map_eq_some_iff] at h; obtain ⟨_,_,rfl⟩:=h; first | rfl | exact J7 ..)
theorem D2a {M:Mach} (hM:RenM p g M) (hG:G.length = g) {c c':Sc} (hc:ScR p g c c') {n0:Nat} (hn:p≤n0) {s:C9} {H:A6} (hp:p≤H.length) {f:Opd} {args:List Opd} {own:List (List (Nat × Nat))} {pure:Bool} {r:AV × A6} (h:A1r M c n0 s H f args own pure = some r) :
  A1r M c' (n0 + g) (V5 p g s) (I1 p g G H) (G1 p g f) (args.map (G1 p g)) own pure = some (ren2 p g G r)∧p≤r.2.length:= by
 unfold A1r at h ⊢
 rw [L1,C1q]
 split at h
 ·next fv aq e1 e2 =>
  simp only [e1,e2,Option.map_some]
  cases pure with
  | true =>
   simp only [if_true] at h ⊢
   have e0:(renL p g aq).all (X9 (I1 p g G H)) = aq.all (X9 H):= by
    rw [U2,List.all_map]; congr 1; funext v; exact D1b hG hp v
   rw [e0]
   split at h
   ·next h0 =>
    simp only [h0,if_true]
    rw [B9g hG aq hp]
    split at h
    ·cases h
    ·next as' H1 e3 =>
     simp only [e3,Option.map_some]
     split at h
     ·cases h
     ·next rs H2 e4 =>
      have:=hM.call (G:=G.map AO.toRo) (by simpa using hG) hc (by simpa using hp) e4
      rw [E1y,this.1]
      simp only
      rw [A8e hG hp,bdL_ren (.inr (.inl ⟨hp,rfl⟩))]
      split at h
      ·next h5 =>
       simp only [h5,if_true]
       simp only [Option.some.injEq] at h; subst h
       rw [C2x hG hn rs own hp]
       exact ⟨by simp only [C37],by rw [C2v]; exact hp⟩
      ·cases h
   ·cases h
  | false =>
   simp only [Bool.false_eq_true,if_false] at h ⊢
   rw [B9g hG aq hp]
   split at h
   ·cases h
   ·next as' H1 e3 =>
    have hl:=C6z e3
    simp only at hl
    simp only [e3,Option.map_some]
    split at h
    ·cases h
    ·next rs H2 e4 =>
     have:=hM.call hG hc (by rw [hl]; exact hp) e4
     rw [this.1]
     simp only [Option.some.injEq] at h; subst h
     simp only
     rw [C2x hG hn rs own this.2]
     exact ⟨by simp only [C37],by rw [C2v]; exact this.2⟩
 ·cases h
theorem D69 {M:Mach} (hM:RenM p g M) (hG:G.length = g) {c c':Sc} (hc:ScR p g c c') {n0:Nat} (hn:p≤n0) {s:C9} {H:A6} (hp:p≤H.length) {op:AOp} {r:AV × A6} (h:core M c n0 s H op = some r) :
  core M c' (n0 + g) (V5 p g s) (I1 p g G H) (L9 p g op) = some (ren2 p g G r)∧p≤r.2.length:= by
 have hk:(∃ f args own pure,op = .call f args own pure)∨((∀ (M:Mach) (c:Sc) (n0:Nat) (s:C9) (H:A6),core M c n0 s H op = prim c n0 s H op)∧∀ (M:Mach) (c:Sc) (n0:Nat) (s:C9) (H:A6),core M c n0 s H (L9 p g op) = prim c n0 s H (L9 p g op)):= by
  cases op <;> first
   | exact .inl ⟨_,_,_,_,rfl⟩
   | exact .inr ⟨fun _ _ _ _ _=>rfl,fun _ _ _ _ _=>rfl⟩
 rcases hk with ⟨f,args,own,pure,rfl⟩ | ⟨h1,h2⟩
 ·exact D2a hM hG hc hn hp h
 ·rw [h1] at h
  rw [h2,D1a hG hc hn hp s op,h]
  exact ⟨rfl,by rw [D8x h]; exact hp⟩
theorem D8h {M:Mach} (hM:RenM p g M) (hG:G.length = g) {c c':Sc} (hc:ScR p g c c') {n0:Nat} (hn:p≤n0) {s:C9} {H:A6} (hp:p≤H.length) {hc0:List (Option (List Nat))} {o:AOper} {s1:C9} {H1:A6} {hc1:List (Option (List Nat))} (h:oper M c n0 s H hc0 o = some (s1,H1,hc1)) :
  oper M c' (n0 + g) (V5 p g s) (I1 p g G H) (hcR p g hc0) (A3f p g o) = some (V5 p g s1,I1 p g G H1,hcR p g hc1)∧p≤H1.length:= by
 unfold oper at h ⊢
 have hw:wanted (V5 p g s) (A3f p g o).guard = wanted s o.guard:=D3l s o.guard
 have hwr:writes (A3f p g o).op = writes o.op:=C5b o.op
 rw [hw,D7j hG hn s hp o,D3d,hwr]
 split at h
 ·cases h
 ·next e0 =>
  simp only [Option.some.injEq,Prod.mk.injEq] at h
  obtain ⟨rfl,rfl,rfl⟩:=h
  try simp only [e0]
  refine ⟨?_,hp⟩
  have:sput (V5 p g s) (A3f p g o).dst (.tup []) = V5 p g (sput s o.dst (.tup [])):= by
   have:=C4v (p:=p) (g:=g) s o.dst (.tup []); simpa [ren,renL,A3f] using this
  rw [this]
  cases writes o.op <;> rfl
 ·next e0 =>
  try simp only [e0]
  split at h
  ·next hs e1 e2 =>
   simp only [e1,e2,Option.map_some]
   obtain ⟨k1,k2⟩:=C2q hG hp hs
   rw [k1]
   split at h
   ·next r e3 =>
    obtain ⟨k3,k4⟩:=D69 hM hG hc hn (by rw [k2]; exact hp) e3
    have e4:(A3f p g o).op = L9 p g o.op:=rfl
    rw [e4,k3]
    simp only
    have hE:(hs.map (rb p g)).isEmpty = hs.isEmpty:= by cases hs <;> rfl
    have hL:Nat.ble (I1 p g G H).length (I1 p g G r.2).length = Nat.ble H.length r.2.length:= by
     rw [A8e hG hp,A8e hG k4]
     cases h1:Nat.ble H.length r.2.length with
     | true=>exact Nat.ble_eq_true_of_le (by have:=Nat.le_of_ble_eq_true h1; omega)
     | false =>
      cases h2:Nat.ble (H.length + g) (r.2.length + g) with
      | false=>rfl
      | true =>
       have:=Nat.le_of_ble_eq_true h2
       have:=Nat.ble_eq_true_of_le (show H.length≤r.2.length by omega)
       rw [h1] at this; cases this
    rw [hE,hL]
    split at h
    ·next h5 =>
     simp only [h5,if_true]
     simp only [Option.some.injEq,Prod.mk.injEq] at h
     obtain ⟨rfl,rfl,rfl⟩:=h
     obtain ⟨k5,k6⟩:=C44 hG hp k4 hs
     refine ⟨?_,by rw [k6]; exact k4⟩
     rw [k5]
     have:sput (V5 p g s) (A3f p g o).dst (ren2 p g G r).1 = V5 p g (sput s o.dst r.1):=C4v s o.dst r.1
     rw [this]
     cases writes o.op <;> rfl
    ·cases h
   ·cases h
  ·cases h
theorem C7i {M:Mach} (hM:RenM p g M) (hG:G.length = g) {c c':Sc} (hc:ScR p g c c') {n0:Nat} (hn:p≤n0):∀{l:List AOper} {s:C9} {H:A6} (hp:p≤H.length) {hc0:List (Option (List Nat))} {s1:C9} {H1:A6},opers M c n0 l s H hc0 = some (s1,H1) →
  opers M c' (n0 + g) (l.map (A3f p g)) (V5 p g s) (I1 p g G H) (hcR p g hc0) = some (V5 p g s1,I1 p g G H1)∧p≤H1.length
 | [],s,H,hp,hc0,s1,H1,h=>by
  simp only [opers,Option.some.injEq,Prod.mk.injEq] at h
  obtain ⟨rfl,rfl⟩:=h
  exact ⟨rfl,hp⟩
 | o :: l,s,H,hp,hc0,s1,H1,h=>by
  simp only [opers,List.map_cons] at h ⊢
  split at h
  ·cases h
  ·next s2 H2 hc2 e1 =>
   obtain ⟨k1,k2⟩:=D8h hM hG hc hn hp e1
   simp only [k1]
   exact C7i hM hG hc hn k2 h
theorem C79 {M:Mach} (hM:RenM p g M) (hG:G.length = g) {ac:ACode} {st:St} {e:Ex} {st':St} {c':Sc} (hc:ScR p g st.c c') (hp:p≤st.H.length) (h:H6 M st ac = some (e,st')) :
  H6 M ⟨V5 p g st.s,I1 p g G st.H,c'⟩ (M1 p g ac) = some (e,⟨V5 p g st'.s,I1 p g G st'.H,c'⟩)∧p≤st'.H.length∧st'.c = st.c:= by
 cases ac with
 | skip=>simp only [H6,Option.some.injEq,Prod.mk.injEq] at h; obtain ⟨rfl,rfl⟩:=h; exact ⟨rfl,hp,rfl⟩
 | exit id=>simp only [H6,Option.some.injEq,Prod.mk.injEq] at h; obtain ⟨rfl,rfl⟩:=h; exact ⟨rfl,hp,rfl⟩
 | ret=>simp only [H6,Option.some.injEq,Prod.mk.injEq] at h; obtain ⟨rfl,rfl⟩:=h; exact ⟨rfl,hp,rfl⟩
 | scope a=>exact hM.code hG hc hp h
 | region d nres pre ops live =>
  simp only [H6,M1] at h ⊢
  obtain ⟨k1,k2⟩:=C0y hG st.s pre hp
  rw [k1]
  split at h
  ·next H e1 =>
   have hl:=k2 H e1
   simp only [e1,Option.map_some]
   split at h
   ·next r e2 =>
    simp only [Option.some.injEq,Prod.mk.injEq] at h
    obtain ⟨rfl,rfl⟩:=h
    have hp':p≤H.length:= by rw [hl]; exact hp
    have:=C7i hM hG hc (n0:=H.length) hp' (by simp; omega) e2
    rw [D4c hp',List.map_replicate] at this
    rw [A8e hG hp']
    simp only [Q5,hcR,List.map_nil] at this
    rw [this.1]
    exact ⟨by simp only [A7q],this.2,rfl⟩
   ·cases h
  ·cases h
 | seq a b =>
  simp only [H6,M1] at h ⊢
  cases h1:M.code a st with
  | none=>simp [h1] at h
  | some q =>
   obtain ⟨e1,st1⟩:=q
   obtain ⟨k1,k2,k3⟩:=hM.code hG hc hp h1
   rw [h1] at h
   rw [k1]
   cases e1 with
   | normal =>
    simp only at h ⊢
    obtain ⟨k4,k5,k6⟩:=hM.code hG (c':=c') (by rw [k3]; exact hc) k2 h
    exact ⟨k4,k5,k6.trans k3⟩
   | exit id=>simp only [Option.some.injEq,Prod.mk.injEq] at h; obtain ⟨rfl,rfl⟩:=h; exact ⟨rfl,k2,k3⟩
   | ret=>simp only [Option.some.injEq,Prod.mk.injEq] at h; obtain ⟨rfl,rfl⟩:=h; exact ⟨rfl,k2,k3⟩
 | cond x a b =>
  simp only [H6,M1,L1] at h ⊢
  split at h
  ·next e1=>simp only [e1,Option.map_some,ren]; exact hM.code hG hc hp h
  ·next e1=>simp only [e1,Option.map_some,ren]; exact hM.code hG hc hp h
  ·cases h
 | block id a =>
  simp only [H6,M1] at h ⊢
  cases h1:M.code a st with
  | none=>simp [h1] at h
  | some q =>
   obtain ⟨e1,st1⟩:=q
   obtain ⟨k1,k2,k3⟩:=hM.code hG hc hp h1
   rw [h1] at h
   rw [k1]
   cases e1 with
   | exit j =>
    simp only at h ⊢
    split at h
    ·next hj=>simp only [hj,if_true]; simp only [Option.some.injEq,Prod.mk.injEq] at h; obtain ⟨rfl,rfl⟩:=h; exact ⟨rfl,k2,k3⟩
    ·next hj=>simp only [hj]; simp only [Option.some.injEq,Prod.mk.injEq] at h; obtain ⟨rfl,rfl⟩:=h; exact ⟨rfl,k2,k3⟩
   | normal=>simp only [Option.some.injEq,Prod.mk.injEq] at h; obtain ⟨rfl,rfl⟩:=h; exact ⟨rfl,k2,k3⟩
   | ret=>simp only [Option.some.injEq,Prod.mk.injEq] at h; obtain ⟨rfl,rfl⟩:=h; exact ⟨rfl,k2,k3⟩
 | loop tr live body =>
  simp only [H6,M1] at h ⊢
  rw [A8e hG hp,A7q]
  have hcb:ScR p g (if tr then { s:=restrict st.s live,H:=st.H,c:=⟨st.H.length,st.c.cur :: st.c.outer⟩ } else { st with s:=restrict st.s live }:St).c (if tr then ⟨st.H.length + g,c'.cur :: c'.outer⟩ else c'):= by
   cases tr with
   | true=>exact ⟨.inr (.inl ⟨hp,rfl⟩),.cons hc.cur hc.outer⟩
   | false=>exact hc
  cases h1:M.code body (if tr then { s:=restrict st.s live,H:=st.H,c:=⟨st.H.length,st.c.cur :: st.c.outer⟩ } else { st with s:=restrict st.s live }) with
  | none=>simp [h1] at h
  | some q =>
   obtain ⟨e1,st1⟩:=q
   obtain ⟨k1,k2,k3⟩:=hM.code hG hcb (by cases tr <;> exact hp) h1
   rw [h1] at h
   have k1':M.code (M1 p g body) (if tr then { s:=V5 p g (restrict st.s live),H:=I1 p g G st.H,c:=⟨st.H.length + g,c'.cur :: c'.outer⟩ } else { s:=V5 p g (restrict st.s live),H:=I1 p g G st.H,c:=c' }) = some (e1,⟨V5 p g st1.s,I1 p g G st1.H,if tr then ⟨st.H.length + g,c'.cur :: c'.outer⟩ else c'⟩):= by
    cases tr with
    | true=>simpa using k1
    | false=>simpa using k1
   rw [k1']
   cases e1 with
   | normal =>
    simp only [A7q] at h ⊢
    cases tr with
    | true =>
     simp only [if_true] at h ⊢
     rw [C6m (.inr (.inl ⟨hp,rfl⟩))]
     split at h
     ·next h5 =>
      simp only [h5,if_true]
      rw [D0i k2 hp hG]
      have:=hM.code hG (ac:=.loop true live body) (st:={ s:=restrict st1.s live,H:=st1.H.take st.H.length,c:=st.c }) (c':=c') hc (by rw [List.length_take]; omega) h
      exact this
     ·cases h
    | false =>
     simp only [Bool.false_eq_true,if_false] at h ⊢
     exact hM.code hG (ac:=.loop false live body) (st:={ s:=restrict st1.s live,H:=st1.H,c:=st.c }) (c':=c') hc k2 h
   | exit id=>simp only [Option.some.injEq,Prod.mk.injEq] at h; obtain ⟨rfl,rfl⟩:=h; exact ⟨rfl,k2,rfl⟩
   | ret=>simp only [Option.some.injEq,Prod.mk.injEq] at h; obtain ⟨rfl,rfl⟩:=h; exact ⟨rfl,k2,rfl⟩
 | rangeFunc f ps live assign body =>
  simp only [H6,M1,L1,A7q] at h ⊢
  split at h
  ·next i fa fc e1 =>
   simp only [e1,Option.map_some,ren,B8t]
   split at h
   ·next rs H' e2 =>
    have:=hM.call hG hc (by simp; omega) e2
    rw [D4c hp] at this
    simp only [List.map_cons,List.map_nil,Q5,ren,B8t,renL] at this
    rw [A8x hp] at this
    rw [A8e hG hp,this.1]
    simp only
    have hg:hget (I1 p g G H') (st.H.length + g) = (hget H' st.H.length).map (Q5 p g):= by rw [← A8x (g:=g) hp]; exact A3i hG this.2 _
    have hs:hset (I1 p g G H') (st.H.length + g) .dead = I1 p g G (hset H' st.H.length .dead):= by rw [← A8x (g:=g) hp,← T1 hG this.2]; simp only [Q5]
    rw [hg,hs]
    split at h
    ·next e3 =>
     simp only [e3,Option.map_some,Q5]
     simp only [Option.some.injEq,Prod.mk.injEq] at h; obtain ⟨rfl,rfl⟩:=h
     exact ⟨rfl,by rw [J7]; exact this.2,rfl⟩
    ·next e3 =>
     simp only [e3,Option.map_some,Q5]
     simp only [Option.some.injEq,Prod.mk.injEq] at h; obtain ⟨rfl,rfl⟩:=h
     exact ⟨rfl,by rw [J7]; exact this.2,rfl⟩
    ·cases h
   ·cases h
  ·cases h
theorem C4d:∀(l:List (Nat × AV)) (s:C9),(l.map fun x=>(x.1,ren p g x.2)).foldl (fun s x=>sput s (some x.1) x.2) (V5 p g s) = V5 p g (l.foldl (fun s x=>sput s (some x.1) x.2) s)
 | [],s=>rfl
 | x :: l,s=>by
  simp only [List.map_cons,List.foldl_cons,C4v]
  exact C4d l _
theorem B3c {T:Tab} (hT:∀i af,T i = some af→M1 p g af.body = af.body) {M:Mach} (hM:RenM p g M) (hG:G.length = g) {c c':Sc} {H:A6} {f:AV} {aq rs:List AV} {H':A6} (hc:ScBs p g (c.cur :: c.outer) (c'.cur :: c'.outer)) (hp:p≤H.length) (h:R0 T M c H f aq = some (rs,H')) :
  R0 T M c' (I1 p g G H) (ren p g f) (renL p g aq) = some (renL p g rs,I1 p g G H')∧p≤H'.length:= by
 have hcb:ScR p g ⟨H.length,c.cur :: c.outer⟩ ⟨(I1 p g G H).length,c'.cur :: c'.outer⟩:=⟨.inr (.inl ⟨hp,A8e hG hp⟩),hc⟩
 unfold R0 at h
 split at h
 ·next i first cap =>
  simp only [ren,B8t]
  unfold R0
  simp only
  split at h
  ·cases h
  ·next af e1 =>
   try simp only [e1]
   try simp only at h
   have e2:renL p g first++renL p g aq++renL p g cap = renL p g (first++aq++cap):= by rw [D1e,D1e]
   rw [e2,A2q]
   split at h
   ·next h5 =>
    simp only [h5,if_true]
    have fin:∀e1 st,(e1 = Ex.normal∨e1 = Ex.ret)→M.code af.body { s:=R8 0 (first++aq++cap),H,c:=⟨H.length,c.cur :: c.outer⟩ } = some (e1,st)→(match results st.s st.H af.results with
      | none=>none
      | some rs=>match A1l H.length st.H rs with
       | none=>none
       | some (rs,H')=>some (rs,trunc H.length rs H')) = some (rs,H') →
      M.code af.body { s:=R8 0 (renL p g (first++aq++cap)),H:=I1 p g G H,c:=⟨(I1 p g G H).length,c'.cur :: c'.outer⟩ } = some (e1,⟨V5 p g st.s,I1 p g G st.H,⟨(I1 p g G H).length,c'.cur :: c'.outer⟩⟩)∧(match results (V5 p g st.s) (I1 p g G st.H) af.results with
      | none=>none
      | some rs=>match A1l (I1 p g G H).length (I1 p g G st.H) rs with
       | none=>none
       | some (rs,H')=>some (rs,trunc (I1 p g G H).length rs H')) = some (renL p g rs,I1 p g G H')∧p≤H'.length:= by
     intro e1 st _ h1 h2
     obtain ⟨k1,k2,k3⟩:=hM.code hG hcb hp h1
     rw [hT _ _ ‹_›] at k1
     rw [B7o]
     refine ⟨k1,?_⟩
     rw [B5a hG st.s k2]
     split at h2
     ·cases h2
     ·next rs0 e3 =>
      simp only [e3,Option.map_some]
      rw [C7m hG hcb.cur rs0 k2]
      split at h2
      ·cases h2
      ·next rs1 H1 e4 =>
       have hl:=C7l e4
       simp only [e4,Option.map_some]
       simp only [Option.some.injEq,Prod.mk.injEq] at h2
       obtain ⟨rfl,rfl⟩:=h2
       simp only at hl
       exact ⟨by rw [C7y hp (A8e hG hp) (by rw [hl]; exact k2) hG],C7x hp (by rw [hl]; exact k2) _⟩
    split at h
    ·next st e3=>obtain ⟨a,b,d⟩:=fin _ _ (.inl rfl) e3 h; rw [a]; exact ⟨b,d⟩
    ·next st e3=>obtain ⟨a,b,d⟩:=fin _ _ (.inr rfl) e3 h; rw [a]; exact ⟨b,d⟩
    ·cases h
   ·cases h
 ·next l =>
  simp only [ren,B8t,renL]
  unfold R0
  simp only
  rw [A3i hG hp]
  split at h
  ·next f0 s ps assign body e1 =>
   simp only [e1,Option.map_some,Q5,A2q]
   split at h
   ·next h5 =>
    simp only [h5,if_true]
    have ez:ps.zip (renL p g aq) = (ps.zip aq).map fun x=>(x.1,ren p g x.2):= by
     rw [U2,List.zip_map_right]; rfl
    rw [ez,C4d]
    split at h
    ·next st e2 =>
     obtain ⟨k1,k2,k3⟩:=hM.code hG hcb hp e2
     simp only at k1
     rw [k1]
     simp only
     rw [A3i hG k2]
     split at h
     ·next f1 s1 ps1 a1 b1 e3 =>
      simp only [e3,Option.map_some,Q5]
      split at h
      ·next e st2 e4 =>
       have hs:hset (I1 p g G st.H) (rb p g l) (.loop f1 (V5 p g s1) ps1 (M1 p g a1) (M1 p g b1) true none) = I1 p g G (hset st.H l (.loop f1 s1 ps1 a1 b1 true none)):= by
        rw [← T1 hG k2]; simp only [Q5]
       obtain ⟨k4,k5,k6⟩:=hM.code hG (st:={ st with H:=hset st.H l (.loop f1 s1 ps1 a1 b1 true none) }) (by rw [show ({ st with H:=hset st.H l (.loop f1 s1 ps1 a1 b1 true none) }:St).c = st.c from rfl,k3]; exact hcb) (by rw [J7]; exact k2) e4
       simp only at k4
       rw [hs,k4]
       simp only
       rw [A3i hG k5]
       split at h
       ·next f2 s2 ps2 a2 b2 e5 =>
        simp only [e5,Option.map_some,Q5]
        simp only [Option.some.injEq,Prod.mk.injEq] at h
        obtain ⟨rfl,rfl⟩:=h
        have hs2:∀pend,hset (I1 p g G st2.H) (rb p g l) (.loop f2 (V5 p g s2) ps2 (M1 p g a2) (M1 p g b2) false pend) = I1 p g G (hset st2.H l (.loop f2 s2 ps2 a2 b2 false pend)):= by
         intro pend; rw [← T1 hG k5]; simp only [Q5]
        rw [hs2]
        refine ⟨?_,C7x hp (by rw [J7]; exact k5) _⟩
        have ht:∀pend,trunc (I1 p g G H).length [] (I1 p g G (hset st2.H l (.loop f2 s2 ps2 a2 b2 false pend))) = I1 p g G (trunc H.length [] (hset st2.H l (.loop f2 s2 ps2 a2 b2 false pend))):= by
         intro pend
         have:=C7y (p:=p) (g:=g) hp (A8e hG hp) (H:=hset st2.H l (.loop f2 s2 ps2 a2 b2 false pend)) (by rw [J7]; exact k5) hG []
         simp only [renL] at this
         exact this
        rw [ht]
        cases e <;> simp [renL,ren]
       ·cases h
      ·cases h
     ·cases h
    ·cases h
   ·cases h
  ·cases h
 ·cases h
theorem C3e {T:Tab} (hT:∀i af,T i = some af→M1 p g af.body = af.body):∀n,RenM p g (mach T n)
 | 0=>by
  constructor
  ·intros; rename_i h; simp [mach] at h
  ·intros; rename_i h; simp [mach] at h
 | n + 1=>by
  have ih:=C3e hT n
  constructor
  ·intro G hG c c' H f aq rs H' hc hp h
   rw [A1d] at h ⊢
   exact B3c hT ih hG (.cons hc.cur hc.outer) hp h
  ·intro G hG ac st e st' c' hc hp h
   rw [A1e] at h ⊢
   exact C79 ih hG hc hp h
end
mutual
def AV.free:AV→Bool
 | .lit _ | .nils _ | .undef=>true
 | .seq _ rows | .fresh _ rows | .xseq _ rows=>freeR rows
 | .agg cs | .tup cs | .cptr cs=>freeL cs
 | _=>false
def freeL:List AV→Bool
 | []=>true
 | v :: l=>v.free && freeL l
def freeR:List (List AV)→Bool
 | []=>true
 | r :: l=>freeL r && freeR l
end
mutual
theorem ren_free {p g:Nat}:(v:AV)→v.free = true→ren p g v = v
 | .lit _,_ | .nils _,_ | .undef,_=>by simp only [ren]
 | .seq _ rows,h | .fresh _ rows,h | .xseq _ rows,h=>by simp only [AV.free] at h; simp only [ren,renR_free rows h]
 | .agg cs,h | .tup cs,h | .cptr cs,h=>by simp only [AV.free] at h; simp only [ren,renL_free cs h]
 | .ptr _ _,h | .itr _,h | .eptr _ _ _ _,h | .asl _ _,h | .csl _ _ _ _,h | .mp _,h | .fn _ _ _,h=>by simp [AV.free] at h
theorem renL_free {p g:Nat}:(l:List AV)→freeL l = true→renL p g l = l
 | [],_=>by simp only [renL]
 | v :: l,h=>by
  simp only [freeL,Bool.and_eq_true] at h
  simp only [renL,ren_free v h.1,renL_free l h.2]
theorem renR_free {p g:Nat}:(l:List (List AV))→freeR l = true→renR p g l = l
 | [],_=>by simp only [renR]
 | v :: l,h=>by
  simp only [freeR,Bool.and_eq_true] at h
  simp only [renR,renL_free v h.1,renR_free l h.2]
end
def Opd.free:Opd→Bool
 | .c v=>v.free
 | _=>true
def D30:Option Opd→Bool
 | some x=>x.free
 | none=>true
theorem K1 {p g:Nat} {x:Opd} (h:x.free = true):G1 p g x = x:= by
 cases x with
 | c v=>simp only [G1]; rw [ren_free v h]
 | _=>rfl
theorem A3e {p g:Nat} {x:Option Opd} (h:D30 x = true):A8l p g x = x:= by
 cases x with
 | none=>rfl
 | some x=>simp only [A8l]; rw [K1 h]
theorem B8c {p g:Nat} {l:List Opd} (h:l.all Opd.free = true):l.map (G1 p g) = l:= by
 induction l with
 | nil=>rfl
 | cons x l ih =>
  simp only [List.all_cons,Bool.and_eq_true] at h
  rw [List.map_cons,K1 h.1,ih h.2]
theorem D23 {p g:Nat} {l:List (Nat × Nat × Opd)} (h:(l.all fun q=>q.2.2.free) = true):l.map (fun q=>(q.1,q.2.1,G1 p g q.2.2)) = l:= by
 induction l with
 | nil=>rfl
 | cons x l ih =>
  simp only [List.all_cons,Bool.and_eq_true] at h
  rw [List.map_cons,K1 h.1,ih h.2]
theorem C0v {p g:Nat} {l:List (Nat × Opd)} (h:(l.all fun q=>q.2.free) = true):l.map (fun q=>(q.1,G1 p g q.2)) = l:= by
 induction l with
 | nil=>rfl
 | cons x l ih =>
  simp only [List.all_cons,Bool.and_eq_true] at h
  rw [List.map_cons,K1 h.1,ih h.2]
def E1k:Fn→Bool
 | .func _=>true
 | _=>false
def AOp.free:AOp→Bool
 | .mv x | .mvz x | .storeN x _ _ | .box _ x _ | .load _ x | .nilck x | .un _ x | .conv _ x | .idc x | .sliceA _ _ x | .fieldAddr _ x | .field _ _ x | .range x _ | .next x | .extract x _ | .lenS x | .lenL x | .lenM x=>x.free
 | .nil _ _ | .mkmap _=>true
 | .pick c a b=>c.free && a.free && b.free
 | .alloc zs _ _=>freeL zs
 | .build z parts=>freeL z && parts.all fun q=>q.2.2.free
 | .lits _ z _ parts _ | .xlits _ z _ parts=>freeL z && parts.all fun q=>q.2.free
 | .store _ a v | .bin _ a v | .beq _ a v | .cmp _ _ a v | .idxS _ a v | .idxA _ _ a v | .idxStr a v | .idxAgg _ _ _ a v | .append _ _ a v _ _ | .copy _ a v=>a.free && v.free
 | .mkfn f a c=>E1k f && a.all Opd.free && c.all Opd.free
 | .mkslice _ _ z l c _=>freeL z && l.free && c.free
 | .sliceS x lo hi | .sliceL _ x lo hi | .sliceQ _ x lo hi=>x.free && D30 lo && D30 hi
 | .lookup z _ _ x i _=>z.free && x.free && i.free
 | .mupd _ _ m k v=>m.free && k.free && v.free
 | .mm _ xs=>xs.all Opd.free
 | .cut _ x hi _=>x.free && D30 hi
 | .call f args _ _=>f.free && args.all Opd.free
theorem D54 {p g:Nat} {f:Fn} (h:E1k f = true):B8t p g f = f:= by cases f <;> first | rfl | cases h
theorem D3a {p g:Nat} {op:AOp} (h:op.free = true):L9 p g op = op:= by
 cases op <;> simp only [AOp.free,Bool.and_eq_true] at h <;> simp only [L9]
 case mkfn=>rw [D54 h.1.1,B8c h.1.2,B8c h.2]
 case alloc=>rw [renL_free _ h]
 case build=>rw [renL_free _ h.1,D23 h.2]
 case lits=>rw [renL_free _ h.1,C0v h.2]
 case xlits=>rw [renL_free _ h.1,C0v h.2]
 case mkslice=>rw [renL_free _ h.1.1,K1 h.1.2,K1 h.2]
 case lookup=>rw [ren_free _ h.1.1,K1 h.1.2,K1 h.2]
 case sliceS=>rw [K1 h.1.1,A3e h.1.2,A3e h.2]
 case sliceL=>rw [K1 h.1.1,A3e h.1.2,A3e h.2]
 case sliceQ=>rw [K1 h.1.1,A3e h.1.2,A3e h.2]
 case cut=>rw [K1 h.1,A3e h.2]
 case call=>rw [K1 h.1,B8c h.2]
 case mm=>rw [B8c h]
 all_goals first
  | rw [K1 h]
  | rw [K1 h.1,K1 h.2]
  | rw [K1 h.1.1,K1 h.1.2,K1 h.2]
def ACode.free:ACode→Bool
 | .region _ _ _ ops _=>ops.all fun o=>o.op.free
 | .seq a b=>a.free && b.free
 | .cond c a b=>c.free && (a.free && b.free)
 | .block _ a | .loop _ _ a | .scope a=>a.free
 | .rangeFunc f _ _ a b=>f.free && (a.free && b.free)
 | _=>true
theorem D5w {p g:Nat} {l:List AOper} (h:(l.all fun o=>o.op.free) = true):l.map (A3f p g) = l:= by
 induction l with
 | nil=>rfl
 | cons x l ih =>
  simp only [List.all_cons,Bool.and_eq_true] at h
  rw [List.map_cons,ih h.2]
  unfold A3f; rw [D3a h.1]
theorem Q0 {p g:Nat}:(ac:ACode)→ac.free = true→M1 p g ac = ac
 | .region _ _ _ ops _,h=>by simp only [ACode.free] at h; simp only [M1]; rw [D5w h]
 | .seq a b,h=>by simp only [ACode.free,Bool.and_eq_true] at h; simp only [M1,Q0 a h.1,Q0 b h.2]
 | .cond c a b,h=>by simp only [ACode.free,Bool.and_eq_true] at h; simp only [M1,K1 h.1,Q0 a h.2.1,Q0 b h.2.2]
 | .block _ a,h | .loop _ _ a,h | .scope a,h=>by simp only [ACode.free] at h; simp only [M1,Q0 a h]
 | .rangeFunc f _ _ a b,h=>by simp only [ACode.free,Bool.and_eq_true] at h; simp only [M1,K1 h.1,Q0 a h.2.1,Q0 b h.2.2]
 | .skip,_ | .exit _,_ | .ret,_=>by simp only [M1]
def B7f (T:Tab):Prop:=∀ i af,T i = some af→af.body.free = true
def Z9 (c:Sc) (H:A6):Bool:=(c.cur :: c.outer).all fun B=>Nat.ble B H.length
theorem D4o {g:Nat}:∀{l:List Nat},(l.all fun B=>Nat.ble B g) = true→ScBs 0 g [] l
 | [],_=>.nil
 | B :: l,h=>by
  simp only [List.all_cons,Bool.and_eq_true] at h
  exact .extra (fun b=>by rw [A8x (Nat.zero_le b)]; have:=Nat.le_of_ble_eq_true h.1; omega) (D4o h.2)
theorem D9x (G:A6) (g:Nat):I1 0 g G [] = G:= by simp [I1]
theorem Q9.shift {T:Tab} (hT:B7f T) {i:Nat} {aq rs:List AV} (h:Q9 T ⟨0,[]⟩ [] (.fn (.func i) [] []) aq rs []) (ha:freeL aq = true) (hr:freeL rs = true) {c:Sc} {H:A6} (hc:Z9 c H = true):Q9 T c H (.fn (.func i) [] []) aq rs H:= by
 obtain ⟨n,e⟩:=h
 cases n with
 | zero=>simp [mach] at e
 | succ n =>
  rw [A1d] at e
  have:=(B3c (p:=0) (g:=H.length) (G:=H) (c:=⟨0,[]⟩) (c':=c) (fun i af h=>Q0 _ (hT i af h)) (C3e (fun i af h=>Q0 _ (hT i af h)) n) rfl (.drop (D4o hc)) (Nat.zero_le _) e).1
  rw [D9x,renL_free _ ha,renL_free _ hr,ren] at this
  simp only [B8t,renL] at this
  exact ⟨n + 1,by rw [A1d]; exact this⟩
section
variable {H0:A6} {l:List AO} {j:Nat}
theorem A17 (H0:A6) (l:List AO) (j:Nat):hget (H0++l) (H0.length + j) = l[j]?:= by
 unfold hget; rw [List.getElem?_append_right (Nat.le_add_right _ _)]; congr 1; omega
theorem I6 (H0:A6) (l:List AO) (j:Nat) (o:AO):hset (H0++l) (H0.length + j) o = H0++l.set j o:= by
 unfold hset; rw [List.set_append_right _ _ (Nat.le_add_right _ _)]; congr 2; omega
theorem C62 {b:Nat} {o:AO} (h:hget H0 b = some o) (l:List AO):hget (H0++l) b = some o:= by
 unfold hget at h ⊢
 have:=List.getElem?_eq_some_iff.1 h
 rw [List.getElem?_append_left this.1]; exact h
theorem F3 {cs:List AV} (h:l[j]? = some (.cells cs)):hcells (H0++l) (H0.length + j) = some cs:= by
 unfold hcells; rw [A17,h]
theorem B1i {cs:List AV} (h:l[j]? = some (.cells cs)):A11 (H0++l) (H0.length + j) = some cs:= by
 unfold A11; rw [A17,h]
theorem T7 {b:Nat} {cs:List AV} (h:hcells H0 b = some cs) (l:List AO):hcells (H0++l) b = some cs:= by
 unfold hcells at h ⊢
 split at h
 ·next e=>rw [C62 e]; exact h
 ·next e=>rw [C62 e]; exact h
 ·cases h
theorem B9k (H:A6) (b:Nat):hcells (H.map AO.toRo) b = hcells H b:= by
 unfold hcells hget
 rw [List.getElem?_map]
 cases h:H[b]? with
 | none=>rfl
 | some o=>cases o <;> first | rfl | (next o=>cases o <;> rfl)
theorem A1j {k:Nat} {p:Bool} {rows:List (List AV)} (h:l[j]? = some (.arr k p rows)):harr (H0++l) (H0.length + j) = some (k,p,rows):= by
 unfold harr; rw [A17,h]
theorem V1 {k:Nat} {p:Bool} {rows:List (List AV)} (h:l[j]? = some (.arr k p rows)):A5s (H0++l) (H0.length + j) = some (k,p,rows):= by
 unfold A5s; rw [A17,h]
theorem K7 (H0:A6) (l:List AO) (k:Nat):(H0++l).take (H0.length + k) = H0++l.take k:= by
 rw [List.take_append,List.take_of_length_le (Nat.le_add_right _ _)]; simp
end
def cI (n:Int):List AV:=[.lit (.int .i64 n)]
def X5 (n:Int):List AV:=[.lit (.int .u16 n)]
def cB (b:Bool):List AV:=[.lit (.bool b)]
def cS (s:ByteArray):List AV:=[.lit (.string s)]
def cL (k:Nat) {α:Type} (f:α→List AV) (l:List α):List AV:=[.seq k (l.map f)]
structure IArr (n:Nat) where
 l:List Int
 h:l.length = n
theorem IArr.ext {n:Nat} {a b:IArr n} (h:a.l = b.l):a = b:= by cases a; cases b; simp only at h; subst h; rfl
instance {n:Nat}:DecidableEq (IArr n):=fun a b=>if h:a.l = b.l then isTrue (IArr.ext h) else isFalse fun e=>h (by rw [e])
def IArr.zero (n:Nat):IArr n:=⟨List.replicate n 0,List.length_replicate⟩
def IArr.set {n:Nat} (a:IArr n) (i x:Int):IArr n:=⟨a.l.set i.toNat x,by rw [List.length_set]; exact a.h⟩
def cA (k:IntKind) {n:Nat} (a:IArr n):List AV:=a.l.map fun n=>.lit (.int k n)
theorem B3b (k:IntKind) {n:Nat} (a:IArr n):(cA k a).length = n:= by simp [cA,a.h]
theorem D62 (k:IntKind) {n:Nat} (a:IArr n):Nat.beq (cA k a).length n = true:= by rw [B3b]; exact Nat.beq_refl n
theorem C9s (k:IntKind) {n:Nat} (a:IArr n):(cA k a).all AV.plain = true:= by simp [cA,List.all_map,Function.comp_def,AV.plain]
theorem D63 (k:IntKind) {n:Nat} (a:IArr n):Nat.ble n ((cA k a).drop 0).length = true:= by rw [List.drop_zero,B3b]; exact Nat.ble_eq_true_of_le (Nat.le_refl _)
theorem D3t (k:IntKind) {n:Nat} (a:IArr n):((cA k a).drop 0).take n = cA k a:= by rw [List.drop_zero,List.take_of_length_le (by rw [B3b]; exact Nat.le_refl _)]
abbrev w64 (n:Int):Int:=IntKind.i64.wrap n
def idx {α:Type} (l:List α) (i:Int):Option α:=if 0≤i then l[i.toNat]? else none
def A0y {α:Type} (n:Nat) (l:List α) (i:Int):Option α:=if 0≤i∧i < n then l[i.toNat]? else none
def A1w {α:Type} (l:List α) (i:Int) (x:α):List α:=l.set i.toNat x
def app {α:Type} (bytes:Nat) (l m:List α):Option (List α):=if (l.length + m.length) * bytes≤1099511627776∧l.length + m.length≤1099511627776 then some (l++m) else none
def slc {α:Type} (l:List α) (lo hi:Int):Option (List α):=if 0≤lo∧lo≤hi∧hi≤l.length then some ((l.take hi.toNat).drop lo.toNat) else none
def C4x (s:ByteArray) (i:Int):Option Int:=if 0≤i then (s[i.toNat]?).map fun c=>(c.toNat:Int) else none
def B8e {α:Type} (bytes:Nat) (n:Int) (z:α):Option (List α):=if 0≤n∧n * bytes≤1099511627776∧n≤1099511627776 then some (List.replicate n.toNat z) else none
def B56 (a b:Int):Option Int:=if b = 0 then none else some (a.tmod b)
def D3e (k:IntKind) (a b:Int):Option Int:=if b < 0 then none else some (k.wrap (a * 2 ^ (min b.toNat k.bits)))
def B30 (k:IntKind) (a b:Int):Option Int:=if b < 0 then none else some (a.fdiv (2 ^ (min b.toNat k.bits)))
def B7m (a b:Int):Int:=w64 (BitVec.ofInt 64 a &&& BitVec.ofInt 64 b).toNat
def orI (a b:Int):Int:=w64 (BitVec.ofInt 64 a ||| BitVec.ofInt 64 b).toNat
def Q4 (k:IntKind) (a b:Int):Int:=k.wrap (BitVec.ofInt k.bits a &&& BitVec.ofInt k.bits b).toNat
def A5w (x y:Int):Int:=if y > x then y else x
def A89 (x y:Int):Int:=if y < x then y else x
def eqS (x y:ByteArray):Bool:=x.data.toList == y.data.toList
section
variable {T:Tab} {s:C9} {H0 H:A6} {l:List AO} {c:Sc} {n0 k0:Nat} {R:C9→A6→Prop}
theorem E4x {x:Opd} {v:AV} (h:ev s x = some v):One T c n0 s H (.mv x) v H:=⟨0,by simp [core,prim,h]⟩
theorem C8 {x a b:Opd} {g:Bool} {v:AV} (h:ev s x = some (.lit (.bool g))) (hg:g = true) (ha:ev s a = some v):One T c n0 s H (.pick x a b) v H:=⟨0,by subst hg; simp [core,prim,h,ha]⟩
theorem C7 {x a b:Opd} {g:Bool} {v:AV} (h:ev s x = some (.lit (.bool g))) (hg:g = false) (ha:ev s b = some v):One T c n0 s H (.pick x a b) v H:=⟨0,by subst hg; simp [core,prim,h,ha]⟩
theorem qm {hc:List (Option (List Nat))} {ops:List AOper} {d src:Nat} {x:Opd} {v:AV} (h:ev s x = some v) (k:O8 T c n0 ops ((d,v) :: s) H hc R):O8 T c n0 (⟨some d,.mv x,none,[],[],0,src⟩ :: ops) s H hc R:=A0 (E4x h) rfl k
theorem A5y {k r:Nat}:One T c (H0.length + k0) s (H0++l) (.nil k r) (.asl (H0.length + (k0 + r)) 0) (H0++l.set (k0 + r) (.arr k false [])) :=
 ⟨0,by simp only [core,prim,Nat.add_assoc,I6]⟩
theorem E6 {zs:List AV} {r:Nat}:One T c (H0.length + k0) s (H0++l) (.alloc zs [] r) (.ptr (H0.length + (k0 + r)) 0) (H0++l.set (k0 + r) (.cells zs)) :=
 ⟨0,by simp only [core,prim,S7,Nat.add_assoc,I6]⟩
theorem D00 {zs:List AV} {j q k r:Nat}:One T c (H0.length + k0) s (H0++l) (.alloc zs [(j,q,k)] r) (.ptr (H0.length + (k0 + r)) 0) (H0++(l.set (k0 + q) (.arr k false [])).set (k0 + r) (.cells (zs.set j (.asl (H0.length + (k0 + q)) 0)))) :=
 ⟨0,by simp only [core,prim,S7,Nat.add_assoc,I6]⟩
theorem C3k {zs:List AV} {j q k j' q' k' r:Nat}:One T c (H0.length + k0) s (H0++l) (.alloc zs [(j,q,k),(j',q',k')] r) (.ptr (H0.length + (k0 + r)) 0) (H0++((l.set (k0 + q) (.arr k false [])).set (k0 + q') (.arr k' false [])).set (k0 + r) (.cells ((zs.set j (.asl (H0.length + (k0 + q)) 0)).set j' (.asl (H0.length + (k0 + q')) 0)))) :=
 ⟨0,by simp only [core,prim,S7,Nat.add_assoc,I6]⟩
theorem G0 {n r:Nat} {x:Opd} {v:AV} {cs:List AV} (h:ev s x = some v) (hc:v.cellsOf = cs) (hn:Nat.beq cs.length n = true):One T c (H0.length + k0) s (H0++l) (.box n x r) (.ptr (H0.length + (k0 + r)) 0) (H0++l.set (k0 + r) (.cells cs)) :=
 ⟨0,by subst hc; simp only [core,prim,h,hn,if_true,Nat.add_assoc,I6]⟩
theorem N7 {z cs:List AV} {parts:List (Nat × Nat × Opd)} {ps:List (Nat × Nat × AV)} (h1:Y9 s parts = some ps) (h2:B4b z ps = some cs):One T c n0 s H (.build z parts) (.agg cs) H:=⟨0,by simp [core,prim,h1,h2]⟩
theorem I8 {k n:Nat} {z:List AV} {parts:List (Nat × Opd)} {ps:List (Nat × AV)} {rows:List (List AV)} (h1:O1 s parts = some ps) (h2:A7z k (List.replicate n z) ps = some rows) (h3:C1c rows = true):One T c n0 s H (.lits k z n parts none) (.seq k rows) H :=
 ⟨0,by simp [core,prim,h1,h2,h3]⟩
theorem A9j {k n r:Nat} {z:List AV} {parts:List (Nat × Opd)} {ps:List (Nat × AV)} {rows:List (List AV)} (h1:O1 s parts = some ps) (h2:A7z k (List.replicate n z) ps = some rows) (h3:C1c rows = true) :
  One T c (H0.length + k0) s (H0++l) (.lits k z n parts (some r)) (.asl (H0.length + (k0 + r)) n) (H0++l.set (k0 + r) (.arr k false rows)) :=
 ⟨0,by simp [core,prim,h1,h2,h3,Nat.add_assoc,I6]⟩
theorem B5 {a:Opd} {j o:Nat} {cs:List AV} {x:AV} (h:ev s a = some (.ptr (H0.length + j) o)) (hl:l[j]? = some (.cells cs)) (hd:(cs.drop o).head? = some x):One T c n0 s (H0++l) (.load none a) x (H0++l) :=
 ⟨0,by
  simp only [core,prim,h,L5,F3 hl]
  cases hc:cs.drop o with
  | nil=>simp [hc] at hd
  | cons y t=>simp only [hc,List.head?_cons,Option.some.injEq] at hd; subst hd; rfl⟩
theorem A08 {a:Opd} {j o k:Nat} {cs ds:List AV} (h:ev s a = some (.ptr (H0.length + j) o)) (hl:l[j]? = some (.cells cs)) (hk:Nat.ble k (cs.drop o).length = true) (hd:(cs.drop o).take k = ds):One T c n0 s (H0++l) (.load (some k) a) (.agg ds) (H0++l) :=
 ⟨0,by simp only [core,prim,h,L5,F3 hl,hk,if_true,hd]⟩
theorem I0 {a:Opd} {b o:Nat} {cs:List AV} {x:AV} (h:ev s a = some (.ptr b o)) (hl:hcells H0 b = some cs) (hd:(cs.drop o).head? = some x):One T c n0 s (H0++l) (.load none a) x (H0++l) :=
 ⟨0,by
  simp only [core,prim,h,L5,T7 hl]
  cases hc:cs.drop o with
  | nil=>simp [hc] at hd
  | cons y t=>simp only [hc,List.head?_cons,Option.some.injEq] at hd; subst hd; rfl⟩
theorem C3m {a:Opd} {b o k:Nat} {cs ds:List AV} (h:ev s a = some (.ptr b o)) (hl:hcells H0 b = some cs) (hk:Nat.ble k (cs.drop o).length = true) (hd:(cs.drop o).take k = ds):One T c n0 s (H0++l) (.load (some k) a) (.agg ds) (H0++l) :=
 ⟨0,by simp only [core,prim,h,L5,T7 hl,hk,if_true,hd]⟩
theorem D6 {a:Opd} {cs:List AV} {x:AV} (h:ev s a = some (.cptr cs)) (hd:cs.head? = some x):One T c n0 s H (.load none a) x H :=
 ⟨0,by
  simp only [core,prim,h,L5]
  cases cs with
  | nil=>simp at hd
  | cons y t=>simp only [List.head?_cons,Option.some.injEq] at hd; subst hd; rfl⟩
theorem B8f {a:Opd} {k:Nat} {cs ds:List AV} (h:ev s a = some (.cptr cs)) (hk:Nat.ble k cs.length = true) (hd:cs.take k = ds):One T c n0 s H (.load (some k) a) (.agg ds) H :=
 ⟨0,by simp only [core,prim,h,L5,hk,if_true,hd]⟩
theorem A38 {a:Opd} {j n i o k:Nat} {p:Bool} {rows:List (List AV)} {r:List AV} {x:AV} (h:ev s a = some (.eptr (H0.length + j) n i o)) (hl:l[j]? = some (.arr k p rows)) (hn:rows.length = n) (hr:rows[i]? = some r) (hd:(r.drop o).head? = some x):One T c n0 s (H0++l) (.load none a) x (H0++l) :=
 ⟨0,by
  simp only [core,prim,h,L5,A1j hl,hn,Nat.beq_refl,if_true,hr]
  cases hc:r.drop o with
  | nil=>simp [hc] at hd
  | cons y t=>simp only [hc,List.head?_cons,Option.some.injEq] at hd; subst hd; rfl⟩
theorem D79 {a:Opd} {j n i o k m:Nat} {p:Bool} {rows:List (List AV)} {r ds:List AV} (h:ev s a = some (.eptr (H0.length + j) n i o)) (hl:l[j]? = some (.arr k p rows)) (hn:rows.length = n) (hr:rows[i]? = some r) (hk:Nat.ble m (r.drop o).length = true) (hd:(r.drop o).take m = ds) :
  One T c n0 s (H0++l) (.load (some m) a) (.agg ds) (H0++l) :=
 ⟨0,by simp only [core,prim,h,L5,A1j hl,hn,Nat.beq_refl,if_true,hr,hk,hd]⟩
theorem E1 {b:Nat}:∀{vs:List AV},vs.all AV.plain = true→c.okL b vs = true
 | [],_=>rfl
 | v :: vs,h=>by
  simp only [List.all_cons,Bool.and_eq_true] at h
  simp only [Sc.okL,Sc.ok,h.1,E1 h.2,Bool.or_true,Bool.true_or,Bool.and_self]
theorem U1 {b:Nat} (hb:c.cur≤b):∀{vs:List AV},c.okL b vs = true
 | []=>rfl
 | v :: vs=>by simp only [Sc.okL,Sc.ok,Nat.ble_eq_true_of_le hb,Bool.true_or,U1 hb,Bool.and_self]
theorem E2 {a x:Opd} {j o k:Nat} {cs ds:List AV} {v:AV} (h:ev s a = some (.ptr (H0.length + j) o)) (hv:ev s x = some v) (hl:l[j]? = some (.cells cs)) (hk:(Nat.beq v.cellsOf.length k && Nat.ble (o + k) cs.length) = true) (hok:c.okL (H0.length + j) v.cellsOf = true) (hd:splice cs o v.cellsOf = ds) :
  One T c n0 s (H0++l) (.store k a x) (.tup []) (H0++l.set j (.cells ds)) :=
 ⟨0,by simp only [core,prim,h,hv,B1i hl,hk,hok,Bool.and_self,if_true,hd,I6]⟩
theorem B6q {H:A6}:∀{vs:List AV},vs.all AV.plain = true→A23 H vs = some (vs,H)
 | [],_=>rfl
 | v :: vs,h=>by
  simp only [List.all_cons,Bool.and_eq_true] at h
  have:frv H v = some (v,H):= by cases v <;> first | rfl | (simp [AV.plain] at h)
  simp only [A23,this,B6q h.2]
theorem A4i {a x:Opd} {j n i o k kk:Nat} {rows:List (List AV)} {r ds:List AV} {v:AV} (h:ev s a = some (.eptr (H0.length + j) n i o)) (hv:ev s x = some v) (hp:v.cellsOf.all AV.plain = true) (hz:v.cellsOf.all AV.frz = true) (hl:l[j]? = some (.arr kk false rows)) (hn:rows.length = n) (hr:rows[i]? = some r)
  (hk:(Nat.beq v.cellsOf.length k && Nat.ble (o + k) r.length) = true) (hd:splice r o v.cellsOf = ds) :
  One T c n0 s (H0++l) (.store k a x) (.tup []) (H0++l.set j (.arr kk false (rows.set i ds))) :=
 ⟨0,by
  rw [Bool.and_eq_true] at hk
  simp only [core,prim,h,hv,B6q hp,V1 hl,hr,hn,Nat.beq_refl,hk.1,hk.2,hz,Bool.and_self,if_true,hd,I6]⟩
def D73:AV→Bool
 | .ptr _ _ | .eptr _ _ _ _ | .cptr _ | .fn (.func _) _ _=>true
 | _=>false
theorem M9 {x:Opd} {v:AV} (h:ev s x = some v) (hv:D73 v = true):One T c n0 s H (.nilck x) v H:=⟨0,by
 cases v with
 | fn f a b=>cases f <;> first | (simp [core,prim,h]; done) | (simp [D73] at hv)
 | _=>first | (simp [core,prim,h]; done) | (simp [D73] at hv)⟩
theorem J9 {op:BinOp} {x y:Opd} {a b v:AV} (hx:ev s x = some a) (hy:ev s y = some b) (hv:B1w op a b = some v):One T c n0 s H (.bin op x y) v H:=⟨0,by simp [core,prim,hx,hy,hv]⟩
theorem E1l {ng:Bool} {x y:Opd} {a b:Bool} (hx:ev s x = some (.lit (.bool a))) (hy:ev s y = some (.lit (.bool b))):One T c n0 s H (.beq ng x y) (.lit (.bool (if ng then !(a == b) else a == b))) H:=⟨0,by simp [core,prim,hx,hy]⟩
theorem D76 {ng:Bool} {ks:List Nat} {x y:Opd} {a b:List AV} {t:Bool} (hx:ev s x = some (.agg a)) (hy:ev s y = some (.agg b)) (ha:kinds ks a = true) (hb:kinds ks b = true) (ht:N1 a b = some t):One T c n0 s H (.cmp ng ks x y) (.lit (.bool (if ng then !t else t))) H :=
 ⟨0,by simp [core,prim,hx,hy,ha,hb,ht]⟩
theorem C8f:N1 [] [] = some true:=rfl
theorem B3d {k:IntKind} {a b:Int} {l m:List AV} {t:Bool} (h:N1 l m = some t):N1 (.lit (.int k a) :: l) (.lit (.int k b) :: m) = some ((a == b) && t):= by
 simp only [N1,B0g,if_true]
 cases a == b <;> simp [h]
theorem B9t {kk:IntKind} {n r:Nat} {x:Opd} {a:IArr n} (h:ev s x = some (.agg (cA kk a))):One T c (H0.length + k0) s (H0++l) (.box n x r) (.ptr (H0.length + (k0 + r)) 0) (H0++l.set (k0 + r) (.cells (cA kk a))) :=
 G0 h rfl (D62 kk a)
theorem F7 {kk:IntKind} {a:Opd} {j n:Nat} {v:IArr n} (h:ev s a = some (.ptr (H0.length + j) 0)) (hl:l[j]? = some (.cells (cA kk v))):One T c n0 s (H0++l) (.load (some n) a) (.agg (cA kk v)) (H0++l) :=
 A08 h hl (D63 kk v) (D3t kk v)
theorem D3f (kk:IntKind) {n:Nat} (a b:IArr n):splice (cA kk a) 0 (cA kk b) = cA kk b:= by
 unfold splice; rw [List.take_zero,List.nil_append,List.drop_eq_nil_of_le (by rw [B3b,B3b]; omega),List.append_nil]
theorem H9 {kk:IntKind} {a x:Opd} {j n:Nat} {u v:IArr n} (h:ev s a = some (.ptr (H0.length + j) 0)) (hv:ev s x = some (.agg (cA kk v))) (hl:l[j]? = some (.cells (cA kk u))):One T c n0 s (H0++l) (.store n a x) (.tup []) (H0++l.set j (.cells (cA kk v))) :=
 E2 (v:=.agg (cA kk v)) h hv hl (by
  rw [Bool.and_eq_true]
  exact ⟨D62 kk v,Nat.ble_eq_true_of_le (by rw [B3b]; omega)⟩) (E1 (C9s kk v)) (D3f kk u v)
theorem A43 {α:Type} {m:Nat} {e:List α} {n:Int} {a:α} (h:A0y m e n = some a):(0≤n∧n < m)∧e[n.toNat]? = some a:= by
 unfold A0y at h; split at h
 ·next h1=>exact ⟨h1,h⟩
 ·cases h
theorem Z4 {n b:Nat} {kk:IntKind} {x i:Opd} {m y:Int} {e:List Int} (h:ev s x = some (.ptr b 0)) (hi:ev s i = some (.lit (.int kk m))) (hy:A0y n e m = some y):One T c n0 s H (.idxA 1 n x i) (.ptr b m.toNat) H :=
 ⟨0,by simp [core,prim,h,hi,(A43 hy).1]⟩
theorem E1j {kk:IntKind} {n:Nat} {a:IArr n} {m y:Int} (hy:A0y n a.l m = some y):((cA kk a).drop m.toNat).head? = some (.lit (.int kk y)):= by
 rw [List.head?_drop]; unfold cA; rw [List.getElem?_map,(A43 hy).2]; rfl
theorem A3r {kk:IntKind} {a:Opd} {j n:Nat} {v:IArr n} {m y:Int} (h:ev s a = some (.ptr (H0.length + j) m.toNat)) (hl:l[j]? = some (.cells (cA kk v))) (hy:A0y n v.l m = some y):One T c n0 s (H0++l) (.load none a) (.lit (.int kk y)) (H0++l) :=
 B5 h hl (E1j hy)
theorem D6a {kk:IntKind} {n:Nat} {a:IArr n} {m y z:Int} (hy:A0y n a.l m = some y):splice (cA kk a) m.toNat [.lit (.int kk z)] = cA kk (a.set m z):= by
 have h1:=(List.getElem?_eq_some_iff.1 (A43 hy).2).1
 unfold splice cA IArr.set
 simp only [List.length_singleton,List.map_set]
 rw [List.set_eq_take_append_cons_drop,if_pos (by simpa using h1)]
 simp
theorem A93 {kk:IntKind} {a x:Opd} {j n:Nat} {v:IArr n} {m y z:Int} (h:ev s a = some (.ptr (H0.length + j) m.toNat)) (hv:ev s x = some (.lit (.int kk z))) (hl:l[j]? = some (.cells (cA kk v))) (hy:A0y n v.l m = some y):One T c n0 s (H0++l) (.store 1 a x) (.tup []) (H0++l.set j (.cells (cA kk (v.set m z)))) :=
 E2 h hv hl (by
  have h1:=(List.getElem?_eq_some_iff.1 (A43 hy).2).1
  simp only [AV.cellsOf,List.length_singleton,Nat.beq_refl,Bool.true_and]
  exact Nat.ble_eq_true_of_le (by rw [B3b,← v.h]; omega)) (E1 rfl) (D6a hy)
theorem C2h {k:IntKind}:∀{a b:List Int},a.length = b.length→N1 (a.map fun n=>.lit (.int k n)) (b.map fun n=>.lit (.int k n)) = some (a == b)
 | [],[],_=>rfl
 | x :: a,y :: b,h=>by
  simp only [List.length_cons,Nat.add_right_cancel_iff] at h
  simp only [List.map_cons]
  rw [B3d (C2h h)]; rfl
theorem A6g {k:IntKind}:∀{a:List Int} {n:Nat},a.length = n→kinds (List.replicate n 0) (a.map fun n=>.lit (.int k n)) = true
 | [],_,h=>by subst h; rfl
 | x :: a,_,h=>by subst h; simp only [List.length_cons,List.replicate_succ,List.map_cons,kinds]; exact A6g rfl
theorem D77 {kk:IntKind} {ng:Bool} {n:Nat} {ks:List Nat} {x y:Opd} {a b:IArr n} (hx:ev s x = some (.agg (cA kk a))) (hy:ev s y = some (.agg (cA kk b))) (hk:ks = List.replicate n 0):One T c n0 s H (.cmp ng ks x y) (.lit (.bool (if ng then !(a.l == b.l) else (a.l == b.l)))) H :=
 D76 hx hy (by rw [hk]; exact A6g a.h) (by rw [hk]; exact A6g b.h) (C2h (by rw [a.h,b.h]))
theorem E3u {op:UnOp} {x:Opd} {a v:AV} (hx:ev s x = some a) (hv:unV op a = some v):One T c n0 s H (.un op x) v H:=⟨0,by simp [core,prim,hx,hv]⟩
theorem A7e {k k':IntKind} {x:Opd} {n:Int} (h:ev s x = some (.lit (.int k' n))):One T c n0 s H (.conv k x) (.lit (.int k (k.wrap n))) H:=⟨0,by simp [core,prim,h]⟩
theorem A9a {f:Fn} {a b:List Opd} {u w:List AV} (h1:evs s a = some u) (h2:evs s b = some w):One T c n0 s H (.mkfn f a b) (.fn f u w) H:=⟨0,by simp [core,prim,h1,h2]⟩
theorem D5i {α:Type} {bytes:Nat} {n:Int} {z:α} {r:List α} (h:B8e bytes n z = some r):(0≤n∧n * bytes≤1099511627776∧n≤1099511627776)∧r = List.replicate n.toNat z:= by
 unfold B8e at h; split at h
 ·next e=>simp only [Option.some.injEq] at h; exact ⟨e,h.symm⟩
 ·cases h
theorem C7e {α:Type} {f:α→List AV} {k bytes r:Nat} {z:List AV} {x y:Opd} {n:Int} {zt:α} {e:List α} (hx:ev s x = some (.lit (.int .i64 n))) (hy:ev s y = some (.lit (.int .i64 n))) (hz:f zt = z) (h:B8e bytes n zt = some e) :
  One T c (H0.length + k0) s (H0++l) (.mkslice k bytes z x y r) (.asl (H0.length + (k0 + r)) e.length) (H0++l.set (k0 + r) (.arr k false (e.map f))):=⟨0,by
 obtain ⟨h1,h2⟩:=D5i h
 subst h2; subst hz
 simp only [core,prim,hx,hy,h1,and_self,if_true,Nat.add_assoc,I6,List.length_replicate,List.map_replicate]⟩
theorem C1y {α:Type} {e m:List α} {lo hi:Int} (h:slc e lo hi = some m):(0≤lo∧lo≤hi∧hi≤e.length)∧m = (e.take hi.toNat).drop lo.toNat:= by
 unfold slc at h; split at h
 ·next e1=>simp only [Option.some.injEq] at h; exact ⟨e1,h.symm⟩
 ·cases h
theorem C3n {α:Type} {f:α→List AV} {k:Nat} {x:Opd} {lo hi:Option Opd} {e m:List α} {a b:Int} (h:ev s x = some (.seq k (e.map f))) (h1:bnd s 0 lo = some a) (h2:bnd s e.length hi = some b) (hm:slc e a b = some m):One T c n0 s H (.sliceQ k x lo hi) (.seq k (m.map f)) H:=⟨0,by
 obtain ⟨h3,rfl⟩:=C1y hm
 simp only [core,prim,h,h1,List.length_map,h2,h3,and_self,if_true,List.map_drop,List.map_take]⟩
theorem E3o {α:Type} {f:α→List AV} {kk k j n r:Nat} {x:Opd} {hi:Option Opd} {e m:List α} {b:Int} (h:ev s x = some (.asl (H0.length + j) n)) (hl:l[j]? = some (.arr k false (e.map f))) (hn:e.length = n) (h2:bnd s e.length hi = some b) (hm:slc e 0 b = some m) :
  One T c (H0.length + k0) s (H0++l) (.cut kk x hi r) (.asl (H0.length + (k0 + r)) m.length) (H0++(l.set j .dead).set (k0 + r) (.arr k false (m.map f))):=⟨0,by
 obtain ⟨h3,rfl⟩:=C1y hm
 subst hn
 have h4:(e.take b.toNat).length = b.toNat:= by rw [List.length_take]; omega
 have h5:(Nat.beq (e.map f).length e.length && decide (0≤b∧b≤(e.length:Int))) = true:= by rw [List.length_map,Nat.beq_refl,decide_eq_true ⟨h3.2.1,h3.2.2⟩]; rfl
 simp only [core,prim,h,V1 hl,h2,h5,if_true,I6,Nat.add_assoc,Int.toNat_zero,List.drop_zero,h4,List.map_take]⟩
theorem C3 {off b o:Nat} {x:Opd} (h:ev s x = some (.ptr b o)):One T c n0 s H (.fieldAddr off x) (.ptr b (o + off)) H:=⟨0,by simp [core,prim,h]⟩
theorem A8s {off b n i o:Nat} {x:Opd} (h:ev s x = some (.eptr b n i o)):One T c n0 s H (.fieldAddr off x) (.eptr b n i (o + off)) H:=⟨0,by simp [core,prim,h]⟩
theorem R6 {off:Nat} {x:Opd} {cs ds:List AV} (h:ev s x = some (.cptr cs)) (hd:cs.drop off = ds):One T c n0 s H (.fieldAddr off x) (.cptr ds) H:=⟨0,by simp [core,prim,h,hd]⟩
theorem D78 {off:Nat} {x:Opd} {cs:List AV} {v:AV} (h:ev s x = some (.agg cs)) (hv:cs[off]? = some v):One T c n0 s H (.field none off x) v H:=⟨0,by simp [core,prim,h,hv]⟩
theorem C8m {α:Type} {e:List α} {n:Int} {a:α} (h:idx e n = some a):0≤n∧e[n.toNat]? = some a:= by
 unfold idx at h; split at h
 ·next h1=>exact ⟨h1,h⟩
 ·cases h
theorem D4 {α:Type} {f:α→List AV} {k:Nat} {kk:IntKind} {x i:Opd} {e:List α} {n:Int} {a:α} (h:ev s x = some (.seq k (e.map f))) (hi:ev s i = some (.lit (.int kk n))) (ha:idx e n = some a):One T c n0 s H (.idxS k x i) (.cptr (f a)) H:=⟨0,by
 obtain ⟨h1,h2⟩:=C8m ha
 simp [core,prim,h,hi,h1,h2]⟩
theorem V3 {α:Type} {f:α→List AV} {k j m:Nat} {p:Bool} {kk:IntKind} {x i:Opd} {e:List α} {n:Int} {a:α} (h:ev s x = some (.asl (H0.length + j) m)) (hi:ev s i = some (.lit (.int kk n))) (hl:l[j]? = some (.arr k p (e.map f))) (hm:e.length = m) (ha:idx e n = some a) :
  One T c n0 s (H0++l) (.idxS k x i) (.eptr (H0.length + j) m n.toNat 0) (H0++l):=⟨0,by
 obtain ⟨h1,h2⟩:=C8m ha
 have h3:n < m:= by
  have:=(List.getElem?_eq_some_iff.1 h2).1
  omega
 simp [core,prim,h,hi,A1j hl,h1,h3,hm]⟩
theorem V6 {α:Type} {f:α→List AV} {e:List α} {n:Int} {a:α} (ha:idx e n = some a):(e.map f)[n.toNat]? = some (f a):= by
 rw [List.getElem?_map,(C8m ha).2]; rfl
theorem C3l {kk:IntKind} {x i:Opd} {b:ByteArray} {n a:Int} (h:ev s x = some (.lit (.string b))) (hi:ev s i = some (.lit (.int kk n))) (ha:C4x b n = some a):One T c n0 s H (.idxStr x i) (.lit (.int .u8 a)) H:=⟨0,by
 unfold C4x at ha
 split at ha
 ·next h1 =>
  simp only [Option.map_eq_some_iff] at ha
  obtain ⟨c',h2,rfl⟩:=ha
  simp [core,prim,h,hi,h1,h2]
 ·cases ha⟩
theorem A7 {x:Opd} {i:Nat} {cs:List AV} {v:AV} (h:ev s x = some (.tup cs)) (hv:cs[i]? = some v):One T c n0 s H (.extract x i) v H:=⟨0,by simp [core,prim,h,hv]⟩
theorem C8y {x:Opd} {b:ByteArray} (h:ev s x = some (.lit (.string b))):One T c n0 s H (.lenS x) (.lit (.int .i64 b.size)) H:=⟨0,by simp [core,prim,h]⟩
theorem D3 {α:Type} {f:α→List AV} {k:Nat} {x:Opd} {e:List α} (h:ev s x = some (.seq k (e.map f))):One T c n0 s H (.lenL x) (.lit (.int .i64 e.length)) H:=⟨0,by simp [core,prim,h]⟩
theorem A9k {r:Nat}:One T c (H0.length + k0) s (H0++l) (.mkmap r) (.mp (H0.length + (k0 + r))) (H0++l.set (k0 + r) (.map [])):=⟨0,by simp only [core,prim,Nat.add_assoc,I6]⟩
theorem E0j {k n:Nat} {z:List AV} {parts:List (Nat × Opd)} {ps:List (Nat × AV)} {rows:List (List AV)} (h1:O1 s parts = some ps) (h2:A7z k (List.replicate n z) ps = some rows):One T c n0 s H (.xlits k z n parts) (.xseq k rows) H :=
 ⟨0,by simp [core,prim,h1,h2]⟩
theorem D2y {k:Nat} {kk:IntKind} {x i:Opd} {rows:List (List AV)} {n:Int} {r:List AV} (h:ev s x = some (.xseq k rows)) (hi:ev s i = some (.lit (.int kk n))) (hr:(if 0≤n then rows[n.toNat]? else none) = some r):One T c n0 s H (.idxS k x i) (.cptr r) H:=⟨0,by
 split at hr
 ·next h0=>simp [core,prim,h,hi,h0,hr]
 ·cases hr⟩
theorem E18 {k:Nat} {x:Opd} {rows:List (List AV)} {n:Int} (h:ev s x = some (.xseq k rows)) (hn:(rows.length:Int) = n):One T c n0 s H (.lenL x) (.lit (.int .i64 n)) H:=⟨0,by simp [core,prim,h,hn]⟩
theorem B6y {α:Type} {f:α→List AV} {k j n:Nat} {p:Bool} {x:Opd} {e:List α} (h:ev s x = some (.asl (H0.length + j) n)) (hl:l[j]? = some (.arr k p (e.map f))) (hn:e.length = n):One T c n0 s (H0++l) (.lenL x) (.lit (.int .i64 e.length)) (H0++l):=⟨0,by
 simp [core,prim,h,A1j hl,hn]⟩
theorem B8g {mx:Bool} {xs:List Opd} {x v:AV} {vs:List AV} (h:evs s xs = some (x :: vs)) (hv:mmV mx x vs = some v):One T c n0 s H (.mm mx xs) v H:=⟨0,by simp [core,prim,h,hv]⟩
theorem C1k {α:Type} {b:Nat} {e m r:List α} (h:app b e m = some r):((e.length + m.length) * b≤1099511627776∧e.length + m.length≤1099511627776)∧r = e++m:= by
 unfold app at h; split at h
 ·next h1=>simp only [Option.some.injEq] at h; exact ⟨h1,h.symm⟩
 ·cases h
theorem E4 {α:Type} {f:α→List AV} (hf:∀a,(f a).all AV.frz = true) (e:List α):C1c (e.map f) = true:= by
 simp [C1c,List.all_map]
 intro a _ x hx
 have:=hf a
 rw [List.all_eq_true] at this
 exact this x hx
def rd (H:A6) (v:AV) (k:Nat) (rows:List (List AV)):Prop:=A6t H v = some rows∧kOf H v = some k
theorem U0 {H:A6} {k:Nat} {rows:List (List AV)}:rd H (.seq k rows) k rows:=⟨rfl,rfl⟩
theorem E2r {j n k:Nat} {p:Bool} {rows:List (List AV)} (hl:l[j]? = some (.arr k p rows)) (hn:rows.length = n):rd (H0++l) (.asl (H0.length + j) n) k rows:= by
 constructor
 ·simp [A6t,A1j hl,hn]
 ·simp [kOf,A1j hl]
theorem W8 {α:Type} {f:α→List AV} {k bytes j n:Nat} {p:Bool} {r:Option Nat} {x y:Opd} {e m d:List α} {v:AV} (hd:ev s x = some (.asl (H0.length + j) n)) (hx:ev s y = some v) (hl:l[j]? = some (.arr k p (d.map f))) (hn:d.length = n) (hr:rd (H0++l) v k (m.map f)) (hf:∀a,(f a).all AV.frz = true) (h:app bytes d m = some e) :
  One T c n0 s (H0++l) (.append k bytes x y r false) (.asl (H0.length + j) e.length) (H0++l.set j (.arr k p (e.map f))):=⟨0,by
 obtain ⟨h1,rfl⟩:=C1k h
 subst hn
 simp [core,prim,hd,hx,hr.1,hr.2,E4 hf,V1 hl,h1,I6]⟩
theorem C8w {α:Type} {f:α→List AV} {k bytes j n:Nat} {p:Bool} {r:Option Nat} {x y:Opd} {e m d:List α} {v:AV} (hd:ev s x = some (.asl (H0.length + j) n)) (hx:ev s y = some v) (hl:l[j]? = some (.arr k p (d.map f))) (hn:d.length = n) (hr:rd (H0++l) v k (m.map f)) (hf:∀a,(f a).all AV.frz = true) (h:app bytes d m = some e) :
  One T c n0 s (H0++l) (.append k bytes x y r true) (.seq k (e.map f)) (H0++l.set j .dead):=⟨0,by
 obtain ⟨h1,rfl⟩:=C1k h
 subst hn
 simp [core,prim,hd,hx,hr.1,hr.2,E4 hf,V1 hl,h1,I6]⟩
theorem E17 {α:Type} {f:α→List AV} {k j n:Nat} {x y:Opd} {m d:List α} {v:AV} (hd:ev s x = some (.asl (H0.length + j) n)) (hx:ev s y = some v) (hl:l[j]? = some (.arr k false (d.map f))) (hn:d.length = n) (hr:rd (H0++l) v k (m.map f)) (hf:∀a,(f a).all AV.frz = true) :
  One T c n0 s (H0++l) (.copy k x y) (.lit (.int .i64 (min m.length n:Nat))) (H0++l.set j (.arr k false ((m.take (min m.length n)++d.drop (min m.length n)).map f))):=⟨0,by
 subst hn
 simp [core,prim,hd,hx,hr.1,hr.2,E4 hf,V1 hl,I6]⟩
theorem E0i {x:Opd} {b:ByteArray} {r:Nat} (h:ev s x = some (.lit (.string b))):One T c (H0.length + k0) s (H0++l) (.range x r) (.itr (H0.length + (k0 + r))) (H0++l.set (k0 + r) (.iter b 0)):=⟨0,by simp only [core,prim,h,Nat.add_assoc,I6]⟩
theorem E0h {x:Opd} {b:ByteArray} {j pos:Nat} (h:ev s x = some (.itr (H0.length + j))) (hl:l[j]? = some (.iter b pos)) (hp:pos < b.size) :
  One T c n0 s (H0++l) (.next x) (.tup [.lit (.bool true),.lit (.int .i64 pos),.lit (.int .i32 (Utf8.decode b pos).1)]) (H0++l.set j (.iter b (pos + (Utf8.decode b pos).2))):=⟨0,by simp only [core,prim,h,A17,hl,hp,if_true,I6]⟩
theorem E0g {x:Opd} {b:ByteArray} {j pos:Nat} (h:ev s x = some (.itr (H0.length + j))) (hl:l[j]? = some (.iter b pos)) (hp:¬ pos < b.size) :
  One T c n0 s (H0++l) (.next x) (.tup [.lit (.bool false)]) (H0++l):=⟨0,by simp only [core,prim,h,A17,hl,hp,if_false]⟩
theorem C0n {x y:Opd} {a b r:Int} (hx:ev s x = some (.lit (.int .i64 a))) (hy:ev s y = some (.lit (.int .i64 b))) (h:B56 a b = some r):One T c n0 s H (.bin .rem x y) (.lit (.int .i64 r)) H:=J9 hx hy (by
 unfold B56 at h
 split at h
 ·cases h
 ·next hb=>simp only [Option.some.injEq] at h; subst h; simp [B1w,B4m,hb])
theorem E1m {k k':IntKind} {x y:Opd} {a b r:Int} (hx:ev s x = some (.lit (.int k a))) (hy:ev s y = some (.lit (.int k' b))) (h:D3e k a b = some r):One T c n0 s H (.bin .shl x y) (.lit (.int k r)) H:=J9 hx hy (by
 unfold D3e at h
 split at h
 ·cases h
 ·next hb=>simp only [Option.some.injEq] at h; subst h; simp only [B1w,hb,if_false])
theorem B6d {k k':IntKind} {x y:Opd} {a b r:Int} (hx:ev s x = some (.lit (.int k a))) (hy:ev s y = some (.lit (.int k' b))) (h:B30 k a b = some r):One T c n0 s H (.bin .shr x y) (.lit (.int k r)) H:=J9 hx hy (by
 unfold B30 at h
 split at h
 ·cases h
 ·next hb=>simp only [Option.some.injEq] at h; subst h; simp only [B1w,hb,if_false])
theorem A3q {α β:Type} {f:α→β} (l:List α) (i:Int) (x:α):(l.map f).set i.toNat (f x) = (A1w l i x).map f:= by
 unfold A1w; rw [List.map_set]
theorem T8 {α:Type} (l:List α) (i:Int) (x:α):(A1w l i x).length = l.length:=List.length_set ..
def fz1:AV→AV
 | .fresh k rows=>.seq k rows
 | v=>v
def fzA:AV→AV
 | .agg cs=>.agg (cs.map fz1)
 | v=>fz1 v
def F2 (T:Tab) (c:Sc) (H:A6) (f:AV) (aq rs:List AV):Prop:=Q9 T c H f aq rs H∧bdL H.length rs = true
def A5k (T:Tab) (c:Sc) (H:A6) (f:AV) (aq rs:List AV):Prop:=∃ rs',F2 T c H f aq rs'∧rs'.map fzA = rs
theorem F2.frz {H:A6} {f:AV} {aq rs:List AV} (h:F2 T c H f aq rs):A5k T c H f aq (rs.map fzA):=⟨rs,h,rfl⟩
theorem D0g {n0:Nat} {H:A6}:∀(cs:List AV) (j:Nat),A74 n0 H [] j cs = (cs.map fz1,H)
 | [],_=>rfl
 | v :: cs,j=>by
  have:inC n0 H [] j v = (fz1 v,H):= by cases v <;> rfl
  simp only [A74,this,D0g cs,List.map_cons]
theorem D38 {n0:Nat} {H:A6} (v:AV):inV n0 H [] v = (fzA v,H):= by
 cases v <;> simp [inV,fzA,D0g,inC,A2h,fz1]
theorem A5t {n0:Nat} {H:A6}:∀(rs:List AV),A10 n0 H rs [] = (rs.map fzA,H)
 | []=>rfl
 | v :: rs=>by simp only [A10,List.headD_nil,D38,List.tail_nil,A5t rs,List.map_cons]
theorem B2 {f:Opd} {args:List Opd} {d src:Nat} {fv:AV} {aq as' rs:List AV} {H1:A6} {hc:List (Option (List Nat))} {ops:List AOper} (hf:ev s f = some fv) (ha:evs s args = some aq) (hz:Y4 H aq = some (as',H1)) (hcall:A5k T c H1 fv as' rs)
  (k:O8 T c n0 ops ((d,packed rs) :: s) H1 (some [] :: hc) R):O8 T c n0 (⟨some d,.call f args [] false,none,[],[],0,src⟩ :: ops) s H hc R:= by
 obtain ⟨rs',⟨⟨n,e⟩,hb⟩,rfl⟩:=hcall
 refine B5y (v:=packed (rs'.map fzA)) (H1:=H1) ⟨n,?_⟩ (by simp [writes]) k
 simp only [core,A1r,hf,ha,Bool.false_eq_true,if_false,hz,e,A5t]
theorem B5x {f:Opd} {args:List Opd} {fv:AV} {aq as' rs:List AV} {H1:A6} (hf:ev s f = some fv) (ha:evs s args = some aq) (hp:aq.all (X9 H) = true) (hz:Y4 H aq = some (as',H1)) (hcall:A5k T c (H.map AO.toRo) fv as' rs):One T c n0 s H (.call f args [] true) (packed rs) H:= by
 obtain ⟨rs',⟨⟨n,e⟩,hb⟩,rfl⟩:=hcall
 refine ⟨n,?_⟩
 rw [List.length_map] at hb
 simp only [core,A1r,hf,ha,if_true,hp,hz,e,hb,A5t]
theorem M5:List.map fzA [] = []:=rfl
theorem D9 {v v':AV} {l l':List AV} (h:fzA v = v') (k:l.map fzA = l'):(v :: l).map fzA = v' :: l':= by rw [List.map_cons,h,k]
theorem C36 {f:Opd} {args:List Opd} {own:List (List (Nat × Nat))} {d src:Nat} {fv:AV} {aq as' rs vs:List AV} {H1 H2:A6} {hc:List (Option (List Nat))} {ops:List AOper} (hf:ev s f = some fv) (ha:evs s args = some aq) (hz:Y4 H aq = some (as',H1)) (hcall:F2 T c H1 fv as' rs)
  (hi:A10 n0 H1 rs own = (vs,H2)) (k:O8 T c n0 ops ((d,packed vs) :: s) H2 (some [] :: hc) R):O8 T c n0 (⟨some d,.call f args own false,none,[],[],0,src⟩ :: ops) s H hc R:= by
 obtain ⟨⟨n,e⟩,hb⟩:=hcall
 refine B5y (v:=packed vs) (H1:=H2) ⟨n,?_⟩ (by simp [writes]) k
 simp only [core,A1r,hf,ha,Bool.false_eq_true,if_false,hz,e,hi]
theorem D5d {k r:Nat} {rows:List (List AV)} {rs:List AV}:A10 (H0.length + k0) (H0++l) (.fresh k rows :: rs) [[(0,r)]] = (.asl (H0.length + (k0 + r)) rows.length :: rs.map fzA,H0++l.set (k0 + r) (.arr k false rows)):= by
 simp only [A10,List.headD_cons,inV,inC,A2h,Nat.beq_refl,cond_true,List.tail_cons,A5t,Nat.add_assoc,I6]
theorem M6 {f:Opd} {args:List Opd} {d src:Nat} {fv:AV} {aq as' rs:List AV} {hc:List (Option (List Nat))} {ops:List AOper} {H1:A6} (hf:ev s f = some fv) (ha:evs s args = some aq) (hp:aq.all (X9 H) = true) (hz:Y4 H aq = some (as',H1)) (hcall:A5k T c (H.map AO.toRo) fv as' rs)
  (k:O8 T c n0 ops ((d,packed rs) :: s) H hc R):O8 T c n0 (⟨some d,.call f args [] true,none,[],[],0,src⟩ :: ops) s H hc R:= by
 obtain ⟨rs',⟨⟨n,e⟩,hb⟩,rfl⟩:=hcall
 refine B5y (v:=packed (rs'.map fzA)) (H1:=H) ⟨n,?_⟩ (by simp [writes]) k
 rw [List.length_map] at hb
 simp only [core,A1r,hf,ha,if_true,hp,hz,e,hb,A5t]
theorem R7 {H:A6}:([]:List AV).all (X9 H) = true:=rfl
theorem F1 {H:A6} {v:AV} {l:List AV} (h:X9 H v = true) (k:l.all (X9 H) = true):(v :: l).all (X9 H) = true:= by rw [List.all_cons,h,k]; rfl
theorem D8s {H:A6} {kk:IntKind} {n:Nat} {a:IArr n}:X9 H (.agg (cA kk a)) = true:= by simp [X9,cA,List.all_map,Function.comp_def,pubbed]
theorem B4 {H:A6}:Y4 H [] = some ([],H):=rfl
theorem A2 {H H1 H2:A6} {v v':AV} {vs vs':List AV} (h:A1a H v = some (v',H1)) (k:Y4 H1 vs = some (vs',H2)):Y4 H (v :: vs) = some (v' :: vs',H2):= by
 simp only [Y4,h,k]
theorem D2 {H:A6} {cs:List AV} (h:cs.all AV.plain = true):A1a H (.agg cs) = some (.agg cs,H):= by
 simp only [A1a,B6q h,Option.map_some]
theorem A88 {j n k:Nat} {p:Bool} {rows:List (List AV)} (hl:l[j]? = some (.arr k p rows)) (hn:rows.length = n):A1a (H0++l) (.asl (H0.length + j) n) = some (.seq k rows,H0++l.set j (.arr k true rows)):= by
 cases p with
 | false=>simp [A1a,frv,A1j hl,V1 hl,hn,I6]
 | true =>
  have:l.set j (.arr k true rows) = l:= by
   obtain ⟨hj,e1⟩:=List.getElem?_eq_some_iff.1 hl
   rw [← e1]; exact List.set_getElem_self hj
  simp [A1a,frv,A1j hl,hn,this]
theorem C2w {k r n:Nat} {rows:List (List AV)} {rs vs:List AV} (hn:rows.length = n) (h:.asl (H0.length + (k0 + r)) n :: rs.map fzA = vs):A10 (H0.length + k0) (H0++l) (.fresh k rows :: rs) [[(0,r)]] = (vs,H0++l.set (k0 + r) (.arr k false rows)):= by
 rw [D5d,← h,hn]
theorem D4a {n0:Nat} {H H1 H2:A6} {v v':AV} {vs vs':List AV} {o:List (Nat × Nat)} {own:List (List (Nat × Nat))} (h:inV n0 H o v = (v',H1)) (k:A10 n0 H1 vs own = (vs',H2)):A10 n0 H (v :: vs) (o :: own) = (v' :: vs',H2):= by
 simp only [A10,List.headD_cons,h,List.tail_cons,k]
theorem D4b {n0:Nat} {H:A6} {rs rs':List AV} (h:rs.map fzA = rs'):A10 n0 H rs [] = (rs',H):= by rw [A5t,h]
theorem D7q {n0:Nat} {H H1:A6} {own:List (Nat × Nat)} {cs cs':List AV} (h:A74 n0 H own 0 cs = (cs',H1)):inV n0 H own (.agg cs) = (.agg cs',H1):= by simp only [inV,h]
theorem D7k {n0 j:Nat} {H:A6} {own:List (Nat × Nat)}:A74 n0 H own j [] = ([],H):=rfl
theorem A8d {n0 j:Nat} {H H1 H2:A6} {own:List (Nat × Nat)} {v v':AV} {vs vs':List AV} (h:inC n0 H own j v = (v',H1)) (k:A74 n0 H1 own (j + 1) vs = (vs',H2)):A74 n0 H own j (v :: vs) = (v' :: vs',H2):= by
 simp only [A74,h,k]
theorem D7l {k r n j:Nat} {own:List (Nat × Nat)} {rows:List (List AV)} (hr:A2h j own = some r) (hn:rows.length = n):inC (H0.length + k0) (H0++l) own j (.fresh k rows) = (.asl (H0.length + (k0 + r)) n,H0++l.set (k0 + r) (.arr k false rows)):= by
 simp only [inC,hr,Nat.add_assoc,I6,hn]
theorem E1v {n0 k j:Nat} {H:A6} {own:List (Nat × Nat)} {rows:List (List AV)} (hr:A2h j own = none):inC n0 H own j (.fresh k rows) = (.seq k rows,H):= by
 simp only [inC,hr]
theorem D8f {k:Option Nat} {a:Opd} {v:AV} {H':A6} (h:One T c n0 s H (.load k a) v H'):prim c n0 s H (.load k a) = some (v,H'):= by
 obtain ⟨n,e⟩:=h; exact e
theorem B7 {H:A6}:results s H [] = some []:=rfl
theorem B1 {H:A6} {t:Nat} {v:AV} {l:List ARes} {vs:List AV} (h:sget s t = some v) (k:results s H l = some vs):results s H (.tmp t :: l) = some (v :: vs):= by
 simp only [results,h,k,Option.bind_some,Option.map_some]
theorem M2 {H H':A6} {t:Nat} {q:Option Nat} {v:AV} {l:List ARes} {vs:List AV} (h:One (fun _=>none) ⟨0,[]⟩ 0 s H (.load q (.t t)) v H') (k:results s H l = some vs):results s H (.cell t q :: l) = some (v :: vs):= by
 simp only [results,D8f h,k,Option.bind_some,Option.map_some]
theorem D0d {j:Nat} {cs:List AV} (h:l[j]? = some (.cells cs)):hcells ((H0++l).map AO.toRo) (H0.length + j) = some cs:= by rw [B9k]; exact F3 h
theorem C8l {b:Nat} {cs:List AV} (h:hcells H0 b = some cs) (l:List AO):hcells ((H0++l).map AO.toRo) b = some cs:= by rw [B9k]; exact T7 h l
theorem A1b {H:A6} {kk:IntKind} {n:Nat} {a:IArr n}:A1a H (.agg (cA kk a)) = some (.agg (cA kk a),H):=D2 (C9s kk a)
theorem A15 {kk:IntKind} {n:Nat} {a:IArr n}:fzA (.agg (cA kk a)) = .agg (cA kk a):= by
 simp [fzA,cA,fz1]
theorem C8i {j n k:Nat} {p:Bool} {rows:List (List AV)} (hl:l[j]? = some (.arr k p rows)) (hn:rows.length = n):frv (H0++l) (.asl (H0.length + j) n) = some (.seq k rows,H0++l.set j (.arr k true rows)):=A88 hl hn
structure RetQ (H0:A6) (rv:List ARes) (rs:List AV) (e:Ex) (s:C9) (H:A6):Prop where
 he:(match e with | .exit _=>False | _=>True)
 hr:∃rs0 H1,results s H rv = some rs0∧A1l H0.length H rs0 = some (rs,H1)∧bdL H0.length rs = true∧H1.take H0.length = H0
theorem D64 {i:Nat} {af:AFunc} {first cap args aq rs:List AV} (haf:T i = some af) (has:first++args++cap = aq) (hn:Nat.beq aq.length af.nargs = true)
  (h:WP T af.body (R8 0 aq) H0 ⟨H0.length,c.cur :: c.outer⟩ (RetQ H0 af.results rs)):F2 T c H0 (.fn (.func i) first cap) args rs:= by
 obtain ⟨e,S',s',H',h1,h2,h3,rs0,H1,h4,h5,h6,h7⟩:=h _ (Sub.refl _)
 refine ⟨?_,h6⟩
 have ht:trunc H0.length rs H1 = H0:= by simp [trunc,h6,h7]
 have:=Q9.fn (c:=c) (H:=H0) (f:=.fn (.func i) first cap) (args:=args) (rs:=rs) (rs1:=rs) (rs0:=rs0) rfl haf rfl has.symm hn rfl h1 (by cases e <;> first | rfl | exact h3.elim) (A5e h2 h4) h5 rfl rfl
 rw [ht] at this
 exact this
theorem B6 {B:Nat} {H:A6}:A1l B H [] = some ([],H):=rfl
theorem A5 {B:Nat} {H H1 H2:A6} {v v':AV} {vs vs':List AV} (h:A1v B H v = some (v',H1)) (k:A1l B H1 vs = some (vs',H2)):A1l B H (v :: vs) = some (v' :: vs',H2):= by
 simp only [A1l,h,k]
theorem B66 {B:Nat} {H:A6} {cs:List AV} (h:cs.all (fun v=>match v with | .lit _ | .seq _ _=>true | _=>false) = true):A1v B H (.agg cs) = some (.agg cs,H):= by
 have h1:A1z B H cs = some (cs,H):= by
  induction cs with
  | nil=>rfl
  | cons v cs ih =>
   simp only [List.all_cons,Bool.and_eq_true] at h
   have:=ih h.2
   cases v with
   | lit | seq=>simp only [A1z,A5a,this]
   | _=>simp at h
 simp only [A1v,h1,Option.map_some]
theorem A2f {B:Nat} {H:A6} {kk:IntKind} {n:Nat} {a:IArr n}:A1v B H (.agg (cA kk a)) = some (.agg (cA kk a),H):=B66 (by simp [cA,List.all_map,Function.comp_def])
theorem C3o {B:Nat} {H:A6}:A1z B H [] = some ([],H):=rfl
theorem R4 {B:Nat} {H H1 H2:A6} {v v':AV} {vs vs':List AV} (h:A5a B H v = some (v',H1)) (k:A1z B H1 vs = some (vs',H2)):A1z B H (v :: vs) = some (v' :: vs',H2):= by simp only [A1z,h,k]
theorem B8o {B:Nat} {H H1:A6} {cs cs':List AV} (h:A1z B H cs = some (cs',H1)):A1v B H (.agg cs) = some (.agg cs',H1):= by simp only [A1v,h,Option.map_some]
theorem B41 {j n k:Nat} {rows:List (List AV)} (hl:l[j]? = some (.arr k false rows)) (hn:rows.length = n):A5a H0.length (H0++l) (.asl (H0.length + j) n) = some (.fresh k rows,H0++l.set j .dead):= by
 have:Nat.ble H0.length (H0.length + j) = true:=Nat.ble_eq_true_of_le (Nat.le_add_right _ _)
 simp [A5a,V1 hl,this,hn,I6]
theorem A6n {j n k:Nat} {rows:List (List AV)} (hl:l[j]? = some (.arr k false rows)) (hn:rows.length = n):A1v H0.length (H0++l) (.asl (H0.length + j) n) = some (.fresh k rows,H0++l.set j .dead):= by
 have:Nat.ble H0.length (H0.length + j) = true:=Nat.ble_eq_true_of_le (Nat.le_add_right _ _)
 simp [A1v,A5a,V1 hl,this,hn,I6]
theorem D57 {o:AOper} (h:rbox s o.op = none) {hc:List (Option (List Nat))}:R2 s o hc = true:= by unfold R2; rw [h]
theorem D2k {H:A6}:A23 H [] = some ([],H):=rfl
theorem A21 {H H1 H2:A6} {v v':AV} {vs vs':List AV} (h:frv H v = some (v',H1)) (k:A23 H1 vs = some (vs',H2)):A23 H (v :: vs) = some (v' :: vs',H2):= by simp only [A23,h,k]
theorem D9s {H H1:A6} {cs cs':List AV} (h:A23 H cs = some (cs',H1)):A1a H (.agg cs) = some (.agg cs',H1):= by simp only [A1a,h,Option.map_some]
theorem B5c {b:Nat}:(([]:List (Option (List Nat))).all fun e=>match e with | none=>true | some hs=>hs.contains b) = true:=rfl
theorem A98 {b:Nat} {hs:List Nat} {r:List (Option (List Nat))} (h:hs.contains b = true) (k:(r.all fun e=>match e with | none=>true | some hs=>hs.contains b) = true):((some hs :: r).all fun e=>match e with | none=>true | some hs=>hs.contains b) = true:= by
 rw [List.all_cons,k]; simp only [h,Bool.and_self]
theorem D65 {i:Nat} {af:AFunc} {first cap args aq rs:List AV} (haf:T i = some af) (has:first++args++cap = aq) (hn:Nat.beq aq.length af.nargs = true)
  (h:WP T af.body (R8 0 aq) H0 ⟨H0.length,c.cur :: c.outer⟩ (fun e s H=>∃ rs',RetQ H0 af.results rs' e s H∧rs'.map fzA = rs)):A5k T c H0 (.fn (.func i) first cap) args rs:= by
 obtain ⟨e,S',s',H',h1,h2,rs',⟨h3,rs0,H1,h4,h5,h6,h7⟩,h8⟩:=h _ (Sub.refl _)
 refine ⟨rs',⟨?_,h6⟩,h8⟩
 have ht:trunc H0.length rs' H1 = H0:= by simp [trunc,h6,h7]
 have:=Q9.fn (c:=c) (H:=H0) (f:=.fn (.func i) first cap) (args:=args) (rs:=rs') (rs1:=rs') (rs0:=rs0) rfl haf rfl has.symm hn rfl h1 (by cases e <;> first | rfl | exact h3.elim) (A5e h2 h4) h5 rfl rfl
 rw [ht] at this
 exact this
theorem D13 {ac:ACode} {Q:Ex→C9→A6→Prop} (h:WP T ac s (H0++[]) c Q):WP T ac s H0 c Q:= by rwa [List.append_nil] at h
theorem bdn {N:Nat}:A63 N [] = true:=rfl
theorem bdc {N:Nat} {t:Nat} {v:AV} {s:C9} (h:v.bd N = true) (k:A63 N s = true):A63 N ((t,v) :: s) = true:= by simp only [A63,h,k,Bool.and_self]
theorem A4 {N:Nat} {v:Value}:(AV.lit v).bd N = true:= by simp only [AV.bd]
theorem D8 {N k:Nat} {rows:List (List AV)}:(AV.seq k rows).bd N = true:= by simp only [AV.bd]
theorem A0v {N k:Nat} {rows:List (List AV)}:(AV.fresh k rows).bd N = true:= by simp only [AV.bd]
theorem D5 {N j k o:Nat} (h:Nat.ble (j + 1) k = true):(AV.ptr (N + j) o).bd (N + k) = true:= by simp only [AV.bd]; exact Nat.ble_eq_true_of_le (by have:=Nat.le_of_ble_eq_true h; omega)
theorem E1r {N j k:Nat} (h:Nat.ble (j + 1) k = true):(AV.itr (N + j)).bd (N + k) = true:= by simp only [AV.bd]; exact Nat.ble_eq_true_of_le (by have:=Nat.le_of_ble_eq_true h; omega)
theorem U8 {N j k n:Nat} (h:Nat.ble (j + 1) k = true):(AV.asl (N + j) n).bd (N + k) = true:= by simp only [AV.bd]; exact Nat.ble_eq_true_of_le (by have:=Nat.le_of_ble_eq_true h; omega)
theorem A46 {H:A6} {b:Nat} {cs:List AV} (h:hcells H b = some cs):b < H.length:= by
 unfold hcells hget at h
 cases e:H[b]? with
 | none=>simp [e] at h
 | some o=>exact (List.getElem?_eq_some_iff.1 e).1
theorem C1m {H:A6} {b o k:Nat} {cs:List AV} (h:hcells H b = some cs):(AV.ptr b o).bd (H.length + k) = true:= by
 have:=A46 h
 simp only [AV.bd]; exact Nat.ble_eq_true_of_le (by omega)
mutual
theorem bd_more {N M:Nat} (h:N≤M):(v:AV)→v.bd N = true→v.bd M = true
 | .lit _,_ | .nils _,_ | .seq _ _,_ | .fresh _ _,_ | .undef,_=>by simp only [AV.bd]
 | .xseq _ rows,k=>by simp only [AV.bd] at k ⊢; exact bdR_more h rows k
 | .ptr b _,k | .itr b,k | .eptr b _ _ _,k | .asl b _,k | .csl b _ _ _,k | .mp b,k=>by
  simp only [AV.bd] at k ⊢
  exact Nat.ble_eq_true_of_le (Nat.le_trans (Nat.le_of_ble_eq_true k) h)
 | .cptr cs,k | .agg cs,k | .tup cs,k=>by simp only [AV.bd] at k ⊢; exact bdL_more h k
 | .fn f a c,k=>by
  cases f <;> simp only [AV.bd,Bool.and_eq_true] at k ⊢
  all_goals first | exact ⟨bdL_more h k.1,bdL_more h k.2⟩ | exact ⟨Nat.ble_eq_true_of_le (Nat.le_trans (Nat.le_of_ble_eq_true k.1) h),bdL_more h k.2.1,bdL_more h k.2.2⟩ | exact ⟨⟨Nat.ble_eq_true_of_le (Nat.le_trans (Nat.le_of_ble_eq_true k.1.1) h),bdL_more h k.1.2⟩,bdL_more h k.2⟩
theorem bdL_more {N M:Nat} (h:N≤M):{vs:List AV}→bdL N vs = true→bdL M vs = true
 | [],_=>rfl
 | v :: vs,k=>by
  simp only [bdL,Bool.and_eq_true] at k ⊢
  exact ⟨bd_more h v k.1,bdL_more h k.2⟩
theorem bdR_more {N M:Nat} (h:N≤M):(rows:List (List AV))→bdR N rows = true→bdR M rows = true
 | [],_=>rfl
 | r :: rows,k=>by
  simp only [bdR,Bool.and_eq_true] at k ⊢
  exact ⟨bdL_more h k.1,bdR_more h rows k.2⟩
end
theorem D3s {N k i:Nat} {a b:List AV} (h:bdL N a = true∧bdL N b = true):(AV.fn (.func i) a b).bd (N + k) = true:= by
 simp only [AV.bd,bdL_more (Nat.le_add_right N k) h.1,bdL_more (Nat.le_add_right N k) h.2,Bool.and_self]
theorem A33 {N i:Nat} {a b:List AV} (ha:bdL N a = true) (hb:bdL N b = true):(AV.fn (.func i) a b).bd N = true:= by simp only [AV.bd,ha,hb,Bool.and_self]
theorem A85 {N:Nat} {cs:List AV} (h:cs.all (fun v=>match v with | .lit _ | .seq _ _ | .nils _ | .fresh _ _=>true | _=>false) = true):(AV.agg cs).bd N = true:= by
 simp only [AV.bd]
 induction cs with
 | nil=>rfl
 | cons v cs ih =>
  simp only [List.all_cons,Bool.and_eq_true] at h
  simp only [bdL,ih h.2,Bool.and_true]
  cases v with
  | lit | seq | nils | fresh=>simp only [AV.bd]
  | _=>simp at h
theorem A5m {N:Nat} {kk:IntKind} {n:Nat} {a:IArr n}:(AV.agg (cA kk a)).bd N = true:=A85 (by simp [cA,List.all_map,Function.comp_def])
theorem B5m {N:Nat}:bdR N [] = true:= by simp only [bdR]
theorem U3 {N:Nat} {r:List AV} {l:List (List AV)} (h:bdL N r = true) (k:bdR N l = true):bdR N (r :: l) = true:= by simp only [bdR,h,k,Bool.and_self]
theorem C6n {N k:Nat} {rows:List (List AV)} (h:bdR N rows = true):(AV.xseq k rows).bd N = true:= by simp only [AV.bd,h]
theorem A1c {H:A6} {l:List AO} {c:Sc} (h:Z9 c H = true):Z9 ⟨H.length,c.cur :: c.outer⟩ (H++l) = true:= by
 unfold Z9 at h ⊢
 rw [List.all_cons,Nat.ble_eq_true_of_le (by simp),Bool.true_and]
 rw [List.all_eq_true] at h ⊢
 intro B hB
 have:=Nat.le_of_ble_eq_true (h B hB)
 exact Nat.ble_eq_true_of_le (by simp; omega)
theorem E45 {H:A6} {l l':List AO} {c:Sc} {k:Nat} (hk:Nat.ble k l'.length = true) (h:Z9 c (H++l) = true) (hl:Nat.ble l.length l'.length = true):Z9 ⟨H.length + k,c.cur :: c.outer⟩ (H++l') = true:= by
 have h1:=Nat.le_of_ble_eq_true hk
 have h2:=Nat.le_of_ble_eq_true hl
 unfold Z9 at h ⊢
 rw [List.all_cons,Nat.ble_eq_true_of_le (by simp; omega),Bool.true_and]
 rw [List.all_eq_true] at h ⊢
 intro B hB
 have:=Nat.le_of_ble_eq_true (h B hB)
 simp at this
 exact Nat.ble_eq_true_of_le (by simp; omega)
theorem A8 {N:Nat}:bdL N [] = true:=rfl
theorem A1 {N:Nat} {v:AV} {vs:List AV} (h:v.bd N = true) (k:bdL N vs = true):bdL N (v :: vs) = true:= by simp only [bdL,h,k,Bool.and_self]
def Impl {α β:Type} (T:Tab) (H:A6) (i:Nat) (ff fc:List AV) (g:α→Option β) (ea:α→List AV) (er:β→List AV):Prop :=
 (bdL H.length ff = true∧bdL H.length fc = true)∧∀ (H':A6),H.length≤H'.length→(∀ b cs,hcells H b = some cs→hcells H' b = some cs)→∀ c x r,g x = some r→A5k T c H' (.fn (.func i) ff fc) (ea x) (er r)
theorem Impl.mono {α β:Type} {H H1:A6} {i:Nat} {ff fc:List AV} {g:α→Option β} {ea:α→List AV} {er:β→List AV} (h:Impl T H i ff fc g ea er) (hl:H.length≤H1.length) (hag:∀b cs,hcells H b = some cs→hcells H1 b = some cs):Impl T H1 i ff fc g ea er :=
 ⟨⟨bdL_more hl h.1.1,bdL_more hl h.1.2⟩,fun H' hl' k c x r e=>h.2 H' (Nat.le_trans hl hl') (fun b cs hb=>k b cs (hag b cs hb)) c x r e⟩
theorem Impl.app {α β:Type} {H:A6} {i:Nat} {ff fc:List AV} {g:α→Option β} {ea:α→List AV} {er:β→List AV} (h:Impl T H i ff fc g ea er) (l:List AO):Impl T (H++l) i ff fc g ea er :=
 h.mono (by simp) (fun b cs hb=>T7 hb l)
theorem Impl.call {α β:Type} {H:A6} {i:Nat} {ff fc:List AV} {g:α→Option β} {ea:α→List AV} {er:β→List AV} (h:Impl T H i ff fc g ea er) {x:α} {r:β} (e:g x = some r) (l:List AO):A5k T c (H++l) (.fn (.func i) ff fc) (ea x) (er r) :=
 h.2 _ (by simp) (fun b cs hb=>T7 hb l) c x r e
theorem retq {rv:List ARes} {rs rs0:List AV} {H1:List AO} {e:Ex} (he:(match e with | .exit _=>False | _=>True)) (h1:results s (H0++l) rv = some rs0) (h2:A1l H0.length (H0++l) rs0 = some (rs,H0++H1)) (h3:bdL H0.length rs = true):RetQ H0 rv rs e s (H0++l) :=
 ⟨he,rs0,_,h1,h2,h3,by simp⟩
theorem A6w {i:Nat} {first cap args rs aq:List AV} {H:A6} (h:F2 T c H (.fn (.func i) [] []) aq rs) (has:aq = first++args++cap:= by rfl):F2 T c H (.fn (.func i) first cap) args rs:= by
 subst has
 obtain ⟨⟨n,e⟩,hb⟩:=h
 refine ⟨⟨n,?_⟩,hb⟩
 cases n with
 | zero=>simp [mach] at e
 | succ m =>
  rw [A1d] at e ⊢
  simpa [R0] using e
theorem A24 {N:Nat} {rs vs:List AV} {H3:A6} (hb:bdL N rs = false) (hv:rs.map fzA = vs):A10 n0 (trunc N rs H3) rs [] = (vs,H3):= by
 rw [A5t,hv]; simp [trunc,hb]
theorem Z1 {N:Nat} {rs vs:List AV} {H3 H4:A6} (hb:bdL N rs = true) (hv:rs.map fzA = vs) (ht:H3.take N = H4):A10 n0 (trunc N rs H3) rs [] = (vs,H4):= by
 rw [A5t,hv]; simp [trunc,hb,ht]
theorem U4 {N:Nat} {v:AV} {vs:List AV} (h:v.bd N = false):bdL N (v :: vs) = false:= by simp only [bdL,h,Bool.false_and]
theorem A2z {N B j o:Nat} (h:Nat.ble B j = true):(AV.ptr (N + j) o).bd (N + B) = false:= by
 simp only [AV.bd]
 cases e:Nat.blt (N + j) (N + B) with
 | false=>rfl
 | true=>have:=Nat.le_of_ble_eq_true e; have:=Nat.le_of_ble_eq_true h; omega
theorem D17 {N i:Nat} {a b:List AV} (h:bdL N b = false):(AV.fn (.func i) a b).bd N = false:= by simp only [AV.bd,h,Bool.and_false]
theorem A26 {k:Nat} (h:l.length = k):(H0++l).length = H0.length + k:= by rw [List.length_append,h]
theorem Impl.callP {α β:Type} {H:A6} {i:Nat} {ff fc:List AV} {g:α→Option β} {ea:α→List AV} {er:β→List AV} (h:Impl T H i ff fc g ea er) {x:α} {r:β} (e:g x = some r) (l:List AO):A5k T c ((H++l).map AO.toRo) (.fn (.func i) ff fc) (ea x) (er r) :=
 h.2 _ (by simp) (fun b cs hb=>by rw [B9k]; exact T7 hb l) c x r e
end
section
variable {T:Tab} {s s' S:C9} {H0 H H':A6} {l l':List AO} {c:Sc} {n0 k0:Nat} {hc:List (Option (List Nat))} {ops:List AOper} {Q:Ex→C9→A6→Prop} {R:C9→A6→Prop}
inductive RL (s:C9):List Nat→C9→Prop
 | n:RL s [] []
 | k {t:Nat} {v:AV} {l:List Nat} {s':C9} (h:sget s t = some v) (r:RL s l s'):RL s (t :: l) ((t,v) :: s')
 | x {t:Nat} {l:List Nat} {s':C9} (r:RL s l s'):RL s (t :: l) s'
theorem RL.sub {l:List Nat} {s':C9} (h:RL s l s'):Sub s' s:= by
 induction h with
 | n=>exact Sub.nil _
 | k h _ ih=>exact Sub.cons h ih
 | x _ ih=>exact ih
theorem RL.ok {l:List Nat} {s':C9} (h:RL s l s'):(s'.all fun x=>l.contains x.1) = true:= by
 have:∀x ∈ s',x.1 ∈ l:= by
  induction h with
  | n=>intro x hx; simp at hx
  | k h _ ih =>
   intro x hx
   rcases List.mem_cons.1 hx with rfl | hx
   ·exact List.mem_cons_self
   ·exact List.mem_cons_of_mem _ (ih x hx)
  | x _ ih=>intro y hy; exact List.mem_cons_of_mem _ (ih y hy)
 rw [List.all_eq_true]
 intro x hx
 simpa using this x hx
theorem en {live:List Nat} (h:RL s live s') (k:Q .normal s' H):O8 T c n0 [] s H hc (RG live Q):=⟨0,s,H,rfl,s',h.sub,h.ok,k⟩
theorem es {live:List Nat} {b:ACode} (h:RL s live s') (k:WP T b s' H c Q):O8 T c n0 [] s H hc (RG live (D6l T b c Q)):=en h k
theorem rg {d:Bool} {nres:Nat} {live:List Nat} (k0:Nat) (hk:l.length = k0) (h:O8 T c (H0.length + k0) ops s (H0++(l++List.replicate nres .dead)) [] (RG live Q)):WP T (.region d nres [] ops live) s (H0++l) c Q:=C5a k0 hk h
theorem r0 {d:Bool} {live:List Nat} (h:O8 T c (H0.length + l.length) ops s (H0++l) [] (RG live Q)):WP T (.region d 0 [] ops live) s (H0++l) c Q :=
 C5a l.length rfl (by rw [List.replicate_zero,List.append_nil]; exact h)
theorem sg {d:Bool} {nres:Nat} {live:List Nat} {b:ACode} (k0:Nat) (hk:l.length = k0) (h:O8 T c (H0.length + k0) ops s (H0++(l++List.replicate nres .dead)) [] (RG live (D6l T b c Q))):WP T (.seq (.region d nres [] ops live) b) s (H0++l) c Q:=D3m (rg k0 hk h)
theorem s0 {d:Bool} {live:List Nat} {b:ACode} (h:O8 T c (H0.length + l.length) ops s (H0++l) [] (RG live (D6l T b c Q))):WP T (.seq (.region d 0 [] ops live) b) s (H0++l) c Q:=D3m (r0 h)
theorem B3 {a b:ACode} (h:WP T a s H c (D6l T b c Q)):WP T (.seq a b) s H c Q:=D3m h
theorem C2 (h:Q .normal s H):WP T .skip s H c Q:=E1i h
theorem E3 {id:Nat} (h:Q (.exit id) s H):WP T (.exit id) s H c Q:=E1g h
theorem C4 (h:Q .ret s H):WP T .ret s H c Q:=E2w h
theorem B9 {id:Nat} {a:ACode} (h:WP T a s H c (C73 id Q)):WP T (.block id a) s H c Q:=D9d h
theorem E1f {a:ACode} (h:WP T a s H c Q):WP T (.scope a) s H c Q:=D9e h
theorem N0 {x:Opd} {t:Bool} {a b:ACode} (h:ev s x = some (.lit (.bool t))) (ht:t = true) (k:WP T a s H c Q):WP T (.cond x a b) s H c Q:=D11 h ht k
theorem A0c {x:Opd} {t:Bool} {a b:ACode} (h:ev s x = some (.lit (.bool t))) (ht:t = false) (k:WP T b s H c Q):WP T (.cond x a b) s H c Q:=D10 h ht k
theorem C0d {ac:ACode} {Q1:Ex→C9→A6→Prop} (h:WP T ac s H c (fun e s' H'=>∃ s0,Sub s0 s'∧Q1 e s0 H')) (k:∀e s' H',Q1 e s' H'→Q e s' H'):WP T ac s H c Q:=E1h h k
theorem B82 {tr:Bool} {live:List Nat} {bd:ACode} (k:Nat) (hk:l.length = k) (s':C9) (hr:∀S,Sub s S→restrict S live = s') (h:WP T bd s' (H0++l) (bif tr then ⟨H0.length + k,c.cur :: c.outer⟩ else c) (UnQ T tr live bd c (H0.length + k) Q)):WP T (.loop tr live bd) s (H0++l) c Q:=D6g k hk s' hr h
theorem wi {ρ:Type} {x:Opd} {e:Bool} {A B:Option ρ} {r:ρ} {a b:ACode} (h:(if e = true then A else B) = some r) (hx:ev s x = some (.lit (.bool e))) (k1:e = true→A = some r→WP T a s H c Q) (k2:e = false→B = some r→WP T b s H c Q):WP T (.cond x a b) s H c Q:= by
 cases e with
 | true=>exact D11 hx rfl (k1 rfl h)
 | false=>exact D10 hx rfl (k2 rfl h)
theorem oB {α β:Type} {o:Option α} {f:α→Option β} {r:β} {P:Prop} (h:o.bind f = some r) (k:∀x,o = some x→f x = some r→P):P:= by
 obtain ⟨x,h1,h2⟩:=E0k h
 exact k x h1 h2
theorem os {α:Type} {a b:α} (h:some a = some b):a = b:=Option.some.inj h
def GQ (d:Nat) (v:AV) (s:C9) (H:A6) (s1:C9) (H1:A6):Prop:=H1 = H∧Sub ((d,v) :: s) s1
theorem D1p:∀{s:C9} {t:Nat} {v:AV},sget s t = some v→∃ x ∈ s,x.1 = t
 | [],_,_,h=>by simp [P4,M8] at h
 | x :: s,t,v,h=>by
  simp only [P4,M8] at h
  cases hb:Nat.beq x.1 t with
  | true=>exact ⟨x,by simp,Nat.eq_of_beq_eq_true hb⟩
  | false=>rw [hb] at h; obtain ⟨y,h1,h2⟩:=D1p h; exact ⟨y,by simp [h1],h2⟩
theorem D1q:∀{n:Nat} {s s1:C9},s1.drop n = s→((s1.take n).all fun y=>s.all fun x=>!Nat.beq y.1 x.1) = true→Sub s s1
 | 0,s,s1,h,_=>by rw [List.drop_zero] at h; subst h; exact Sub.refl _
 | n + 1,s,[],h,_=>by simp at h; subst h; exact Sub.refl _
 | n + 1,s,y :: s1,h,k=>by
  simp only [List.drop_succ_cons] at h
  simp only [List.take_succ_cons,List.all_cons,Bool.and_eq_true] at k
  have ih:=D1q h k.2
  intro t v e
  obtain ⟨x,hx,rfl⟩:=D1p e
  have:=List.all_eq_true.1 k.1 x hx
  simp only [Bool.not_eq_true'] at this
  simp only [P4,M8,this,cond_false]
  exact ih _ _ e
theorem ge (n:Nat) {d:Nat} {v:AV} {s1:C9} (hv:sget s1 d = some v) (hd:s1.drop n = s) (hk:((s1.take n).all fun y=>s.all fun x=>!Nat.beq y.1 x.1) = true):O8 T c n0 [] s1 H hc (GQ d v s H):=⟨0,s1,H,rfl,rfl,Sub.cons hv (D1q hd hk)⟩
theorem gpR (n d:Nat) (v:AV) (t:Nat) {g:Bool} (_hg:sget s t = some (.lit (.bool g))) (hq:calm (ops.drop n) = true) (h1:g = true→O8 T c n0 (ops.take n) s H hc (GQ d v s H)) (h2:g = false→O8 T c n0 (ops.take n) s H hc (GQ d v s H))
  (hR:∀a b H,Sub a b→R a H→R b H) (k:O8 T c n0 (ops.drop n) ((d,v) :: s) H [] R):O8 T c n0 ops s H hc R:= by
 have:O8 T c n0 (ops.take n) s H hc (GQ d v s H):= by
  cases g
  ·exact h2 rfl
  ·exact h1 rfl
 exact B91 n ((d,v) :: s) H hq this hR k
theorem gp {live:List Nat} (n d:Nat) (v:AV) (t:Nat) {g:Bool} (hg:sget s t = some (.lit (.bool g))) (hq:calm (ops.drop n) = true) (h1:g = true→O8 T c n0 (ops.take n) s H hc (GQ d v s H)) (h2:g = false→O8 T c n0 (ops.take n) s H hc (GQ d v s H))
  (k:O8 T c n0 (ops.drop n) ((d,v) :: s) H [] (RG live Q)):O8 T c n0 ops s H hc (RG live Q) :=
 gpR n d v t hg hq h1 h2 (fun _ _ _ h ⟨s',a,b,d⟩=>⟨s',a.trans h,b,d⟩) k
theorem gq {d1:Nat} {v1:AV} {s1:C9} {H1:A6} (n d:Nat) (v:AV) (t:Nat) {g:Bool} (hg:sget s t = some (.lit (.bool g))) (hq:calm (ops.drop n) = true) (h1:g = true→O8 T c n0 (ops.take n) s H hc (GQ d v s H)) (h2:g = false→O8 T c n0 (ops.take n) s H hc (GQ d v s H))
  (k:O8 T c n0 (ops.drop n) ((d,v) :: s) H [] (GQ d1 v1 s1 H1)):O8 T c n0 ops s H hc (GQ d1 v1 s1 H1) :=
 gpR n d v t hg hq h1 h2 (fun _ _ _ h q=>⟨q.1,q.2.trans h⟩) k
theorem bt {e:Bool} {α:Type} {A B:Option α} {r:α} (h:(if e = true then A else B) = some r) (he:e = true):A = some r:= by rw [if_pos he] at h; exact h
theorem bf {e:Bool} {α:Type} {A B:Option α} {r:α} (h:(if e = true then A else B) = some r) (he:e = false):B = some r:= by rw [if_neg (by rw [he]; decide)] at h; exact h
def PX (i:Nat) (s0:C9) (H0:A6) (e:Ex) (s':C9) (H':A6):Prop:=e = .exit i∧s' = s0∧H' = H0
theorem wl {γ σ ρ:Type} {live:List Nat} {bd:ACode} {body:σ→Option (σ ⊕ ρ)} {x0:σ} {r:ρ} (st:σ→C9) (lh:γ→σ→List AO) (N:Nat) (P:ρ→Ex→C9→A6→Prop) (g0:γ) (h:loop body x0 = some r) (hs:st x0 = s) (hl:lh g0 x0 = l)
  (hN:∀g x,(lh g x).length = N) (hlive:∀x,(st x).map (·.1) = live) (hnd:B6x live = true) (hbd:∀x,A63 (H0.length + N) (st x) = true)
  (hbody:∀g x o,body x = some o→WP T bd (st x) (H0++lh g x) ⟨H0.length + N,c.cur :: c.outer⟩ (D6j true st (fun g x=>H0++lh g x) (H0.length + N) P o))
  (k:∀e s' H',e.out = true→P r e s' H'→Q e s' H'):WP T (.loop true live bd) s (H0++l) c Q:= by
 subst hs; subst hl
 exact B53 (C49 st (fun g x=>H0++lh g x) (H0.length + N) P (fun g x=>by rw [List.length_append,hN]) hlive (B0m hnd) (fun x _=>hbd x) hbody h g0) fun e s' H' q=>k e s' H' q.1 q.2
theorem lnT {γ:Type} {s0:C9} {L:γ→List AO} {N:Nat} (g:γ) (hl:l.take N = L g) (hs:Sub s0 s'):Ex.normal = Ex.normal∧Sub s0 s'∧∃ g',(bif true then (H0++l).take (H0.length + N) else H0++l) = H0++L g' :=
 ⟨rfl,hs,g,by rw [cond_true,K7,hl]⟩
theorem lx {R:C9→Prop} {o:Bool} {s0:C9} (ho:o = true) (hr:R s0) (hs:Sub s0 s'):o = true∧∃ s0,Sub s0 s'∧R s0:=⟨ho,s0,hs,hr⟩
theorem me {R:C9→Prop} {s0:C9} (hr:R s0) (hs:Sub s0 s'):∃s0,Sub s0 s'∧R s0:=⟨s0,hs,hr⟩
theorem px {i:Nat} {s0:C9} {H:A6}:PX i s0 H (.exit i) s0 H:=⟨rfl,rfl,rfl⟩
theorem E3r {x:Opd} {v v':AV} {H':A6} (h:ev s x = some v) (hf:A1a H v = some (v',H')):One T c n0 s H (.mvz x) v' H':=⟨0,by simp only [core,prim,h,hf]⟩
theorem D8b {a:Opd} {j o k r:Nat} {cs ds:List AV} (h:ev s a = some (.ptr (H0.length + j) o)) (hl:(l.set (k0 + r) (.arr k false []))[j]? = some (.cells cs)) (hk:Nat.ble (o + 1) cs.length = true) (hok:c.okL (H0.length + j) [.asl (H0.length + (k0 + r)) 0] = true) (hd:splice cs o [.asl (H0.length + (k0 + r)) 0] = ds) :
  One T c (H0.length + k0) s (H0++l) (.storeN a k r) (.tup []) (H0++(l.set (k0 + r) (.arr k false [])).set j (.cells ds)) :=
 ⟨0,by simp only [core,prim,h,Nat.add_assoc,I6,B1i hl,hk,hok,Bool.and_self,if_true,hd]⟩
theorem D8a {x:Opd} {j n k:Nat} {p:Bool} {rows:List (List AV)} (h:ev s x = some (.asl (H0.length + j) n)) (hl:l[j]? = some (.arr k p rows)) (hn:rows.length = n):One T c n0 s (H0++l) (.mvz x) (.seq k rows) (H0++l.set j (.arr k true rows)):=E3r h (A88 hl hn)
theorem D7 {x y:Opd} {a b:Int} (hx:ev s x = some (.lit (.int .i64 a))) (hy:ev s y = some (.lit (.int .i64 b))):One T c n0 s H (.bin .add x y) (.lit (.int .i64 (w64 (a + b)))) H:=J9 hx hy rfl
theorem O0 {x y:Opd} {a b:Int} (hx:ev s x = some (.lit (.int .i64 a))) (hy:ev s y = some (.lit (.int .i64 b))):One T c n0 s H (.bin .sub x y) (.lit (.int .i64 (w64 (a - b)))) H:=J9 hx hy rfl
theorem C14 {x y:Opd} {a b:Int} (hx:ev s x = some (.lit (.int .i64 a))) (hy:ev s y = some (.lit (.int .i64 b))):One T c n0 s H (.bin .mul x y) (.lit (.int .i64 (w64 (a * b)))) H:=J9 hx hy rfl
section
variable {x y:Opd} {a b:Int} {kk:IntKind}
theorem B2h {op:BinOp} {v:Value} (h:B4m op kk a b = some v):B1w op (.lit (.int kk a)) (.lit (.int kk b)) = some (.lit v):= by
 cases op <;> first | (simp only [B1w,if_true,h,Option.map_some]; done) | (simp [B4m] at h)
theorem G7 (hx:ev s x = some (.lit (.int kk a))) (hy:ev s y = some (.lit (.int kk b))):One T c n0 s H (.bin .eql x y) (.lit (.bool (a == b))) H:=J9 hx hy (B2h rfl)
theorem F8 (hx:ev s x = some (.lit (.int kk a))) (hy:ev s y = some (.lit (.int kk b))):One T c n0 s H (.bin .neq x y) (.lit (.bool (a != b))) H:=J9 hx hy (B2h rfl)
theorem F4 (hx:ev s x = some (.lit (.int kk a))) (hy:ev s y = some (.lit (.int kk b))):One T c n0 s H (.bin .lss x y) (.lit (.bool (decide (a < b)))) H:=J9 hx hy (B2h rfl)
theorem A8p (hx:ev s x = some (.lit (.int kk a))) (hy:ev s y = some (.lit (.int kk b))):One T c n0 s H (.bin .leq x y) (.lit (.bool (decide (a≤b)))) H:=J9 hx hy (B2h rfl)
theorem A37 (hx:ev s x = some (.lit (.int kk a))) (hy:ev s y = some (.lit (.int kk b))):One T c n0 s H (.bin .gtr x y) (.lit (.bool (decide (a > b)))) H:=J9 hx hy (B2h rfl)
theorem B1e (hx:ev s x = some (.lit (.int kk a))) (hy:ev s y = some (.lit (.int kk b))):One T c n0 s H (.bin .geq x y) (.lit (.bool (decide (a ≥ b)))) H:=J9 hx hy (B2h rfl)
end
theorem D75 {x y:Opd} {a b:Bool} (hx:ev s x = some (.lit (.bool a))) (hy:ev s y = some (.lit (.bool b))):One T c n0 s H (.beq true x y) (.lit (.bool (!(a == b)))) H:=E1l hx hy
theorem D2x {ks:List Nat} {x y:Opd} {a b:List AV} {t:Bool} (hx:ev s x = some (.agg a)) (hy:ev s y = some (.agg b)) (ha:kinds ks a = true) (hb:kinds ks b = true) (ht:N1 a b = some t):One T c n0 s H (.cmp false ks x y) (.lit (.bool t)) H:=D76 hx hy ha hb ht
theorem E0c {kk:IntKind} {n:Nat} {ks:List Nat} {x y:Opd} {a b:IArr n} (hx:ev s x = some (.agg (cA kk a))) (hy:ev s y = some (.agg (cA kk b))) (hk:ks = List.replicate n 0):One T c n0 s H (.cmp true ks x y) (.lit (.bool (!(a.l == b.l)))) H:=D77 hx hy hk
theorem D6q {x y:Opd} {a b:ByteArray} (hx:ev s x = some (.lit (.string a))) (hy:ev s y = some (.lit (.string b))):One T c n0 s H (.bin .eql x y) (.lit (.bool (eqS a b))) H:=J9 hx hy rfl
theorem E3c {x y:Opd} {a b:ByteArray} (hx:ev s x = some (.lit (.string a))) (hy:ev s y = some (.lit (.string b))):One T c n0 s H (.bin .neq x y) (.lit (.bool (!eqS a b))) H:=J9 hx hy rfl
theorem O3 {x:Opd} {b:Bool} (hx:ev s x = some (.lit (.bool b))):One T c n0 s H (.un .not x) (.lit (.bool (!b))) H:=E3u hx rfl
theorem C5 {a:Opd} {j k:Nat} {cs:List AV} (h:ev s a = some (.ptr (H0.length + j) 0)) (hl:l[j]? = some (.cells cs)) (hk:Nat.beq cs.length k = true):One T c n0 s (H0++l) (.load (some k) a) (.agg cs) (H0++l):= by
 have hk:=Nat.eq_of_beq_eq_true hk
 exact A08 h hl (by rw [List.drop_zero,hk]; exact Nat.ble_eq_true_of_le (Nat.le_refl _)) (by rw [List.drop_zero,List.take_of_length_le (by omega)])
theorem K0 {a:Opd} {k:Nat} {cs:List AV} (h:ev s a = some (.cptr cs)) (hk:Nat.beq cs.length k = true):One T c n0 s H (.load (some k) a) (.agg cs) H:= by
 have hk:=Nat.eq_of_beq_eq_true hk
 exact B8f h (by rw [hk]; exact Nat.ble_eq_true_of_le (Nat.le_refl _)) (List.take_of_length_le (by omega))
end
section
variable {T:Tab} {H0:A6} {c:Sc}
theorem cE {i:Nat} {af:AFunc} {args rs:List AV} (haf:T i = some af) (hn:Nat.beq args.length af.nargs = true)
  (h:WP T af.body (R8 0 args) (H0++[]) ⟨H0.length,c.cur :: c.outer⟩ (RetQ H0 af.results rs)):F2 T c H0 (.fn (.func i) [] []) args rs :=
 D64 haf (List.append_nil _) hn (D13 h)
theorem cF {i:Nat} {af:AFunc} {args rs:List AV} (haf:T i = some af) (hn:Nat.beq args.length af.nargs = true)
  (h:WP T af.body (R8 0 args) (H0++[]) ⟨H0.length,c.cur :: c.outer⟩ (fun e s H=>∃ rs',RetQ H0 af.results rs' e s H∧rs'.map fzA = rs)):A5k T c H0 (.fn (.func i) [] []) args rs :=
 D65 haf (List.append_nil _) hn (D13 h)
end
section
variable {S:C9} {t1 t2 t3 t4 t5 t6 t7 t8 t9 t10 t11 t12 t13 t14:Nat} {v1 v2 v3 v4 v5 v6 v7 v8 v9 v10 v11 v12 v13 v14:AV}
theorem ra1 (h1:sget S t1 = some v1):RL S [t1] [(t1,v1)]:=.k h1 .n
theorem su1 (h1:sget S t1 = some v1):Sub [(t1,v1)] S:=.cons h1 (.nil _)
theorem ra2 (h1:sget S t1 = some v1) (h2:sget S t2 = some v2):RL S [t1,t2] [(t1,v1),(t2,v2)]:=.k h1 (.k h2 .n)
theorem su2 (h1:sget S t1 = some v1) (h2:sget S t2 = some v2):Sub [(t1,v1),(t2,v2)] S:=.cons h1 (.cons h2 (.nil _))
theorem ra3 (h1:sget S t1 = some v1) (h2:sget S t2 = some v2) (h3:sget S t3 = some v3):RL S [t1,t2,t3] [(t1,v1),(t2,v2),(t3,v3)]:=.k h1 (.k h2 (.k h3 .n))
theorem su3 (h1:sget S t1 = some v1) (h2:sget S t2 = some v2) (h3:sget S t3 = some v3):Sub [(t1,v1),(t2,v2),(t3,v3)] S:=.cons h1 (.cons h2 (.cons h3 (.nil _)))
theorem ra4 (h1:sget S t1 = some v1) (h2:sget S t2 = some v2) (h3:sget S t3 = some v3) (h4:sget S t4 = some v4):RL S [t1,t2,t3,t4] [(t1,v1),(t2,v2),(t3,v3),(t4,v4)]:=.k h1 (.k h2 (.k h3 (.k h4 .n)))
theorem su4 (h1:sget S t1 = some v1) (h2:sget S t2 = some v2) (h3:sget S t3 = some v3) (h4:sget S t4 = some v4):Sub [(t1,v1),(t2,v2),(t3,v3),(t4,v4)] S:=.cons h1 (.cons h2 (.cons h3 (.cons h4 (.nil _))))
theorem ra5 (h1:sget S t1 = some v1) (h2:sget S t2 = some v2) (h3:sget S t3 = some v3) (h4:sget S t4 = some v4) (h5:sget S t5 = some v5):RL S [t1,t2,t3,t4,t5] [(t1,v1),(t2,v2),(t3,v3),(t4,v4),(t5,v5)]:=.k h1 (.k h2 (.k h3 (.k h4 (.k h5 .n))))
theorem su5 (h1:sget S t1 = some v1) (h2:sget S t2 = some v2) (h3:sget S t3 = some v3) (h4:sget S t4 = some v4) (h5:sget S t5 = some v5):Sub [(t1,v1),(t2,v2),(t3,v3),(t4,v4),(t5,v5)] S:=.cons h1 (.cons h2 (.cons h3 (.cons h4 (.cons h5 (.nil _)))))
theorem ra6 (h1:sget S t1 = some v1) (h2:sget S t2 = some v2) (h3:sget S t3 = some v3) (h4:sget S t4 = some v4) (h5:sget S t5 = some v5) (h6:sget S t6 = some v6):RL S [t1,t2,t3,t4,t5,t6] [(t1,v1),(t2,v2),(t3,v3),(t4,v4),(t5,v5),(t6,v6)]:=.k h1 (.k h2 (.k h3 (.k h4 (.k h5 (.k h6 .n)))))
theorem su6 (h1:sget S t1 = some v1) (h2:sget S t2 = some v2) (h3:sget S t3 = some v3) (h4:sget S t4 = some v4) (h5:sget S t5 = some v5) (h6:sget S t6 = some v6):Sub [(t1,v1),(t2,v2),(t3,v3),(t4,v4),(t5,v5),(t6,v6)] S:=.cons h1 (.cons h2 (.cons h3 (.cons h4 (.cons h5 (.cons h6 (.nil _))))))
theorem ra7 (h1:sget S t1 = some v1) (h2:sget S t2 = some v2) (h3:sget S t3 = some v3) (h4:sget S t4 = some v4) (h5:sget S t5 = some v5) (h6:sget S t6 = some v6) (h7:sget S t7 = some v7):RL S [t1,t2,t3,t4,t5,t6,t7] [(t1,v1),(t2,v2),(t3,v3),(t4,v4),(t5,v5),(t6,v6),(t7,v7)]:=.k h1 (.k h2 (.k h3 (.k h4 (.k h5 (.k h6 (.k h7 .n))))))
theorem su7 (h1:sget S t1 = some v1) (h2:sget S t2 = some v2) (h3:sget S t3 = some v3) (h4:sget S t4 = some v4) (h5:sget S t5 = some v5) (h6:sget S t6 = some v6) (h7:sget S t7 = some v7):Sub [(t1,v1),(t2,v2),(t3,v3),(t4,v4),(t5,v5),(t6,v6),(t7,v7)] S:=.cons h1 (.cons h2 (.cons h3 (.cons h4 (.cons h5 (.cons h6 (.cons h7 (.nil _)))))))
theorem ra8 (h1:sget S t1 = some v1) (h2:sget S t2 = some v2) (h3:sget S t3 = some v3) (h4:sget S t4 = some v4) (h5:sget S t5 = some v5) (h6:sget S t6 = some v6) (h7:sget S t7 = some v7) (h8:sget S t8 = some v8):RL S [t1,t2,t3,t4,t5,t6,t7,t8] [(t1,v1),(t2,v2),(t3,v3),(t4,v4),(t5,v5),(t6,v6),(t7,v7),(t8,v8)]:=.k h1 (.k h2 (.k h3 (.k h4 (.k h5 (.k h6 (.k h7 (.k h8 .n)))))))
theorem su8 (h1:sget S t1 = some v1) (h2:sget S t2 = some v2) (h3:sget S t3 = some v3) (h4:sget S t4 = some v4) (h5:sget S t5 = some v5) (h6:sget S t6 = some v6) (h7:sget S t7 = some v7) (h8:sget S t8 = some v8):Sub [(t1,v1),(t2,v2),(t3,v3),(t4,v4),(t5,v5),(t6,v6),(t7,v7),(t8,v8)] S:=.cons h1 (.cons h2 (.cons h3 (.cons h4 (.cons h5 (.cons h6 (.cons h7 (.cons h8 (.nil _))))))))
theorem ra9 (h1:sget S t1 = some v1) (h2:sget S t2 = some v2) (h3:sget S t3 = some v3) (h4:sget S t4 = some v4) (h5:sget S t5 = some v5) (h6:sget S t6 = some v6) (h7:sget S t7 = some v7) (h8:sget S t8 = some v8) (h9:sget S t9 = some v9):RL S [t1,t2,t3,t4,t5,t6,t7,t8,t9] [(t1,v1),(t2,v2),(t3,v3),(t4,v4),(t5,v5),(t6,v6),(t7,v7),(t8,v8),(t9,v9)]:=.k h1 (.k h2 (.k h3 (.k h4 (.k h5 (.k h6 (.k h7 (.k h8 (.k h9 .n))))))))
theorem su9 (h1:sget S t1 = some v1) (h2:sget S t2 = some v2) (h3:sget S t3 = some v3) (h4:sget S t4 = some v4) (h5:sget S t5 = some v5) (h6:sget S t6 = some v6) (h7:sget S t7 = some v7) (h8:sget S t8 = some v8) (h9:sget S t9 = some v9):Sub [(t1,v1),(t2,v2),(t3,v3),(t4,v4),(t5,v5),(t6,v6),(t7,v7),(t8,v8),(t9,v9)] S:=.cons h1 (.cons h2 (.cons h3 (.cons h4 (.cons h5 (.cons h6 (.cons h7 (.cons h8 (.cons h9 (.nil _)))))))))
theorem ra10 (h1:sget S t1 = some v1) (h2:sget S t2 = some v2) (h3:sget S t3 = some v3) (h4:sget S t4 = some v4) (h5:sget S t5 = some v5) (h6:sget S t6 = some v6) (h7:sget S t7 = some v7) (h8:sget S t8 = some v8) (h9:sget S t9 = some v9) (h10:sget S t10 = some v10):RL S [t1,t2,t3,t4,t5,t6,t7,t8,t9,t10] [(t1,v1),(t2,v2),(t3,v3),(t4,v4),(t5,v5),(t6,v6),(t7,v7),(t8,v8),(t9,v9),(t10,v10)]:=.k h1 (.k h2 (.k h3 (.k h4 (.k h5 (.k h6 (.k h7 (.k h8 (.k h9 (.k h10 .n)))))))))
theorem su10 (h1:sget S t1 = some v1) (h2:sget S t2 = some v2) (h3:sget S t3 = some v3) (h4:sget S t4 = some v4) (h5:sget S t5 = some v5) (h6:sget S t6 = some v6) (h7:sget S t7 = some v7) (h8:sget S t8 = some v8) (h9:sget S t9 = some v9) (h10:sget S t10 = some v10):Sub [(t1,v1),(t2,v2),(t3,v3),(t4,v4),(t5,v5),(t6,v6),(t7,v7),(t8,v8),(t9,v9),(t10,v10)] S:=.cons h1 (.cons h2 (.cons h3 (.cons h4 (.cons h5 (.cons h6 (.cons h7 (.cons h8 (.cons h9 (.cons h10 (.nil _))))))))))
theorem ra11 (h1:sget S t1 = some v1) (h2:sget S t2 = some v2) (h3:sget S t3 = some v3) (h4:sget S t4 = some v4) (h5:sget S t5 = some v5) (h6:sget S t6 = some v6) (h7:sget S t7 = some v7) (h8:sget S t8 = some v8) (h9:sget S t9 = some v9) (h10:sget S t10 = some v10) (h11:sget S t11 = some v11):RL S [t1,t2,t3,t4,t5,t6,t7,t8,t9,t10,t11] [(t1,v1),(t2,v2),(t3,v3),(t4,v4),(t5,v5),(t6,v6),(t7,v7),(t8,v8),(t9,v9),(t10,v10),(t11,v11)]:=.k h1 (.k h2 (.k h3 (.k h4 (.k h5 (.k h6 (.k h7 (.k h8 (.k h9 (.k h10 (.k h11 .n))))))))))
theorem su11 (h1:sget S t1 = some v1) (h2:sget S t2 = some v2) (h3:sget S t3 = some v3) (h4:sget S t4 = some v4) (h5:sget S t5 = some v5) (h6:sget S t6 = some v6) (h7:sget S t7 = some v7) (h8:sget S t8 = some v8) (h9:sget S t9 = some v9) (h10:sget S t10 = some v10) (h11:sget S t11 = some v11):Sub [(t1,v1),(t2,v2),(t3,v3),(t4,v4),(t5,v5),(t6,v6),(t7,v7),(t8,v8),(t9,v9),(t10,v10),(t11,v11)] S:=.cons h1 (.cons h2 (.cons h3 (.cons h4 (.cons h5 (.cons h6 (.cons h7 (.cons h8 (.cons h9 (.cons h10 (.cons h11 (.nil _)))))))))))
theorem ra12 (h1:sget S t1 = some v1) (h2:sget S t2 = some v2) (h3:sget S t3 = some v3) (h4:sget S t4 = some v4) (h5:sget S t5 = some v5) (h6:sget S t6 = some v6) (h7:sget S t7 = some v7) (h8:sget S t8 = some v8) (h9:sget S t9 = some v9) (h10:sget S t10 = some v10) (h11:sget S t11 = some v11) (h12:sget S t12 = some v12):RL S [t1,t2,t3,t4,t5,t6,t7,t8,t9,t10,t11,t12] [(t1,v1),(t2,v2),(t3,v3),(t4,v4),(t5,v5),(t6,v6),(t7,v7),(t8,v8),(t9,v9),(t10,v10),(t11,v11),(t12,v12)]:=.k h1 (.k h2 (.k h3 (.k h4 (.k h5 (.k h6 (.k h7 (.k h8 (.k h9 (.k h10 (.k h11 (.k h12 .n)))))))))))
theorem su12 (h1:sget S t1 = some v1) (h2:sget S t2 = some v2) (h3:sget S t3 = some v3) (h4:sget S t4 = some v4) (h5:sget S t5 = some v5) (h6:sget S t6 = some v6) (h7:sget S t7 = some v7) (h8:sget S t8 = some v8) (h9:sget S t9 = some v9) (h10:sget S t10 = some v10) (h11:sget S t11 = some v11) (h12:sget S t12 = some v12):Sub [(t1,v1),(t2,v2),(t3,v3),(t4,v4),(t5,v5),(t6,v6),(t7,v7),(t8,v8),(t9,v9),(t10,v10),(t11,v11),(t12,v12)] S:=.cons h1 (.cons h2 (.cons h3 (.cons h4 (.cons h5 (.cons h6 (.cons h7 (.cons h8 (.cons h9 (.cons h10 (.cons h11 (.cons h12 (.nil _))))))))))))
theorem ra13 (h1:sget S t1 = some v1) (h2:sget S t2 = some v2) (h3:sget S t3 = some v3) (h4:sget S t4 = some v4) (h5:sget S t5 = some v5) (h6:sget S t6 = some v6) (h7:sget S t7 = some v7) (h8:sget S t8 = some v8) (h9:sget S t9 = some v9) (h10:sget S t10 = some v10) (h11:sget S t11 = some v11) (h12:sget S t12 = some v12) (h13:sget S t13 = some v13):RL S [t1,t2,t3,t4,t5,t6,t7,t8,t9,t10,t11,t12,t13] [(t1,v1),(t2,v2),(t3,v3),(t4,v4),(t5,v5),(t6,v6),(t7,v7),(t8,v8),(t9,v9),(t10,v10),(t11,v11),(t12,v12),(t13,v13)]:=.k h1 (.k h2 (.k h3 (.k h4 (.k h5 (.k h6 (.k h7 (.k h8 (.k h9 (.k h10 (.k h11 (.k h12 (.k h13 .n))))))))))))
theorem ra14 (h1:sget S t1 = some v1) (h2:sget S t2 = some v2) (h3:sget S t3 = some v3) (h4:sget S t4 = some v4) (h5:sget S t5 = some v5) (h6:sget S t6 = some v6) (h7:sget S t7 = some v7) (h8:sget S t8 = some v8) (h9:sget S t9 = some v9) (h10:sget S t10 = some v10) (h11:sget S t11 = some v11) (h12:sget S t12 = some v12) (h13:sget S t13 = some v13) (h14:sget S t14 = some v14):RL S [t1,t2,t3,t4,t5,t6,t7,t8,t9,t10,t11,t12,t13,t14] [(t1,v1),(t2,v2),(t3,v3),(t4,v4),(t5,v5),(t6,v6),(t7,v7),(t8,v8),(t9,v9),(t10,v10),(t11,v11),(t12,v12),(t13,v13),(t14,v14)]:=.k h1 (.k h2 (.k h3 (.k h4 (.k h5 (.k h6 (.k h7 (.k h8 (.k h9 (.k h10 (.k h11 (.k h12 (.k h13 (.k h14 .n)))))))))))))
end
end Am
end
section
namespace Am
open Go
mutual
def AV.cl (N:Nat):AV→Bool
 | .lit _ | .nils _ | .undef=>true
 | .seq _ rows | .fresh _ rows=>freeR rows
 | .xseq _ rows=>clR N rows
 | .ptr b _ | .itr b | .eptr b _ _ _ | .asl b _ | .csl b _ _ _ | .mp b=>Nat.blt b N
 | .cptr cs | .agg cs | .tup cs=>clL N cs
 | .fn (.yield l) a c=>Nat.blt l N && clL N a && clL N c
 | .fn _ a c=>clL N a && clL N c
def clL (N:Nat):List AV→Bool
 | []=>true
 | x :: l=>x.cl N && clL N l
def clR (N:Nat):List (List AV)→Bool
 | []=>true
 | x :: l=>clL N x && clR N l
end
section
variable {p g:Nat}
theorem D8y {b:Nat} (h:Nat.blt b p = true):rb p g b = b:=B2x (Nat.le_of_ble_eq_true h)
mutual
theorem ren_cl:(v:AV)→v.cl p = true→ren p g v = v
 | .lit _,_ | .nils _,_ | .undef,_=>by simp only [ren]
 | .seq _ rows,h | .fresh _ rows,h=>by simp only [AV.cl] at h; simp only [ren,renR_free rows h]
 | .xseq _ rows,h=>by simp only [AV.cl] at h; simp only [ren,renR_cl rows h]
 | .ptr _ _,h | .itr _,h | .eptr _ _ _ _,h | .asl _ _,h | .csl _ _ _ _,h | .mp _,h=>by simp only [AV.cl] at h; simp only [ren,D8y h]
 | .cptr cs,h | .agg cs,h | .tup cs,h=>by simp only [AV.cl] at h; simp only [ren,renL_cl cs h]
 | .fn f a c,h=>by
  cases f with
  | yield l=>simp only [AV.cl,Bool.and_eq_true] at h; simp only [ren,B8t,D8y h.1.1,renL_cl a h.1.2,renL_cl c h.2]
  | _=>simp only [AV.cl,Bool.and_eq_true] at h; simp only [ren,B8t,renL_cl a h.1,renL_cl c h.2]
theorem renL_cl:(l:List AV)→clL p l = true→renL p g l = l
 | [],_=>by simp only [renL]
 | v :: l,h=>by
  simp only [clL,Bool.and_eq_true] at h
  simp only [renL,ren_cl v h.1,renL_cl l h.2]
theorem renR_cl:(l:List (List AV))→clR p l = true→renR p g l = l
 | [],_=>by simp only [renR]
 | v :: l,h=>by
  simp only [clR,Bool.and_eq_true] at h
  simp only [renR,renL_cl v h.1,renR_cl l h.2]
end
end
def clS (N:Nat) (s:C9):Bool:=s.all fun x=>x.2.cl N
def clM (N:Nat) (es:List (AV × AV)):Bool:=es.all fun x=>x.1.cl N && x.2.cl N
def AO.cl (N:Nat):AO→Bool
 | .dead | .iter _ _=>true
 | .cells cs=>clL N cs
 | .arr _ _ rows=>clR N rows
 | .map es=>clM N es
 | .loop _ s _ a b _ _=>clS N s && a.free && b.free
 | .ro o=>o.cl N
def clH (N:Nat) (H:A6):Bool:=H.all (AO.cl N)
section
variable {p g:Nat}
theorem D4n:∀s:C9,clS p s = true→V5 p g s = s
 | [],_=>rfl
 | x :: s,h=>by
  simp only [clS,List.all_cons,Bool.and_eq_true] at h
  have ih:=D4n s h.2
  unfold V5 at ih ⊢
  rw [List.map_cons,ih,ren_cl _ h.1]
theorem D4m:∀o:AO,o.cl p = true→Q5 p g o = o
 | .dead,_ | .iter _ _,_=>by simp only [Q5]
 | .cells cs,h=>by simp only [AO.cl] at h; simp only [Q5,renL_cl cs h]
 | .arr _ _ rows,h=>by simp only [AO.cl] at h; simp only [Q5,renR_cl rows h]
 | .map es,h=>by
  simp only [AO.cl,clM] at h
  simp only [Q5]
  congr 1
  induction es with
  | nil=>rfl
  | cons x es ih =>
   simp only [List.all_cons,Bool.and_eq_true] at h
   rw [List.map_cons,ren_cl _ h.1.1,ren_cl _ h.1.2,ih h.2]
 | .loop f s ps a b busy pend,h=>by
  simp only [AO.cl,Bool.and_eq_true] at h
  simp only [Q5,D4n s h.1.1,Q0 a h.1.2,Q0 b h.2]
 | .ro o,h=>by simp only [AO.cl] at h; simp only [Q5,D4m o h]
theorem D7p {H G:A6} (h:clH H.length H = true):I1 H.length g G H = H++G:= by
 unfold I1
 rw [List.take_of_length_le (Nat.le_refl _),List.drop_of_length_le (Nat.le_refl _),List.map_nil,List.append_nil]
 congr 1
 have:∀l:A6,(∀ o ∈ l,o.cl H.length = true)→l.map (Q5 H.length g) = l:= by
  intro l
  induction l with
  | nil=>intro _; rfl
  | cons o l ih=>intro hl; rw [List.map_cons,D4m o (hl o (List.mem_cons_self)),ih fun x hx=>hl x (List.mem_cons_of_mem _ hx)]
 exact this H fun o ho=>List.all_eq_true.1 h o ho
theorem D1m {N:Nat}:∀{l:List Nat},(l.all fun B=>Nat.ble B (N + g)) = true→ScBs N g (l.map (min · N)) l
 | [],_=>.nil
 | B :: l,h=>by
  simp only [List.all_cons,Bool.and_eq_true] at h
  have hB:=Nat.le_of_ble_eq_true h.1
  rw [List.map_cons]
  refine .cons ?_ (D1m h.2)
  by_cases c:B≤N
  ·exact .inl ⟨Nat.min_le_right _ _,by omega⟩
  ·exact .inr (.inr ⟨by omega,by omega,hB⟩)
end
mutual
theorem cl_mono {M N:Nat} (hMN:M≤N):(v:AV)→v.cl M = true→v.cl N = true
 | .lit _,_ | .nils _,_ | .undef,_=>by simp only [AV.cl]
 | .seq _ rows,h | .fresh _ rows,h=>by simp only [AV.cl] at h ⊢; exact h
 | .xseq _ rows,h=>by simp only [AV.cl] at h ⊢; exact clR_mono hMN rows h
 | .ptr _ _,h | .itr _,h | .eptr _ _ _ _,h | .asl _ _,h | .csl _ _ _ _,h | .mp _,h=>by
  simp only [AV.cl] at h ⊢
  have:=Nat.le_of_ble_eq_true h
  exact Nat.ble_eq_true_of_le (by omega)
 | .cptr cs,h | .agg cs,h | .tup cs,h=>by simp only [AV.cl] at h ⊢; exact clL_mono hMN cs h
 | .fn f a c,h=>by
  cases f with
  | yield l =>
   simp only [AV.cl,Bool.and_eq_true] at h ⊢
   have:=Nat.le_of_ble_eq_true h.1.1
   exact ⟨⟨Nat.ble_eq_true_of_le (by omega),clL_mono hMN a h.1.2⟩,clL_mono hMN c h.2⟩
  | _=>simp only [AV.cl,Bool.and_eq_true] at h ⊢; exact ⟨clL_mono hMN a h.1,clL_mono hMN c h.2⟩
theorem clL_mono {M N:Nat} (hMN:M≤N):(l:List AV)→clL M l = true→clL N l = true
 | [],_=>rfl
 | v :: l,h=>by simp only [clL,Bool.and_eq_true] at h ⊢; exact ⟨cl_mono hMN v h.1,clL_mono hMN l h.2⟩
theorem clR_mono {M N:Nat} (hMN:M≤N):(l:List (List AV))→clR M l = true→clR N l = true
 | [],_=>rfl
 | v :: l,h=>by simp only [clR,Bool.and_eq_true] at h ⊢; exact ⟨clL_mono hMN v h.1,clR_mono hMN l h.2⟩
end
theorem D66 {M N:Nat} (hMN:M≤N) {s:C9} (h:clS M s = true):clS N s = true:= by
 unfold clS at h ⊢
 rw [List.all_eq_true] at h ⊢
 exact fun x hx=>cl_mono hMN _ (h x hx)
theorem C9y {M N:Nat} (hMN:M≤N):(o:AO)→o.cl M = true→o.cl N = true
 | .dead,_ | .iter _ _,_=>by simp only [AO.cl]
 | .cells cs,h=>by simp only [AO.cl] at h ⊢; exact clL_mono hMN cs h
 | .arr _ _ rows,h=>by simp only [AO.cl] at h ⊢; exact clR_mono hMN rows h
 | .map es,h=>by
  simp only [AO.cl,clM,List.all_eq_true,Bool.and_eq_true] at h ⊢
  exact fun x hx=>⟨cl_mono hMN _ (h x hx).1,cl_mono hMN _ (h x hx).2⟩
 | .loop _ s _ a b _ _,h=>by
  simp only [AO.cl,Bool.and_eq_true] at h ⊢
  exact ⟨⟨D66 hMN h.1.1,h.1.2⟩,h.2⟩
 | .ro o,h=>by simp only [AO.cl] at h ⊢; exact C9y hMN o h
theorem C9x {M N:Nat} (hMN:M≤N) {H:A6} (h:clH M H = true):clH N H = true:= by
 unfold clH at h ⊢
 rw [List.all_eq_true] at h ⊢
 exact fun x hx=>C9y hMN _ (h x hx)
theorem D9o {N:Nat} {l:List AV} (h:∀v ∈ l,∃ x,v = .lit x):clL N l = true:= by
 induction l with
 | nil=>rfl
 | cons v l ih =>
  obtain ⟨x,rfl⟩:=h v (List.mem_cons_self)
  simp only [clL,AV.cl,Bool.true_and]
  exact ih fun w hw=>h w (List.mem_cons_of_mem _ hw)
theorem B1f {N n:Nat} {kk:IntKind} (a:IArr n):clL N (cA kk a) = true:=D9o fun v hv=>by
 unfold cA at hv
 obtain ⟨x,_,rfl⟩:=List.mem_map.1 hv
 exact ⟨_,rfl⟩
theorem I9 {α:Type} {f:α→List AV} (h:∀x,freeL (f x) = true):∀l:List α,freeR (l.map f) = true
 | []=>rfl
 | x :: l=>by simp only [List.map_cons,freeR,h x,I9 h l,Bool.and_self]
theorem D9n {H:A6} {l:List AO} (h:clH H.length H = true) (hl:clH (H.length + l.length) l = true):clH (H++l).length (H++l) = true:= by
 rw [List.length_append]
 have:=C9x (Nat.le_add_right H.length l.length) h
 unfold clH at this hl ⊢
 rw [List.all_append,this,hl]; rfl
mutual
theorem bd_free {N:Nat}:(v:AV)→v.free = true→v.bd N = true
 | .lit _,_ | .nils _,_ | .undef,_ | .seq _ _,_ | .fresh _ _,_=>by simp only [AV.bd]
 | .xseq _ rows,h=>by simp only [AV.free] at h; simp only [AV.bd]; exact bdR_free rows h
 | .cptr cs,h | .agg cs,h | .tup cs,h=>by simp only [AV.free] at h; simp only [AV.bd]; exact bdL_free cs h
 | .fn _ _ _,h | .ptr _ _,h | .itr _,h | .eptr _ _ _ _,h | .asl _ _,h | .csl _ _ _ _,h | .mp _,h=>by simp [AV.free] at h
theorem bdL_free {N:Nat}:(l:List AV)→freeL l = true→bdL N l = true
 | [],_=>rfl
 | v :: l,h=>by simp only [freeL,Bool.and_eq_true] at h; simp only [bdL,bd_free v h.1,bdL_free l h.2,Bool.and_self]
theorem bdR_free {N:Nat}:(l:List (List AV))→freeR l = true→bdR N l = true
 | [],_=>rfl
 | v :: l,h=>by simp only [freeR,Bool.and_eq_true] at h; simp only [bdR,bdL_free v h.1,bdR_free l h.2,Bool.and_self]
end
mutual
theorem cl_free {N:Nat}:(v:AV)→v.free = true→v.cl N = true
 | .lit _,_ | .nils _,_ | .undef,_=>by simp only [AV.cl]
 | .seq _ _,h | .fresh _ _,h=>by simp only [AV.free] at h; simp only [AV.cl,h]
 | .xseq _ rows,h=>by simp only [AV.free] at h; simp only [AV.cl]; exact clR_free rows h
 | .cptr cs,h | .agg cs,h | .tup cs,h=>by simp only [AV.free] at h; simp only [AV.cl]; exact clL_free cs h
 | .fn _ _ _,h | .ptr _ _,h | .itr _,h | .eptr _ _ _ _,h | .asl _ _,h | .csl _ _ _ _,h | .mp _,h=>by simp [AV.free] at h
theorem clL_free {N:Nat}:(l:List AV)→freeL l = true→clL N l = true
 | [],_=>rfl
 | v :: l,h=>by simp only [freeL,Bool.and_eq_true] at h; simp only [clL,cl_free v h.1,clL_free l h.2,Bool.and_self]
theorem clR_free {N:Nat}:(l:List (List AV))→freeR l = true→clR N l = true
 | [],_=>rfl
 | v :: l,h=>by simp only [freeR,Bool.and_eq_true] at h; simp only [clR,clL_free v h.1,clR_free l h.2,Bool.and_self]
end
theorem A4z {α:Type} {N:Nat} {f:α→List AV} (h:∀x,freeL (f x) = true) (l:List α):clR N (l.map f) = true:=clR_free _ (I9 h l)
theorem E3v {B b:Nat} {l:List Nat} {v:AV} (h:B≤b) (r:(l.all fun B=>Nat.ble B b || v.bd B) = true):((B :: l).all fun B=>Nat.ble B b || v.bd B) = true:= by
 rw [List.all_cons,r,Nat.ble_eq_true_of_le h]; rfl
theorem E2a {c:Sc} {H:A6} {j:Nat} {v:AV} (h:Z9 c H = true):((c.cur :: c.outer).all fun B=>Nat.ble B (H.length + j) || v.bd B) = true:= by
 unfold Z9 at h
 rw [List.all_eq_true] at h ⊢
 intro B hB
 have:=Nat.le_of_ble_eq_true (h B hB)
 rw [Nat.ble_eq_true_of_le (by omega)]; rfl
theorem E0m {c:Sc} {b:Nat} {v:AV} (h1:v.bd c.cur = true) (h2:(c.outer.all fun B=>Nat.ble B b || v.bd B) = true):c.okL b [v] = true:= by
 simp only [Sc.okL,Sc.ok,h1,h2,Bool.or_true,Bool.and_self,Bool.and_true]
theorem D4s {T:Tab} {d:Bool} {nres:Nat} {pre live:List Nat} {ops:List AOper} {s:C9} {H H1:A6} {c:Sc} {Q:Ex→C9→A6→Prop} (hp:publish s H pre = some H1) (h:WP T (.region d nres [] ops live) s H1 c Q):WP T (.region d nres pre ops live) s H c Q:= by
 intro S hS
 obtain ⟨e,S',s',H',⟨n,hn⟩,h1,h2⟩:=h S hS
 refine ⟨e,S',s',H',⟨n,?_⟩,h1,h2⟩
 cases n with
 | zero=>simp [mach] at hn
 | succ n =>
  rw [A1e] at hn ⊢
  unfold H6 at hn ⊢
  simp only [publish] at hn
  simp only [B8q hS hp]
  exact hn
theorem E0x {s:C9} {H0:A6} {l l1:List AO} {t j o:Nat} {cs cs':List AV} (h:sget s t = some (.ptr (H0.length + j) o)) (hl:l[j]? = some (.cells cs)) (hf:A23 (H0++l) cs = some (cs',H0++l1)) (hl1:l1[j]? = some (.cells cs)):publish s (H0++l) [t] = some (H0++l1.set j (.cells cs')):= by
 simp only [publish,h,A22,B1i hl,hf,B1i hl1,I6]
theorem C83 {s:C9} {H0:A6} {l l1:List AO} {t b n:Nat} {v':AV} (h:sget s t = some (.asl b n)) (hf:A1a (H0++l) (.asl b n) = some (v',H0++l1)):publish s (H0++l) [t] = some (H0++l1):= by
 simp only [publish,h,A22,hf,Option.map_some]
theorem B4n {T:Tab} (hT:B7f T) {i:Nat} {aq rs:List AV} (h:F2 T ⟨0,[]⟩ [] (.fn (.func i) [] []) aq rs) (ha:freeL aq = true) (hr:freeL rs = true) {c:Sc} {H:A6} (hc:Z9 c H = true):F2 T c H (.fn (.func i) [] []) aq rs :=
 ⟨Q9.shift hT h.1 ha hr hc,bdL_free rs hr⟩
theorem Q9.gap {T:Tab} (hT:B7f T) {H H':A6} {f:AV} {aq rs:List AV} (h:∀c,Z9 c H = true→Q9 T c H f aq rs H') (hf:f.cl H.length = true) (ha:freeL aq = true) (hr:freeL rs = true)
  (hH:clH H.length H = true) (hl:H'.length = H.length) (hH':clH H'.length H' = true) {L:A6} {c:Sc} (hc:Z9 c (H++L) = true):Q9 T c (H++L) f aq rs (H'++L):= by
 have hc0:Z9 ⟨min c.cur H.length,c.outer.map (min · H.length)⟩ H = true:= by
  unfold Z9
  rw [List.all_cons,Nat.ble_eq_true_of_le (Nat.min_le_right _ _),Bool.true_and,List.all_map,List.all_eq_true]
  intro B _
  exact Nat.ble_eq_true_of_le (Nat.min_le_right _ _)
 obtain ⟨n,e⟩:=h _ hc0
 cases n with
 | zero=>simp [mach] at e
 | succ n =>
  rw [A1d] at e
  have hs:ScBs H.length L.length ((min c.cur H.length) :: c.outer.map (min · H.length)) (c.cur :: c.outer):= by
   have:=D1m (N:=H.length) (g:=L.length) (l:=c.cur :: c.outer) (by unfold Z9 at hc; rw [List.length_append] at hc; exact hc)
   rwa [List.map_cons] at this
  have:=(B3c (p:=H.length) (g:=L.length) (G:=L) (c:=⟨min c.cur H.length,c.outer.map (min · H.length)⟩) (c':=c) (fun i af h=>Q0 _ (hT i af h)) (C3e (fun i af h=>Q0 _ (hT i af h)) n) rfl hs (Nat.le_refl _) e).1
  rw [D7p hH,renL_free _ ha,renL_free _ hr,ren_cl f hf] at this
  have e2:I1 H.length L.length L H' = H'++L:= by rw [← hl]; exact D7p hH'
  rw [e2] at this
  exact ⟨n + 1,by rw [A1d]; exact this⟩
def E29 {α:Type} (T:Tab) (i:Nat) (fc:List AV) (ea:α→AV) (pre:A6→Prop) (it:∀(σ ρ:Type),(α→σ→Option (σ ⊕ ρ))→σ→Option (σ ⊕ ρ)):Prop :=
 ∀ {σ ρ:Type} (Hm:σ ⊕ ρ→A6) (N:Nat),(∀ x,(Hm x).length = N)→(∀ x,pre (Hm x))→∀ (y:AV),y.bd N = true→y.cellsOf = [y]→∀ (body:α→σ→Option (σ ⊕ ρ)),
  (∀ {L:A6} {c:Sc} {x:α} {s:σ} {o:σ ⊕ ρ},Z9 c (Hm (.inl s)++L) = true→body x s = some o→Q9 T c (Hm (.inl s)++L) y [ea x] [.b o.isLeft] (Hm o++L)) →
  ∀ {s0:σ} {o:σ ⊕ ρ},it σ ρ body s0 = some o→∀ {c:Sc},Z9 c (Hm (.inl s0)) = true→Q9 T c (Hm (.inl s0)) (.fn (.func i) [] fc) [y] [] (Hm o)
section
variable {T:Tab} {s:C9} {H0:A6} {l:List AO} {c:Sc} {Q:Ex→C9→A6→Prop}
def BdQ {σ ρ:Type} (H0:A6) (k:Nat) (lh:σ→List AO) (lx:ρ→List AO) (ex:ρ→Ex) (b:AO) (o:σ ⊕ ρ) (e:Ex) (_s:C9) (H2:A6):Prop :=
 ∃ l2,H2 = H0++l2∧match o with
  | .inl s'=>e = .normal∧l2.take (k + 1) = lh s'++[b]
  | .inr r=>e = ex r∧l2.take (k + 1) = lx r++[b]
def AsQ (T:Tab) (H0:A6) (k:Nat) (b0 b1:AO) (bd:ACode) (c:Sc) (Q:Ex→C9→A6→Prop) (e:Ex) (s1:C9) (H1:A6):Prop :=
 ∃ l1,e = .normal∧H1 = H0++l1∧l1[k]? = some b0∧WP T bd s1 (H0++l1.set k b1) c Q
theorem C6b {l lh:List AO} {k:Nat} {b b':AO} (hk:lh.length = k) (h:l.take (k + 1) = lh++[b]):(l.set k b').take (k + 1) = lh++[b']:= by
 rw [List.take_set,h]
 rw [List.set_append_right _ _ (by omega),hk,Nat.sub_self]; rfl
def D8t {σ ρ:Type} (ex:ρ→Ex):σ ⊕ ρ→Option Ex
 | .inl _=>none
 | .inr r=>some (ex r)
def E4k {σ ρ:Type} (ex:ρ→Ex):σ ⊕ ρ→Ex
 | .inl _=>.normal
 | .inr r=>ex r
theorem C9a {σ ρ α:Type} {f:Opd} {p i k:Nat} {live:List Nat} {aq bd:ACode} {fc:List AV} {ea:α→AV} {pre:A6→Prop} {it:∀(σ ρ:Type),(α→σ→Option (σ ⊕ ρ))→σ→Option (σ ⊕ ρ)} {s0:σ} {o:σ ⊕ ρ} {body:α→σ→Option (σ ⊕ ρ)}
  (hit:E29 T i fc ea pre it) (hT:B7f T) (sl:C9) (lh:σ→List AO) (lx:ρ→List AO) (ex:ρ→Ex) (h:it σ ρ body s0 = some o) (hex:∀r,(ex r).out = true)
  (hf:ev s f = some (.fn (.func i) [] fc)) (hs:∀S,Sub s S→restrict S live = sl) (hl:lh s0 = l) (hk:∀x,(lh x).length = k) (hkx:∀x,(lx x).length = k) (hH0:clH H0.length H0 = true)
  (hfree:(aq.free && bd.free && clS (H0.length + (k + 1)) sl) = true) (hclh:∀x,clH (H0.length + (k + 1)) (lh x) = true) (hclx:∀x,clH (H0.length + (k + 1)) (lx x) = true) (hea:∀x,freeL [ea x] = true)
  (hpre:(∀ x b,pre (H0++(lh x++[b])))∧∀ x b,pre (H0++(lx x++[b]))) (hc:Z9 c (H0++l) = true)
  (hb:∀c x s o,body x s = some o→WP T aq ((p,ea x) :: sl) (H0++(lh s++[.loop 0 sl [p] aq bd false none])) ⟨H0.length + (k + 1),c⟩ (AsQ T H0 k (.loop 0 sl [p] aq bd false none) (.loop 0 sl [p] aq bd true none) bd ⟨H0.length + (k + 1),c⟩ (BdQ H0 k lh lx ex (.loop 0 sl [p] aq bd true none) o)))
  (kont:match o with | .inl s'=>Q .normal s (H0++(lh s'++[.dead])) | .inr r=>Q (ex r) s (H0++(lx r++[.dead]))):WP T (.rangeFunc f [p] live aq bd) s (H0++l) c Q:= by
 subst hl
 intro S hS
 let Hm:σ ⊕ ρ→A6:=fun o=>match o with
  | .inl x=>H0++(lh x++[.loop 0 sl [p] aq bd false none])
  | .inr r=>H0++(lx r++[.loop 0 sl [p] aq bd false (some (ex r))])
 simp only [Bool.and_eq_true] at hfree
 have hN:∀x,(Hm x).length = H0.length + (k + 1):= by
  intro x
  cases x with
  | inl x=>simp [Hm,hk]
  | inr x=>simp [Hm,hkx]
 have hlen:(H0++lh s0).length = H0.length + k:= by rw [List.length_append,hk]
 have hcl:∀x,clH (Hm x).length (Hm x) = true:= by
  intro x
  rw [hN]
  have hm:=C9x (Nat.le_add_right H0.length (k + 1)) hH0
  cases x with
  | inl x =>
   have:=hclh x
   simp only [Hm,clH,List.all_append,List.all_cons,List.all_nil,Bool.and_true,AO.cl,Bool.and_eq_true] at this hm ⊢
   exact ⟨hm,this,⟨hfree.2,hfree.1.1⟩,hfree.1.2⟩
  | inr x =>
   have:=hclx x
   simp only [Hm,clH,List.all_append,List.all_cons,List.all_nil,Bool.and_true,AO.cl,Bool.and_eq_true] at this hm ⊢
   exact ⟨hm,this,⟨hfree.2,hfree.1.1⟩,hfree.1.2⟩
 have hy:∀{L:A6} {c:Sc} {x:α} {s:σ} {o:σ ⊕ ρ},Z9 c (Hm (.inl s)++L) = true→body x s = some o→Q9 T c (Hm (.inl s)++L) (.fn (.yield (H0.length + k)) [] []) [ea x] [.b o.isLeft] (Hm o++L):= by
  intro L c x s o hsc hbo
  refine Q9.gap (H:=Hm (.inl s)) (H':=Hm o) hT (f:=.fn (.yield (H0.length + k)) [] []) (fun c _=>?_) ?_ (hea x) rfl (hcl (.inl s)) ((hN o).trans (hN (.inl s)).symm) (hcl o) hsc
  ·obtain ⟨e1,S1,s1,H1,r1,q1,l1,rfl,rfl,hl1,hw⟩:=hb (c.cur :: c.outer) x s o hbo _ (Sub.refl _)
   obtain ⟨e2,S2,s2,H2,r2,q2,l2,rfl,hb2⟩:=hw S1 q1
   have hm:(Hm (.inl s)) = H0++(lh s++[.loop 0 sl [p] aq bd false none]):=rfl
   have hNs:=hN (.inl s)
   rw [hm] at hNs ⊢
   have g0:hget (H0++(lh s++[.loop 0 sl [p] aq bd false none])) (H0.length + k) = some (.loop 0 sl [p] aq bd false none):= by
    rw [A17,List.getElem?_append_right (by rw [hk]; exact Nat.le_refl _),hk,Nat.sub_self]; rfl
   have fin:∀(lb:List AO) (er:Ex),lb.length = k→l2.take (k + 1) = lb++[.loop 0 sl [p] aq bd true none]→e2 = er→Q9 T c (H0++(lh s++[.loop 0 sl [p] aq bd false none])) (.fn (.yield (H0.length + k)) [] []) [ea x] [.b (!er.out)] (H0++(lb++[.loop 0 sl [p] aq bd false (match er with | .normal=>none | e=>some e)])):= by
    intro lb er hlb tk he
    subst he
    have g2:l2[k]? = some (.loop 0 sl [p] aq bd true none):= by
     have e:(l2.take (k + 1))[k]? = l2[k]?:=List.getElem?_take_of_lt (by omega)
     rw [← e,tk,List.getElem?_append_right (by omega),hlb,Nat.sub_self]; rfl
    refine Q9.yield (ps:=[p]) (st0:=⟨(p,ea x) :: sl,H0++(lh s++[.loop 0 sl [p] aq bd false none]),⟨H0.length + (k + 1),c.cur :: c.outer⟩⟩) (st1:=⟨S1,H0++l1,⟨H0.length + (k + 1),c.cur :: c.outer⟩⟩)
     (st2:=⟨S2,H0++l2,⟨H0.length + (k + 1),c.cur :: c.outer⟩⟩) (e:=e2) rfl g0 rfl (by rw [hNs]; rfl) r1 (by rw [A17]; exact hl1) (by rw [I6]) r2 (by rw [A17]; exact g2) rfl ?_
    rw [hNs,I6]
    simp only [trunc,bdL,if_true]
    rw [K7,C6b hlb tk]
    cases e2 <;> rfl
   cases o with
   | inl s'=>exact fin (lh s') .normal (hk s') hb2.2 hb2.1
   | inr r =>
    have:=fin (lx r) (ex r) (hkx r) hb2.2 hb2.1
    have he:(match ex r with | .normal=>none | e=>some e) = some (ex r):= by
     have:=hex r
     cases hq:ex r <;> rw [hq] at this <;> first | rfl | cases this
    rw [he,hex r] at this
    exact this
  ·have hq:=hN (.inl s)
   simp only [AV.cl,clL,Bool.and_true]
   exact Nat.ble_eq_true_of_le (by omega)
 have hcall:=hit Hm (H0.length + (k + 1)) hN (by
  intro x
  cases x with
  | inl x=>exact hpre.1 x _
  | inr x=>exact hpre.2 x _) (.fn (.yield (H0.length + k)) [] []) (by simp only [AV.bd,bdL,Bool.and_true]; exact Nat.ble_eq_true_of_le (by omega)) rfl body hy h (c:=c) (by
  have hq:=hN (.inl s0)
  unfold Z9 at hc ⊢
  rw [List.all_eq_true] at hc ⊢
  intro B hB
  have:=Nat.le_of_ble_eq_true (hc B hB)
  rw [hlen] at this
  exact Nat.ble_eq_true_of_le (by omega))
 have hres:=hs S hS
 have g:∀o:σ ⊕ ρ,hget (Hm o) (H0.length + k) = some (.loop 0 sl [p] aq bd false (D8t ex o)):= by
  intro o
  cases o with
  | inl x=>simp only [Hm]; rw [A17,List.getElem?_append_right (by rw [hk]; exact Nat.le_refl _),hk,Nat.sub_self]; rfl
  | inr x=>simp only [Hm]; rw [A17,List.getElem?_append_right (by rw [hkx]; exact Nat.le_refl _),hkx,Nat.sub_self]; rfl
 have hr:=L8.rangeFunc (T:=T) (ac:=.rangeFunc f [p] live aq bd) (st:=⟨S,H0++lh s0,c⟩) (l:=H0.length + k) (H0:=Hm (.inl s0)) (H':=Hm o) (pend:=D8t ex o) (e:=E4k ex o)
  (st':=⟨S,hset (Hm o) (H0.length + k) .dead,c⟩) rfl (A8c hS hf) hlen.symm (by simp only [hres,Hm,List.append_assoc]) hcall (g o) (by cases o <;> rfl) rfl
 refine ⟨_,S,s,_,hr,hS,?_⟩
 cases o with
 | inl x =>
  have:hset (Hm (.inl x)) (H0.length + k) .dead = H0++(lh x++[.dead]):= by
   simp only [Hm]; rw [I6,List.set_append_right _ _ (by rw [hk]; exact Nat.le_refl _),hk,Nat.sub_self]; rfl
  show Q .normal s (hset (Hm (.inl x)) (H0.length + k) .dead)
  rw [this]; exact kont
 | inr r =>
  have:hset (Hm (.inr r)) (H0.length + k) .dead = H0++(lx r++[.dead]):= by
   simp only [Hm]; rw [I6,List.set_append_right _ _ (by rw [hkx]; exact Nat.le_refl _),hkx,Nat.sub_self]; rfl
  show Q (ex r) s (hset (Hm (.inr r)) (H0.length + k) .dead)
  rw [this]; exact kont
end
end Am
namespace Am
open Go
section
variable {T:Tab} {s:C9} {H0 H:A6} {l:List AO} {c:Sc} {n0 N:Nat}
theorem D4i {a:Opd} {j o:Nat} {cs:List AV} {x:AV} (hN:H0.length = N) (h:ev s a = some (.ptr (N + j) o)) (hl:l[j]? = some (.cells cs)) (hd:(cs.drop o).head? = some x):One T c n0 s (H0++l) (.load none a) x (H0++l):= by subst hN; exact B5 h hl hd
theorem C3i {kk:IntKind} {a:Opd} {j n:Nat} {v:IArr n} (hN:H0.length = N) (h:ev s a = some (.ptr (N + j) 0)) (hl:l[j]? = some (.cells (cA kk v))):One T c n0 s (H0++l) (.load (some n) a) (.agg (cA kk v)) (H0++l):= by subst hN; exact F7 h hl
theorem C3j {kk:IntKind} {a x:Opd} {j n:Nat} {v:IArr n} {m y z:Int} (hN:H0.length = N) (h:ev s a = some (.ptr (N + j) m.toNat)) (hv:ev s x = some (.lit (.int kk z))) (hl:l[j]? = some (.cells (cA kk v))) (hy:A0y n v.l m = some y):One T c n0 s (H0++l) (.store 1 a x) (.tup []) (H0++l.set j (.cells (cA kk (v.set m z)))):= by subst hN; exact A93 h hv hl hy
theorem A94 {f:Opd} {args:List Opd} {fv:AV} {aq as' rs rs':List AV} {H1 H2:A6} (hf:ev s f = some fv) (ha:evs s args = some aq) (hz:Y4 H aq = some (as',H1)) (hcall:Q9 T c H1 fv as' rs H2) (hr:rs.map fzA = rs'):One T c n0 s H (.call f args [] false) (packed rs') H2:= by
 obtain ⟨n,e⟩:=hcall
 exact ⟨n,by simp only [core,A1r,hf,ha,Bool.false_eq_true,if_false,hz,e,A5t,hr]⟩
def C5c (H0 H':A6) (rv:List ARes) (rs:List AV) (e:Ex) (s:C9) (H:A6):Prop :=
 (match e with | .exit _=>False | _=>True)∧∃ rs0 H1,results s H rv = some rs0∧A1l H0.length H rs0 = some (rs,H1)∧bdL H0.length rs = true∧H1.take H0.length = H'
theorem C2a {i:Nat} {af:AFunc} {first cap args aq rs:List AV} {H':A6} (haf:T i = some af) (has:first++args++cap = aq) (hn:Nat.beq aq.length af.nargs = true)
  (h:WP T af.body (R8 0 aq) H ⟨H.length,c.cur :: c.outer⟩ (C5c H H' af.results rs)):Q9 T c H (.fn (.func i) first cap) args rs H':= by
 obtain ⟨e,S',s',H2,h1,h2,h3,rs0,H1,h4,h5,h6,h7⟩:=h _ (Sub.refl _)
 refine Q9.fn (af:=af) (bd:=af.body) (aq:=aq) (rs0:=rs0) (rs1:=rs) (H1:=H1) (e:=e) (st':=⟨S',H2,⟨H.length,c.cur :: c.outer⟩⟩) rfl haf rfl has.symm hn rfl h1 (by cases e <;> first | rfl | exact h3.elim) (A5e h2 h4) h5 rfl ?_
 unfold trunc
 rw [h6,if_pos rfl,h7]
theorem D84 {H H':A6} {n:Nat} (h:Z9 c H = true) (hl:H.length≤H'.length) (hn:n≤H'.length):Z9 ⟨n,c.cur :: c.outer⟩ H' = true:= by
 unfold Z9 at h ⊢
 rw [List.all_cons,Nat.ble_eq_true_of_le hn,Bool.true_and]
 rw [List.all_eq_true] at h ⊢
 intro B hB
 have:=Nat.le_of_ble_eq_true (h B hB)
 exact Nat.ble_eq_true_of_le (by omega)
theorem D55 {H0 H1 H':A6} {rv:List ARes} {rs rs0:List AV} {e:Ex} (he:(match e with | .exit _=>False | _=>True)) (h1:results s H1 rv = some rs0) (h2:A1l H0.length H1 rs0 = some (rs,H1)) (h3:bdL H0.length rs = true) (h4:H1.take H0.length = H'):C5c H0 H' rv rs e s H1 :=
 ⟨he,rs0,H1,h1,h2,h3,h4⟩
theorem D5n {a x:Opd} {j n i o k kk:Nat} {rows:List (List AV)} {r ds cs':List AV} {v:AV} {l1:List AO} (h:ev s a = some (.eptr (H0.length + j) n i o)) (hv:ev s x = some v) (hf:A23 (H0++l) v.cellsOf = some (cs',H0++l1)) (hz:cs'.all AV.frz = true) (hl:l1[j]? = some (.arr kk false rows)) (hn:rows.length = n) (hr:rows[i]? = some r)
  (hk:(Nat.beq cs'.length k && Nat.ble (o + k) r.length) = true) (hd:splice r o cs' = ds) :
  One T c n0 s (H0++l) (.store k a x) (.tup []) (H0++l1.set j (.arr kk false (rows.set i ds))) :=
 ⟨0,by
  rw [Bool.and_eq_true] at hk
  simp only [core,prim,h,hv,hf,V1 hl,hr,hn,Nat.beq_refl,hk.1,hk.2,hz,Bool.and_self,if_true,hd,I6]⟩
end
end Am
end
section
namespace Am
open Go
section
variable {β:Type} {n:Nat}
def mfind (k:IArr n):List (IArr n × β)→Nat→Option (Nat × β)
 | [],_=>none
 | e :: es,i=>if (k.l == e.1.l) = true then some (i,e.2) else mfind k es (i + 1)
def mget (es:List (IArr n × β)) (k:IArr n):Option β:=(mfind k es 0).map (·.2)
def mset (es:List (IArr n × β)) (k:IArr n) (v:β):List (IArr n × β):=match mfind k es 0 with
 | some (i,_)=>es.set i (k,v)
 | none=>es++[(k,v)]
def mE (kk:IntKind) (g:β→List AV) (e:IArr n × β):AV × AV:=(.agg (cA kk e.1),.agg (g e.2))
theorem B5o {kk:IntKind} {g:β→List AV} {k:IArr n} {ks:List Nat} (hk:ks = List.replicate n 0):∀(es:List (IArr n × β)) (i:Nat),findKey true ks (cA kk k) (es.map (mE kk g)) i = some ((mfind k es i).map fun x=>(x.1,.agg (g x.2)))
 | [],_=>rfl
 | e :: es,i=>by
  have hk':kinds ks (cA kk e.1) = true:= by subst hk; exact A6g e.1.h
  have he:N1 (cA kk k) (cA kk e.1) = some (k.l == e.1.l):=C2h (by rw [k.h,e.1.h])
  simp only [List.map_cons,mE,findKey,J8,hk',if_true,he]
  cases hb:k.l == e.1.l with
  | true=>simp [mfind,hb]
  | false =>
   simp only [mfind,hb,Bool.false_eq_true,if_false]
   exact B5o hk es (i + 1)
end
section
variable {T:Tab} {s:C9} {H0 H:A6} {l:List AO} {c:Sc} {n0 k0:Nat} {β:Type} {n:Nat} {kk:IntKind} {g:β→List AV} {es:List (IArr n × β)} {k:IArr n} {ks:List Nat}
theorem E0f {x i:Opd} {b:Nat} {z:AV} {v:β} (hx:ev s x = some (.mp b)) (hm:hmap H b = some (es.map (mE kk g))) (hi:ev s i = some (.agg (cA kk k))) (hk:ks = List.replicate n 0) (h:mget es k = some v):One T c n0 s H (.lookup z true ks x i true) (.tup [.agg (g v),.lit (.bool true)]) H:= by
 refine ⟨0,?_⟩
 have h2:kinds ks (cA kk k) = true:= by subst hk; exact A6g k.h
 unfold mget at h
 simp only [core,prim,hx,hm,hi,J8,h2,if_true,B5o hk]
 cases hf:mfind k es 0 with
 | none=>rw [hf] at h; cases h
 | some y=>rw [hf] at h; simp only [Option.map_some,Option.some.injEq] at h ⊢; rw [h]
theorem E0e {x i:Opd} {b:Nat} {z:AV} (hx:ev s x = some (.mp b)) (hm:hmap H b = some (es.map (mE kk g))) (hi:ev s i = some (.agg (cA kk k))) (hk:ks = List.replicate n 0) (h:mget es k = none):One T c n0 s H (.lookup z true ks x i true) (.tup [z,.lit (.bool false)]) H:= by
 refine ⟨0,?_⟩
 have h2:kinds ks (cA kk k) = true:= by subst hk; exact A6g k.h
 unfold mget at h
 simp only [core,prim,hx,hm,hi,J8,h2,if_true,B5o hk]
 cases hf:mfind k es 0 with
 | none=>simp
 | some y=>rw [hf] at h; cases h
theorem E19 {m i x:Opd} {b:Nat} {v:β} (hx:ev s m = some (.mp b)) (hm:B77 H b = some (es.map (mE kk g))) (hi:ev s i = some (.agg (cA kk k))) (hv:ev s x = some (.agg (g v))) (hk:ks = List.replicate n 0) (hg:((g v).all AV.frz && !(g v).isEmpty) = true):One T c n0 s H (.mupd true ks m i x) (.tup []) (hset H b (.map ((mset es k v).map (mE kk g)))):= by
 refine ⟨0,?_⟩
 have h2:kinds ks (cA kk k) = true:= by subst hk; exact A6g k.h
 have h3:(kinds ks (cA kk k) && (AV.agg (g v)).cellsOf.all AV.frz && !(AV.agg (g v)).cellsOf.isEmpty) = true:= by
  rw [h2,Bool.true_and]; exact hg
 simp only [core,prim,hx,hi,hv,hm,J8,h3,if_true,B5o hk]
 unfold mset
 cases hf:mfind k es 0 with
 | none=>simp [mE]
 | some y=>simp [mE,List.map_set]
theorem B9n {b:Nat} {o:AO} (h:b < H0.length):hset (H0++l) b o = hset H0 b o++l:= by
 unfold hset
 exact List.set_append_left _ _ h
theorem B9m {b:Nat} {o:AO} (h:hget H0 b = some o) (l:List AO):hget (H0++l) b = some o:= by
 have hb:b < H0.length:= by
  unfold hget at h
  exact (List.getElem?_eq_some_iff.1 h).1
 unfold hget at h ⊢
 rw [List.getElem?_append_left hb]; exact h
theorem C64 (H0:A6) (l:List AO) {b:Nat} (hb:b < H0.length):∀js:List Nat,hide (H0++l) (js.map (H0.length + ·)++[b]) = hset H0 b .dead++A6y l js
 | []=>by simp only [List.map_nil,List.nil_append,hide,A6y]; exact B9n hb
 | j :: js=>by
  simp only [List.map_cons,List.cons_append,hide,C64 H0 l hb js,A6y]
  have:=I6 (hset H0 b .dead) (A6y l js) j .dead
  rw [J7] at this
  exact this
theorem C06 (H0:A6) (l m:List AO) {b:Nat} (hb:b < H0.length):∀js:List Nat,unhide (H0++l) (hset H0 b .dead++m) (js.map (H0.length + ·)++[b]) = H0++A09 l m js
 | []=>by
  have h1:hget (H0++l) b = some H0[b]:= by
   unfold hget; rw [List.getElem?_append_left hb]; simp [hb]
  simp only [List.map_nil,List.nil_append,unhide,A09,h1]
  rw [B9n (by rw [J7]; exact hb)]
  congr 1
  unfold hset
  rw [List.set_set]
  exact List.set_getElem_self hb
 | j :: js=>by
  have h1:hget (H0++l) (H0.length + j) = l[j]?:= by rw [A17]
  simp only [List.map_cons,List.cons_append,unhide,A09,h1,C06 H0 l m hb js]
  cases l[j]? with
  | none=>rfl
  | some o=>exact I6 _ _ _ _
theorem C5g (N b:Nat) {js:List Nat} {j:Nat} (h:js.contains j = true):(js.map (N + ·)++[b]).contains (N + j) = true:= by
 have:=A64 N h
 simp only [List.contains_iff_mem,List.mem_append] at this ⊢
 exact .inl this
theorem C5h (N b:Nat) {js:List Nat}:(js.map (N + ·)++[b]).contains b = true:= by
 simp only [List.contains_iff_mem,List.mem_append,List.mem_singleton,or_true]
theorem E1u {op:AOp} {d:Option Nat} {gd:Option (Nat × Bool)} {hid:List Nat} {hida:List (Nat × List Nat)} {inc src:Nat} {bs js:List Nat} {k0 b:Nat} (jh:List Nat) (ejh:hid.map (H0.length + k0 + ·) = jh.map (H0.length + ·)) (hw:ways s (H0++A6y l jh) hida = some bs) (e:jh.map (H0.length + ·)++bs = js.map (H0.length + ·)++[b]) (hall:(js.all fun j=>Nat.blt j l.length) = true) (hb:b < H0.length) :
  A67 (H0.length + k0) s (H0++l) ⟨d,op,gd,hid,hida,inc,src⟩ = some (js.map (H0.length + ·)++[b]):= by
 have h1:((js.map (H0.length + ·)++[b]).all fun b=>Nat.blt b (H0++l).length) = true:= by
  rw [List.all_append,D3q H0 l hall]
  simp only [List.all_cons,List.all_nil,Bool.and_true,Bool.true_and]
  exact Nat.ble_eq_true_of_le (by rw [List.length_append]; omega)
 unfold A67
 simp only [ejh,B76,hw,e,h1,Bool.or_true,if_true]
theorem D8k {R:C9→A6→Prop} {hc:List (Option (List Nat))} {ops:List AOper} {op:AOp} {d:Option Nat} {hid:List Nat} {hida:List (Nat × List Nat)} {inc src b:Nat} {v:AV} {l1:List AO} (js:List Nat) (l2:List AO) (hb:b < H0.length) (hhs:A67 n0 s (H0++l) ⟨d,op,none,hid,hida,inc,src⟩ = some (js.map (H0.length + ·)++[b])) (hseen:R2 s ⟨d,op,none,hid,hida,inc,src⟩ hc = true)
  (h:One T c n0 s (hset H0 b .dead++A6y l js) op v (hset H0 b .dead++l1)) (hle:Nat.ble l.length l1.length = true) (hw:writes op = true) (e:A09 l l1 js = l2) (k:O8 T c n0 ops (sput s d v) (H0++l2) (some (js.map (H0.length + ·)++[b]) :: hc) R) :
  O8 T c n0 (⟨d,op,none,hid,hida,inc,src⟩ :: ops) s (H0++l) hc R:= by
 subst e
 obtain ⟨n1,e1⟩:=h
 obtain ⟨n2,s1,Hf,e2,h2⟩:=k
 refine ⟨max n1 n2,s1,Hf,?_,h2⟩
 have e1':=C8c (N6 T (Nat.le_max_left n1 n2)) e1
 have hle':Nat.ble (H0++l).length (hset H0 b .dead++l1).length = true:=Nat.ble_eq_true_of_le (by have:=Nat.le_of_ble_eq_true hle; rw [List.length_append,List.length_append,J7]; omega)
 simp only [opers,oper,wanted,hhs,hseen,C64 H0 l hb,e1',hle',Bool.or_true,if_true,C06 H0 l l1 hb,hw]
 exact A3b (N6 T (Nat.le_max_right n1 n2)) e2
theorem C8x {α:Type} {n b:Nat} {kk:IntKind} {x i:Opd} {m:Int} {y:α} {e:List α} (h:ev s x = some (.ptr b 0)) (hi:ev s i = some (.lit (.int kk m))) (hy:A0y n e m = some y):One T c n0 s H (.idxA 1 n x i) (.ptr b m.toNat) H :=
 ⟨0,by simp [core,prim,h,hi,(A43 hy).1]⟩
theorem D01 {α:Type} {f:α→AV} {a:Opd} {j n:Nat} {v:List α} {m:Int} {y:α} (h:ev s a = some (.ptr (H0.length + j) m.toNat)) (hl:l[j]? = some (.cells (v.map f))) (hy:A0y n v m = some y):One T c n0 s (H0++l) (.load none a) (f y) (H0++l) :=
 B5 h hl (by rw [List.head?_drop,List.getElem?_map,(A43 hy).2]; rfl)
theorem D5o {α:Type} {f:α→AV} {a x:Opd} {j n:Nat} {v:List α} {m:Int} {y z:α} (h:ev s a = some (.ptr (H0.length + j) m.toNat)) (hv:ev s x = some (f z)) (hl:l[j]? = some (.cells (v.map f))) (hy:A0y n v m = some y) (hc:(f z).cellsOf = [f z]) (hp:(f z).plain = true) :
  One T c n0 s (H0++l) (.store 1 a x) (.tup []) (H0++l.set j (.cells ((v.set m.toNat z).map f))) :=
 E2 h hv hl (by
  have h1:=(List.getElem?_eq_some_iff.1 (A43 hy).2).1
  rw [hc]
  simp only [List.length_singleton,Nat.beq_refl,Bool.true_and]
  exact Nat.ble_eq_true_of_le (by rw [List.length_map]; omega)) (E1 (by rw [hc]; simp [hp])) (by
  have h1:=(List.getElem?_eq_some_iff.1 (A43 hy).2).1
  rw [hc]
  unfold splice
  simp only [List.length_singleton,List.map_set]
  rw [List.set_eq_take_append_cons_drop,if_pos (by simpa using h1)]
  simp)
theorem D5m {x:Opd} {j n:Nat} {kk:IntKind} {v:IArr n} (h:ev s x = some (.ptr (H0.length + j) 0)) (hl:l[j]? = some (.cells (cA kk v))):One T c n0 s (H0++l) (.sliceA 1 n x) (.csl (H0.length + j) 0 1 n) (H0++l):=⟨0,by
 have:Nat.ble (0 + n * 1) (cA kk v).length = true:=Nat.ble_eq_true_of_le (by rw [B3b]; omega)
 simp only [core,prim,h,F3 hl,this,if_true]⟩
theorem E2q {j n:Nat} {v:IArr n} (hl:l[j]? = some (.cells (cA .i64 v))):rd (H0++l) (.csl (H0.length + j) 0 1 n) 1 (List.map cI v.l):= by
 constructor
 ·have:Nat.ble (0 + n * 1) (cA .i64 v).length = true:=Nat.ble_eq_true_of_le (by rw [B3b]; omega)
  simp only [A6t,F3 hl,this,if_true,Option.some.injEq]
  refine List.ext_getElem (by simp [v.h]) fun i h1 h2=>?_
  have hi:i < v.l.length:= by simpa using h2
  simp only [List.getElem_map,List.getElem_range,Nat.zero_add,Nat.mul_one,cA,cI]
  rw [List.drop_eq_getElem_cons (by simpa using hi)]
  simp
 ·rfl
def cpy {α:Type} (d m:List α):List α:=m.take (min m.length d.length)++d.drop (min m.length d.length)
theorem B6m {α:Type} (d m:List α):(cpy d m).length = d.length:= by
 unfold cpy
 simp only [List.length_append,List.length_take,List.length_drop]
 omega
theorem E0d {α:Type} {f:α→List AV} {k j n:Nat} {x y:Opd} {m d:List α} {v:AV} (hd:ev s x = some (.asl (H0.length + j) n)) (hx:ev s y = some v) (hl:l[j]? = some (.arr k false (d.map f))) (hn:d.length = n) (hr:rd (H0++l) v k (m.map f)) (hf:∀a,(f a).all AV.frz = true) :
  One T c n0 s (H0++l) (.copy k x y) (.lit (.int .i64 (min m.length n:Nat))) (H0++l.set j (.arr k false ((cpy d m).map f))):= by
 have:=E17 (T:=T) (c:=c) (n0:=n0) hd hx hl hn hr hf
 subst hn
 exact this
theorem D0z {a:Opd} {j k N:Nat} {cs:List AV} (hN:H0.length = N) (h:ev s a = some (.ptr (N + j) 0)) (hl:l[j]? = some (.cells cs)) (hk:Nat.beq cs.length k = true):One T c n0 s (H0++l) (.load (some k) a) (.agg cs) (H0++l):= by subst hN; exact C5 h hl hk
theorem D74 {a x:Opd} {j o k N:Nat} {cs ds:List AV} {v:AV} (hN:H0.length = N) (h:ev s a = some (.ptr (N + j) o)) (hv:ev s x = some v) (hl:l[j]? = some (.cells cs)) (hk:(Nat.beq v.cellsOf.length k && Nat.ble (o + k) cs.length) = true) (hok:v.cellsOf.all AV.plain = true) (hd:splice cs o v.cellsOf = ds) :
  One T c n0 s (H0++l) (.store k a x) (.tup []) (H0++l.set j (.cells ds)):= by subst hN; exact E2 h hv hl hk (E1 hok) hd
theorem C9v {H':A6} {i:Nat} {a aq rs cap:List AV} (h:Q9 T c H (.fn (.func i) [] cap) (a++aq) rs H'):Q9 T c H (.fn (.func i) a cap) aq rs H':= by
 obtain ⟨n,e⟩:=h
 cases n with
 | zero=>simp [mach] at e
 | succ n =>
  refine ⟨n + 1,?_⟩
  rw [A1d] at e ⊢
  exact e
theorem C9t {i:Nat} {a aq rs cap:List AV} (h:F2 T c H (.fn (.func i) [] cap) (a++aq) rs):F2 T c H (.fn (.func i) a cap) aq rs:=⟨C9v h.1,h.2⟩
end
def first {ρ:Type} (f:Nat→Option ρ):Nat→Option ρ
 | 0=>none
 | n + 1=>match first f n with
  | some r=>some r
  | none=>f n
def iter {τ:Type} (g:Nat→τ→τ):Nat→τ→τ
 | 0,t=>t
 | n + 1,t=>g n (iter g n t)
theorem F6 {ρ:Type} {f:Nat→Option ρ}:∀{n:Nat},first f n = none↔∀ i,i < n→f i = none
 | 0=>⟨fun _ i hi=>absurd hi (Nat.not_lt_zero i),fun _=>rfl⟩
 | n + 1=>by
  unfold first
  cases hf:first f n with
  | none =>
   have h0:=F6.mp hf
   constructor
   ·intro h i hi
    by_cases e:i = n
    ·rw [e]; exact h
    ·exact h0 i (by omega)
   ·intro h; exact h n (Nat.lt_succ_self n)
  | some r =>
   constructor
   ·intro h; exact absurd h (by simp)
   ·intro h
    rw [F6.mpr fun i hi=>h i (Nat.lt_succ_of_lt hi)] at hf
    exact absurd hf (by simp)
theorem N5 {ρ:Type} {f:Nat→Option ρ} {r:ρ}:∀{n:Nat},first f n = some r→∃ i,i < n∧f i = some r∧∀ j,j < i→f j = none
 | 0,h=>absurd h (by simp [first])
 | n + 1,h=>by
  unfold first at h
  cases hf:first f n with
  | none =>
   rw [hf] at h
   exact ⟨n,Nat.lt_succ_self n,h,F6.mp hf⟩
  | some q =>
   rw [hf] at h
   obtain ⟨i,hi,h1,h2⟩:=N5 (hf.trans (by simpa using h))
   exact ⟨i,Nat.lt_succ_of_lt hi,h1,h2⟩
theorem B4t {ρ:Type} {f:Nat→Option ρ} {r:ρ} {n i:Nat} (hi:i < n) (h:f i = some r) (hj:∀j,j < i→f j = none):first f n = some r:= by
 cases hf:first f n with
 | none=>rw [F6.mp hf i hi] at h; exact absurd h (by simp)
 | some q =>
  obtain ⟨k,hk,h1,h2⟩:=N5 hf
  have e:k = i:= by
   rcases Nat.lt_trichotomy k i with l | l | l
   ·rw [hj k l] at h1; exact absurd h1 (by simp)
   ·exact l
   ·rw [h2 i l] at h; exact absurd h (by simp)
  rw [e,h] at h1; exact h1.symm
theorem C7a {σ ρ:Type} {b:σ→Option (σ ⊕ ρ)} {u:Nat→σ} {n:Nat} {r:ρ} (hs:∀i,i < n→b (u i) = some (.inl (u (i + 1)))) (he:b (u n) = some (.inr r)) :
  ∀ k j m,j + k = n→k < m→C29 b m (u j) = some r
 | 0,j,0,_,h=>absurd h (Nat.not_lt_zero _)
 | 0,j,m + 1,hj,_=>by
  rw [A4g]
  have:j = n:= by omega
  rw [this,he]
 | k + 1,j,0,_,h=>absurd h (Nat.not_lt_zero _)
 | k + 1,j,m + 1,hj,hm=>by
  rw [A4g,hs j (by omega)]
  exact C7a hs he k (j + 1) m (by omega) (by omega)
theorem G4 {σ ρ:Type} {b:σ→Option (σ ⊕ ρ)} (u:Nat→σ) (n:Nat) {r:ρ} (hn:n < 9223372036854775808) (hs:∀i,i < n→b (u i) = some (.inl (u (i + 1)))) (he:b (u n) = some (.inr r)) :
  loop b (u 0) = some r:=C7a hs he n 0 _ (by omega) (by omega)
theorem B2q {σ ρ:Type} {b:σ→Option (σ ⊕ ρ)} (u:Nat→σ) (n:Nat) (f:Nat→Option ρ) (z:ρ) (hn:n < 9223372036854775808)
  (hs:∀i,i < n→(∀ j,j < i→f j = none)→b (u i) = some (match f i with | some r=>.inr r | none=>.inl (u (i + 1))))
  (he:(∀ j,j < n→f j = none)→b (u n) = some (.inr z)) :
  loop b (u 0) = some ((first f n).getD z):= by
 cases hf:first f n with
 | none =>
  have h0:=F6.mp hf
  refine G4 u n hn ?_ (he h0)
  intro i hi
  rw [hs i hi fun j hj=>h0 j (by omega),h0 i hi]
 | some r =>
  obtain ⟨i,hi,h1,h2⟩:=N5 hf
  refine G4 u i (by omega) ?_ ?_
  ·intro j hj
   rw [hs j (by omega) fun k hk=>h2 k (by omega),h2 j hj]
  ·rw [hs i hi h2,h1]; rfl
theorem D0 {n:Int} (h:-9223372036854775808≤n∧n≤9223372036854775807):w64 n = n :=
 Go.IntWalk.i64_in n h
theorem E5 {α:Type} [Inhabited α] {l:List α} {i:Nat} (h:i < l.length):idx l (i:Int) = some l[i]!:= by
 unfold idx
 rw [if_pos (Int.natCast_nonneg i),Int.toNat_natCast,List.getElem?_eq_getElem h,getElem!_pos l i h]
theorem B78 {α:Type} [Inhabited α] {l:List α} {i:Int} (h0:0≤i) (h:i < l.length):idx l i = some l[i.toNat]!:= by
 have e:i = (i.toNat:Int):= by omega
 rw [e,E5 (by omega)]; rfl
theorem W4 {α:Type} {k:Nat} {l m:List α} (hk:k≤64) (h:l.length + m.length≤1073741824):app k l m = some (l++m):= by
 unfold app
 rw [if_pos]
 refine ⟨Nat.le_trans (Nat.mul_le_mul h hk) (by decide),by omega⟩
theorem C87 {α:Type} {l:List α} {i:Nat} (h:i≤l.length):slc l 0 (i:Int) = some (l.take i):= by
 unfold slc
 rw [if_pos ⟨Int.le_refl 0,Int.natCast_nonneg i,by omega⟩,Int.toNat_natCast]; rfl
theorem R3 {ρ:Type} {b:Int→Option (Int ⊕ ρ)} (n:Nat) (f:Nat→Option ρ) (z:ρ) (hn:n < 9223372036854775808)
  (hs:∀i:Nat,i < n→(∀ j,j < i→f j = none)→b (i:Int) = some (match f i with | some r=>.inr r | none=>.inl (w64 ((i:Int) + 1))))
  (he:b (n:Int) = some (.inr z)) :
  loop b 0 = some ((first f n).getD z):= by
 refine B2q (fun i=>(i:Int)) n f z hn ?_ (fun _=>he)
 intro i hi hj
 rw [hs i hi hj,D0 (by omega)]
 rfl
theorem C3c {α ρ:Type} [Inhabited α] (f:α→α) (l:List α) {b:Int × List α→Option ((Int × List α) ⊕ ρ)} {r:ρ} (hl:l.length < 9223372036854775808)
  (hb:∀(i:Nat) (m:List α),i < l.length→m.length = l.length→m[i]? = some l[i]!→b ((i:Int),m) = some (.inl (((i + 1:Nat):Int),A1w m (i:Int) (f l[i]!))))
  (he:b ((l.length:Int),l.map f) = some (.inr r)):loop b (0,l) = some r:= by
 have e2:∀i,i≤l.length→((l.take i).map f++l.drop i).length = l.length:=fun i hi=>by rw [List.length_append,List.length_map,List.length_take,List.length_drop]; omega
 have hq:=G4 (b:=b) (fun i=>((i:Int),(l.take i).map f++l.drop i)) l.length (r:=r) hl (fun i hi=>by
  have hge:((l.take i).map f++l.drop i)[i]? = some l[i]!:= by
   rw [List.getElem?_append_right (by rw [List.length_map,List.length_take]; omega),List.length_map,List.length_take,Nat.min_eq_left (by omega),Nat.sub_self,List.getElem?_drop,Nat.add_zero,List.getElem?_eq_getElem hi,getElem!_pos l i hi]
  rw [hb i _ hi (e2 i (by omega)) hge]
  congr 2
  refine Prod.ext rfl ?_
  show ((l.take i).map f++l.drop i).set (i:Int).toNat (f l[i]!) = _
  rw [Int.toNat_natCast,List.drop_eq_getElem_cons hi,List.set_append_right _ _ (by rw [List.length_map,List.length_take]; omega),List.length_map,List.length_take,Nat.min_eq_left (by omega),Nat.sub_self,List.set_cons_zero,List.take_add_one,List.getElem?_eq_getElem hi,List.map_append,List.append_assoc,getElem!_pos l i hi]
  rfl) (by
  rw [List.take_length,List.drop_of_length_le (Nat.le_refl _),List.append_nil]; exact he)
 exact hq
theorem C2s {α:Type} {m:List α} {i:Nat} {x:α} (h:m[i]? = some x):idx m (i:Int) = some x:= by
 unfold idx
 rw [if_pos (Int.natCast_nonneg i),Int.toNat_natCast,h]
end Am
end
section
namespace Am
open Go Go.RowKit
theorem A6k {P:Program} (hmix:P.follows .mixedOrders = true) {T:Tab} (hT:C6j P T) {i:Nat} {args:List AV} {H':A6} (h:Q9 T ⟨0,[]⟩ [] (.fn (.func i) [] []) args [.b true] H') (W:World) {vs:Array Value} (hl:vs.size = args.length)
  (hV:∀(j:Nat) x,args[j]? = some x→V ⟨fun _=>.none,fun β o=>W.cell? ⟨β,o,none⟩⟩ x (vs[j]?.getD undef)):Calls P i vs W fun e W'=>e = .returned (.bool true)∧Below W.heap.size W W':= by
 obtain ⟨n,h⟩:=h
 cases n with
 | zero=>simp [mach] at h
 | succ m =>
  rw [A1d] at h
  let g0:Ghost:=⟨fun _=>.none,fun β o=>W.cell? ⟨β,o,none⟩⟩
  have hR:Rel (MCof P) P W.heap.size [] g0 W:=⟨fun _ _ _ h=>h,fun i β h=>by simp [g0,GB.blk] at h,fun i j β h=>by simp [g0,GB.blk] at h,fun i o h=>by simp at h,fun _ _=>rfl,Nat.le_refl _⟩
  have hS:ScOk ⟨0,[]⟩ ([]:A6):=⟨by simp,by simp,fun B _ i _ o h=>by simp at h⟩
  obtain ⟨_,hgo⟩:=B9i hT (B6t hmix hT m).1 h hR hS (by simpa using hl) (fun j x hj=>hV j x (by simpa using hj))
  intro cs
  obtain ⟨us,w',g',fs,fr,h1,h2,h3,h4,h5,h6,h7,h8,h9⟩:=hgo cs
  have hus:us = [.bool true]:= by
   cases h4 with
   | cons _ u f _ us fs h k =>
    cases k
    cases h with
    | one _ _ _ _ h =>
     cases h with
     | val _ _ h=>have:=W1 h; subst this; rfl
  subst hus
  refine ⟨.returned (.bool true),w',fr,⟨rfl,?_⟩,h1,h2,h3⟩
  exact ⟨h7.os,h7.tape,h7.output,h7.size,fun k hk=>(h7.frame k hk (fun i o hi=>by simp at hi)).1⟩
end Am
end
section
namespace Am
open Go
inductive Sh where
 | int (k:IntKind)
 | bool
 | str
 | seq (k:Nat) (l:List Sh)
mutual
def Sat:Sh→AV→Prop
 | .int k,x=>∃ n,x = .lit (.int k n)∧(Lit.int k n).wf = true
 | .bool,x=>∃ b,x = .lit (.bool b)
 | .str,x=>∃ s:ByteArray,x = .lit (.string s)∧s.size≤maxLen
 | .seq k l,x=>∃ rows:List (List AV),x = .seq k rows∧rows.length≤maxLen∧∀ r ∈ rows,SatL l r
def SatL:List Sh→List AV→Prop
 | [],r=>r = []
 | s :: l,r=>∃ x q,r = x :: q∧Sat s x∧SatL l q
end
theorem SatL.len:∀{l:List Sh} {r:List AV},SatL l r→r.length = l.length
 | [],r,h=>by simp only [SatL] at h; rw [h]; rfl
 | s :: l,r,h=>by
  simp only [SatL] at h
  obtain ⟨x,q,rfl,_,hq⟩:=h
  rw [List.length_cons,List.length_cons,hq.len]
theorem SatL.app:∀{l m:List Sh} {r q:List AV},SatL l r→SatL m q→SatL (l++m) (r++q)
 | [],m,r,q,h,hq=>by simp only [SatL] at h; rw [h]; exact hq
 | s :: l,m,r,q,h,hq=>by
  simp only [SatL] at h
  obtain ⟨x,u,rfl,hx,hu⟩:=h
  show SatL (s :: (l++m)) (x :: (u++q))
  simp only [SatL]
  exact ⟨x,u++q,rfl,hx,hu.app hq⟩
def lay (P:Program):List (Field × List Sh)→Nat→Option (List Sh)
 | [],_=>some []
 | (f,l) :: r,off=>if f.offset = off∧l.length = P.cellsOf f.type then (lay P r (off + l.length)).map (l++·) else none
def B5f (P:Program):Nat→TypeId→Option (List Sh)
 | 0,_=>none
 | n + 1,t=>match P.underlying t with
  | some (.int k)=>some [.int k]
  | some .bool=>some [.bool]
  | some .string=>some [.str]
  | some (.slice e)=>(B5f P n e).bind fun l=>if l.length = P.cellsOf e∧0 < l.length then some [.seq l.length l] else none
  | some (.struct fs)=>(fs.toList.mapM fun f=>(B5f P n f.type).map fun l=>(f,l)).bind fun xs=>(lay P xs 0).bind fun l=>if l.length = P.cellsOf t then some l else none
  | _=>none
def Cells (Φ:Nat→Nat→Option Value) (l:List Sh) (cs:List Value):Prop :=
 ∃ r:List AV,SatL l r∧r.length = cs.length∧∀ (j:Nat) (x:AV),r[j]? = some x→∃ v,cs[j]? = some v∧Den Φ x v∧v.oneCell' = true
theorem Cells.app {Φ:Nat→Nat→Option Value} {l m:List Sh} {cs ds:List Value} (h:Cells Φ l cs) (k:Cells Φ m ds):Cells Φ (l++m) (cs++ds):= by
 obtain ⟨r,h1,h2,h3⟩:=h
 obtain ⟨q,k1,k2,k3⟩:=k
 refine ⟨r++q,h1.app k1,by rw [List.length_append,List.length_append,h2,k2],?_⟩
 intro j x hx
 by_cases c:j < r.length
 ·rw [List.getElem?_append_left c] at hx
  obtain ⟨v,e,hv⟩:=h3 j x hx
  exact ⟨v,by rw [List.getElem?_append_left (by omega)]; exact e,hv⟩
 ·rw [List.getElem?_append_right (by omega)] at hx
  obtain ⟨v,e,hv⟩:=k3 _ x hx
  exact ⟨v,by rw [List.getElem?_append_right (by omega),← h2]; exact e,hv⟩
theorem Cells.one {Φ:Nat→Nat→Option Value} {s:Sh} {x:AV} {v:Value} (h:Sat s x) (hd:Den Φ x v) (h1:v.oneCell' = true):Cells Φ [s] [v]:= by
 refine ⟨[x],by simp only [SatL]; exact ⟨x,[],rfl,h,rfl⟩,rfl,?_⟩
 intro j y hy
 match j with
 | 0=>exact ⟨v,rfl,by have:x = y:= by simpa using hy
                      subst this; exact ⟨hd,h1⟩⟩
 | j + 1=>simp at hy
theorem C6p {P:Program} {Φ:Nat→Nat→Option Value}:∀(xs:List (Field × List Sh)) (off:Nat) (l:List Sh) (cs:List Value),
  lay P xs off = some l→(∀ x ∈ xs,Cells Φ x.2 ((cs.drop x.1.offset).take (P.cellsOf x.1.type)))→off≤cs.length→Cells Φ l ((cs.drop off).take l.length)
 | [],off,l,cs,h,_,_=>by
  obtain rfl:=Option.some.inj h
  exact ⟨[],rfl,by simp,by simp⟩
 | (f,m) :: xs,off,l,cs,h,hx,ho=>by
  unfold lay at h
  split at h
  ·rename_i hc
   obtain ⟨q,hq,rfl⟩:=Option.map_eq_some_iff.mp h
   have h1:=hx (f,m) (List.mem_cons_self ..)
   simp only [] at h1
   rw [hc.1,← hc.2] at h1
   have hlen:((cs.drop off).take m.length).length = m.length:= by
    obtain ⟨r,h2,h3,_⟩:=h1
    rw [← h3,h2.len]
   rw [List.length_take,List.length_drop] at hlen
   have h2:=C6p xs (off + m.length) q cs hq (fun x hx'=>hx x (List.mem_cons_of_mem _ hx')) (by omega)
   have e:(cs.drop off).take (m++q).length = (cs.drop off).take m.length++(cs.drop (off + m.length)).take q.length:= by
    rw [List.length_append,List.take_add,List.drop_drop]
   rw [e]
   exact h1.app h2
  ·exact absurd h (by simp)
theorem D0v {α β:Type} {f:α→Option β}:∀{l:List α} {r:List β},l.mapM f = some r→∀ (i:Nat) y,r[i]? = some y→∃ x,l[i]? = some x∧f x = some y
 | [],r,h,i,y,hy=>by
  have:r = []:= by simpa using h.symm
  subst this; simp at hy
 | a :: l,r,h,i,y,hy=>by
  rw [List.mapM_cons] at h
  obtain ⟨b,hb,h⟩:=Option.bind_eq_some_iff.mp h
  obtain ⟨q,hq,h⟩:=Option.bind_eq_some_iff.mp h
  obtain rfl:=Option.some.inj h
  match i with
  | 0=>exact ⟨a,rfl,by rw [hb]; simpa using hy⟩
  | i + 1=>exact D0v hq i y (by simpa using hy)
theorem D6b {W:World} {a:Addr} {v:Value} (h:W.cell? a = some v):a.spot = none:= by
 unfold World.cell? at h
 split at h
 ·split at h
  ·exact absurd h (by simp)
  ·rename_i hn
   cases hs:a.spot with
   | none=>rfl
   | some x=>rw [hs] at hn; exact absurd rfl hn
 ·exact absurd h (by simp)
theorem D6n {a:Addr} (h:a.spot = none) (n:Nat):a.add n = ⟨a.block,a.off + n,none⟩:= by
 unfold Addr.add
 split
 ·rename_i e
  subst e
  cases a; simp only at h; subst h; rfl
 ·rfl
theorem A1i {H:Type} {enc:TypeId × Value→H} {P:Program} {W:World} {base:Nat} {sp:Nat→Bool} {held:Bool}:∀(n:Nat) (t:TypeId) (l:List Sh) (cs:List Value) (fuel:Nat) (x:DataW H × List MemPlace),
  B5f P n t = some l→DataW.trod enc P W base sp held fuel t cs = some x→Cells (fun β o=>W.cell? ⟨β,o,none⟩) l cs∧cs.length = l.length
 | 0,_,_,_,_,_,h,_=>absurd h (by simp [B5f])
 | n + 1,t,l,cs,fuel,x,h,hx=>by
  unfold B5f at h
  split at h
  ·rename_i k hu
   obtain rfl:=Option.some.inj h
   obtain ⟨m,rfl,_,hw⟩:=DataW.trod_int hu hx
   exact ⟨Cells.one (x:=.lit (.int k m)) (by simp only [Sat]; exact ⟨m,rfl,hw⟩) (.lit _ rfl) rfl,rfl⟩
  ·rename_i hu
   obtain rfl:=Option.some.inj h
   obtain ⟨m,rfl,_⟩:=DataW.trod_bool hu hx
   exact ⟨Cells.one (x:=.lit (.bool m)) (by simp only [Sat]; exact ⟨m,rfl⟩) (.lit _ rfl) rfl,rfl⟩
  ·rename_i hu
   obtain rfl:=Option.some.inj h
   obtain ⟨m,rfl,_,hw⟩:=DataW.trod_string hu hx
   exact ⟨Cells.one (x:=.lit (.string m)) (by simp only [Sat]; exact ⟨m,rfl,hw⟩) (.lit _ rfl) rfl,rfl⟩
  ·rename_i e hu
   obtain ⟨m,hm,h⟩:=Option.bind_eq_some_iff.mp h
   split at h
   ·rename_i hc
    obtain rfl:=Option.some.inj h
    rcases DataW.trod_slice hu hx with ⟨rfl,_⟩ | ⟨a,len,cap,elems,rest,n',_,rfl,_,hb,hlc,hcm,hel,hcell,_,_⟩
    ·exact ⟨Cells.one (x:=.seq m.length []) (by simp only [Sat]; exact ⟨[],rfl,Nat.zero_le _,by simp⟩) (.seq0 _ _ _) rfl,rfl⟩
    ·cases len with
     | zero=>exact ⟨Cells.one (x:=.seq m.length []) (by simp only [Sat]; exact ⟨[],rfl,Nat.zero_le _,by simp⟩) (.seq0 _ _ _) rfl,rfl⟩
     | succ len0 =>
     have each0:∀i,i < len0 + 1→∃ ci:List Value,W.cells? base (a.add (i * P.cellsOf e)) (P.cellsOf e) = some ci∧Cells (fun β o=>W.cell? ⟨β,o,none⟩) m ci∧ci.length = m.length:= by
      intro i hi
      have h1:=hcell i hi
      rw [List.getElem?_eq_getElem (by omega)] at h1
      obtain ⟨ci,hci,h2⟩:=Option.bind_eq_some_iff.mp h1
      have:=A1i n e m ci _ _ hm h2
      exact ⟨ci,hci,this.1,this.2⟩
     have hs:a.spot = none:= by
      obtain ⟨ci,hci,_,hl⟩:=each0 0 (by omega)
      obtain ⟨_,_,hk⟩:=World.cells?_some hci
      have h0:=hk 0 (by omega)
      rw [List.getElem?_eq_getElem (by omega)] at h0
      have e0:(a.add (0 * P.cellsOf e)).add 0 = a:= by simp [Addr.add]
      rw [e0] at h0
      exact D6b h0
     have each:∀i,i < len0 + 1→∃ r:List AV,SatL m r∧r.length = m.length∧∀ (j:Nat) (x:AV),r[j]? = some x→∃ v,W.cell? ⟨a.block,a.off + (i * m.length + j),none⟩ = some v∧Den (fun β o=>W.cell? ⟨β,o,none⟩) x v:= by
      intro i hi
      obtain ⟨ci,hci,⟨r,hr1,hr2,hr3⟩,hl⟩:=each0 i hi
      obtain ⟨_,hlen,hk⟩:=World.cells?_some hci
      refine ⟨r,hr1,hr1.len,?_⟩
      intro j x hx
      obtain ⟨v,hv,hd,_⟩:=hr3 j x hx
      refine ⟨v,?_,hd⟩
      have hj:j < ci.length:=(List.getElem?_eq_some_iff.mp hv).1
      have:=hk j (by omega)
      rw [D6n hs,D6n rfl,hv] at this
      rw [← this,← hc.1]
      congr 2
      show a.off + (i * m.length + j) = a.off + i * m.length + j
      omega
     let R:Nat→List AV:=fun i=>if hi:i < len0 + 1 then Classical.choose (each i hi) else []
     have hR:∀i,i < len0 + 1→SatL m (R i)∧(R i).length = m.length∧∀ (j:Nat) (x:AV),(R i)[j]? = some x→∃ v,W.cell? ⟨a.block,a.off + (i * m.length + j),none⟩ = some v∧Den (fun β o=>W.cell? ⟨β,o,none⟩) x v:= by
      intro i hi
      have:R i = Classical.choose (each i hi):=dif_pos hi
      rw [this]
      exact Classical.choose_spec (each i hi)
     have hget:∀(i:Nat) (r:List AV),((List.range (len0 + 1)).map R)[i]? = some r→i < len0 + 1∧r = R i:= by
      intro i r hr
      rw [List.getElem?_map] at hr
      obtain ⟨y,hy,e⟩:=Option.map_eq_some_iff.mp hr
      obtain ⟨hi,e2⟩:=List.getElem?_eq_some_iff.mp hy
      rw [List.getElem_range] at e2
      rw [List.length_range] at hi
      subst e2
      exact ⟨hi,e.symm⟩
     have hmem:∀r ∈ (List.range (len0 + 1)).map R,∃ i,i < len0 + 1∧r = R i:= by
      intro r hr
      obtain ⟨i,hi,e⟩:=List.mem_map.mp hr
      exact ⟨i,List.mem_range.mp hi,e.symm⟩
     have hd:Den (fun β o=>W.cell? ⟨β,o,none⟩) (.seq m.length ((List.range (len0 + 1)).map R)) (.slice (some a) ((List.range (len0 + 1)).map R).length cap):= by
      refine .seq m.length _ a cap (fun i j=>(W.cell? ⟨a.block,a.off + (i * m.length + j),none⟩).getD undef) hs (by simpa using hlc) ?_ ?_ ?_
      ·intro r hr
       obtain ⟨i,hi,rfl⟩:=hmem r hr
       exact (hR i hi).2.1
      ·intro i r j x hr hx
       obtain ⟨hi,rfl⟩:=hget i r hr
       obtain ⟨v,hv,_⟩:=(hR i hi).2.2 j x hx
       show W.cell? _ = some ((W.cell? _).getD undef)
       rw [hv]; rfl
      ·intro i r j x hr hx
       obtain ⟨hi,rfl⟩:=hget i r hr
       obtain ⟨v,hv,hdv⟩:=(hR i hi).2.2 j x hx
       show Den _ x ((W.cell? _).getD undef)
       rw [hv]; exact hdv
     rw [List.length_map,List.length_range] at hd
     refine ⟨Cells.one (x:=.seq m.length ((List.range (len0 + 1)).map R)) ?_ hd rfl,rfl⟩
     simp only [Sat]
     refine ⟨_,rfl,by rw [List.length_map,List.length_range]; omega,?_⟩
     intro r hr
     obtain ⟨i,hi,rfl⟩:=hmem r hr
     exact (hR i hi).1
   ·exact absurd h (by simp)
  ·rename_i fs hu
   obtain ⟨xs,hxs,h⟩:=Option.bind_eq_some_iff.mp h
   obtain ⟨m,hm,h⟩:=Option.bind_eq_some_iff.mp h
   split at h
   ·rename_i hc
    obtain rfl:=Option.some.inj h
    obtain ⟨ys,n',_,_,hl,hlen,hf⟩:=DataW.trod_struct hu hx
    have key:=C6p (Φ:=fun β o=>W.cell? ⟨β,o,none⟩) xs 0 m cs hm (fun y hy=>by
     obtain ⟨i,hi,e⟩:=List.mem_iff_getElem.mp hy
     obtain ⟨f,hf1,hf2⟩:=D0v hxs i y (by rw [List.getElem?_eq_getElem hi,e])
     obtain ⟨l',hl',rfl⟩:=Option.map_eq_some_iff.mp hf2
     have hfi:fs[i]? = some f:= by rw [← Array.getElem?_toList]; exact hf1
     have h2:=hf i f hfi
     have hib:i < fs.size:= by
      obtain ⟨q,_⟩:=Array.getElem?_eq_some_iff.mp hfi
      exact q
     rw [List.getElem?_eq_getElem (by omega)] at h2
     exact (A1i n f.type l' _ _ _ hl' h2).1) (Nat.zero_le _)
    have e:(cs.drop 0).take m.length = cs:= by rw [List.drop_zero,List.take_of_length_le (by omega)]
    rw [e] at key
    exact ⟨key,by omega⟩
   ·exact absurd h (by simp)
  ·exact absurd h (by simp)
end Am
end
