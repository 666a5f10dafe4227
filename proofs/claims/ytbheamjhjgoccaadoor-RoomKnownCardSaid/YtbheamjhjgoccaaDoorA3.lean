/- Texts that the claim stands on, one behind another. -/
import Derived.Test.YtbheamjhjgoccaaDoorA2
set_option linter.unusedVariables false
set_option linter.unusedSimpArgs false
set_option linter.unnecessarySimpa false
section
namespace Am
open Go
section
variable {p g:Nat} {G:A3} (hG:G.length = g)
include hG
theorem P3 {B B':Nat} (hB:ScB p g B B') {H:A3} (hp:p≤H.length) (v:AV):X0 B' (E7 p g G H) (ren p g v) = (X0 B H v).map (ren2 p g G):= by
 cases v with
 | asl b n =>
  have hf:=B4f hG hp (.asl b n)
  simp only [ren] at hf
  simp only [ren,X0,A15 hG hp,hB.le]
  cases Y3 H b with
  | none=>exact hf
  | some y =>
   obtain ⟨k,q,rows⟩:=y
   cases q with
   | true=>exact hf
   | false =>
    simp only [Option.map_some,O4]
    split
    ·split
     ·simp only [Option.map_some,ren2,ren,← M9 hG hp,L3]
     ·rfl
    ·exact hf
 | nils k=>simp [ren,X0,ren2,renR]
 | _=>simp [ren,X0,ren2]
omit hG
theorem B1q {B:Nat} {H:A3} {v:AV} {r:AV × A3} (h:X0 B H v = some r):r.2.length = H.length:= by
 cases v with
 | asl b n =>
  simp only [X0] at h
  split at h
  ·split at h
   ·split at h
    ·simp only [Option.some.injEq] at h; subst h; exact I5 ..
    ·cases h
   ·exact A7s h
  ·exact A7s h
 | nils k=>simp only [X0,Option.some.injEq] at h; subst h; rfl
 | _=>simp only [X0,Option.some.injEq] at h; subst h; rfl
theorem B3q {B:Nat}:∀{l:List AV} {H:A3} {r:List AV × A3},S9 B H l = some r→r.2.length = H.length
 | [],H,r,h=>by simp only [S9,Option.some.injEq] at h; subst h; rfl
 | v :: l,H,r,h=>by
  simp only [S9] at h
  split at h
  ·cases h
  ·next v' H' e1 =>
   split at h
   ·cases h
   ·next l' H'' e2 =>
    simp only [Option.some.injEq] at h; subst h
    have:=B1q e1; have:=B3q e2; simp_all
theorem B5w {B:Nat} {H:A3} {v:AV} {r:AV × A3} (h:S7 B H v = some r):r.2.length = H.length:= by
 cases v with
 | agg cs =>
  simp only [S7,Option.map_eq_some_iff] at h
  obtain ⟨x,h1,rfl⟩:=h; exact B3q h1
 | _=>simp only [S7] at h; exact B1q h
theorem B3s {B:Nat}:∀{l:List AV} {H:A3} {r:List AV × A3},Q7 B H l = some r→r.2.length = H.length
 | [],H,r,h=>by simp only [Q7,Option.some.injEq] at h; subst h; rfl
 | v :: l,H,r,h=>by
  simp only [Q7] at h
  split at h
  ·cases h
  ·next v' H' e1 =>
   split at h
   ·cases h
   ·next l' H'' e2 =>
    simp only [Option.some.injEq] at h; subst h
    have:=B5w e1; have:=B3s e2; simp_all
include hG
theorem B3r {B B':Nat} (hB:ScB p g B B'):∀(l:List AV) {H:A3} (hp:p≤H.length),S9 B' (E7 p g G H) (renL p g l) = (S9 B H l).map fun r=>(renL p g r.1,E7 p g G r.2)
 | [],H,hp=>by simp [S9,renL]
 | v :: l,H,hp=>by
  simp only [renL,S9,P3 hG hB hp]
  cases e:X0 B H v with
  | none=>rfl
  | some r =>
   simp only [Option.map_some,ren2]
   rw [B3r hB l (by rw [B1q e]; exact hp)]
   cases S9 B r.2 l with
   | none=>rfl
   | some q=>simp [renL]
theorem C05 {B B':Nat} (hB:ScB p g B B') {H:A3} (hp:p≤H.length) (v:AV):S7 B' (E7 p g G H) (ren p g v) = (S7 B H v).map (ren2 p g G):= by
 cases v with
 | agg cs =>
  simp only [ren,S7,B3r hG hB cs hp]
  cases S9 B H cs <;> simp [ren2,ren]
 | nils k=>have:=P3 hG hB hp (.nils k); simpa [ren,S7] using this
 | lit u=>have:=P3 hG hB hp (.lit u); simpa [ren,S7] using this
 | seq k rows=>have:=P3 hG hB hp (.seq k rows); simpa [ren,S7] using this
 | xseq k rows=>have:=P3 hG hB hp (.xseq k rows); simpa [ren,S7] using this
 | ptr b o=>have:=P3 hG hB hp (.ptr b o); simpa [ren,S7] using this
 | itr b=>have:=P3 hG hB hp (.itr b); simpa [ren,S7] using this
 | eptr b n i o=>have:=P3 hG hB hp (.eptr b n i o); simpa [ren,S7] using this
 | cptr cs=>have:=P3 hG hB hp (.cptr cs); simpa [ren,S7] using this
 | asl b n=>have:=P3 hG hB hp (.asl b n); simpa [ren,S7] using this
 | csl b o k n=>have:=P3 hG hB hp (.csl b o k n); simpa [ren,S7] using this
 | mp b=>have:=P3 hG hB hp (.mp b); simpa [ren,S7] using this
 | fn f a c=>have:=P3 hG hB hp (.fn f a c); simpa [ren,S7] using this
 | tup cs=>have:=P3 hG hB hp (.tup cs); simpa [ren,S7] using this
 | fresh k rows=>have:=P3 hG hB hp (.fresh k rows); simpa [ren,S7] using this
 | undef=>have:=P3 hG hB hp .undef; simpa [ren,S7] using this
theorem B3t {B B':Nat} (hB:ScB p g B B'):∀(l:List AV) {H:A3} (hp:p≤H.length),Q7 B' (E7 p g G H) (renL p g l) = (Q7 B H l).map fun r=>(renL p g r.1,E7 p g G r.2)
 | [],H,hp=>by simp [Q7,renL]
 | v :: l,H,hp=>by
  simp only [renL,Q7,C05 hG hB hp]
  cases e:S7 B H v with
  | none=>rfl
  | some r =>
   simp only [Option.map_some,ren2]
   rw [B3t hB l (by rw [B5w e]; exact hp)]
   cases Q7 B r.2 l with
   | none=>rfl
   | some q=>simp [renL]
theorem B75 {n0:Nat} (hn:p≤n0) {H:A3} (hp:p≤H.length) (own:List (Nat × Nat)) (j:Nat) (v:AV):inC (n0 + g) (E7 p g G H) own j (ren p g v) = ren2 p g G (inC n0 H own j v):= by
 cases v with
 | fresh k rows =>
  simp only [ren,inC]
  cases T5 j own with
  | none=>simp only [ren2,ren]
  | some r=>simp only [ren2,ren,rbn hn,O4,← V2 hG hp hn,L3]
 | _=>simp [ren,inC,ren2]
omit hG
theorem B4k {n0:Nat} {H:A3} (own:List (Nat × Nat)) (j:Nat) (v:AV):(inC n0 H own j v).2.length = H.length:= by
 cases v with
 | fresh k rows=>simp only [inC]; cases T5 j own <;> simp [I5]
 | _=>simp [inC]
theorem B5j {n0:Nat} (own:List (Nat × Nat)):∀(l:List AV) (j:Nat) (H:A3),(A0y n0 H own j l).2.length = H.length
 | [],j,H=>rfl
 | v :: l,j,H=>by simp only [A0y]; rw [B5j own l]; exact B4k ..
theorem B78 {n0:Nat} {H:A3} (own:List (Nat × Nat)) (v:AV):(inV n0 H own v).2.length = H.length:= by
 cases v with
 | agg cs=>simp only [inV]; exact B5j ..
 | _=>simp only [inV]; exact B4k ..
theorem B05 {n0:Nat}:∀(l:List AV) (own:List (List (Nat × Nat))) (H:A3),(S4 n0 H l own).2.length = H.length
 | [],own,H=>rfl
 | v :: l,own,H=>by simp only [S4]; rw [B05 l]; exact B78 ..
include hG
theorem B5l {n0:Nat} (hn:p≤n0) (own:List (Nat × Nat)):∀(l:List AV) (j:Nat) {H:A3} (hp:p≤H.length),A0y (n0 + g) (E7 p g G H) own j (renL p g l) = (renL p g (A0y n0 H own j l).1,E7 p g G (A0y n0 H own j l).2)
 | [],j,H,hp=>by simp [A0y,renL]
 | v :: l,j,H,hp=>by
  simp only [renL,A0y,B75 hG hn hp,ren2]
  rw [B5l hn own l (j + 1) (by rw [B4k]; exact hp)]
theorem C1z {n0:Nat} (hn:p≤n0) {H:A3} (hp:p≤H.length) (own:List (Nat × Nat)) (v:AV):inV (n0 + g) (E7 p g G H) own (ren p g v) = ren2 p g G (inV n0 H own v):= by
 cases v with
 | agg cs=>simp only [ren,inV,B5l hG hn own cs 0 hp,ren2]
 | fresh k rows=>have:=B75 hG hn hp own 0 (.fresh k rows); simpa [ren,inV] using this
 | _=>simp [ren,inV,inC,ren2]
theorem B06 {n0:Nat} (hn:p≤n0):∀(l:List AV) (own:List (List (Nat × Nat))) {H:A3} (hp:p≤H.length),S4 (n0 + g) (E7 p g G H) (renL p g l) own = (renL p g (S4 n0 H l own).1,E7 p g G (S4 n0 H l own).2)
 | [],own,H,hp=>by simp [S4,renL]
 | v :: l,own,H,hp=>by
  simp only [renL,S4,C1z hG hn hp,ren2]
  rw [B06 hn l own.tail (by rw [B78]; exact hp)]
omit hG
theorem B1t (l:List AV):packed (renL p g l) = ren p g (packed l):= by
 cases l with
 | nil=>simp [renL,packed,ren]
 | cons v l=>cases l <;> simp [renL,packed,ren]
theorem B5m {H:A3} (hp:p≤H.length) {B:Nat} (hB:p≤B) (hG:G.length = g):(E7 p g G H).take (B + g) = E7 p g G (H.take B):= by
 unfold E7
 have hl:((H.take p).map (L3 p g)).length = p:= by simp; omega
 rw [List.take_append,hl,List.take_of_length_le (by rw [hl]; omega),List.take_append,hG,List.take_of_length_le (l:=G) (by omega),List.take_take,Nat.min_eq_left hB]
 congr 2
 rw [← List.map_take,List.drop_take]
 congr 2; omega
theorem B3y {B B':Nat} (hB:p≤B) (hB':B' = B + g) {H:A3} (hp:p≤H.length) (hG:G.length = g) (rs:List AV):trunc B' (renL p g rs) (E7 p g G H) = E7 p g G (trunc B rs H):= by
 subst hB'
 unfold trunc
 rw [bdL_ren (.inr (.inl ⟨hB,rfl⟩))]
 split
 ·exact B5m hp hB hG
 ·rfl
theorem B3x {B:Nat} (hB:p≤B) {H:A3} (hp:p≤H.length) (rs:List AV):p≤(trunc B rs H).length:= by
 unfold trunc; split
 ·rw [List.length_take]; omega
 ·exact hp
include hG
theorem B02 {H:A3} (hp:p≤H.length):∀l:List Nat,hide (E7 p g G H) (l.map (rb p g)) = E7 p g G (hide H l)∧(hide H l).length = H.length
 | []=>⟨rfl,rfl⟩
 | b :: l=>by
  obtain ⟨h1,h2⟩:=B02 hp l
  constructor
  ·simp only [List.map_cons,hide,h1]
   rw [← M9 hG (by rw [h2]; exact hp)]; simp only [L3]
  ·simp only [hide,I5,h2]
theorem B2d {H0 H:A3} (hp0:p≤H0.length) (hp:p≤H.length):∀l:List Nat,unhide (E7 p g G H0) (E7 p g G H) (l.map (rb p g)) = E7 p g G (unhide H0 H l)∧(unhide H0 H l).length = H.length
 | []=>⟨rfl,rfl⟩
 | b :: l=>by
  obtain ⟨h1,h2⟩:=B2d hp0 hp l
  simp only [List.map_cons,unhide,V1 hG hp0,h1]
  cases hget H0 b with
  | none=>exact ⟨rfl,h2⟩
  | some o =>
   simp only [Option.map_some]
   exact ⟨M9 hG (by rw [h2]; exact hp) b o,by rw [I5,h2]⟩
omit hG
theorem B39 (v:AV):(ren p g v).box? = v.box?.map (rb p g):= by cases v <;> simp [ren,AV.box?]
include hG
theorem B0z {H:A3} (hp:p≤H.length):∀(l:List Nat) (b:Nat),follow (E7 p g G H) (rb p g b) l = (follow H b l).map (rb p g)
 | [],b=>rfl
 | o :: l,b=>by
  simp only [follow,A4d hG hp]
  cases hcells H b with
  | none=>rfl
  | some cs =>
   simp only [Option.map_some,A8c]
   cases h:cs[o]? with
   | none=>rfl
   | some v =>
    simp only [Option.map_some,Option.bind_some,B39]
    cases v.box? with
    | none=>rfl
    | some b'=>exact B0z hp l b'
theorem B6i (s:B4) {H:A3} (hp:p≤H.length):∀l:List (Nat × List Nat),ways (N9 p g s) (E7 p g G H) l = (ways s H l).map (List.map (rb p g))
 | []=>rfl
 | x :: l=>by
  simp only [ways,A35]
  cases sget s x.1 with
  | none=>rfl
  | some v =>
   simp only [Option.map_some,Option.bind_some,B39]
   cases v.box? with
   | none=>rfl
   | some b =>
    simp only [Option.map_some,B0z hG hp,B6i s hp l]
    cases follow H b x.2 with
    | none=>rfl
    | some b'=>cases ways s H l <;> rfl
omit hG
theorem B2h (op:AOp):writes (I4 p g op) = writes op:= by cases op <;> rfl
theorem C17 {n0:Nat} (hn:p≤n0) (l:List Nat):l.map (n0 + g + ·) = (l.map (n0 + ·)).map (rb p g):= by
 rw [List.map_map]; congr 1; funext r; simp only [Function.comp_def]; exact (rbn hn r).symm
theorem B42 {B B':Nat} (h:ScB p g B B') (l:List Nat):((l.map (rb p g)).all fun b=>Nat.blt b B') = l.all fun b=>Nat.blt b B:= by
 rw [List.all_map]; congr 1; funext b; exact h.lt b
include hG
theorem C0d {n0:Nat} (hn:p≤n0) (s:B4) {H:A3} (hp:p≤H.length) (o:AOper):A0d (n0 + g) (N9 p g s) (E7 p g G H) (U4 p g o) = (A0d n0 s H o).map (List.map (rb p g)):= by
 unfold A0d
 simp only [U4,C17 hn]
 obtain ⟨h1,h2⟩:=B02 hG hp (o.hid.map (n0 + ·))
 rw [h1,B6i hG s (by rw [h2]; exact hp)]
 cases ways s (hide H (o.hid.map (n0 + ·))) o.hida with
 | none=>rfl
 | some bs =>
  simp only [Option.map_some,B2h,← List.map_append]
  rw [B42 (.inr (.inl ⟨hp,A04 hG hp⟩))]
  split <;> rfl
omit hG
theorem B6p (op:AOp):N4 (I4 p g op) = (N4 op).map (E1 p g):= by cases op <;> rfl
theorem C1i (s:B4) (op:AOp):rbox (N9 p g s) (I4 p g op) = (rbox s op).map (rb p g):= by
 unfold rbox; rw [B6p]
 cases N4 op with
 | none=>rfl
 | some x =>
  simp only [Option.map_some,Option.bind_some,H7]
  cases ev s x with
  | none=>rfl
  | some v=>exact B39 v
theorem B4b (l:List Nat) (b:Nat):(l.map (rb p g)).contains (rb p g b) = l.contains b:= by
 induction l with
 | nil=>rfl
 | cons a l ih=>simp only [List.map_cons,List.contains_cons,ih,C4c]
abbrev hcR (p g:Nat) (hc:List (Option (List Nat))):List (Option (List Nat)):=hc.map (Option.map (List.map (rb p g)))
theorem B7n (s:B4) (o:AOper) (hc:List (Option (List Nat))):L4 (N9 p g s) (U4 p g o) (hcR p g hc) = L4 s o hc:= by
 unfold L4
 simp only [U4,C1i]
 cases rbox s o.op with
 | none=>rfl
 | some b =>
  simp only [Option.map_some,hcR,← List.map_take,List.all_map]
  congr 1; funext e
  cases e with
  | none=>rfl
  | some hs=>simp only [Function.comp_def,Option.map_some,B4b]
theorem B7s (s:B4) (x:Option (Nat × Bool)):wanted (N9 p g s) x = wanted s x:= by
 cases x with
 | none=>rfl
 | some x =>
  simp only [wanted,A35]
  cases sget s x.1 with
  | none=>rfl
  | some v=>cases v with
   | lit u=>cases u <;> simp [ren]
   | tup cs=>cases cs <;> simp [ren,renL]
   | _=>simp [ren]
theorem B2a (s:B4) (d:Option Nat) (v:AV):sput (N9 p g s) d (ren p g v) = N9 p g (sput s d v):= by cases d <;> rfl
omit hG in
theorem B5d {H H':A3} {v:AV} (h:U0 H v = some H'):H'.length = H.length:= by
 have other:(Q6 H v).map (·.2) = some H'→H'.length = H.length:= by
  intro h0
  obtain ⟨r,h1,h2⟩:=Option.map_eq_some_iff.1 h0
  subst h2
  exact A47 h1
 cases v with
 | ptr b off =>
  simp only [U0] at h
  split at h
  ·split at h
   ·next e =>
    split at h
    ·simp only [Option.some.injEq] at h
     subst h
     rw [I5]
     exact A3p e
    ·cases h
   ·cases h
  ·cases h
 | _=>exact other h
include hG
theorem B5e {H:A3} (hp:p≤H.length) (v:AV):U0 (E7 p g G H) (ren p g v) = (U0 H v).map (E7 p g G):= by
 have other:(Q6 (E7 p g G H) (ren p g v)).map (·.2) = ((Q6 H v).map (·.2)).map (E7 p g G):= by
  rw [A7q hG hp]
  cases Q6 H v <;> rfl
 cases v with
 | ptr b off =>
  simp only [ren,U0,A2w hG hp]
  cases T1 H b with
  | none=>rfl
  | some cs =>
   simp only [Option.map_some,A7r hG cs hp]
   cases e:S3 H cs with
   | none=>rfl
   | some r =>
    have hp':p≤r.2.length:= by rw [A3p e]; exact hp
    simp only [Option.map_some,A2w hG hp']
    cases T1 r.2 b with
    | none=>rfl
    | some cs1=>simp only [Option.map_some,← M9 hG hp',L3]
 | _=>first | exact other | (simp only [ren] at other; simp only [ren,U0]; exact other)
theorem A9t (s:B4):∀(l:List Nat) {H:A3} (hp:p≤H.length),publish (N9 p g s) (E7 p g G H) l = (publish s H l).map (E7 p g G)∧∀ H',publish s H l = some H'→H'.length = H.length
 | [],H,hp=>⟨rfl,fun H' h=>by simp only [publish,Option.some.injEq] at h; subst h; rfl⟩
 | t :: l,H,hp=>by
  simp only [publish,A35]
  cases sget s t with
  | none=>exact ⟨rfl,fun H' h=>by cases h⟩
  | some v =>
   simp only [Option.map_some,B5e hG hp]
   cases e:U0 H v with
   | none=>exact ⟨rfl,fun H' h=>by cases h⟩
   | some r =>
    have hl:=B5d e
    obtain ⟨h1,h2⟩:=A9t s l (H:=r) (by rw [hl]; exact hp)
    exact ⟨h1,fun H' h=>by rw [h2 H' h,hl]⟩
theorem B1v {H:A3} (hp:p≤H.length) (v:AV):pubbed (E7 p g G H) (ren p g v) = pubbed H v:= by
 cases v with
 | asl b n=>simp only [ren,pubbed,A2f hG hp]; cases harr H b <;> rfl
 | _=>simp [ren,pubbed]
theorem B50 {H:A3} (hp:p≤H.length) (v:AV):O8 (E7 p g G H) (ren p g v) = O8 H v:= by
 cases v with
 | agg cs =>
  simp only [ren,O8,N3,List.all_map]
  congr 1; funext x; exact B1v hG hp x
 | asl b n=>have:=B1v hG hp (.asl b n); simpa [ren,O8] using this
 | _=>simp [ren,O8,pubbed]
omit hG
theorem B6g (o:AO):(L3 p g o).toRo = L3 p g o.toRo:= by
 cases o <;> simp [L3,AO.toRo]
theorem C3l (H:A3):(E7 p g G H).map AO.toRo = E7 p g (G.map AO.toRo) (H.map AO.toRo):= by
 unfold E7
 simp only [List.map_append,List.map_map,List.map_take,List.map_drop]
 congr 2
 ·congr 1; funext o; exact B6g o
 ·congr 2; funext o; exact B6g o
theorem A5k (hG:G.length = g) (s:B4) {H:A3} (hp:p≤H.length):∀l:List ARes,results (N9 p g s) (E7 p g G H) l = (results s H l).map (renL p g)
 | []=>by simp [results,renL]
 | .tmp t :: l=>by
  simp only [results,A35,A5k hG s hp l]
  cases sget s t with
  | none=>rfl
  | some v=>cases results s H l <;> simp [renL]
 | .cell t k :: l=>by
  simp only [results,A5k hG s hp l]
  have h1:prim ⟨0,[]⟩ 0 (N9 p g s) (E7 p g G H) (.load k (.t t)) = prim ⟨0,[]⟩ (p + g) (N9 p g s) (E7 p g G H) (.load k (.t t)):= by cases k <;> rfl
  have h2:prim ⟨0,[]⟩ 0 s H (.load k (.t t)) = prim ⟨0,[]⟩ p s H (.load k (.t t)):= by cases k <;> rfl
  rw [h1,h2]
  have:=B5z hG (c:=⟨0,[]⟩) (c':=⟨0,[]⟩) ⟨.inl ⟨Nat.zero_le _,rfl⟩,.nil⟩ (Nat.le_refl p) hp s (.load k (.t t))
  simp only [I4,E1] at this
  rw [this]
  cases prim ⟨0,[]⟩ p s H (.load k (.t t)) with
  | none=>rfl
  | some r=>cases results s H l <;> simp [renL,ren2]
theorem A7i:∀(l:List AV) (i:Nat),L6 i (renL p g l) = N9 p g (L6 i l)
 | [],i=>by simp [renL,L6,N9]
 | v :: l,i=>by simp only [renL,L6,A7i l,N9,List.map_cons]
theorem A0n (s:B4):∀l:List Nat,restrict (N9 p g s) l = N9 p g (restrict s l)
 | []=>rfl
 | t :: l=>by
  simp only [restrict,A35,A0n s l]
  cases sget s t <;> rfl
theorem B2z {B B':Nat} (h:ScB p g B B'):∀s:B4,A0e B' (N9 p g s) = A0e B s
 | []=>rfl
 | x :: s=>by simp only [N9,List.map_cons,A0e,bd_ren h]; rw [← N9,B2z h s]
theorem B8b {H:A3} (hp:p≤H.length) (l:List AO):E7 p g G (H++l) = E7 p g G H++l.map (L3 p g):= by
 unfold E7
 rw [List.take_append_of_le_length hp,List.drop_append_of_le_length hp]
 simp only [List.map_append,List.append_assoc]
theorem B53 (a b:List AV):renL p g (a++b) = renL p g a++renL p g b:= by simp only [N3,List.map_append]
structure RenM (p g:Nat) (M:Mach):Prop where
 call:∀{G:A3},G.length = g→∀ {c c':Sc} {H:A3} {f:AV} {aq rs:List AV} {H':A3},ScR p g c c'→p≤H.length→M.call c H f aq = some (rs,H')→M.call c' (E7 p g G H) (ren p g f) (renL p g aq) = some (renL p g rs,E7 p g G H')∧p≤H'.length
 code:∀{G:A3},G.length = g→∀ {ac:ACode} {st:St} {e:Ex} {st':St} {c':Sc},ScR p g st.c c'→p≤st.H.length→M.code ac st = some (e,st') →
  M.code (I7 p g ac) ⟨N9 p g st.s,E7 p g G st.H,c'⟩ = some (e,⟨N9 p g st'.s,E7 p g G st'.H,c'⟩)∧p≤st'.H.length∧st'.c = st.c
theorem C1g {c:Sc} {n0:Nat} {s:B4} {H:A3} {op:AOp} {r:AV × A3} (h:prim c n0 s H op = some r):r.2.length = H.length:= by
 cases op
 case alloc zs owns q=>simp only [prim,Option.some.injEq] at h; subst h; simp only [I5,A5r]
 case nil=>simp only [prim,Option.some.injEq] at h; subst h; exact I5 ..
 case mkmap=>simp only [prim,Option.some.injEq] at h; subst h; exact I5 ..
 case call=>cases h
 case mv=>simp only [prim,Option.map_eq_some_iff] at h; obtain ⟨_,_,rfl⟩:=h; rfl
 case build=>simp only [prim,Option.bind_eq_some_iff,Option.map_eq_some_iff] at h; obtain ⟨_,_,_,_,rfl⟩:=h; rfl
 case xlits=>simp only [prim,Option.bind_eq_some_iff,Option.map_eq_some_iff] at h; obtain ⟨_,_,_,_,rfl⟩:=h; rfl
 case lits k z n parts own =>
  simp only [prim,Option.bind_eq_some_iff] at h
  obtain ⟨_,_,_,_,h⟩:=h
  split at h
  ·cases own <;> simp only [Option.some.injEq] at h <;> subst h
   ·rfl
   ·exact I5 ..
  ·cases h
 case load k a =>
  cases k <;> simp only [prim] at h
  ·split at h
   ·split at h
    ·simp only [Option.some.injEq] at h; subst h; rfl
    ·cases h
   ·cases h
  ·split at h
   ·split at h
    ·split at h
     ·simp only [Option.some.injEq] at h; subst h; rfl
     ·cases h
    ·cases h
   ·cases h
 case storeN a k r =>
  simp only [prim] at h
  split at h
  ·split at h
   ·split at h
    ·simp only [Option.some.injEq] at h; subst h; simp only [I5]
    ·cases h
   ·cases h
  ·cases h
 case store k a v =>
  simp only [prim] at h
  split at h
  ·split at h
   ·split at h
    ·simp only [Option.some.injEq] at h; subst h; exact I5 ..
    ·cases h
   ·cases h
  ·split at h
   ·cases h
   ·next e1 =>
    have hl:=A3p e1
    split at h
    ·split at h
     ·split at h
      ·simp only [Option.some.injEq] at h; subst h; simp only [I5]; exact hl
      ·cases h
     ·cases h
    ·cases h
  ·cases h
 case mvz x =>
  simp only [prim] at h
  split at h
  ·exact A47 h
  ·cases h
 case sliceL kk x lo hi =>
  simp only [prim] at h
  split at h
  ·split at h
   ·next e1 =>
    have hl:=A47 e1
    split at h
    ·split at h
     ·simp only [Option.some.injEq] at h; subst h; exact hl
     ·cases h
    ·cases h
   ·cases h
  ·cases h
 all_goals
  simp only [prim] at h
  repeat' split at h
  all_goals first
   | (cases h; done)
   | (simp only [Option.some.injEq] at h; subst h; first | rfl | exact I5 .. | (simp only [I5]; done))
   | (simp only [Option.map_eq_some_iff] at h; obtain ⟨_,_,rfl⟩:=h; first | rfl | exact I5 ..)
theorem B6s {M:Mach} (hM:RenM p g M) (hG:G.length = g) {c c':Sc} (hc:ScR p g c c') {n0:Nat} (hn:p≤n0) {s:B4} {H:A3} (hp:p≤H.length) {f:Opd} {args:List Opd} {own:List (List (Nat × Nat))} {pure:Bool} {r:AV × A3} (h:Q8 M c n0 s H f args own pure = some r) :
  Q8 M c' (n0 + g) (N9 p g s) (E7 p g G H) (E1 p g f) (args.map (E1 p g)) own pure = some (ren2 p g G r)∧p≤r.2.length:= by
 unfold Q8 at h ⊢
 rw [H7,B0c]
 split at h
 ·next fv aq e1 e2 =>
  simp only [e1,e2,Option.map_some]
  cases pure with
  | true =>
   simp only [if_true] at h ⊢
   have e0:(renL p g aq).all (O8 (E7 p g G H)) = aq.all (O8 H):= by
    rw [N3,List.all_map]; congr 1; funext v; exact B50 hG hp v
   rw [e0]
   split at h
   ·next h0 =>
    simp only [h0,if_true]
    rw [A8u hG aq hp]
    split at h
    ·cases h
    ·next as' H1 e3 =>
     simp only [e3,Option.map_some]
     split at h
     ·cases h
     ·next rs H2 e4 =>
      have:=hM.call (G:=G.map AO.toRo) (by simpa using hG) hc (by simpa using hp) e4
      rw [C3l,this.1]
      simp only
      rw [A04 hG hp,bdL_ren (.inr (.inl ⟨hp,rfl⟩))]
      split at h
      ·next h5 =>
       simp only [h5,if_true]
       simp only [Option.some.injEq] at h; subst h
       rw [B06 hG hn rs own hp]
       exact ⟨by simp only [B1t],by rw [B05]; exact hp⟩
      ·cases h
   ·cases h
  | false =>
   simp only [Bool.false_eq_true,if_false] at h ⊢
   rw [A8u hG aq hp]
   split at h
   ·cases h
   ·next as' H1 e3 =>
    have hl:=B29 e3
    simp only at hl
    simp only [e3,Option.map_some]
    split at h
    ·cases h
    ·next rs H2 e4 =>
     have:=hM.call hG hc (by rw [hl]; exact hp) e4
     rw [this.1]
     simp only [Option.some.injEq] at h; subst h
     simp only
     rw [B06 hG hn rs own this.2]
     exact ⟨by simp only [B1t],by rw [B05]; exact this.2⟩
 ·cases h
theorem B94 {M:Mach} (hM:RenM p g M) (hG:G.length = g) {c c':Sc} (hc:ScR p g c c') {n0:Nat} (hn:p≤n0) {s:B4} {H:A3} (hp:p≤H.length) {op:AOp} {r:AV × A3} (h:core M c n0 s H op = some r) :
  core M c' (n0 + g) (N9 p g s) (E7 p g G H) (I4 p g op) = some (ren2 p g G r)∧p≤r.2.length:= by
 have hk:(∃ f args own pure,op = .call f args own pure)∨((∀ (M:Mach) (c:Sc) (n0:Nat) (s:B4) (H:A3),core M c n0 s H op = prim c n0 s H op)∧∀ (M:Mach) (c:Sc) (n0:Nat) (s:B4) (H:A3),core M c n0 s H (I4 p g op) = prim c n0 s H (I4 p g op)):= by
  cases op <;> first
   | exact .inl ⟨_,_,_,_,rfl⟩
   | exact .inr ⟨fun _ _ _ _ _=>rfl,fun _ _ _ _ _=>rfl⟩
 rcases hk with ⟨f,args,own,pure,rfl⟩ | ⟨h1,h2⟩
 ·exact B6s hM hG hc hn hp h
 ·rw [h1] at h
  rw [h2,B5z hG hc hn hp s op,h]
  exact ⟨rfl,by rw [C1g h]; exact hp⟩
theorem C04 {M:Mach} (hM:RenM p g M) (hG:G.length = g) {c c':Sc} (hc:ScR p g c c') {n0:Nat} (hn:p≤n0) {s:B4} {H:A3} (hp:p≤H.length) {hc0:List (Option (List Nat))} {o:AOper} {s1:B4} {H1:A3} {hc1:List (Option (List Nat))} (h:oper M c n0 s H hc0 o = some (s1,H1,hc1)) :
  oper M c' (n0 + g) (N9 p g s) (E7 p g G H) (hcR p g hc0) (U4 p g o) = some (N9 p g s1,E7 p g G H1,hcR p g hc1)∧p≤H1.length:= by
 unfold oper at h ⊢
 have hw:wanted (N9 p g s) (U4 p g o).guard = wanted s o.guard:=B7s s o.guard
 have hwr:writes (U4 p g o).op = writes o.op:=B2h o.op
 rw [hw,C0d hG hn s hp o,B7n,hwr]
 split at h
 ·cases h
 ·next e0 =>
  simp only [Option.some.injEq,Prod.mk.injEq] at h
  obtain ⟨rfl,rfl,rfl⟩:=h
  try simp only [e0]
  refine ⟨?_,hp⟩
  have:sput (N9 p g s) (U4 p g o).dst (.tup []) = N9 p g (sput s o.dst (.tup [])):= by
   have:=B2a (p:=p) (g:=g) s o.dst (.tup []); simpa [ren,renL,U4] using this
  rw [this]
  cases writes o.op <;> rfl
 ·next e0 =>
  try simp only [e0]
  split at h
  ·next hs e1 e2 =>
   simp only [e1,e2,Option.map_some]
   obtain ⟨k1,k2⟩:=B02 hG hp hs
   rw [k1]
   split at h
   ·next r e3 =>
    obtain ⟨k3,k4⟩:=B94 hM hG hc hn (by rw [k2]; exact hp) e3
    have e4:(U4 p g o).op = I4 p g o.op:=rfl
    rw [e4,k3]
    simp only
    have hE:(hs.map (rb p g)).isEmpty = hs.isEmpty:= by cases hs <;> rfl
    have hL:Nat.ble (E7 p g G H).length (E7 p g G r.2).length = Nat.ble H.length r.2.length:= by
     rw [A04 hG hp,A04 hG k4]
     cases h1:Nat.ble H.length r.2.length with
     | true=>exact Nat.ble_eq_true_of_le (by have:=Nat.le_of_ble_eq_true h1; omega)
     | false =>
      cases h2:Nat.ble (H.length + g) (r.2.length + g) with
      | false=>rfl
      | true =>
       have:=Nat.le_of_ble_eq_true h2
       have:=Nat.ble_eq_true_of_le (show H.length≤r.2.length by omega)
       rw [h1] at this; cases this
    rw [hE,hL]
    split at h
    ·next h5 =>
     simp only [h5,if_true]
     simp only [Option.some.injEq,Prod.mk.injEq] at h
     obtain ⟨rfl,rfl,rfl⟩:=h
     obtain ⟨k5,k6⟩:=B2d hG hp k4 hs
     refine ⟨?_,by rw [k6]; exact k4⟩
     rw [k5]
     have:sput (N9 p g s) (U4 p g o).dst (ren2 p g G r).1 = N9 p g (sput s o.dst r.1):=B2a s o.dst r.1
     rw [this]
     cases writes o.op <;> rfl
    ·cases h
   ·cases h
  ·cases h
theorem B3p {M:Mach} (hM:RenM p g M) (hG:G.length = g) {c c':Sc} (hc:ScR p g c c') {n0:Nat} (hn:p≤n0):∀{l:List AOper} {s:B4} {H:A3} (hp:p≤H.length) {hc0:List (Option (List Nat))} {s1:B4} {H1:A3},opers M c n0 l s H hc0 = some (s1,H1) →
  opers M c' (n0 + g) (l.map (U4 p g)) (N9 p g s) (E7 p g G H) (hcR p g hc0) = some (N9 p g s1,E7 p g G H1)∧p≤H1.length
 | [],s,H,hp,hc0,s1,H1,h=>by
  simp only [opers,Option.some.injEq,Prod.mk.injEq] at h
  obtain ⟨rfl,rfl⟩:=h
  exact ⟨rfl,hp⟩
 | o :: l,s,H,hp,hc0,s1,H1,h=>by
  simp only [opers,List.map_cons] at h ⊢
  split at h
  ·cases h
  ·next s2 H2 hc2 e1 =>
   obtain ⟨k1,k2⟩:=C04 hM hG hc hn hp e1
   simp only [k1]
   exact B3p hM hG hc hn k2 h
theorem B4a {M:Mach} (hM:RenM p g M) (hG:G.length = g) {ac:ACode} {st:St} {e:Ex} {st':St} {c':Sc} (hc:ScR p g st.c c') (hp:p≤st.H.length) (h:E3 M st ac = some (e,st')) :
  E3 M ⟨N9 p g st.s,E7 p g G st.H,c'⟩ (I7 p g ac) = some (e,⟨N9 p g st'.s,E7 p g G st'.H,c'⟩)∧p≤st'.H.length∧st'.c = st.c:= by
 cases ac with
 | skip=>simp only [E3,Option.some.injEq,Prod.mk.injEq] at h; obtain ⟨rfl,rfl⟩:=h; exact ⟨rfl,hp,rfl⟩
 | exit id=>simp only [E3,Option.some.injEq,Prod.mk.injEq] at h; obtain ⟨rfl,rfl⟩:=h; exact ⟨rfl,hp,rfl⟩
 | ret=>simp only [E3,Option.some.injEq,Prod.mk.injEq] at h; obtain ⟨rfl,rfl⟩:=h; exact ⟨rfl,hp,rfl⟩
 | scope a=>exact hM.code hG hc hp h
 | region d nres pre ops live =>
  simp only [E3,I7] at h ⊢
  obtain ⟨k1,k2⟩:=A9t hG st.s pre hp
  rw [k1]
  split at h
  ·next H e1 =>
   have hl:=k2 H e1
   simp only [e1,Option.map_some]
   split at h
   ·next r e2 =>
    simp only [Option.some.injEq,Prod.mk.injEq] at h
    obtain ⟨rfl,rfl⟩:=h
    have hp':p≤H.length:= by rw [hl]; exact hp
    have:=B3p hM hG hc (n0:=H.length) hp' (by simp; omega) e2
    rw [B8b hp',List.map_replicate] at this
    rw [A04 hG hp']
    simp only [L3,hcR,List.map_nil] at this
    rw [this.1]
    exact ⟨by simp only [A0n],this.2,rfl⟩
   ·cases h
  ·cases h
 | seq a b =>
  simp only [E3,I7] at h ⊢
  cases h1:M.code a st with
  | none=>simp [h1] at h
  | some q =>
   obtain ⟨e1,st1⟩:=q
   obtain ⟨k1,k2,k3⟩:=hM.code hG hc hp h1
   rw [h1] at h
   rw [k1]
   cases e1 with
   | normal =>
    simp only at h ⊢
    obtain ⟨k4,k5,k6⟩:=hM.code hG (c':=c') (by rw [k3]; exact hc) k2 h
    exact ⟨k4,k5,k6.trans k3⟩
   | exit id=>simp only [Option.some.injEq,Prod.mk.injEq] at h; obtain ⟨rfl,rfl⟩:=h; exact ⟨rfl,k2,k3⟩
   | ret=>simp only [Option.some.injEq,Prod.mk.injEq] at h; obtain ⟨rfl,rfl⟩:=h; exact ⟨rfl,k2,k3⟩
 | cond x a b =>
  simp only [E3,I7,H7] at h ⊢
  split at h
  ·next e1=>simp only [e1,Option.map_some,ren]; exact hM.code hG hc hp h
  ·next e1=>simp only [e1,Option.map_some,ren]; exact hM.code hG hc hp h
  ·cases h
 | block id a =>
  simp only [E3,I7] at h ⊢
  cases h1:M.code a st with
  | none=>simp [h1] at h
  | some q =>
   obtain ⟨e1,st1⟩:=q
   obtain ⟨k1,k2,k3⟩:=hM.code hG hc hp h1
   rw [h1] at h
   rw [k1]
   cases e1 with
   | exit j =>
    simp only at h ⊢
    split at h
    ·next hj=>simp only [hj,if_true]; simp only [Option.some.injEq,Prod.mk.injEq] at h; obtain ⟨rfl,rfl⟩:=h; exact ⟨rfl,k2,k3⟩
    ·next hj=>simp only [hj]; simp only [Option.some.injEq,Prod.mk.injEq] at h; obtain ⟨rfl,rfl⟩:=h; exact ⟨rfl,k2,k3⟩
   | normal=>simp only [Option.some.injEq,Prod.mk.injEq] at h; obtain ⟨rfl,rfl⟩:=h; exact ⟨rfl,k2,k3⟩
   | ret=>simp only [Option.some.injEq,Prod.mk.injEq] at h; obtain ⟨rfl,rfl⟩:=h; exact ⟨rfl,k2,k3⟩
 | loop tr live body =>
  simp only [E3,I7] at h ⊢
  rw [A04 hG hp,A0n]
  have hcb:ScR p g (if tr then { s:=restrict st.s live,H:=st.H,c:=⟨st.H.length,st.c.cur :: st.c.outer⟩ } else { st with s:=restrict st.s live }:St).c (if tr then ⟨st.H.length + g,c'.cur :: c'.outer⟩ else c'):= by
   cases tr with
   | true=>exact ⟨.inr (.inl ⟨hp,rfl⟩),.cons hc.cur hc.outer⟩
   | false=>exact hc
  cases h1:M.code body (if tr then { s:=restrict st.s live,H:=st.H,c:=⟨st.H.length,st.c.cur :: st.c.outer⟩ } else { st with s:=restrict st.s live }) with
  | none=>simp [h1] at h
  | some q =>
   obtain ⟨e1,st1⟩:=q
   obtain ⟨k1,k2,k3⟩:=hM.code hG hcb (by cases tr <;> exact hp) h1
   rw [h1] at h
   have k1':M.code (I7 p g body) (if tr then { s:=N9 p g (restrict st.s live),H:=E7 p g G st.H,c:=⟨st.H.length + g,c'.cur :: c'.outer⟩ } else { s:=N9 p g (restrict st.s live),H:=E7 p g G st.H,c:=c' }) = some (e1,⟨N9 p g st1.s,E7 p g G st1.H,if tr then ⟨st.H.length + g,c'.cur :: c'.outer⟩ else c'⟩):= by
    cases tr with
    | true=>simpa using k1
    | false=>simpa using k1
   rw [k1']
   cases e1 with
   | normal =>
    simp only [A0n] at h ⊢
    cases tr with
    | true =>
     simp only [if_true] at h ⊢
     rw [B2z (.inr (.inl ⟨hp,rfl⟩))]
     split at h
     ·next h5 =>
      simp only [h5,if_true]
      rw [B5m k2 hp hG]
      have:=hM.code hG (ac:=.loop true live body) (st:={ s:=restrict st1.s live,H:=st1.H.take st.H.length,c:=st.c }) (c':=c') hc (by rw [List.length_take]; omega) h
      exact this
     ·cases h
    | false =>
     simp only [Bool.false_eq_true,if_false] at h ⊢
     exact hM.code hG (ac:=.loop false live body) (st:={ s:=restrict st1.s live,H:=st1.H,c:=st.c }) (c':=c') hc k2 h
   | exit id=>simp only [Option.some.injEq,Prod.mk.injEq] at h; obtain ⟨rfl,rfl⟩:=h; exact ⟨rfl,k2,rfl⟩
   | ret=>simp only [Option.some.injEq,Prod.mk.injEq] at h; obtain ⟨rfl,rfl⟩:=h; exact ⟨rfl,k2,rfl⟩
 | rangeFunc f ps live assign body =>
  simp only [E3,I7,H7,A0n] at h ⊢
  split at h
  ·next i fa fc e1 =>
   simp only [e1,Option.map_some,ren,A8b]
   split at h
   ·next rs H' e2 =>
    have:=hM.call hG hc (by simp; omega) e2
    rw [B8b hp] at this
    simp only [List.map_cons,List.map_nil,L3,ren,A8b,renL] at this
    rw [A1f hp] at this
    rw [A04 hG hp,this.1]
    simp only
    have hg:hget (E7 p g G H') (st.H.length + g) = (hget H' st.H.length).map (L3 p g):= by rw [← A1f (g:=g) hp]; exact V1 hG this.2 _
    have hs:hset (E7 p g G H') (st.H.length + g) .dead = E7 p g G (hset H' st.H.length .dead):= by rw [← A1f (g:=g) hp,← M9 hG this.2]; simp only [L3]
    rw [hg,hs]
    split at h
    ·next e3 =>
     simp only [e3,Option.map_some,L3]
     simp only [Option.some.injEq,Prod.mk.injEq] at h; obtain ⟨rfl,rfl⟩:=h
     exact ⟨rfl,by rw [I5]; exact this.2,rfl⟩
    ·next e3 =>
     simp only [e3,Option.map_some,L3]
     simp only [Option.some.injEq,Prod.mk.injEq] at h; obtain ⟨rfl,rfl⟩:=h
     exact ⟨rfl,by rw [I5]; exact this.2,rfl⟩
    ·cases h
   ·cases h
  ·cases h
theorem B1x:∀(l:List (Nat × AV)) (s:B4),(l.map fun x=>(x.1,ren p g x.2)).foldl (fun s x=>sput s (some x.1) x.2) (N9 p g s) = N9 p g (l.foldl (fun s x=>sput s (some x.1) x.2) s)
 | [],s=>rfl
 | x :: l,s=>by
  simp only [List.map_cons,List.foldl_cons,B2a]
  exact B1x l _
theorem A4a {T:Tab} (hT:∀i af,T i = some af→I7 p g af.body = af.body) {M:Mach} (hM:RenM p g M) (hG:G.length = g) {c c':Sc} {H:A3} {f:AV} {aq rs:List AV} {H':A3} (hc:ScBs p g (c.cur :: c.outer) (c'.cur :: c'.outer)) (hp:p≤H.length) (h:L8 T M c H f aq = some (rs,H')) :
  L8 T M c' (E7 p g G H) (ren p g f) (renL p g aq) = some (renL p g rs,E7 p g G H')∧p≤H'.length:= by
 have hcb:ScR p g ⟨H.length,c.cur :: c.outer⟩ ⟨(E7 p g G H).length,c'.cur :: c'.outer⟩:=⟨.inr (.inl ⟨hp,A04 hG hp⟩),hc⟩
 unfold L8 at h
 split at h
 ·next i first cap =>
  simp only [ren,A8b]
  unfold L8
  simp only
  split at h
  ·cases h
  ·next af e1 =>
   try simp only [e1]
   try simp only at h
   have e2:renL p g first++renL p g aq++renL p g cap = renL p g (first++aq++cap):= by rw [B53,B53]
   rw [e2,T6]
   split at h
   ·next h5 =>
    simp only [h5,if_true]
    have fin:∀e1 st,(e1 = Ex.normal∨e1 = Ex.ret)→M.code af.body { s:=L6 0 (first++aq++cap),H,c:=⟨H.length,c.cur :: c.outer⟩ } = some (e1,st)→(match results st.s st.H af.results with
      | none=>none
      | some rs=>match Q7 H.length st.H rs with
       | none=>none
       | some (rs,H')=>some (rs,trunc H.length rs H')) = some (rs,H') →
      M.code af.body { s:=L6 0 (renL p g (first++aq++cap)),H:=E7 p g G H,c:=⟨(E7 p g G H).length,c'.cur :: c'.outer⟩ } = some (e1,⟨N9 p g st.s,E7 p g G st.H,⟨(E7 p g G H).length,c'.cur :: c'.outer⟩⟩)∧(match results (N9 p g st.s) (E7 p g G st.H) af.results with
      | none=>none
      | some rs=>match Q7 (E7 p g G H).length (E7 p g G st.H) rs with
       | none=>none
       | some (rs,H')=>some (rs,trunc (E7 p g G H).length rs H')) = some (renL p g rs,E7 p g G H')∧p≤H'.length:= by
     intro e1 st _ h1 h2
     obtain ⟨k1,k2,k3⟩:=hM.code hG hcb hp h1
     rw [hT _ _ ‹_›] at k1
     rw [A7i]
     refine ⟨k1,?_⟩
     rw [A5k hG st.s k2]
     split at h2
     ·cases h2
     ·next rs0 e3 =>
      simp only [e3,Option.map_some]
      rw [B3t hG hcb.cur rs0 k2]
      split at h2
      ·cases h2
      ·next rs1 H1 e4 =>
       have hl:=B3s e4
       simp only [e4,Option.map_some]
       simp only [Option.some.injEq,Prod.mk.injEq] at h2
       obtain ⟨rfl,rfl⟩:=h2
       simp only at hl
       exact ⟨by rw [B3y hp (A04 hG hp) (by rw [hl]; exact k2) hG],B3x hp (by rw [hl]; exact k2) _⟩
    split at h
    ·next st e3=>obtain ⟨a,b,d⟩:=fin _ _ (.inl rfl) e3 h; rw [a]; exact ⟨b,d⟩
    ·next st e3=>obtain ⟨a,b,d⟩:=fin _ _ (.inr rfl) e3 h; rw [a]; exact ⟨b,d⟩
    ·cases h
   ·cases h
 ·next l =>
  simp only [ren,A8b,renL]
  unfold L8
  simp only
  rw [V1 hG hp]
  split at h
  ·next f0 s ps assign body e1 =>
   simp only [e1,Option.map_some,L3,T6]
   split at h
   ·next h5 =>
    simp only [h5,if_true]
    have ez:ps.zip (renL p g aq) = (ps.zip aq).map fun x=>(x.1,ren p g x.2):= by
     rw [N3,List.zip_map_right]; rfl
    rw [ez,B1x]
    split at h
    ·next st e2 =>
     obtain ⟨k1,k2,k3⟩:=hM.code hG hcb hp e2
     simp only at k1
     rw [k1]
     simp only
     rw [V1 hG k2]
     split at h
     ·next f1 s1 ps1 a1 b1 e3 =>
      simp only [e3,Option.map_some,L3]
      split at h
      ·next e st2 e4 =>
       have hs:hset (E7 p g G st.H) (rb p g l) (.loop f1 (N9 p g s1) ps1 (I7 p g a1) (I7 p g b1) true none) = E7 p g G (hset st.H l (.loop f1 s1 ps1 a1 b1 true none)):= by
        rw [← M9 hG k2]; simp only [L3]
       obtain ⟨k4,k5,k6⟩:=hM.code hG (st:={ st with H:=hset st.H l (.loop f1 s1 ps1 a1 b1 true none) }) (by rw [show ({ st with H:=hset st.H l (.loop f1 s1 ps1 a1 b1 true none) }:St).c = st.c from rfl,k3]; exact hcb) (by rw [I5]; exact k2) e4
       simp only at k4
       rw [hs,k4]
       simp only
       rw [V1 hG k5]
       split at h
       ·next f2 s2 ps2 a2 b2 e5 =>
        simp only [e5,Option.map_some,L3]
        simp only [Option.some.injEq,Prod.mk.injEq] at h
        obtain ⟨rfl,rfl⟩:=h
        have hs2:∀pend,hset (E7 p g G st2.H) (rb p g l) (.loop f2 (N9 p g s2) ps2 (I7 p g a2) (I7 p g b2) false pend) = E7 p g G (hset st2.H l (.loop f2 s2 ps2 a2 b2 false pend)):= by
         intro pend; rw [← M9 hG k5]; simp only [L3]
        rw [hs2]
        refine ⟨?_,B3x hp (by rw [I5]; exact k5) _⟩
        have ht:∀pend,trunc (E7 p g G H).length [] (E7 p g G (hset st2.H l (.loop f2 s2 ps2 a2 b2 false pend))) = E7 p g G (trunc H.length [] (hset st2.H l (.loop f2 s2 ps2 a2 b2 false pend))):= by
         intro pend
         have:=B3y (p:=p) (g:=g) hp (A04 hG hp) (H:=hset st2.H l (.loop f2 s2 ps2 a2 b2 false pend)) (by rw [I5]; exact k5) hG []
         simp only [renL] at this
         exact this
        rw [ht]
        cases e <;> simp [renL,ren]
       ·cases h
      ·cases h
     ·cases h
    ·cases h
   ·cases h
  ·cases h
 ·cases h
theorem B1a {T:Tab} (hT:∀i af,T i = some af→I7 p g af.body = af.body):∀n,RenM p g (mach T n)
 | 0=>by
  constructor
  ·intros; rename_i h; simp [mach] at h
  ·intros; rename_i h; simp [mach] at h
 | n + 1=>by
  have ih:=B1a hT n
  constructor
  ·intro G hG c c' H f aq rs H' hc hp h
   rw [R2] at h ⊢
   exact A4a hT ih hG (.cons hc.cur hc.outer) hp h
  ·intro G hG ac st e st' c' hc hp h
   rw [R3] at h ⊢
   exact B4a ih hG hc hp h
end
mutual
def AV.free:AV→Bool
 | .lit _ | .nils _ | .undef=>true
 | .seq _ rows | .fresh _ rows | .xseq _ rows=>freeR rows
 | .agg cs | .tup cs | .cptr cs=>freeL cs
 | _=>false
def freeL:List AV→Bool
 | []=>true
 | v :: l=>v.free && freeL l
def freeR:List (List AV)→Bool
 | []=>true
 | r :: l=>freeL r && freeR l
end
mutual
theorem ren_free {p g:Nat}:(v:AV)→v.free = true→ren p g v = v
 | .lit _,_ | .nils _,_ | .undef,_=>by simp only [ren]
 | .seq _ rows,h | .fresh _ rows,h | .xseq _ rows,h=>by simp only [AV.free] at h; simp only [ren,renR_free rows h]
 | .agg cs,h | .tup cs,h | .cptr cs,h=>by simp only [AV.free] at h; simp only [ren,renL_free cs h]
 | .ptr _ _,h | .itr _,h | .eptr _ _ _ _,h | .asl _ _,h | .csl _ _ _ _,h | .mp _,h | .fn _ _ _,h=>by simp [AV.free] at h
theorem renL_free {p g:Nat}:(l:List AV)→freeL l = true→renL p g l = l
 | [],_=>by simp only [renL]
 | v :: l,h=>by
  simp only [freeL,Bool.and_eq_true] at h
  simp only [renL,ren_free v h.1,renL_free l h.2]
theorem renR_free {p g:Nat}:(l:List (List AV))→freeR l = true→renR p g l = l
 | [],_=>by simp only [renR]
 | v :: l,h=>by
  simp only [freeR,Bool.and_eq_true] at h
  simp only [renR,renL_free v h.1,renR_free l h.2]
end
def Opd.free:Opd→Bool
 | .c v=>v.free
 | _=>true
def B71:Option Opd→Bool
 | some x=>x.free
 | none=>true
theorem F8 {p g:Nat} {x:Opd} (h:x.free = true):E1 p g x = x:= by
 cases x with
 | c v=>simp only [E1]; rw [ren_free v h]
 | _=>rfl
theorem R7 {p g:Nat} {x:Option Opd} (h:B71 x = true):A0l p g x = x:= by
 cases x with
 | none=>rfl
 | some x=>simp only [A0l]; rw [F8 h]
theorem A7z {p g:Nat} {l:List Opd} (h:l.all Opd.free = true):l.map (E1 p g) = l:= by
 induction l with
 | nil=>rfl
 | cons x l ih =>
  simp only [List.all_cons,Bool.and_eq_true] at h
  rw [List.map_cons,F8 h.1,ih h.2]
theorem B7c {p g:Nat} {l:List (Nat × Nat × Opd)} (h:(l.all fun q=>q.2.2.free) = true):l.map (fun q=>(q.1,q.2.1,E1 p g q.2.2)) = l:= by
 induction l with
 | nil=>rfl
 | cons x l ih =>
  simp only [List.all_cons,Bool.and_eq_true] at h
  rw [List.map_cons,F8 h.1,ih h.2]
theorem A9q {p g:Nat} {l:List (Nat × Opd)} (h:(l.all fun q=>q.2.free) = true):l.map (fun q=>(q.1,E1 p g q.2)) = l:= by
 induction l with
 | nil=>rfl
 | cons x l ih =>
  simp only [List.all_cons,Bool.and_eq_true] at h
  rw [List.map_cons,F8 h.1,ih h.2]
def C27:Fn→Bool
 | .func _=>true
 | _=>false
def AOp.free:AOp→Bool
 | .mv x | .mvz x | .storeN x _ _ | .box _ x _ | .load _ x | .nilck x | .un _ x | .conv _ x | .idc x | .nilq _ x | .fieldAddr _ x | .field _ _ x | .range x _ | .next x | .extract x _ | .lenS x | .lenL x | .lenM x=>x.free
 | .nil _ _ | .mkmap _=>true
 | .pick c a b=>c.free && a.free && b.free
 | .alloc zs _ _=>freeL zs
 | .build z parts=>freeL z && parts.all fun q=>q.2.2.free
 | .lits _ z _ parts _ | .xlits _ z _ parts=>freeL z && parts.all fun q=>q.2.free
 | .store _ a v | .bin _ a v | .beq _ a v | .cmp _ _ a v | .idxS _ a v | .idxA _ _ a v | .idxStr a v | .idxAgg _ _ _ a v | .append _ _ a v _ _ | .copy _ a v=>a.free && v.free
 | .mkfn f a c=>C27 f && a.all Opd.free && c.all Opd.free
 | .mkslice _ _ z l c _=>freeL z && l.free && c.free
 | .sliceS x lo hi | .sliceL _ x lo hi | .sliceQ _ x lo hi=>x.free && B71 lo && B71 hi
 | .lookup z _ _ x i _=>z.free && x.free && i.free
 | .mupd _ _ m k v=>m.free && k.free && v.free
 | .mm _ xs=>xs.all Opd.free
 | .cut _ x hi _ | .sliceA _ _ x hi=>x.free && B71 hi
 | .call f args _ _=>f.free && args.all Opd.free
theorem B9k {p g:Nat} {f:Fn} (h:C27 f = true):A8b p g f = f:= by cases f <;> first | rfl | cases h
theorem B7j {p g:Nat} {op:AOp} (h:op.free = true):I4 p g op = op:= by
 cases op <;> simp only [AOp.free,Bool.and_eq_true] at h <;> simp only [I4]
 case mkfn=>rw [B9k h.1.1,A7z h.1.2,A7z h.2]
 case alloc=>rw [renL_free _ h]
 case build=>rw [renL_free _ h.1,B7c h.2]
 case lits=>rw [renL_free _ h.1,A9q h.2]
 case xlits=>rw [renL_free _ h.1,A9q h.2]
 case mkslice=>rw [renL_free _ h.1.1,F8 h.1.2,F8 h.2]
 case lookup=>rw [ren_free _ h.1.1,F8 h.1.2,F8 h.2]
 case sliceS=>rw [F8 h.1.1,R7 h.1.2,R7 h.2]
 case sliceL=>rw [F8 h.1.1,R7 h.1.2,R7 h.2]
 case sliceQ=>rw [F8 h.1.1,R7 h.1.2,R7 h.2]
 case cut=>rw [F8 h.1,R7 h.2]
 case sliceA=>rw [F8 h.1,R7 h.2]
 case call=>rw [F8 h.1,A7z h.2]
 case mm=>rw [A7z h]
 all_goals first
  | rw [F8 h]
  | rw [F8 h.1,F8 h.2]
  | rw [F8 h.1.1,F8 h.1.2,F8 h.2]
def ACode.free:ACode→Bool
 | .region _ _ _ ops _=>ops.all fun o=>o.op.free
 | .seq a b=>a.free && b.free
 | .cond c a b=>c.free && (a.free && b.free)
 | .block _ a | .loop _ _ a | .scope a=>a.free
 | .rangeFunc f _ _ a b=>f.free && (a.free && b.free)
 | _=>true
theorem B9e {p g:Nat} {l:List AOper} (h:(l.all fun o=>o.op.free) = true):l.map (U4 p g) = l:= by
 induction l with
 | nil=>rfl
 | cons x l ih =>
  simp only [List.all_cons,Bool.and_eq_true] at h
  rw [List.map_cons,ih h.2]
  unfold U4; rw [B7j h.1]
theorem K8 {p g:Nat}:(ac:ACode)→ac.free = true→I7 p g ac = ac
 | .region _ _ _ ops _,h=>by simp only [ACode.free] at h; simp only [I7]; rw [B9e h]
 | .seq a b,h=>by simp only [ACode.free,Bool.and_eq_true] at h; simp only [I7,K8 a h.1,K8 b h.2]
 | .cond c a b,h=>by simp only [ACode.free,Bool.and_eq_true] at h; simp only [I7,F8 h.1,K8 a h.2.1,K8 b h.2.2]
 | .block _ a,h | .loop _ _ a,h | .scope a,h=>by simp only [ACode.free] at h; simp only [I7,K8 a h]
 | .rangeFunc f _ _ a b,h=>by simp only [ACode.free,Bool.and_eq_true] at h; simp only [I7,F8 h.1,K8 a h.2.1,K8 b h.2.2]
 | .skip,_ | .exit _,_ | .ret,_=>by simp only [I7]
def A5v (T:Tab):Prop:=∀ i af,T i = some af→af.body.free = true
def U7 (c:Sc) (H:A3):Bool:=(c.cur :: c.outer).all fun B=>Nat.ble B H.length
theorem B8p {g:Nat}:∀{l:List Nat},(l.all fun B=>Nat.ble B g) = true→ScBs 0 g [] l
 | [],_=>.nil
 | B :: l,h=>by
  simp only [List.all_cons,Bool.and_eq_true] at h
  exact .extra (fun b=>by rw [A1f (Nat.zero_le b)]; have:=Nat.le_of_ble_eq_true h.1; omega) (B8p h.2)
theorem C10 (G:A3) (g:Nat):E7 0 g G [] = G:= by simp [E7]
theorem O3.shift {T:Tab} (hT:A5v T) {i:Nat} {aq rs:List AV} (h:O3 T ⟨0,[]⟩ [] (.fn (.func i) [] []) aq rs []) (ha:freeL aq = true) (hr:freeL rs = true) {c:Sc} {H:A3} (hc:U7 c H = true):O3 T c H (.fn (.func i) [] []) aq rs H:= by
 obtain ⟨n,e⟩:=h
 cases n with
 | zero=>simp [mach] at e
 | succ n =>
  rw [R2] at e
  have:=(A4a (p:=0) (g:=H.length) (G:=H) (c:=⟨0,[]⟩) (c':=c) (fun i af h=>K8 _ (hT i af h)) (B1a (fun i af h=>K8 _ (hT i af h)) n) rfl (.drop (B8p hc)) (Nat.zero_le _) e).1
  rw [C10,renL_free _ ha,renL_free _ hr,ren] at this
  simp only [A8b,renL] at this
  exact ⟨n + 1,by rw [R2]; exact this⟩
def WP (T:Tab) (ac:ACode) (s:B4) (H:A3) (c:Sc) (Q:Ex→B4→A3→Prop):Prop :=
 ∀ S,Sub s S→∃ e S' s' H',I0 T ac ⟨S,H,c⟩ e ⟨S',H',c⟩∧Sub s' S'∧Q e s' H'
section
variable {T:Tab} {s:B4} {H:A3} {c:Sc} {Q Q':Ex→B4→A3→Prop}
def B9r (T:Tab) (b:ACode) (c:Sc) (Q:Ex→B4→A3→Prop):Ex→B4→A3→Prop
 | .normal,s,H=>WP T b s H c Q
 | e,s,H=>Q e s H
def B33 (id:Nat) (Q:Ex→B4→A3→Prop):Ex→B4→A3→Prop
 | .exit j,s,H=>bif Nat.beq j id then Q .normal s H else Q (.exit j) s H
 | e,s,H=>Q e s H
theorem A2a {ac:ACode} (h:WP T ac s H c Q) (k:∀e s' H',Q e s' H'→Q' e s' H'):WP T ac s H c Q':= by
 intro S hS
 obtain ⟨e,S',s',H',h1,h2,h3⟩:=h S hS
 exact ⟨e,S',s',H',h1,h2,k _ _ _ h3⟩
theorem C20 {ac:ACode} {Q1:Ex→B4→A3→Prop} (h:WP T ac s H c (fun e s' H'=>∃ s0,Sub s0 s'∧Q1 e s0 H')) (k:∀e s' H',Q1 e s' H'→Q e s' H'):WP T ac s H c Q:= by
 intro S hS
 obtain ⟨e,S',s',H',h1,h2,s0,h3,h4⟩:=h S hS
 exact ⟨e,S',s0,H',h1,h3.trans h2,k _ _ _ h4⟩
theorem C21 (h:Q .normal s H):WP T .skip s H c Q:=fun S hS=>⟨.normal,S,s,H,⟨1,rfl⟩,hS,h⟩
theorem C2z {id:Nat} (h:Q (.exit id) s H):WP T (.exit id) s H c Q:=fun S hS=>⟨.exit id,S,s,H,⟨1,rfl⟩,hS,h⟩
theorem C4j (h:Q .ret s H):WP T .ret s H c Q:=fun S hS=>⟨.ret,S,s,H,⟨1,rfl⟩,hS,h⟩
theorem B7t {a b:ACode} (h:WP T a s H c (B9r T b c Q)):WP T (.seq a b) s H c Q:= by
 intro S hS
 obtain ⟨e,S1,s1,H1,h1,h2,h3⟩:=h S hS
 cases e with
 | normal =>
  obtain ⟨e2,S2,s2,H2,h4,h5,h6⟩:=h3 S1 h2
  exact ⟨e2,S2,s2,H2,I0.seq rfl h1 h4,h5,h6⟩
 | exit id=>exact ⟨_,S1,s1,H1,I0.seqOut rfl rfl h1,h2,h3⟩
 | ret=>exact ⟨_,S1,s1,H1,I0.seqOut rfl rfl h1,h2,h3⟩
theorem B6l {x:Opd} {t:Bool} {a b:ACode} (h:ev s x = some (.lit (.bool t))) (ht:t = true) (k:WP T a s H c Q):WP T (.cond x a b) s H c Q:= by
 subst ht
 intro S hS
 obtain ⟨e,S1,s1,H1,h1,h2,h3⟩:=k S hS
 exact ⟨e,S1,s1,H1,I0.condT rfl (A03 hS h) h1,h2,h3⟩
theorem B6k {x:Opd} {t:Bool} {a b:ACode} (h:ev s x = some (.lit (.bool t))) (ht:t = false) (k:WP T b s H c Q):WP T (.cond x a b) s H c Q:= by
 subst ht
 intro S hS
 obtain ⟨e,S1,s1,H1,h1,h2,h3⟩:=k S hS
 exact ⟨e,S1,s1,H1,I0.condF rfl (A03 hS h) h1,h2,h3⟩
theorem C1o {id:Nat} {a:ACode} (h:WP T a s H c (B33 id Q)):WP T (.block id a) s H c Q:= by
 intro S hS
 obtain ⟨e,S1,s1,H1,h1,h2,h3⟩:=h S hS
 cases e with
 | normal=>exact ⟨_,S1,s1,H1,I0.block rfl rfl h1,h2,h3⟩
 | ret=>exact ⟨_,S1,s1,H1,I0.block rfl rfl h1,h2,h3⟩
 | exit j =>
  cases hb:Nat.beq j id with
  | true =>
   have:=Nat.eq_of_beq_eq_true hb
   subst this
   simp only [B33,hb,cond_true] at h3
   exact ⟨.normal,S1,s1,H1,I0.blockExit rfl h1,h2,h3⟩
  | false =>
   simp only [B33,hb,cond_false] at h3
   exact ⟨.exit j,S1,s1,H1,I0.block rfl (by simp only [Ex.not,hb,Bool.not_false]) h1,h2,h3⟩
theorem C1q {a:ACode} (h:WP T a s H c Q):WP T (.scope a) s H c Q:= by
 intro S hS
 obtain ⟨e,S1,s1,H1,h1,h2,h3⟩:=h S hS
 exact ⟨e,S1,s1,H1,I0.scope rfl h1,h2,h3⟩
def B5r {σ ρ:Type} (b:σ→Option (σ ⊕ ρ)) (n:Nat):σ→Option ρ :=
 Nat.rec (fun _=>none) (fun _ ih s=>match b s with
  | some (.inl s')=>ih s'
  | some (.inr r)=>some r
  | none=>none) n
def loop {σ ρ:Type} (b:σ→Option (σ ⊕ ρ)) (s:σ):Option ρ:=B5r b 9223372036854775808 s
theorem B08 {σ ρ:Type} (b:σ→Option (σ ⊕ ρ)) (n:Nat) (s:σ):B5r b (n + 1) s = match b s with
  | some (.inl s')=>B5r b n s'
  | some (.inr r)=>some r
  | none=>none:=rfl
theorem M0:∀{s:B4} {live:List Nat} (_:s.map (·.1) = live) (_:live.Nodup) {S:B4} (_:Sub s S),restrict S live = s
 | [],_,h,_,S,_=>by subst h; rfl
 | (t,v) :: s,_,h,hn,S,hS=>by
  subst h
  simp only [List.map_cons,List.nodup_cons] at hn ⊢
  have h1:sget S t = some v:=hS t v (by simp [K5,I8])
  have h2:Sub s S:= by
   intro u w hu
   refine hS u w ?_
   simp only [K5,I8]
   cases hb:Nat.beq t u with
   | false=>exact hu
   | true =>
    have:=Nat.eq_of_beq_eq_true hb
    subst this
    exfalso
    apply hn.1
    have:∀{s:B4} {u:Nat} {w:AV},sget s u = some w→u ∈ s.map (·.1):= by
     intro s
     induction s with
     | nil=>intro u w h; simp [K5,I8] at h
     | cons x s ih =>
      intro u w h
      simp only [K5,I8] at h
      cases hb:Nat.beq x.1 u with
      | true=>simp [(Nat.eq_of_beq_eq_true hb).symm]
      | false=>rw [hb] at h; simp only [List.map_cons,List.mem_cons]; exact .inr (ih h)
    exact this hu
  simp only [restrict,h1]
  rw [M0 rfl hn.2 h2]
def B9q {γ σ ρ:Type} (tr:Bool) (st:σ→B4) (hp:γ→σ→A3) (N:Nat) (P:ρ→Ex→B4→A3→Prop):σ ⊕ ρ→Ex→B4→A3→Prop
 | .inl x,e,s',H'=>e = .normal∧Sub (st x) s'∧∃ g',(bif tr then H'.take N else H') = hp g' x
 | .inr r,e,s',H'=>e.out = true∧∃ s0,Sub s0 s'∧P r e s0 H'
theorem B6m {γ σ ρ:Type} {tr:Bool} {live:List Nat} {bd:ACode} {body:σ→Option (σ ⊕ ρ)} (st:σ→B4) (hp:γ→σ→A3) (N:Nat) (P:ρ→Ex→B4→A3→Prop)
  (hN:∀g x,(hp g x).length = N) (hlive:∀x,(st x).map (·.1) = live) (hnd:live.Nodup) (hbd:∀x,tr = true→A0e N (st x) = true)
  (hstep:∀g x x',body x = some (.inl x')→WP T bd (st x) (hp g x) (bif tr then ⟨N,c.cur :: c.outer⟩ else c) (fun e s' H'=>e = .normal∧Sub (st x') s'∧∃ g',(bif tr then H'.take N else H') = hp g' x'))
  (hexit:∀g x r,body x = some (.inr r)→WP T bd (st x) (hp g x) (bif tr then ⟨N,c.cur :: c.outer⟩ else c) (fun e s' H'=>e.out = true∧∃ s0,Sub s0 s'∧P r e s0 H'))
  {x0:σ} {r:ρ} (h:loop body x0 = some r) (g0:γ):WP T (.loop tr live bd) (st x0) (hp g0 x0) c (fun e s' H'=>e.out = true∧P r e s' H'):= by
 have key:∀n g0 x0,B5r body n x0 = some r→WP T (.loop tr live bd) (st x0) (hp g0 x0) c (fun e s' H'=>e.out = true∧P r e s' H'):= by
  intro n
  induction n with
  | zero=>intro g0 x0 h; cases h
  | succ n ih =>
   intro g0 x0 h S hS
   rw [B08] at h
   have hr:restrict S live = st x0:=M0 (hlive x0) hnd hS
   have hin:A3c tr live ⟨S,hp g0 x0,c⟩ = ⟨st x0,hp g0 x0,bif tr then ⟨N,c.cur :: c.outer⟩ else c⟩:= by
    unfold A3c; cases tr <;> simp [hr,hN]
   split at h
   ·next x' hb =>
    obtain ⟨e,S1,s1,H1,h1,h2,rfl,h4,g',h5⟩:=hstep g0 x0 x' hb _ (Sub.refl _)
    have hr1:restrict S1 live = st x':=M0 (hlive x') hnd (h4.trans h2)
    obtain ⟨e2,S2,s2,H2,g1,g2,g3⟩:=ih g' x' h _ (Sub.refl _)
    refine ⟨e2,S2,s2,H2,I0.loop (st1:=⟨S1,H1,bif tr then ⟨N,c.cur :: c.outer⟩ else c⟩) rfl hin.symm h1 ?_ g1,g2,g3⟩
    unfold A5a
    cases tr with
    | true =>
     have hb1:=hbd x' rfl
     simp only [hr1,if_true,hN,hb1]
     simp only [cond_true] at h5
     rw [h5]
    | false =>
     simp only [cond_false] at h5
     simp only [Bool.false_eq_true,if_false,hr1,h5]
   ·next r' hb =>
    simp only [Option.some.injEq] at h
    subst h
    obtain ⟨e,S1,s1,H1,h1,h2,h3,s2,h4,h5⟩:=hexit g0 x0 _ hb _ (Sub.refl _)
    exact ⟨e,S1,s2,H1,I0.loopOut (st1:=⟨S1,H1,bif tr then ⟨N,c.cur :: c.outer⟩ else c⟩) rfl hin.symm h3 h1 rfl,h4.trans h2,h3,h5⟩
   ·cases h
 exact key _ _ _ h
theorem A8l {γ σ ρ:Type} {tr:Bool} {live:List Nat} {bd:ACode} {body:σ→Option (σ ⊕ ρ)} (st:σ→B4) (hp:γ→σ→A3) (N:Nat) (P:ρ→Ex→B4→A3→Prop)
  (hN:∀g x,(hp g x).length = N) (hlive:∀x,(st x).map (·.1) = live) (hnd:live.Nodup) (hbd:∀x,tr = true→A0e N (st x) = true)
  (hbody:∀g x o,body x = some o→WP T bd (st x) (hp g x) (bif tr then ⟨N,c.cur :: c.outer⟩ else c) (B9q tr st hp N P o))
  {x0:σ} {r:ρ} (h:loop body x0 = some r) (g0:γ):WP T (.loop tr live bd) (st x0) (hp g0 x0) c (fun e s' H'=>e.out = true∧P r e s' H') :=
 B6m st hp N P hN hlive hnd hbd (fun g x _ h=>hbody g x _ h) (fun g x _ h=>hbody g x _ h) h g0
inductive UnQ (T:Tab) (tr:Bool) (live:List Nat) (bd:ACode) (c:Sc) (N:Nat) (Q:Ex→B4→A3→Prop):Ex→B4→A3→Prop
 | next {s1:B4} {H1:A3} (sN:B4) (HN:A3) (hs:Sub sN s1) (hl:sN.map (·.1) = live) (nd:live.Nodup) (hH:(bif tr then H1.take N else H1) = HN) (hb:tr = true→A0e N sN = true) (h:WP T (.loop tr live bd) sN HN c Q):UnQ T tr live bd c N Q .normal s1 H1
 | out {e:Ex} {s1:B4} {H1:A3} (he:e.out = true) (h:Q e s1 H1):UnQ T tr live bd c N Q e s1 H1
theorem UnQ.nextT {live:List Nat} {bd:ACode} {N:Nat} {s1:B4} {H1:A3} (sN:B4) (HN:A3) (hs:Sub sN s1) (hl:sN.map (·.1) = live) (nd:live.Nodup) (hH:H1.take N = HN) (hb:A0e N sN = true) (h:WP T (.loop true live bd) sN HN c Q):UnQ T true live bd c N Q .normal s1 H1 :=
 .next sN HN hs hl nd hH (fun _=>hb) h
theorem B9p {H0:A3} {l:List AO} {tr:Bool} {live:List Nat} {bd:ACode} (k:Nat) (hk:l.length = k) (s':B4) (hr:∀S,Sub s S→restrict S live = s') (h:WP T bd s' (H0++l) (bif tr then ⟨H0.length + k,c.cur :: c.outer⟩ else c) (UnQ T tr live bd c (H0.length + k) Q)):WP T (.loop tr live bd) s (H0++l) c Q:= by
 intro S hS
 have hr':=hr S hS
 have hN:(H0++l).length = H0.length + k:= by rw [List.length_append,hk]
 have hin:A3c tr live ⟨S,H0++l,c⟩ = ⟨s',H0++l,bif tr then ⟨H0.length + k,c.cur :: c.outer⟩ else c⟩:= by
  unfold A3c; cases tr <;> simp only [hr',hN,if_true,Bool.false_eq_true,if_false,cond_true,cond_false]
 obtain ⟨e,S1,s1,H1,h1,h2,h3⟩:=h s' (Sub.refl _)
 cases h3 with
 | next sN HN hs hl nd hH hb hw =>
  have hr1:restrict S1 live = sN:=M0 hl nd (hs.trans h2)
  obtain ⟨e2,S2,s2,H2,g1,g2,g3⟩:=hw sN (Sub.refl _)
  refine ⟨e2,S2,s2,H2,I0.loop (st1:=⟨S1,H1,bif tr then ⟨H0.length + k,c.cur :: c.outer⟩ else c⟩) rfl hin.symm h1 ?_ g1,g2,g3⟩
  unfold A5a
  cases tr with
  | true =>
   have hb1:=hb rfl
   simp only [hr1,if_true,hN,hb1]
   simp only [cond_true] at hH
   rw [hH]
  | false =>
   simp only [cond_false] at hH
   simp only [Bool.false_eq_true,if_false,hr1,hH]
 | out he hq=>exact ⟨e,S1,s1,H1,I0.loopOut (st1:=⟨S1,H1,bif tr then ⟨H0.length + k,c.cur :: c.outer⟩ else c⟩) rfl hin.symm he h1 rfl,h2,hq⟩
def J4 (T:Tab) (c:Sc) (n0:Nat) (ops:List AOper) (s:B4) (H:A3) (hc:List (Option (List Nat))) (R:B4→A3→Prop):Prop :=
 ∃ n s1 H1,opers (mach T n) c n0 ops s H hc = some (s1,H1)∧R s1 H1
abbrev B4w (T:Tab) (c:Sc) (n0:Nat) (ops:List AOper) (s:B4) (H:A3) (hc:List (Option (List Nat))) (s':B4) (H':A3):Prop :=
 J4 T c n0 ops s H hc fun s1 H1=>H1 = H'∧Sub s' s1
end
section
variable {T:Tab} {s s':B4} {H0 H H':A3} {l l':List AO} {c:Sc} {n0 k0:Nat} {hc:List (Option (List Nat))} {ops:List AOper} {R:B4→A3→Prop}
theorem B31 {d:Bool} {nres:Nat} {live:List Nat} {Q:Ex→B4→A3→Prop} (k0:Nat) (s':B4) (H':A3) (hk:l.length = k0) (hl:(s'.all fun x=>live.contains x.1) = true)
  (h:B4w T c (H0.length + k0) ops s (H0++(l++List.replicate nres .dead)) [] s' H') (hQ:Q .normal s' H'):WP T (.region d nres [] ops live) s (H0++l) c Q:= by
 intro S hS
 obtain ⟨n,s1,H1,h1,rfl,h2⟩:=h
 obtain ⟨S1,h3,h4⟩:=A68 hS h1
 refine ⟨.normal,restrict S1 live,s',H1,⟨n + 1,?_⟩,?_,hQ⟩
 ·rw [R3]
  simp only [E3,publish,List.length_append,hk,← List.append_assoc] at h3 ⊢
  rw [h3]
 ·intro t v e
  rw [A07]
  refine ⟨?_,h4 _ _ (h2 _ _ e)⟩
  rw [List.all_eq_true] at hl
  have:∀{s:B4},sget s t = some v→∃ x ∈ s,x.1 = t:= by
   intro s
   induction s with
   | nil=>intro h; simp [K5,I8] at h
   | cons x s ih =>
    intro h
    simp only [K5,I8] at h
    cases hb:Nat.beq x.1 t with
    | true=>exact ⟨x,by simp,Nat.eq_of_beq_eq_true hb⟩
    | false=>rw [hb] at h; obtain ⟨y,h1,h2⟩:=ih h; exact ⟨y,by simp [h1],h2⟩
  obtain ⟨x,hx,rfl⟩:=this e
  simpa using hl x hx
def One (T:Tab) (c:Sc) (n0:Nat) (s:B4) (H:A3) (op:AOp) (v:AV) (H':A3):Prop:=∃ n,core (mach T n) c n0 s H op = some (v,H')
theorem B4c {M M':Mach} (h:M.le M') {op:AOp} {r:AV × A3} (e:core M c n0 s H op = some r):core M' c n0 s H op = some r:=B20 h e
theorem B1n {M:Mach} {op:AOp} {d:Option Nat} {src:Nat} {v:AV} {H':A3} (e:core M c n0 s H op = some (v,H')) :
  oper M c n0 s H hc ⟨d,op,none,[],[],0,src⟩ = some (sput s d v,H',if writes op then some [] :: hc else hc):= by
 have h1:A0d n0 s H ⟨d,op,none,[],[],0,src⟩ = some []:= by simp [A0d,ways]
 have h2:L4 s ⟨d,op,none,[],[],0,src⟩ hc = true:= by unfold L4; split <;> simp
 unfold oper
 simp only [wanted,h1,h2,hide,e,List.isEmpty_nil,Bool.true_or,if_true,unhide]
theorem A55 {op:AOp} {d:Option Nat} {src:Nat} {v:AV} {H1:A3} {hc':List (Option (List Nat))} (h:One T c n0 s H op v H1) (hhc:(if writes op then some [] :: hc else hc) = hc') (k:J4 T c n0 ops (sput s d v) H1 hc' R) :
  J4 T c n0 (⟨d,op,none,[],[],0,src⟩ :: ops) s H hc R:= by
 obtain ⟨n1,e1⟩:=h
 obtain ⟨n2,s1,Hf,e2,h2⟩:=k
 refine ⟨max n1 n2,s1,Hf,?_,h2⟩
 simp only [opers]
 rw [B1n (B4c (J1 T (Nat.le_max_left n1 n2)) e1)]
 simp only [hhc]
 exact U3 (J1 T (Nat.le_max_right n1 n2)) e2
theorem A0 {op:AOp} {d src:Nat} {v:AV} {H1:A3} (h:One T c n0 s H op v H1) (hw:writes op = false) (k:J4 T c n0 ops ((d,v) :: s) H1 hc R):J4 T c n0 (⟨some d,op,none,[],[],0,src⟩ :: ops) s H hc R :=
 A55 h (by simp [hw]) k
theorem B1s {op:AOp} {d src:Nat} {v:AV} {H1:A3} (h:One T c n0 s H op v H1) (hw:writes op = true) (k:J4 T c n0 ops ((d,v) :: s) H1 (some [] :: hc) R):J4 T c n0 (⟨some d,op,none,[],[],0,src⟩ :: ops) s H hc R :=
 A55 h (by simp [hw]) k
theorem E4 {op:AOp} {src:Nat} {v:AV} {H1:A3} (h:One T c n0 s H op v H1) (hw:writes op = true) (k:J4 T c n0 ops s H1 (some [] :: hc) R):J4 T c n0 (⟨none,op,none,[],[],0,src⟩ :: ops) s H hc R :=
 A55 (d:=none) h (by simp [hw]) k
theorem C3a {d:Option Nat} {op:AOp} {t:Nat} {w g:Bool} {hid:List Nat} {hida:List (Nat × List Nat)} {inc src:Nat} (hg:sget s t = some (.lit (.bool g))) (hw:(g == w) = true) (k:J4 T c n0 (⟨d,op,none,hid,hida,inc,src⟩ :: ops) s H hc R) :
  J4 T c n0 (⟨d,op,some (t,w),hid,hida,inc,src⟩ :: ops) s H hc R:= by
 obtain ⟨n,s1,Hf,e,h⟩:=k
 refine ⟨n,s1,Hf,?_,h⟩
 simp only [opers] at e ⊢
 have:oper (mach T n) c n0 s H hc ⟨d,op,some (t,w),hid,hida,inc,src⟩ = oper (mach T n) c n0 s H hc ⟨d,op,none,hid,hida,inc,src⟩:= by
  unfold oper
  simp only [wanted,hg,hw]
  rfl
 rw [this]; exact e
theorem B8m {d:Nat} {op:AOp} {t:Nat} {w:Bool} {hid:List Nat} {hida:List (Nat × List Nat)} {inc src:Nat} (hw:wanted s (some (t,w)) = some false) (hwr:writes op = false) (k:J4 T c n0 ops ((d,.tup []) :: s) H hc R) :
  J4 T c n0 (⟨some d,op,some (t,w),hid,hida,inc,src⟩ :: ops) s H hc R:= by
 obtain ⟨n,s1,Hf,e,h⟩:=k
 refine ⟨n,s1,Hf,?_,h⟩
 simp only [opers,oper,hw,hwr,Bool.false_eq_true,if_false,sput]
 exact e
theorem T4 {d:Nat} {op:AOp} {t:Nat} {w:Bool} {hid:List Nat} {hida:List (Nat × List Nat)} {inc src:Nat} (hw:wanted s (some (t,w)) = some false) (hwr:writes op = true) (k:J4 T c n0 ops ((d,.tup []) :: s) H (none :: hc) R) :
  J4 T c n0 (⟨some d,op,some (t,w),hid,hida,inc,src⟩ :: ops) s H hc R:= by
 obtain ⟨n,s1,Hf,e,h⟩:=k
 refine ⟨n,s1,Hf,?_,h⟩
 simp only [opers,oper,hw,hwr,if_true,sput]
 exact e
theorem gT {d:Option Nat} {op:AOp} {t:Nat} {g:Bool} {hid:List Nat} {hida:List (Nat × List Nat)} {inc src:Nat} (hg:sget s t = some (.lit (.bool g))) (hw:g = true) (k:J4 T c n0 (⟨d,op,none,hid,hida,inc,src⟩ :: ops) s H hc R) :
  J4 T c n0 (⟨d,op,some (t,true),hid,hida,inc,src⟩ :: ops) s H hc R:=C3a hg (by rw [hw]; rfl) k
theorem gF {d:Option Nat} {op:AOp} {t:Nat} {g:Bool} {hid:List Nat} {hida:List (Nat × List Nat)} {inc src:Nat} (hg:sget s t = some (.lit (.bool g))) (hw:g = false) (k:J4 T c n0 (⟨d,op,none,hid,hida,inc,src⟩ :: ops) s H hc R) :
  J4 T c n0 (⟨d,op,some (t,false),hid,hida,inc,src⟩ :: ops) s H hc R:=C3a hg (by rw [hw]; rfl) k
theorem nT {d:Nat} {op:AOp} {t:Nat} {g:Bool} {hid:List Nat} {hida:List (Nat × List Nat)} {inc src:Nat} (hg:sget s t = some (.lit (.bool g))) (hw:g = false) (hwr:writes op = false) (k:J4 T c n0 ops ((d,.tup []) :: s) H hc R) :
  J4 T c n0 (⟨some d,op,some (t,true),hid,hida,inc,src⟩ :: ops) s H hc R:=B8m (by simp only [wanted,hg,hw]; rfl) hwr k
theorem nF {d:Nat} {op:AOp} {t:Nat} {g:Bool} {hid:List Nat} {hida:List (Nat × List Nat)} {inc src:Nat} (hg:sget s t = some (.lit (.bool g))) (hw:g = true) (hwr:writes op = false) (k:J4 T c n0 ops ((d,.tup []) :: s) H hc R) :
  J4 T c n0 (⟨some d,op,some (t,false),hid,hida,inc,src⟩ :: ops) s H hc R:=B8m (by simp only [wanted,hg,hw]; rfl) hwr k
theorem nX {d:Nat} {op:AOp} {t:Nat} {w:Bool} {hid:List Nat} {hida:List (Nat × List Nat)} {inc src:Nat} (hg:sget s t = some (.tup [])) (hwr:writes op = false) (k:J4 T c n0 ops ((d,.tup []) :: s) H hc R) :
  J4 T c n0 (⟨some d,op,some (t,w),hid,hida,inc,src⟩ :: ops) s H hc R:=B8m (by simp only [wanted,hg]) hwr k
theorem K9 {t:Nat} {w g:Bool} (hg:sget s t = some (.lit (.bool g))) (hw:(g == w) = false):wanted s (some (t,w)) = some false:= by
 simp only [wanted,hg,hw]
def Y4 (l:List AO):List Nat→List AO
 | []=>l
 | j :: js=>(Y4 l js).set j .dead
def P9 (l m:List AO):List Nat→List AO
 | []=>m
 | j :: js=>match l[j]? with
  | some o=>(P9 l m js).set j o
  | none=>P9 l m js
theorem A7w (H0:A3) (l:List AO):∀js:List Nat,hide (H0++l) (js.map (H0.length + ·)) = H0++Y4 l js
 | []=>rfl
 | j :: js=>by
  simp only [List.map_cons,hide,A7w H0 l js,Y4,hset]
  rw [List.set_append_right _ _ (Nat.le_add_right _ _)]; congr 2; omega
theorem B2c (H0:A3) (l m:List AO):∀js:List Nat,unhide (H0++l) (H0++m) (js.map (H0.length + ·)) = H0++P9 l m js
 | []=>rfl
 | j :: js=>by
  have h1:hget (H0++l) (H0.length + j) = l[j]?:= by
   unfold hget; rw [List.getElem?_append_right (Nat.le_add_right _ _)]; congr 1; omega
  simp only [List.map_cons,unhide,P9,h1,B2c H0 l m js]
  cases l[j]? with
  | none=>rfl
  | some o=>simp only [hset]; rw [List.set_append_right _ _ (Nat.le_add_right _ _)]; congr 2; omega
theorem C06 {op:AOp} {d:Option Nat} {hid:List Nat} {hida:List (Nat × List Nat)} {inc src:Nat} {v:AV} {l1:List AO} (js:List Nat) (hhs:A0d n0 s (H0++l) ⟨d,op,none,hid,hida,inc,src⟩ = some (js.map (H0.length + ·))) (hseen:L4 s ⟨d,op,none,hid,hida,inc,src⟩ hc = true)
  (h:One T c n0 s (H0++Y4 l js) op v (H0++l1)) (hle:Nat.ble l.length l1.length = true) (k:J4 T c n0 ops (sput s d v) (H0++P9 l l1 js) (bif writes op then some (js.map (H0.length + ·)) :: hc else hc) R) :
  J4 T c n0 (⟨d,op,none,hid,hida,inc,src⟩ :: ops) s (H0++l) hc R:= by
 obtain ⟨n1,e1⟩:=h
 obtain ⟨n2,s1,Hf,e2,h2⟩:=k
 refine ⟨max n1 n2,s1,Hf,?_,h2⟩
 have e1':=B4c (J1 T (Nat.le_max_left n1 n2)) e1
 have hle':Nat.ble (H0++l).length (H0++l1).length = true:=Nat.ble_eq_true_of_le (by have:=Nat.le_of_ble_eq_true hle; simp; omega)
 simp only [opers,oper,wanted,hhs,hseen,A7w,e1',hle',Bool.or_true,if_true,B2c]
 cases hw:writes op with
 | true=>simp only [hw,cond_true] at e2; simp only [if_true]; exact U3 (J1 T (Nat.le_max_right n1 n2)) e2
 | false=>simp only [hw,cond_false] at e2; simp only [Bool.false_eq_true,if_false]; exact U3 (J1 T (Nat.le_max_right n1 n2)) e2
theorem A4e (l:List AO):∀js:List Nat,(Y4 l js).length = l.length
 | []=>rfl
 | j :: js=>by simp only [Y4,List.length_set,A4e l js]
theorem A2p (l m:List AO) (h:m.length = l.length):∀js:List Nat,(P9 l m js).length = l.length
 | []=>h
 | j :: js=>by
  simp only [P9]
  cases l[j]? with
  | none=>exact A2p l m h js
  | some o=>simp only [List.length_set]; exact A2p l m h js
theorem B3d (l:List AO):∀(js:List Nat) (i:Nat),i ∉ js→(Y4 l js)[i]? = l[i]?
 | [],_,_=>rfl
 | j :: js,i,h=>by
  simp only [List.mem_cons,not_or] at h
  simp only [Y4]
  rw [List.getElem?_set_ne (fun e=>h.1 e.symm)]
  exact B3d l js i h.2
theorem A9z (l m:List AO) (hm:m.length = l.length):∀(js:List Nat) (i:Nat),(i ∈ js→(P9 l m js)[i]? = l[i]?)∧(i ∉ js→(P9 l m js)[i]? = m[i]?)
 | [],_=>⟨fun h=>by simp at h,fun _=>rfl⟩
 | j :: js,i=>by
  have ih:=A9z l m hm js i
  have hlen:=A2p l m hm js
  simp only [P9]
  by_cases hij:j = i
  ·subst hij
   constructor
   ·intro _
    cases hl:l[j]? with
    | none =>
     simp only
     rw [List.getElem?_eq_none]
     rw [hlen]; exact List.getElem?_eq_none_iff.1 hl
    | some o =>
     simp only
     have:=(List.getElem?_eq_some_iff.1 hl).1
     rw [List.getElem?_set_self (by rw [hlen]; exact this)]
   ·intro h; simp at h
  ·have e:∀o,((P9 l m js).set j o)[i]? = (P9 l m js)[i]?:=fun o=>List.getElem?_set_ne hij
   cases l[j]? with
   | none=>simp only [List.mem_cons]; exact ⟨fun h=>ih.1 (h.resolve_left fun e=>hij e.symm),fun h=>ih.2 fun k=>h (.inr k)⟩
   | some o=>simp only [List.mem_cons,e]; exact ⟨fun h=>ih.1 (h.resolve_left fun e=>hij e.symm),fun h=>ih.2 fun k=>h (.inr k)⟩
theorem B6h (l:List AO) (js:List Nat):P9 l (Y4 l js) js = l:= by
 apply List.ext_getElem?
 intro i
 have h:=A9z l (Y4 l js) (A4e l js) js i
 by_cases hi:i ∈ js
 ·exact h.1 hi
 ·rw [h.2 hi,B3d l js i hi]
theorem Z2 {op:AOp} {d:Nat} {hid:List Nat} {hida:List (Nat × List Nat)} {inc src:Nat} {v:AV} (js:List Nat) (hhs:A0d n0 s (H0++l) ⟨some d,op,none,hid,hida,inc,src⟩ = some (js.map (H0.length + ·))) (hseen:L4 s ⟨some d,op,none,hid,hida,inc,src⟩ hc = true)
  (h:One T c n0 s (H0++Y4 l js) op v (H0++Y4 l js)) (hw:writes op = false) (k:J4 T c n0 ops ((d,v) :: s) (H0++l) hc R) :
  J4 T c n0 (⟨some d,op,none,hid,hida,inc,src⟩ :: ops) s (H0++l) hc R :=
 C06 js hhs hseen h (by rw [A4e]; exact Nat.ble_eq_true_of_le (Nat.le_refl _)) (by rw [B6h,hw]; exact k)
theorem B4r {op:AOp} {d:Option Nat} {hid:List Nat} {hida:List (Nat × List Nat)} {inc src:Nat} {v:AV} {l1:List AO} (js:List Nat) (l2:List AO) (hhs:A0d n0 s (H0++l) ⟨d,op,none,hid,hida,inc,src⟩ = some (js.map (H0.length + ·))) (hseen:L4 s ⟨d,op,none,hid,hida,inc,src⟩ hc = true)
  (h:One T c n0 s (H0++Y4 l js) op v (H0++l1)) (hle:Nat.ble l.length l1.length = true) (hw:writes op = true) (e:P9 l l1 js = l2) (k:J4 T c n0 ops (sput s d v) (H0++l2) (some (js.map (H0.length + ·)) :: hc) R) :
  J4 T c n0 (⟨d,op,none,hid,hida,inc,src⟩ :: ops) s (H0++l) hc R :=
 C06 js hhs hseen h hle (by rw [e,hw]; exact k)
theorem O5 {s:B4} {H:A3}:ways s H [] = some []:=rfl
theorem A36 {s:B4} {H:A3} {t b b':Nat} {p:List Nat} {l:List (Nat × List Nat)} {bs:List Nat} (h:(sget s t).bind AV.box? = some b) (hf:follow H b p = some b') (k:ways s H l = some bs):ways s H ((t,p) :: l) = some (b' :: bs):= by
 simp only [ways,h,hf,k]
theorem A2d {H:A3} {b:Nat}:follow H b [] = some b:=rfl
theorem B7w (H0:A3) (l:List AO) {js:List Nat} (h:(js.all fun j=>Nat.blt j l.length) = true):((js.map (H0.length + ·)).all fun b=>Nat.blt b (H0++l).length) = true:= by
 rw [List.all_eq_true] at h ⊢
 intro b hb
 simp only [List.mem_map] at hb
 obtain ⟨j,hj,rfl⟩:=hb
 have:=Nat.le_of_ble_eq_true (h j hj)
 exact Nat.ble_eq_true_of_le (by simp; omega)
theorem A1q {op:AOp} {d:Option Nat} {g:Option (Nat × Bool)} {hid:List Nat} {hida:List (Nat × List Nat)} {inc src:Nat} {bs js:List Nat} {k0:Nat} (jh:List Nat) (ejh:hid.map (H0.length + k0 + ·) = jh.map (H0.length + ·)) (hw:ways s (H0++Y4 l jh) hida = some bs) (e:jh.map (H0.length + ·)++bs = js.map (H0.length + ·)) (hall:(js.all fun j=>Nat.blt j l.length) = true) :
  A0d (H0.length + k0) s (H0++l) ⟨d,op,g,hid,hida,inc,src⟩ = some (js.map (H0.length + ·)):= by
 unfold A0d
 simp only [ejh,A7w,hw,e,B7w H0 l hall,Bool.or_true,if_true]
theorem seen0 {o:AOper} (h:o.inc = 0):L4 s o hc = true:= by
 unfold L4; split
 ·rfl
 ·simp [h]
theorem A8i {o:AOper} {b:Nat} (hb:rbox s o.op = some b) (h:((hc.take o.inc).all fun e=>match e with | none=>true | some hs=>hs.contains b) = true):L4 s o hc = true:= by
 unfold L4; rw [hb]; exact h
theorem A0g (N:Nat) {js:List Nat} {j:Nat} (h:js.contains j = true):(js.map (N + ·)).contains (N + j) = true:= by
 simp only [List.contains_iff_mem,List.mem_map] at h ⊢
 exact ⟨j,h,rfl⟩
theorem C2l {α β:Type} {o:Option α} {f:α→Option β} {r:β} (h:o.bind f = some r):∃x,o = some x∧f x = some r:= by
 cases o with
 | none=>cases h
 | some x=>exact ⟨x,rfl,h⟩
def calm:List AOper→Bool
 | []=>true
 | o :: l=>Nat.beq o.inc 0 && calm l
theorem B9c {M:Mach} {o:AOper} (ho:Nat.beq o.inc 0 = true) (hc hc':List (Option (List Nat))) {x:B4 × A3 × List (Option (List Nat))} (e:oper M c n0 s H hc o = some x):∃hc1,oper M c n0 s H hc' o = some (x.1,x.2.1,hc1):= by
 have hz:o.inc = 0:=Nat.eq_of_beq_eq_true ho
 have h2:∀hc,L4 s o hc = true:= by intro hc; unfold L4; split <;> simp [hz]
 unfold oper at e ⊢
 split at e
 ·cases e
 ·simp only [Option.some.injEq] at e; subst e; exact ⟨_,rfl⟩
 ·rw [h2] at e ⊢
  split at e
  ·next hs _ e1 _ =>
   try simp only [e1]
   split at e
   ·next r e3 =>
    try simp only [e3]
    split at e
    ·next e4=>simp only [Option.some.injEq] at e; subst e; simp only [e4,if_true]; exact ⟨_,rfl⟩
    ·cases e
   ·cases e
  ·cases e
theorem B1p {M:Mach}:∀{l:List AOper} (_:calm l = true) {s:B4} {H:A3} (hc hc':List (Option (List Nat))) {r:B4 × A3},opers M c n0 l s H hc = some r→opers M c n0 l s H hc' = some r
 | [],_,_,_,_,_,_,e=>e
 | o :: l,h,s,H,hc,hc',r,e=>by
  simp only [calm,Bool.and_eq_true] at h
  simp only [opers] at e ⊢
  split at e
  ·cases e
  ·next s1 H1 hc1 e1 =>
   obtain ⟨hc2,e2⟩:=B9c h.1 hc hc' e1
   simp only [e2]
   exact B1p h.2 _ _ e
theorem B3n (M:Mach):∀(l m:List AOper) (s:B4) (H:A3) (hc:List (Option (List Nat))),opers M c n0 (l++m) s H hc = (opers3 M c n0 l (s,H,hc)).bind fun x=>opers M c n0 m x.1 x.2.1 x.2.2
 | [],m,s,H,hc=>rfl
 | o :: l,m,s,H,hc=>by
  simp only [List.cons_append,opers,opers3]
  cases oper M c n0 s H hc o with
  | none=>rfl
  | some y=>exact B3n M l m y.1 y.2.1 y.2.2
theorem A85 (n:Nat) (s1:B4) (H1:A3) (hq:calm (ops.drop n) = true) (h1:B4w T c n0 (ops.take n) s H hc s1 H1) (hR:∀a b H,Sub a b→R a H→R b H) (h2:J4 T c n0 (ops.drop n) s1 H1 [] R):J4 T c n0 ops s H hc R:= by
 obtain ⟨n1,t1,_,e1,rfl,r1⟩:=h1
 obtain ⟨n2,t2,H',e2,r2⟩:=h2
 have e1':=U3 (J1 T (Nat.le_max_left n1 n2)) e1
 have e2':=U3 (J1 T (Nat.le_max_right n1 n2)) e2
 obtain ⟨S2,e3,r3⟩:=A68 r1 e2'
 refine ⟨max n1 n2,S2,H',?_,hR _ _ _ r3 r2⟩
 have h3:=A84 (mach T (max n1 n2)) c n0 (ops.take n) (s,H,hc)
 simp only at h3
 rw [e1'] at h3
 cases h4:opers3 (mach T (max n1 n2)) c n0 (ops.take n) (s,H,hc) with
 | none=>rw [h4] at h3; cases h3
 | some y =>
  rw [h4] at h3
  simp only [Option.map_some,Option.some.injEq,Prod.mk.injEq] at h3
  have h5:opers (mach T (max n1 n2)) c n0 (ops.take n++ops.drop n) s H hc = some (S2,H'):= by
   rw [B3n,h4]
   simp only [Option.bind_some,← h3.1,← h3.2]
   exact B1p hq _ _ e3
  rw [List.take_append_drop] at h5
  exact h5
def RG (live:List Nat) (Q:Ex→B4→A3→Prop) (s:B4) (H:A3):Prop:=∃ s',Sub s' s∧(s'.all fun x=>live.contains x.1) = true∧Q .normal s' H
theorem B2g {d:Bool} {nres:Nat} {live:List Nat} {Q:Ex→B4→A3→Prop} (k0:Nat) (hk:l.length = k0)
  (h:J4 T c (H0.length + k0) ops s (H0++(l++List.replicate nres .dead)) [] (RG live Q)):WP T (.region d nres [] ops live) s (H0++l) c Q:= by
 obtain ⟨n,s1,H1,h1,s',h2,h3,h4⟩:=h
 exact B31 k0 s' H1 hk h3 ⟨n,s1,H1,h1,rfl,h2⟩ h4
structure InlQ (T:Tab) (c:Sc) (n0 N:Nat) (rv:List ARes) (own:List (List (Nat × Nat))) (d:Nat) (ops:List AOper) (s:B4) (hc:List (Option (List Nat))) (R:B4→A3→Prop) (e:Ex) (s1:B4) (H2:A3):Prop where
 he:(match e with | .exit _=>False | _=>True)
 hr:∃rs0 rs H3 vs H4,results s1 H2 rv = some rs0∧Q7 N H2 rs0 = some (rs,H3)∧S4 n0 (trunc N rs H3) rs own = (vs,H4)∧J4 T c n0 ops ((d,packed vs) :: s) H4 (some [] :: hc) R
theorem L5 {f:Opd} {args:List Opd} {own:List (List (Nat × Nat))} {d src i N:Nat} {first cap aq as' as2:List AV} {af:AFunc} {H1:A3} (hf:ev s f = some (.fn (.func i) first cap)) (ha:evs s args = some aq) (hz:O6 H aq = some (as',H1)) (haf:T i = some af) (has:first++as'++cap = as2) (hn:Nat.beq as2.length af.nargs = true) (hN:H1.length = N)
  (h:WP T af.body (L6 0 as2) H1 ⟨N,c.cur :: c.outer⟩ (InlQ T c n0 N af.results own d ops s hc R)):J4 T c n0 (⟨some d,.call f args own false,none,[],[],0,src⟩ :: ops) s H hc R:= by
 obtain ⟨e,S',s',H',h1,h2,h3,rs0,rs,H3,vs,H4,h4,h5,h6,n2,s2,H5,h7,h8⟩:=h _ (Sub.refl _)
 subst hN
 have hcall:=O3.fn (c:=c) (H:=H1) (f:=.fn (.func i) first cap) (args:=as') (rs:=rs) (rs1:=rs) (rs0:=rs0) rfl haf rfl has.symm hn rfl h1 (by cases e <;> first | rfl | exact h3.elim) (U5 h2 h4) h5 rfl rfl
 obtain ⟨n1,e1⟩:=hcall
 refine ⟨max n1 n2,s2,H5,?_,h8⟩
 have e1':=(J1 T (Nat.le_max_left n1 n2)).call _ _ _ _ _ e1
 have e2':=U3 (J1 T (Nat.le_max_right n1 n2)) h7
 simp only [opers]
 rw [B1n (v:=packed vs) (H':=H4) (by simp only [core,Q8,hf,ha,Bool.false_eq_true,if_false,hz,e1',h6])]
 simp only [writes,Bool.not_false,if_true,sput]
 exact e2'
structure InlH (T:Tab) (c:Sc) (n0 N:Nat) (rv:List ARes) (own:List (List (Nat × Nat))) (d:Nat) (ops:List AOper) (s:B4) (hc:List (Option (List Nat))) (R:B4→A3→Prop) (js:List Nat) (H0:A3) (l l2:List AO) (e:Ex) (s1:B4) (H2:A3):Prop where
 he:(match e with | .exit _=>False | _=>True)
 hr:∃rs0 rs H3 vs l4,results s1 H2 rv = some rs0∧Q7 N H2 rs0 = some (rs,H3)∧S4 n0 (trunc N rs H3) rs own = (vs,H0++l4)∧Nat.ble l.length l4.length = true∧P9 l l4 js = l2∧J4 T c n0 ops ((d,packed vs) :: s) (H0++l2) (some (js.map (H0.length + ·)) :: hc) R
theorem B1i {H0:A3} {l l2:List AO} {f:Opd} {args:List Opd} {own:List (List (Nat × Nat))} {d src i N inc:Nat} {hid:List Nat} {hida:List (Nat × List Nat)} {first cap aq as' as2:List AV} {af:AFunc} {H1:A3} (js:List Nat) (hhs:A0d n0 s (H0++l) ⟨some d,.call f args own false,none,hid,hida,inc,src⟩ = some (js.map (H0.length + ·))) (hseen:L4 s ⟨some d,.call f args own false,none,hid,hida,inc,src⟩ hc = true)
  (hf:ev s f = some (.fn (.func i) first cap)) (ha:evs s args = some aq) (hz:O6 (H0++Y4 l js) aq = some (as',H1)) (haf:T i = some af) (has:first++as'++cap = as2) (hn:Nat.beq as2.length af.nargs = true) (hN:H1.length = N)
  (h:WP T af.body (L6 0 as2) H1 ⟨N,c.cur :: c.outer⟩ (InlH T c n0 N af.results own d ops s hc R js H0 l l2)):J4 T c n0 (⟨some d,.call f args own false,none,hid,hida,inc,src⟩ :: ops) s (H0++l) hc R:= by
 obtain ⟨e,S',s',H',h1,h2,h3,rs0,rs,H3,vs,l4,h4,h5,h6,h7,h8,h9⟩:=h _ (Sub.refl _)
 subst hN
 have hcall:=O3.fn (c:=c) (H:=H1) (f:=.fn (.func i) first cap) (args:=as') (rs:=rs) (rs1:=rs) (rs0:=rs0) rfl haf rfl has.symm hn rfl h1 (by cases e <;> first | rfl | exact h3.elim) (U5 h2 h4) h5 rfl rfl
 obtain ⟨n1,e1⟩:=hcall
 exact B4r js l2 hhs hseen (v:=packed vs) (l1:=l4) ⟨n1,by simp only [core,Q8,hf,ha,Bool.false_eq_true,if_false,hz,e1,h6]⟩ h7 rfl h8 h9
end
section
variable {H0:A3} {l:List AO} {j:Nat}
theorem R6 (H0:A3) (l:List AO) (j:Nat):hget (H0++l) (H0.length + j) = l[j]?:= by
 unfold hget; rw [List.getElem?_append_right (Nat.le_add_right _ _)]; congr 1; omega
theorem F0 (H0:A3) (l:List AO) (j:Nat) (o:AO):hset (H0++l) (H0.length + j) o = H0++l.set j o:= by
 unfold hset; rw [List.set_append_right _ _ (Nat.le_add_right _ _)]; congr 2; omega
theorem B3c {b:Nat} {o:AO} (h:hget H0 b = some o) (l:List AO):hget (H0++l) b = some o:= by
 unfold hget at h ⊢
 have:=List.getElem?_eq_some_iff.1 h
 rw [List.getElem?_append_left this.1]; exact h
theorem D5 {cs:List AV} (h:l[j]? = some (.cells cs)):hcells (H0++l) (H0.length + j) = some cs:= by
 unfold hcells; rw [R6,h]
theorem A2x {cs:List AV} (h:l[j]? = some (.cells cs)):T1 (H0++l) (H0.length + j) = some cs:= by
 unfold T1; rw [R6,h]
theorem J7 {b:Nat} {cs:List AV} (h:hcells H0 b = some cs) (l:List AO):hcells (H0++l) b = some cs:= by
 unfold hcells at h ⊢
 split at h
 ·next e=>rw [B3c e]; exact h
 ·next e=>rw [B3c e]; exact h
 ·cases h
theorem A8x (H:A3) (b:Nat):hcells (H.map AO.toRo) b = hcells H b:= by
 unfold hcells hget
 rw [List.getElem?_map]
 cases h:H[b]? with
 | none=>rfl
 | some o=>cases o <;> first | rfl | (next o=>cases o <;> rfl)
theorem R5 {k:Nat} {p:Bool} {rows:List (List AV)} (h:l[j]? = some (.arr k p rows)):harr (H0++l) (H0.length + j) = some (k,p,rows):= by
 unfold harr; rw [R6,h]
theorem N5 {k:Nat} {p:Bool} {rows:List (List AV)} (h:l[j]? = some (.arr k p rows)):Y3 (H0++l) (H0.length + j) = some (k,p,rows):= by
 unfold Y3; rw [R6,h]
theorem F1 (H0:A3) (l:List AO) (k:Nat):(H0++l).take (H0.length + k) = H0++l.take k:= by
 rw [List.take_append,List.take_of_length_le (Nat.le_add_right _ _)]; simp
end
def cI (n:Int):List AV:=[.lit (.int .i64 n)]
def cB (b:Bool):List AV:=[.lit (.bool b)]
def cS (s:ByteArray):List AV:=[.lit (.string s)]
structure IArr (n:Nat) where
 l:List Int
 h:l.length = n
theorem IArr.ext {n:Nat} {a b:IArr n} (h:a.l = b.l):a = b:= by cases a; cases b; simp only at h; subst h; rfl
instance {n:Nat}:DecidableEq (IArr n):=fun a b=>if h:a.l = b.l then isTrue (IArr.ext h) else isFalse fun e=>h (by rw [e])
def IArr.zero (n:Nat):IArr n:=⟨List.replicate n 0,List.length_replicate⟩
def IArr.set {n:Nat} (a:IArr n) (i x:Int):IArr n:=⟨a.l.set i.toNat x,by rw [List.length_set]; exact a.h⟩
abbrev w64 (n:Int):Int:=IntKind.i64.wrap n
def idx {α:Type} (l:List α) (i:Int):Option α:=if 0≤i then l[i.toNat]? else none
def A97 {α:Type} (l:List α) (i:Int) (x:α):List α:=l.set i.toNat x
def app {α:Type} (bytes:Nat) (l m:List α):Option (List α):=if (l.length + m.length) * bytes≤1099511627776∧l.length + m.length≤1099511627776 then some (l++m) else none
def slc {α:Type} (l:List α) (lo hi:Int):Option (List α):=if 0≤lo∧lo≤hi∧hi≤l.length then some ((l.take hi.toNat).drop lo.toNat) else none
def B8f {α:Type} (bytes:Nat) (n:Int) (z:α):Option (List α):=if 0≤n∧n * bytes≤1099511627776∧n≤1099511627776 then some (List.replicate n.toNat z) else none
def B18 (k:IntKind) (a b:Int):Option Int:=if b < 0 then none else some (k.wrap (a * 2 ^ (min b.toNat k.bits)))
def A9c (k:IntKind) (a b:Int):Option Int:=if b < 0 then none else some (a.fdiv (2 ^ (min b.toNat k.bits)))
def A92 (a b:Int):Int:=w64 (BitVec.ofInt 64 a &&& BitVec.ofInt 64 b).toNat
def orI (a b:Int):Int:=w64 (BitVec.ofInt 64 a ||| BitVec.ofInt 64 b).toNat
def K6 (k:IntKind) (a b:Int):Int:=k.wrap (BitVec.ofInt k.bits a &&& BitVec.ofInt k.bits b).toNat
def B1c (x y:Int):Int:=if y > x then y else x
def B2o (x y:Int):Int:=if y < x then y else x
def eqS (x y:ByteArray):Bool:=x.data.toList == y.data.toList
section
variable {T:Tab} {s:B4} {H0 H:A3} {l:List AO} {c:Sc} {n0 k0:Nat} {R:B4→A3→Prop}
theorem C7n {x:Opd} {v:AV} (h:ev s x = some v):One T c n0 s H (.mv x) v H:=⟨0,by simp [core,prim,h]⟩
theorem D6 {x a b:Opd} {g:Bool} {v:AV} (h:ev s x = some (.lit (.bool g))) (hg:g = true) (ha:ev s a = some v):One T c n0 s H (.pick x a b) v H:=⟨0,by subst hg; simp [core,prim,h,ha]⟩
theorem D7 {x a b:Opd} {g:Bool} {v:AV} (h:ev s x = some (.lit (.bool g))) (hg:g = false) (ha:ev s b = some v):One T c n0 s H (.pick x a b) v H:=⟨0,by subst hg; simp [core,prim,h,ha]⟩
theorem qm {hc:List (Option (List Nat))} {ops:List AOper} {d src:Nat} {x:Opd} {v:AV} (h:ev s x = some v) (k:J4 T c n0 ops ((d,v) :: s) H hc R):J4 T c n0 (⟨some d,.mv x,none,[],[],0,src⟩ :: ops) s H hc R:=A0 (C7n h) rfl k
theorem B8j {k r:Nat}:One T c (H0.length + k0) s (H0++l) (.nil k r) (.asl (H0.length + (k0 + r)) 0) (H0++l.set (k0 + r) (.arr k false [])) :=
 ⟨0,by simp only [core,prim,Nat.add_assoc,F0]⟩
theorem D2 {zs:List AV} {r:Nat}:One T c (H0.length + k0) s (H0++l) (.alloc zs [] r) (.ptr (H0.length + (k0 + r)) 0) (H0++l.set (k0 + r) (.cells zs)) :=
 ⟨0,by simp only [core,prim,M3,Nat.add_assoc,F0]⟩
theorem G2 {n r:Nat} {x:Opd} {v:AV} {cs:List AV} (h:ev s x = some v) (hc:v.cellsOf = cs) (hn:Nat.beq cs.length n = true):One T c (H0.length + k0) s (H0++l) (.box n x r) (.ptr (H0.length + (k0 + r)) 0) (H0++l.set (k0 + r) (.cells cs)) :=
 ⟨0,by subst hc; simp only [core,prim,h,hn,if_true,Nat.add_assoc,F0]⟩
theorem F2 {z cs:List AV} {parts:List (Nat × Nat × Opd)} {ps:List (Nat × Nat × AV)} (h1:P5 s parts = some ps) (h2:A4w z ps = some cs):One T c n0 s H (.build z parts) (.agg cs) H:=⟨0,by simp [core,prim,h1,h2]⟩
theorem K3 {k n:Nat} {z:List AV} {parts:List (Nat × Opd)} {ps:List (Nat × AV)} {rows:List (List AV)} (h1:J5 s parts = some ps) (h2:A0w k (List.replicate n z) ps = some rows) (h3:A93 rows = true):One T c n0 s H (.lits k z n parts none) (.seq k rows) H :=
 ⟨0,by simp [core,prim,h1,h2,h3]⟩
theorem C2b {k n r:Nat} {z:List AV} {parts:List (Nat × Opd)} {ps:List (Nat × AV)} {rows:List (List AV)} (h1:J5 s parts = some ps) (h2:A0w k (List.replicate n z) ps = some rows) (h3:A93 rows = true) :
  One T c (H0.length + k0) s (H0++l) (.lits k z n parts (some r)) (.asl (H0.length + (k0 + r)) n) (H0++l.set (k0 + r) (.arr k false rows)) :=
 ⟨0,by simp [core,prim,h1,h2,h3,Nat.add_assoc,F0]⟩
theorem D1 {a:Opd} {j o:Nat} {cs:List AV} {x:AV} (h:ev s a = some (.ptr (H0.length + j) o)) (hl:l[j]? = some (.cells cs)) (hd:(cs.drop o).head? = some x):One T c n0 s (H0++l) (.load none a) x (H0++l) :=
 ⟨0,by
  simp only [core,prim,h,F5,D5 hl]
  cases hc:cs.drop o with
  | nil=>simp [hc] at hd
  | cons y t=>simp only [hc,List.head?_cons,Option.some.injEq] at hd; subst hd; rfl⟩
theorem E2 {a:Opd} {j o k:Nat} {cs ds:List AV} (h:ev s a = some (.ptr (H0.length + j) o)) (hl:l[j]? = some (.cells cs)) (hk:Nat.ble k (cs.drop o).length = true) (hd:(cs.drop o).take k = ds):One T c n0 s (H0++l) (.load (some k) a) (.agg ds) (H0++l) :=
 ⟨0,by simp only [core,prim,h,F5,D5 hl,hk,if_true,hd]⟩
theorem G6 {a:Opd} {b o:Nat} {cs:List AV} {x:AV} (h:ev s a = some (.ptr b o)) (hl:hcells H0 b = some cs) (hd:(cs.drop o).head? = some x):One T c n0 s (H0++l) (.load none a) x (H0++l) :=
 ⟨0,by
  simp only [core,prim,h,F5,J7 hl]
  cases hc:cs.drop o with
  | nil=>simp [hc] at hd
  | cons y t=>simp only [hc,List.head?_cons,Option.some.injEq] at hd; subst hd; rfl⟩
theorem B1f {a:Opd} {b o k:Nat} {cs ds:List AV} (h:ev s a = some (.ptr b o)) (hl:hcells H0 b = some cs) (hk:Nat.ble k (cs.drop o).length = true) (hd:(cs.drop o).take k = ds):One T c n0 s (H0++l) (.load (some k) a) (.agg ds) (H0++l) :=
 ⟨0,by simp only [core,prim,h,F5,J7 hl,hk,if_true,hd]⟩
theorem P7 {a:Opd} {cs:List AV} {x:AV} (h:ev s a = some (.cptr cs)) (hd:cs.head? = some x):One T c n0 s H (.load none a) x H :=
 ⟨0,by
  simp only [core,prim,h,F5]
  cases cs with
  | nil=>simp at hd
  | cons y t=>simp only [List.head?_cons,Option.some.injEq] at hd; subst hd; rfl⟩
theorem B1g {a:Opd} {k:Nat} {cs ds:List AV} (h:ev s a = some (.cptr cs)) (hk:Nat.ble k cs.length = true) (hd:cs.take k = ds):One T c n0 s H (.load (some k) a) (.agg ds) H :=
 ⟨0,by simp only [core,prim,h,F5,hk,if_true,hd]⟩
theorem C2d {a:Opd} {j n i o k:Nat} {p:Bool} {rows:List (List AV)} {r:List AV} {x:AV} (h:ev s a = some (.eptr (H0.length + j) n i o)) (hl:l[j]? = some (.arr k p rows)) (hn:rows.length = n) (hr:rows[i]? = some r) (hd:(r.drop o).head? = some x):One T c n0 s (H0++l) (.load none a) x (H0++l) :=
 ⟨0,by
  simp only [core,prim,h,F5,R5 hl,hn,Nat.beq_refl,if_true,hr]
  cases hc:r.drop o with
  | nil=>simp [hc] at hd
  | cons y t=>simp only [hc,List.head?_cons,Option.some.injEq] at hd; subst hd; rfl⟩
theorem B3 {b:Nat}:∀{vs:List AV},vs.all AV.plain = true→c.okL b vs = true
 | [],_=>rfl
 | v :: vs,h=>by
  simp only [List.all_cons,Bool.and_eq_true] at h
  simp only [Sc.okL,Sc.ok,h.1,B3 h.2,Bool.or_true,Bool.true_or,Bool.and_self]
theorem A21 {b:Nat} (hb:c.cur≤b):∀{vs:List AV},c.okL b vs = true
 | []=>rfl
 | v :: vs=>by simp only [Sc.okL,Sc.ok,Nat.ble_eq_true_of_le hb,Bool.true_or,A21 hb,Bool.and_self]
theorem C1 {a x:Opd} {j o k:Nat} {cs ds:List AV} {v:AV} (h:ev s a = some (.ptr (H0.length + j) o)) (hv:ev s x = some v) (hl:l[j]? = some (.cells cs)) (hk:(Nat.beq v.cellsOf.length k && Nat.ble (o + k) cs.length) = true) (hok:c.okL (H0.length + j) v.cellsOf = true) (hd:splice cs o v.cellsOf = ds) :
  One T c n0 s (H0++l) (.store k a x) (.tup []) (H0++l.set j (.cells ds)) :=
 ⟨0,by simp only [core,prim,h,hv,A2x hl,hk,hok,Bool.and_self,if_true,hd,F0]⟩
theorem A60 {H:A3}:∀{vs:List AV},vs.all AV.plain = true→S3 H vs = some (vs,H)
 | [],_=>rfl
 | v :: vs,h=>by
  simp only [List.all_cons,Bool.and_eq_true] at h
  have:frv H v = some (v,H):= by cases v <;> first | rfl | (simp [AV.plain] at h)
  simp only [S3,this,A60 h.2]
theorem C00 {a x:Opd} {j n i o k kk:Nat} {rows:List (List AV)} {r ds:List AV} {v:AV} (h:ev s a = some (.eptr (H0.length + j) n i o)) (hv:ev s x = some v) (hp:v.cellsOf.all AV.plain = true) (hz:v.cellsOf.all AV.frz = true) (hl:l[j]? = some (.arr kk false rows)) (hn:rows.length = n) (hr:rows[i]? = some r)
  (hk:(Nat.beq v.cellsOf.length k && Nat.ble (o + k) r.length) = true) (hd:splice r o v.cellsOf = ds) :
  One T c n0 s (H0++l) (.store k a x) (.tup []) (H0++l.set j (.arr kk false (rows.set i ds))) :=
 ⟨0,by
  rw [Bool.and_eq_true] at hk
  simp only [core,prim,h,hv,A60 hp,N5 hl,hr,hn,Nat.beq_refl,hk.1,hk.2,hz,Bool.and_self,if_true,hd,F0]⟩
def C0s:AV→Bool
 | .ptr _ _ | .eptr _ _ _ _ | .cptr _ | .fn (.func _) _ _=>true
 | _=>false
theorem N0 {x:Opd} {v:AV} (h:ev s x = some v) (hv:C0s v = true):One T c n0 s H (.nilck x) v H:=⟨0,by
 cases v with
 | fn f a b=>cases f <;> first | (simp [core,prim,h]; done) | (simp [C0s] at hv)
 | _=>first | (simp [core,prim,h]; done) | (simp [C0s] at hv)⟩
theorem F4 {op:BinOp} {x y:Opd} {a b v:AV} (hx:ev s x = some a) (hy:ev s y = some b) (hv:A29 op a b = some v):One T c n0 s H (.bin op x y) v H:=⟨0,by simp [core,prim,hx,hy,hv]⟩
theorem C0u {ng:Bool} {ks:List Nat} {x y:Opd} {a b:List AV} {t:Bool} (hx:ev s x = some (.agg a)) (hy:ev s y = some (.agg b)) (ha:kinds ks a = true) (hb:kinds ks b = true) (ht:F6 a b = some t):One T c n0 s H (.cmp ng ks x y) (.lit (.bool (if ng then !t else t))) H :=
 ⟨0,by simp [core,prim,hx,hy,ha,hb,ht]⟩
theorem B0b:F6 [] [] = some true:=rfl
theorem Z0 {k:IntKind} {a b:Int} {l m:List AV} {t:Bool} (h:F6 l m = some t):F6 (.lit (.int k a) :: l) (.lit (.int k b) :: m) = some ((a == b) && t):= by
 simp only [F6,A0h,if_true]
 cases a == b <;> simp [h]
theorem C2k {op:UnOp} {x:Opd} {a v:AV} (hx:ev s x = some a) (hv:unV op a = some v):One T c n0 s H (.un op x) v H:=⟨0,by simp [core,prim,hx,hv]⟩
theorem B1e {k k':IntKind} {x:Opd} {n:Int} (h:ev s x = some (.lit (.int k' n))):One T c n0 s H (.conv k x) (.lit (.int k (k.wrap n))) H:=⟨0,by simp [core,prim,h]⟩
theorem A1m {f:Fn} {a b:List Opd} {u w:List AV} (h1:evs s a = some u) (h2:evs s b = some w):One T c n0 s H (.mkfn f a b) (.fn f u w) H:=⟨0,by simp [core,prim,h1,h2]⟩
theorem B87 {α:Type} {bytes:Nat} {n:Int} {z:α} {r:List α} (h:B8f bytes n z = some r):(0≤n∧n * bytes≤1099511627776∧n≤1099511627776)∧r = List.replicate n.toNat z:= by
 unfold B8f at h; split at h
 ·next e=>simp only [Option.some.injEq] at h; exact ⟨e,h.symm⟩
 ·cases h
theorem B89 {α:Type} {f:α→List AV} {k bytes r:Nat} {z:List AV} {x y:Opd} {n:Int} {zt:α} {e:List α} (hx:ev s x = some (.lit (.int .i64 n))) (hy:ev s y = some (.lit (.int .i64 n))) (hz:f zt = z) (h:B8f bytes n zt = some e) :
  One T c (H0.length + k0) s (H0++l) (.mkslice k bytes z x y r) (.asl (H0.length + (k0 + r)) e.length) (H0++l.set (k0 + r) (.arr k false (e.map f))):=⟨0,by
 obtain ⟨h1,h2⟩:=B87 h
 subst h2; subst hz
 simp only [core,prim,hx,hy,h1,and_self,if_true,Nat.add_assoc,F0,List.length_replicate,List.map_replicate]⟩
theorem A59 {α:Type} {e m:List α} {lo hi:Int} (h:slc e lo hi = some m):(0≤lo∧lo≤hi∧hi≤e.length)∧m = (e.take hi.toNat).drop lo.toNat:= by
 unfold slc at h; split at h
 ·next e1=>simp only [Option.some.injEq] at h; exact ⟨e1,h.symm⟩
 ·cases h
theorem A5e {α:Type} {f:α→List AV} {k:Nat} {x:Opd} {lo hi:Option Opd} {e m:List α} {a b:Int} (h:ev s x = some (.seq k (e.map f))) (h1:bnd s 0 lo = some a) (h2:bnd s e.length hi = some b) (hm:slc e a b = some m):One T c n0 s H (.sliceQ k x lo hi) (.seq k (m.map f)) H:=⟨0,by
 obtain ⟨h3,rfl⟩:=A59 hm
 simp only [core,prim,h,h1,List.length_map,h2,h3,and_self,if_true,List.map_drop,List.map_take]⟩
theorem C9 {off b o:Nat} {x:Opd} (h:ev s x = some (.ptr b o)):One T c n0 s H (.fieldAddr off x) (.ptr b (o + off)) H:=⟨0,by simp [core,prim,h]⟩
theorem B3k {off:Nat} {x:Opd} {cs ds:List AV} (h:ev s x = some (.cptr cs)) (hd:cs.drop off = ds):One T c n0 s H (.fieldAddr off x) (.cptr ds) H:=⟨0,by simp [core,prim,h,hd]⟩
theorem B4j {α:Type} {e:List α} {n:Int} {a:α} (h:idx e n = some a):0≤n∧e[n.toNat]? = some a:= by
 unfold idx at h; split at h
 ·next h1=>exact ⟨h1,h⟩
 ·cases h
theorem N7 {α:Type} {f:α→List AV} {k:Nat} {kk:IntKind} {x i:Opd} {e:List α} {n:Int} {a:α} (h:ev s x = some (.seq k (e.map f))) (hi:ev s i = some (.lit (.int kk n))) (ha:idx e n = some a):One T c n0 s H (.idxS k x i) (.cptr (f a)) H:=⟨0,by
 obtain ⟨h1,h2⟩:=B4j ha
 simp [core,prim,h,hi,h1,h2]⟩
theorem C0w {α:Type} {f:α→List AV} {k j m:Nat} {p:Bool} {kk:IntKind} {x i:Opd} {e:List α} {n:Int} {a:α} (h:ev s x = some (.asl (H0.length + j) m)) (hi:ev s i = some (.lit (.int kk n))) (hl:l[j]? = some (.arr k p (e.map f))) (hm:e.length = m) (ha:idx e n = some a) :
  One T c n0 s (H0++l) (.idxS k x i) (.eptr (H0.length + j) m n.toNat 0) (H0++l):=⟨0,by
 obtain ⟨h1,h2⟩:=B4j ha
 have h3:n < m:= by
  have:=(List.getElem?_eq_some_iff.1 h2).1
  omega
 simp [core,prim,h,hi,R5 hl,h1,h3,hm]⟩
theorem C1l {α:Type} {f:α→List AV} {e:List α} {n:Int} {a:α} (ha:idx e n = some a):(e.map f)[n.toNat]? = some (f a):= by
 rw [List.getElem?_map,(B4j ha).2]; rfl
theorem A7 {x:Opd} {i:Nat} {cs:List AV} {v:AV} (h:ev s x = some (.tup cs)) (hv:cs[i]? = some v):One T c n0 s H (.extract x i) v H:=⟨0,by simp [core,prim,h,hv]⟩
theorem C3w {x:Opd} {b:ByteArray} (h:ev s x = some (.lit (.string b))):One T c n0 s H (.lenS x) (.lit (.int .i64 b.size)) H:=⟨0,by simp [core,prim,h]⟩
theorem E9 {α:Type} {f:α→List AV} {k:Nat} {x:Opd} {e:List α} (h:ev s x = some (.seq k (e.map f))):One T c n0 s H (.lenL x) (.lit (.int .i64 e.length)) H:=⟨0,by simp [core,prim,h]⟩
theorem C2e {r:Nat}:One T c (H0.length + k0) s (H0++l) (.mkmap r) (.mp (H0.length + (k0 + r))) (H0++l.set (k0 + r) (.map [])):=⟨0,by simp only [core,prim,Nat.add_assoc,F0]⟩
theorem A1y {k n:Nat} {z:List AV} {parts:List (Nat × Opd)} {ps:List (Nat × AV)} {rows:List (List AV)} (h1:J5 s parts = some ps) (h2:A0w k (List.replicate n z) ps = some rows):One T c n0 s H (.xlits k z n parts) (.xseq k rows) H :=
 ⟨0,by simp [core,prim,h1,h2]⟩
theorem C0x {k:Nat} {kk:IntKind} {x i:Opd} {rows:List (List AV)} {n:Int} {r:List AV} (h:ev s x = some (.xseq k rows)) (hi:ev s i = some (.lit (.int kk n))) (hr:(if 0≤n then rows[n.toNat]? else none) = some r):One T c n0 s H (.idxS k x i) (.cptr r) H:=⟨0,by
 split at hr
 ·next h0=>simp [core,prim,h,hi,h0,hr]
 ·cases hr⟩
theorem C3x {k:Nat} {x:Opd} {rows:List (List AV)} {n:Int} (h:ev s x = some (.xseq k rows)) (hn:(rows.length:Int) = n):One T c n0 s H (.lenL x) (.lit (.int .i64 n)) H:=⟨0,by simp [core,prim,h,hn]⟩
theorem C3v {α:Type} {f:α→List AV} {k j n:Nat} {p:Bool} {x:Opd} {e:List α} (h:ev s x = some (.asl (H0.length + j) n)) (hl:l[j]? = some (.arr k p (e.map f))) (hn:e.length = n):One T c n0 s (H0++l) (.lenL x) (.lit (.int .i64 e.length)) (H0++l):=⟨0,by
 simp [core,prim,h,R5 hl,hn]⟩
theorem C2f {mx:Bool} {xs:List Opd} {x v:AV} {vs:List AV} (h:evs s xs = some (x :: vs)) (hv:mmV mx x vs = some v):One T c n0 s H (.mm mx xs) v H:=⟨0,by simp [core,prim,h,hv]⟩
theorem A99 {α:Type} {b:Nat} {e m r:List α} (h:app b e m = some r):((e.length + m.length) * b≤1099511627776∧e.length + m.length≤1099511627776)∧r = e++m:= by
 unfold app at h; split at h
 ·next h1=>simp only [Option.some.injEq] at h; exact ⟨h1,h.symm⟩
 ·cases h
theorem E6 {α:Type} {f:α→List AV} (hf:∀a,(f a).all AV.frz = true) (e:List α):A93 (e.map f) = true:= by
 simp [A93,List.all_map]
 intro a _ x hx
 have:=hf a
 rw [List.all_eq_true] at this
 exact this x hx
def rd (H:A3) (v:AV) (k:Nat) (rows:List (List AV)):Prop:=Y0 H v = some rows∧kOf H v = some k
theorem B7i {H:A3} {k:Nat} {rows:List (List AV)}:rd H (.seq k rows) k rows:=⟨rfl,rfl⟩
theorem B67 {α:Type} {f:α→List AV} {k bytes j n:Nat} {p:Bool} {r:Option Nat} {x y:Opd} {e m d:List α} {v:AV} (hd:ev s x = some (.asl (H0.length + j) n)) (hx:ev s y = some v) (hl:l[j]? = some (.arr k p (d.map f))) (hn:d.length = n) (hr:rd (H0++l) v k (m.map f)) (hf:∀a,(f a).all AV.frz = true) (h:app bytes d m = some e) :
  One T c n0 s (H0++l) (.append k bytes x y r false) (.asl (H0.length + j) e.length) (H0++l.set j (.arr k p (e.map f))):=⟨0,by
 obtain ⟨h1,rfl⟩:=A99 h
 subst hn
 simp [core,prim,hd,hx,hr.1,hr.2,E6 hf,N5 hl,h1,F0]⟩
theorem C18 {α:Type} {f:α→List AV} {k bytes j n:Nat} {p:Bool} {r:Option Nat} {x y:Opd} {e m d:List α} {v:AV} (hd:ev s x = some (.asl (H0.length + j) n)) (hx:ev s y = some v) (hl:l[j]? = some (.arr k p (d.map f))) (hn:d.length = n) (hr:rd (H0++l) v k (m.map f)) (hf:∀a,(f a).all AV.frz = true) (h:app bytes d m = some e) :
  One T c n0 s (H0++l) (.append k bytes x y r true) (.seq k (e.map f)) (H0++l.set j .dead):=⟨0,by
 obtain ⟨h1,rfl⟩:=A99 h
 subst hn
 simp [core,prim,hd,hx,hr.1,hr.2,E6 hf,N5 hl,h1,F0]⟩
theorem C3t {α:Type} {f:α→List AV} {k j n:Nat} {x y:Opd} {m d:List α} {v:AV} (hd:ev s x = some (.asl (H0.length + j) n)) (hx:ev s y = some v) (hl:l[j]? = some (.arr k false (d.map f))) (hn:d.length = n) (hr:rd (H0++l) v k (m.map f)) (hf:∀a,(f a).all AV.frz = true) :
  One T c n0 s (H0++l) (.copy k x y) (.lit (.int .i64 (min m.length n:Nat))) (H0++l.set j (.arr k false ((m.take (min m.length n)++d.drop (min m.length n)).map f))):=⟨0,by
 subst hn
 simp [core,prim,hd,hx,hr.1,hr.2,E6 hf,N5 hl,F0]⟩
theorem C2j {x:Opd} {b:ByteArray} {r:Nat} (h:ev s x = some (.lit (.string b))):One T c (H0.length + k0) s (H0++l) (.range x r) (.itr (H0.length + (k0 + r))) (H0++l.set (k0 + r) (.iter b 0)):=⟨0,by simp only [core,prim,h,Nat.add_assoc,F0]⟩
theorem C2h {x:Opd} {b:ByteArray} {j pos:Nat} (h:ev s x = some (.itr (H0.length + j))) (hl:l[j]? = some (.iter b pos)) (hp:pos < b.size) :
  One T c n0 s (H0++l) (.next x) (.tup [.lit (.bool true),.lit (.int .i64 pos),.lit (.int .i32 (Utf8.decode b pos).1)]) (H0++l.set j (.iter b (pos + (Utf8.decode b pos).2))):=⟨0,by simp only [core,prim,h,R6,hl,hp,if_true,F0]⟩
theorem C2g {x:Opd} {b:ByteArray} {j pos:Nat} (h:ev s x = some (.itr (H0.length + j))) (hl:l[j]? = some (.iter b pos)) (hp:¬ pos < b.size) :
  One T c n0 s (H0++l) (.next x) (.tup [.lit (.bool false)]) (H0++l):=⟨0,by simp only [core,prim,h,R6,hl,hp,if_false]⟩
theorem A70 {k k':IntKind} {x y:Opd} {a b r:Int} (hx:ev s x = some (.lit (.int k a))) (hy:ev s y = some (.lit (.int k' b))) (h:B18 k a b = some r):One T c n0 s H (.bin .shl x y) (.lit (.int k r)) H:=F4 hx hy (by
 unfold B18 at h
 split at h
 ·cases h
 ·next hb=>simp only [Option.some.injEq] at h; subst h; simp only [A29,hb,if_false])
theorem A5d {k k':IntKind} {x y:Opd} {a b r:Int} (hx:ev s x = some (.lit (.int k a))) (hy:ev s y = some (.lit (.int k' b))) (h:A9c k a b = some r):One T c n0 s H (.bin .shr x y) (.lit (.int k r)) H:=F4 hx hy (by
 unfold A9c at h
 split at h
 ·cases h
 ·next hb=>simp only [Option.some.injEq] at h; subst h; simp only [A29,hb,if_false])
theorem C0r {α β:Type} {f:α→β} (l:List α) (i:Int) (x:α):(l.map f).set i.toNat (f x) = (A97 l i x).map f:= by
 unfold A97; rw [List.map_set]
theorem B6b {α:Type} (l:List α) (i:Int) (x:α):(A97 l i x).length = l.length:=List.length_set ..
def fz1:AV→AV
 | .fresh k rows=>.seq k rows
 | v=>v
def fzA:AV→AV
 | .agg cs=>.agg (cs.map fz1)
 | v=>fz1 v
def E8 (T:Tab) (c:Sc) (H:A3) (f:AV) (aq rs:List AV):Prop:=O3 T c H f aq rs H∧bdL H.length rs = true
def A08 (T:Tab) (c:Sc) (H:A3) (f:AV) (aq rs:List AV):Prop:=∃ rs',E8 T c H f aq rs'∧rs'.map fzA = rs
theorem E8.frz {H:A3} {f:AV} {aq rs:List AV} (h:E8 T c H f aq rs):A08 T c H f aq (rs.map fzA):=⟨rs,h,rfl⟩
theorem B5k {n0:Nat} {H:A3}:∀(cs:List AV) (j:Nat),A0y n0 H [] j cs = (cs.map fz1,H)
 | [],_=>rfl
 | v :: cs,j=>by
  have:inC n0 H [] j v = (fz1 v,H):= by cases v <;> rfl
  simp only [A0y,this,B5k cs,List.map_cons]
theorem B79 {n0:Nat} {H:A3} (v:AV):inV n0 H [] v = (fzA v,H):= by
 cases v <;> simp [inV,fzA,B5k,inC,T5,fz1]
theorem Y5 {n0:Nat} {H:A3}:∀(rs:List AV),S4 n0 H rs [] = (rs.map fzA,H)
 | []=>rfl
 | v :: rs=>by simp only [S4,List.headD_nil,B79,List.tail_nil,Y5 rs,List.map_cons]
theorem C2 {f:Opd} {args:List Opd} {d src:Nat} {fv:AV} {aq as' rs:List AV} {H1:A3} {hc:List (Option (List Nat))} {ops:List AOper} (hf:ev s f = some fv) (ha:evs s args = some aq) (hz:O6 H aq = some (as',H1)) (hcall:A08 T c H1 fv as' rs)
  (k:J4 T c n0 ops ((d,packed rs) :: s) H1 (some [] :: hc) R):J4 T c n0 (⟨some d,.call f args [] false,none,[],[],0,src⟩ :: ops) s H hc R:= by
 obtain ⟨rs',⟨⟨n,e⟩,hb⟩,rfl⟩:=hcall
 refine A55 (v:=packed (rs'.map fzA)) (H1:=H1) ⟨n,?_⟩ (by simp [writes]) k
 simp only [core,Q8,hf,ha,Bool.false_eq_true,if_false,hz,e,Y5]
theorem B3l {f:Opd} {args:List Opd} {fv:AV} {aq as' rs:List AV} {H1:A3} (hf:ev s f = some fv) (ha:evs s args = some aq) (hp:aq.all (O8 H) = true) (hz:O6 H aq = some (as',H1)) (hcall:A08 T c (H.map AO.toRo) fv as' rs):One T c n0 s H (.call f args [] true) (packed rs) H:= by
 obtain ⟨rs',⟨⟨n,e⟩,hb⟩,rfl⟩:=hcall
 refine ⟨n,?_⟩
 rw [List.length_map] at hb
 simp only [core,Q8,hf,ha,if_true,hp,hz,e,hb,Y5]
theorem G3:List.map fzA [] = []:=rfl
theorem C0 {v v':AV} {l l':List AV} (h:fzA v = v') (k:l.map fzA = l'):(v :: l).map fzA = v' :: l':= by rw [List.map_cons,h,k]
theorem A1e {f:Opd} {args:List Opd} {d src:Nat} {fv:AV} {aq as' rs:List AV} {hc:List (Option (List Nat))} {ops:List AOper} {H1:A3} (hf:ev s f = some fv) (ha:evs s args = some aq) (hp:aq.all (O8 H) = true) (hz:O6 H aq = some (as',H1)) (hcall:A08 T c (H.map AO.toRo) fv as' rs)
  (k:J4 T c n0 ops ((d,packed rs) :: s) H hc R):J4 T c n0 (⟨some d,.call f args [] true,none,[],[],0,src⟩ :: ops) s H hc R:= by
 obtain ⟨rs',⟨⟨n,e⟩,hb⟩,rfl⟩:=hcall
 refine A55 (v:=packed (rs'.map fzA)) (H1:=H) ⟨n,?_⟩ (by simp [writes]) k
 rw [List.length_map] at hb
 simp only [core,Q8,hf,ha,if_true,hp,hz,e,hb,Y5]
theorem A3g {H:A3}:([]:List AV).all (O8 H) = true:=rfl
theorem N2 {H:A3} {v:AV} {l:List AV} (h:O8 H v = true) (k:l.all (O8 H) = true):(v :: l).all (O8 H) = true:= by rw [List.all_cons,h,k]; rfl
theorem B9 {H:A3}:O6 H [] = some ([],H):=rfl
theorem A5 {H H1 H2:A3} {v v':AV} {vs vs':List AV} (h:Q6 H v = some (v',H1)) (k:O6 H1 vs = some (vs',H2)):O6 H (v :: vs) = some (v' :: vs',H2):= by
 simp only [O6,h,k]
theorem D9 {H:A3} {cs:List AV} (h:cs.all AV.plain = true):Q6 H (.agg cs) = some (.agg cs,H):= by
 simp only [Q6,A60 h,Option.map_some]
theorem B6z {j n k:Nat} {p:Bool} {rows:List (List AV)} (hl:l[j]? = some (.arr k p rows)) (hn:rows.length = n):Q6 (H0++l) (.asl (H0.length + j) n) = some (.seq k rows,H0++l.set j (.arr k true rows)):= by
 cases p with
 | false=>simp [Q6,frv,R5 hl,N5 hl,hn,F0]
 | true =>
  have:l.set j (.arr k true rows) = l:= by
   obtain ⟨hj,e1⟩:=List.getElem?_eq_some_iff.1 hl
   rw [← e1]; exact List.set_getElem_self hj
  simp [Q6,frv,R5 hl,hn,this]
theorem C02 {k:Option Nat} {a:Opd} {v:AV} {H':A3} (h:One T c n0 s H (.load k a) v H'):prim c n0 s H (.load k a) = some (v,H'):= by
 obtain ⟨n,e⟩:=h; exact e
theorem B7 {H:A3}:results s H [] = some []:=rfl
theorem A9 {H:A3} {t:Nat} {v:AV} {l:List ARes} {vs:List AV} (h:sget s t = some v) (k:results s H l = some vs):results s H (.tmp t :: l) = some (v :: vs):= by
 simp only [results,h,k,Option.bind_some,Option.map_some]
theorem E5 {H H':A3} {t:Nat} {q:Option Nat} {v:AV} {l:List ARes} {vs:List AV} (h:One (fun _=>none) ⟨0,[]⟩ 0 s H (.load q (.t t)) v H') (k:results s H l = some vs):results s H (.cell t q :: l) = some (v :: vs):= by
 simp only [results,C02 h,k,Option.bind_some,Option.map_some]
theorem B5h {j:Nat} {cs:List AV} (h:l[j]? = some (.cells cs)):hcells ((H0++l).map AO.toRo) (H0.length + j) = some cs:= by rw [A8x]; exact D5 h
theorem B4i {b:Nat} {cs:List AV} (h:hcells H0 b = some cs) (l:List AO):hcells ((H0++l).map AO.toRo) b = some cs:= by rw [A8x]; exact J7 h l
structure RetQ (H0:A3) (rv:List ARes) (rs:List AV) (e:Ex) (s:B4) (H:A3):Prop where
 he:(match e with | .exit _=>False | _=>True)
 hr:∃rs0 H1,results s H rv = some rs0∧Q7 H0.length H rs0 = some (rs,H1)∧bdL H0.length rs = true∧H1.take H0.length = H0
theorem B90 {i:Nat} {af:AFunc} {first cap args aq rs:List AV} (haf:T i = some af) (has:first++args++cap = aq) (hn:Nat.beq aq.length af.nargs = true)
  (h:WP T af.body (L6 0 aq) H0 ⟨H0.length,c.cur :: c.outer⟩ (RetQ H0 af.results rs)):E8 T c H0 (.fn (.func i) first cap) args rs:= by
 obtain ⟨e,S',s',H',h1,h2,h3,rs0,H1,h4,h5,h6,h7⟩:=h _ (Sub.refl _)
 refine ⟨?_,h6⟩
 have ht:trunc H0.length rs H1 = H0:= by simp [trunc,h6,h7]
 have:=O3.fn (c:=c) (H:=H0) (f:=.fn (.func i) first cap) (args:=args) (rs:=rs) (rs1:=rs) (rs0:=rs0) rfl haf rfl has.symm hn rfl h1 (by cases e <;> first | rfl | exact h3.elim) (U5 h2 h4) h5 rfl rfl
 rw [ht] at this
 exact this
theorem B6 {B:Nat} {H:A3}:Q7 B H [] = some ([],H):=rfl
theorem A4 {B:Nat} {H H1 H2:A3} {v v':AV} {vs vs':List AV} (h:S7 B H v = some (v',H1)) (k:Q7 B H1 vs = some (vs',H2)):Q7 B H (v :: vs) = some (v' :: vs',H2):= by
 simp only [Q7,h,k]
theorem H9 {B:Nat} {H:A3} {cs:List AV} (h:cs.all (fun v=>match v with | .lit _ | .seq _ _=>true | _=>false) = true):S7 B H (.agg cs) = some (.agg cs,H):= by
 have h1:S9 B H cs = some (cs,H):= by
  induction cs with
  | nil=>rfl
  | cons v cs ih =>
   simp only [List.all_cons,Bool.and_eq_true] at h
   have:=ih h.2
   cases v with
   | lit | seq=>simp only [S9,X0,this]
   | _=>simp at h
 simp only [S7,h1,Option.map_some]
theorem C3z {B:Nat} {H:A3}:S9 B H [] = some ([],H):=rfl
theorem B8k {B:Nat} {H H1 H2:A3} {v v':AV} {vs vs':List AV} (h:X0 B H v = some (v',H1)) (k:S9 B H1 vs = some (vs',H2)):S9 B H (v :: vs) = some (v' :: vs',H2):= by simp only [S9,h,k]
theorem C2p {B:Nat} {H H1:A3} {cs cs':List AV} (h:S9 B H cs = some (cs',H1)):S7 B H (.agg cs) = some (.agg cs',H1):= by simp only [S7,h,Option.map_some]
theorem C30 {j n k:Nat} {rows:List (List AV)} (hl:l[j]? = some (.arr k false rows)) (hn:rows.length = n):X0 H0.length (H0++l) (.asl (H0.length + j) n) = some (.fresh k rows,H0++l.set j .dead):= by
 have:Nat.ble H0.length (H0.length + j) = true:=Nat.ble_eq_true_of_le (Nat.le_add_right _ _)
 simp [X0,N5 hl,this,hn,F0]
theorem B4q {j n k:Nat} {rows:List (List AV)} (hl:l[j]? = some (.arr k false rows)) (hn:rows.length = n):S7 H0.length (H0++l) (.asl (H0.length + j) n) = some (.fresh k rows,H0++l.set j .dead):= by
 have:Nat.ble H0.length (H0.length + j) = true:=Nat.ble_eq_true_of_le (Nat.le_add_right _ _)
 simp [S7,X0,N5 hl,this,hn,F0]
theorem A58 {o:AOper} (h:rbox s o.op = none) {hc:List (Option (List Nat))}:L4 s o hc = true:= by unfold L4; rw [h]
theorem A5q {b:Nat}:(([]:List (Option (List Nat))).all fun e=>match e with | none=>true | some hs=>hs.contains b) = true:=rfl
theorem A34 {b:Nat} {hs:List Nat} {r:List (Option (List Nat))} (h:hs.contains b = true) (k:(r.all fun e=>match e with | none=>true | some hs=>hs.contains b) = true):((some hs :: r).all fun e=>match e with | none=>true | some hs=>hs.contains b) = true:= by
 rw [List.all_cons,k]; simp only [h,Bool.and_self]
theorem B91 {i:Nat} {af:AFunc} {first cap args aq rs:List AV} (haf:T i = some af) (has:first++args++cap = aq) (hn:Nat.beq aq.length af.nargs = true)
  (h:WP T af.body (L6 0 aq) H0 ⟨H0.length,c.cur :: c.outer⟩ (fun e s H=>∃ rs',RetQ H0 af.results rs' e s H∧rs'.map fzA = rs)):A08 T c H0 (.fn (.func i) first cap) args rs:= by
 obtain ⟨e,S',s',H',h1,h2,rs',⟨h3,rs0,H1,h4,h5,h6,h7⟩,h8⟩:=h _ (Sub.refl _)
 refine ⟨rs',⟨?_,h6⟩,h8⟩
 have ht:trunc H0.length rs' H1 = H0:= by simp [trunc,h6,h7]
 have:=O3.fn (c:=c) (H:=H0) (f:=.fn (.func i) first cap) (args:=args) (rs:=rs') (rs1:=rs') (rs0:=rs0) rfl haf rfl has.symm hn rfl h1 (by cases e <;> first | rfl | exact h3.elim) (U5 h2 h4) h5 rfl rfl
 rw [ht] at this
 exact this
theorem B6n {ac:ACode} {Q:Ex→B4→A3→Prop} (h:WP T ac s (H0++[]) c Q):WP T ac s H0 c Q:= by rwa [List.append_nil] at h
theorem bdn {N:Nat}:A0e N [] = true:=rfl
theorem bdc {N:Nat} {t:Nat} {v:AV} {s:B4} (h:v.bd N = true) (k:A0e N s = true):A0e N ((t,v) :: s) = true:= by simp only [A0e,h,k,Bool.and_self]
theorem A8 {N:Nat} {v:Value}:(AV.lit v).bd N = true:= by simp only [AV.bd]
theorem M4 {N k:Nat} {rows:List (List AV)}:(AV.seq k rows).bd N = true:= by simp only [AV.bd]
theorem A7k {N k:Nat} {rows:List (List AV)}:(AV.fresh k rows).bd N = true:= by simp only [AV.bd]
theorem G4 {N j k o:Nat} (h:Nat.ble (j + 1) k = true):(AV.ptr (N + j) o).bd (N + k) = true:= by simp only [AV.bd]; exact Nat.ble_eq_true_of_le (by have:=Nat.le_of_ble_eq_true h; omega)
theorem C3f {N j k:Nat} (h:Nat.ble (j + 1) k = true):(AV.itr (N + j)).bd (N + k) = true:= by simp only [AV.bd]; exact Nat.ble_eq_true_of_le (by have:=Nat.le_of_ble_eq_true h; omega)
theorem B6q {N j k n:Nat} (h:Nat.ble (j + 1) k = true):(AV.asl (N + j) n).bd (N + k) = true:= by simp only [AV.bd]; exact Nat.ble_eq_true_of_le (by have:=Nat.le_of_ble_eq_true h; omega)
theorem W9 {H:A3} {b:Nat} {cs:List AV} (h:hcells H b = some cs):b < H.length:= by
 unfold hcells hget at h
 cases e:H[b]? with
 | none=>simp [e] at h
 | some o=>exact (List.getElem?_eq_some_iff.1 e).1
theorem A37 {H:A3} {b o k:Nat} {cs:List AV} (h:hcells H b = some cs):(AV.ptr b o).bd (H.length + k) = true:= by
 have:=W9 h
 simp only [AV.bd]; exact Nat.ble_eq_true_of_le (by omega)
mutual
theorem bd_more {N M:Nat} (h:N≤M):(v:AV)→v.bd N = true→v.bd M = true
 | .lit _,_ | .nils _,_ | .seq _ _,_ | .fresh _ _,_ | .undef,_=>by simp only [AV.bd]
 | .xseq _ rows,k=>by simp only [AV.bd] at k ⊢; exact bdR_more h rows k
 | .ptr b _,k | .itr b,k | .eptr b _ _ _,k | .asl b _,k | .csl b _ _ _,k | .mp b,k=>by
  simp only [AV.bd] at k ⊢
  exact Nat.ble_eq_true_of_le (Nat.le_trans (Nat.le_of_ble_eq_true k) h)
 | .cptr cs,k | .agg cs,k | .tup cs,k=>by simp only [AV.bd] at k ⊢; exact bdL_more h k
 | .fn f a c,k=>by
  cases f <;> simp only [AV.bd,Bool.and_eq_true] at k ⊢
  all_goals first | exact ⟨bdL_more h k.1,bdL_more h k.2⟩ | exact ⟨Nat.ble_eq_true_of_le (Nat.le_trans (Nat.le_of_ble_eq_true k.1) h),bdL_more h k.2.1,bdL_more h k.2.2⟩ | exact ⟨⟨Nat.ble_eq_true_of_le (Nat.le_trans (Nat.le_of_ble_eq_true k.1.1) h),bdL_more h k.1.2⟩,bdL_more h k.2⟩
theorem bdL_more {N M:Nat} (h:N≤M):{vs:List AV}→bdL N vs = true→bdL M vs = true
 | [],_=>rfl
 | v :: vs,k=>by
  simp only [bdL,Bool.and_eq_true] at k ⊢
  exact ⟨bd_more h v k.1,bdL_more h k.2⟩
theorem bdR_more {N M:Nat} (h:N≤M):(rows:List (List AV))→bdR N rows = true→bdR M rows = true
 | [],_=>rfl
 | r :: rows,k=>by
  simp only [bdR,Bool.and_eq_true] at k ⊢
  exact ⟨bdL_more h k.1,bdR_more h rows k.2⟩
end
theorem B0m {N k i:Nat} {a b:List AV} (h:bdL N a = true∧bdL N b = true):(AV.fn (.func i) a b).bd (N + k) = true:= by
 simp only [AV.bd,bdL_more (Nat.le_add_right N k) h.1,bdL_more (Nat.le_add_right N k) h.2,Bool.and_self]
theorem B37 {N i:Nat} {a b:List AV} (ha:bdL N a = true) (hb:bdL N b = true):(AV.fn (.func i) a b).bd N = true:= by simp only [AV.bd,ha,hb,Bool.and_self]
theorem F9 {N:Nat} {cs:List AV} (h:cs.all (fun v=>match v with | .lit _ | .seq _ _ | .nils _ | .fresh _ _=>true | _=>false) = true):(AV.agg cs).bd N = true:= by
 simp only [AV.bd]
 induction cs with
 | nil=>rfl
 | cons v cs ih =>
  simp only [List.all_cons,Bool.and_eq_true] at h
  simp only [bdL,ih h.2,Bool.and_true]
  cases v with
  | lit | seq | nils | fresh=>simp only [AV.bd]
  | _=>simp at h
theorem C23 {N j k:Nat} (h:Nat.ble (j + 1) k = true):(AV.mp (N + j)).bd (N + k) = true:= by simp only [AV.bd]; exact Nat.ble_eq_true_of_le (by have:=Nat.le_of_ble_eq_true h; omega)
theorem B7x {N:Nat}:bdR N [] = true:= by simp only [bdR]
theorem A7j {N:Nat} {r:List AV} {l:List (List AV)} (h:bdL N r = true) (k:bdR N l = true):bdR N (r :: l) = true:= by simp only [bdR,h,k,Bool.and_self]
theorem C24 {N k:Nat} {rows:List (List AV)} (h:bdR N rows = true):(AV.xseq k rows).bd N = true:= by simp only [AV.bd,h]
theorem B16 {H:A3} {l:List AO} {c:Sc} (h:U7 c H = true):U7 ⟨H.length,c.cur :: c.outer⟩ (H++l) = true:= by
 unfold U7 at h ⊢
 rw [List.all_cons,Nat.ble_eq_true_of_le (by simp),Bool.true_and]
 rw [List.all_eq_true] at h ⊢
 intro B hB
 have:=Nat.le_of_ble_eq_true (h B hB)
 exact Nat.ble_eq_true_of_le (by simp; omega)
theorem B1 {N:Nat}:bdL N [] = true:=rfl
theorem A2 {N:Nat} {v:AV} {vs:List AV} (h:v.bd N = true) (k:bdL N vs = true):bdL N (v :: vs) = true:= by simp only [bdL,h,k,Bool.and_self]
def Impl {α β:Type} (T:Tab) (H:A3) (i:Nat) (ff fc:List AV) (g:α→Option β) (ea:α→List AV) (er:β→List AV):Prop :=
 (bdL H.length ff = true∧bdL H.length fc = true)∧∀ (H':A3),H.length≤H'.length→(∀ b cs,hcells H b = some cs→hcells H' b = some cs)→∀ c x r,g x = some r→A08 T c H' (.fn (.func i) ff fc) (ea x) (er r)
theorem Impl.mono {α β:Type} {H H1:A3} {i:Nat} {ff fc:List AV} {g:α→Option β} {ea:α→List AV} {er:β→List AV} (h:Impl T H i ff fc g ea er) (hl:H.length≤H1.length) (hag:∀b cs,hcells H b = some cs→hcells H1 b = some cs):Impl T H1 i ff fc g ea er :=
 ⟨⟨bdL_more hl h.1.1,bdL_more hl h.1.2⟩,fun H' hl' k c x r e=>h.2 H' (Nat.le_trans hl hl') (fun b cs hb=>k b cs (hag b cs hb)) c x r e⟩
theorem Impl.app {α β:Type} {H:A3} {i:Nat} {ff fc:List AV} {g:α→Option β} {ea:α→List AV} {er:β→List AV} (h:Impl T H i ff fc g ea er) (l:List AO):Impl T (H++l) i ff fc g ea er :=
 h.mono (by simp) (fun b cs hb=>J7 hb l)
theorem Impl.call {α β:Type} {H:A3} {i:Nat} {ff fc:List AV} {g:α→Option β} {ea:α→List AV} {er:β→List AV} (h:Impl T H i ff fc g ea er) {x:α} {r:β} (e:g x = some r) (l:List AO):A08 T c (H++l) (.fn (.func i) ff fc) (ea x) (er r) :=
 h.2 _ (by simp) (fun b cs hb=>J7 hb l) c x r e
theorem retq {rv:List ARes} {rs rs0:List AV} {H1:List AO} {e:Ex} (he:(match e with | .exit _=>False | _=>True)) (h1:results s (H0++l) rv = some rs0) (h2:Q7 H0.length (H0++l) rs0 = some (rs,H0++H1)) (h3:bdL H0.length rs = true):RetQ H0 rv rs e s (H0++l) :=
 ⟨he,rs0,_,h1,h2,h3,by simp⟩
theorem Z9 {i:Nat} {first cap args rs aq:List AV} {H:A3} (h:E8 T c H (.fn (.func i) [] []) aq rs) (has:aq = first++args++cap:= by rfl):E8 T c H (.fn (.func i) first cap) args rs:= by
 subst has
 obtain ⟨⟨n,e⟩,hb⟩:=h
 refine ⟨⟨n,?_⟩,hb⟩
 cases n with
 | zero=>simp [mach] at e
 | succ m =>
  rw [R2] at e ⊢
  simpa [L8] using e
theorem P6 {N:Nat} {rs vs:List AV} {H3:A3} (hb:bdL N rs = false) (hv:rs.map fzA = vs):S4 n0 (trunc N rs H3) rs [] = (vs,H3):= by
 rw [Y5,hv]; simp [trunc,hb]
theorem M5 {N:Nat} {rs vs:List AV} {H3 H4:A3} (hb:bdL N rs = true) (hv:rs.map fzA = vs) (ht:H3.take N = H4):S4 n0 (trunc N rs H3) rs [] = (vs,H4):= by
 rw [Y5,hv]; simp [trunc,hb,ht]
theorem K1 {N:Nat} {v:AV} {vs:List AV} (h:v.bd N = false):bdL N (v :: vs) = false:= by simp only [bdL,h,Bool.false_and]
theorem P4 {N B j o:Nat} (h:Nat.ble B j = true):(AV.ptr (N + j) o).bd (N + B) = false:= by
 simp only [AV.bd]
 cases e:Nat.blt (N + j) (N + B) with
 | false=>rfl
 | true=>have:=Nat.le_of_ble_eq_true e; have:=Nat.le_of_ble_eq_true h; omega
theorem B0n {N i:Nat} {a b:List AV} (h:bdL N b = false):(AV.fn (.func i) a b).bd N = false:= by simp only [AV.bd,h,Bool.and_false]
theorem O7 {k:Nat} (h:l.length = k):(H0++l).length = H0.length + k:= by rw [List.length_append,h]
end
section
variable {T:Tab} {s s' S:B4} {H0 H H':A3} {l l':List AO} {c:Sc} {n0 k0:Nat} {hc:List (Option (List Nat))} {ops:List AOper} {Q:Ex→B4→A3→Prop} {R:B4→A3→Prop}
inductive RL (s:B4):List Nat→B4→Prop
 | n:RL s [] []
 | k {t:Nat} {v:AV} {l:List Nat} {s':B4} (h:sget s t = some v) (r:RL s l s'):RL s (t :: l) ((t,v) :: s')
 | x {t:Nat} {l:List Nat} {s':B4} (r:RL s l s'):RL s (t :: l) s'
theorem RL.sub {l:List Nat} {s':B4} (h:RL s l s'):Sub s' s:= by
 induction h with
 | n=>exact Sub.nil _
 | k h _ ih=>exact Sub.cons h ih
 | x _ ih=>exact ih
theorem RL.ok {l:List Nat} {s':B4} (h:RL s l s'):(s'.all fun x=>l.contains x.1) = true:= by
 have:∀x ∈ s',x.1 ∈ l:= by
  induction h with
  | n=>intro x hx; simp at hx
  | k h _ ih =>
   intro x hx
   rcases List.mem_cons.1 hx with rfl | hx
   ·exact List.mem_cons_self
   ·exact List.mem_cons_of_mem _ (ih x hx)
  | x _ ih=>intro y hy; exact List.mem_cons_of_mem _ (ih y hy)
 rw [List.all_eq_true]
 intro x hx
 simpa using this x hx
theorem en {live:List Nat} (h:RL s live s') (k:Q .normal s' H):J4 T c n0 [] s H hc (RG live Q):=⟨0,s,H,rfl,s',h.sub,h.ok,k⟩
theorem es {live:List Nat} {b:ACode} (h:RL s live s') (k:WP T b s' H c Q):J4 T c n0 [] s H hc (RG live (B9r T b c Q)):=en h k
theorem rg {d:Bool} {nres:Nat} {live:List Nat} (k0:Nat) (hk:l.length = k0) (h:J4 T c (H0.length + k0) ops s (H0++(l++List.replicate nres .dead)) [] (RG live Q)):WP T (.region d nres [] ops live) s (H0++l) c Q:=B2g k0 hk h
theorem r0 {d:Bool} {live:List Nat} (h:J4 T c (H0.length + l.length) ops s (H0++l) [] (RG live Q)):WP T (.region d 0 [] ops live) s (H0++l) c Q :=
 B2g l.length rfl (by rw [List.replicate_zero,List.append_nil]; exact h)
theorem sg {d:Bool} {nres:Nat} {live:List Nat} {b:ACode} (k0:Nat) (hk:l.length = k0) (h:J4 T c (H0.length + k0) ops s (H0++(l++List.replicate nres .dead)) [] (RG live (B9r T b c Q))):WP T (.seq (.region d nres [] ops live) b) s (H0++l) c Q:=B7t (rg k0 hk h)
theorem s0 {d:Bool} {live:List Nat} {b:ACode} (h:J4 T c (H0.length + l.length) ops s (H0++l) [] (RG live (B9r T b c Q))):WP T (.seq (.region d 0 [] ops live) b) s (H0++l) c Q:=B7t (r0 h)
theorem C3 {a b:ACode} (h:WP T a s H c (B9r T b c Q)):WP T (.seq a b) s H c Q:=B7t h
theorem C6 (h:Q .normal s H):WP T .skip s H c Q:=C21 h
theorem J0 {id:Nat} (h:Q (.exit id) s H):WP T (.exit id) s H c Q:=C2z h
theorem C4 (h:Q .ret s H):WP T .ret s H c Q:=C4j h
theorem D0 {id:Nat} {a:ACode} (h:WP T a s H c (B33 id Q)):WP T (.block id a) s H c Q:=C1o h
theorem C2y {a:ACode} (h:WP T a s H c Q):WP T (.scope a) s H c Q:=C1q h
theorem I3 {x:Opd} {t:Bool} {a b:ACode} (h:ev s x = some (.lit (.bool t))) (ht:t = true) (k:WP T a s H c Q):WP T (.cond x a b) s H c Q:=B6l h ht k
theorem V8 {x:Opd} {t:Bool} {a b:ACode} (h:ev s x = some (.lit (.bool t))) (ht:t = false) (k:WP T b s H c Q):WP T (.cond x a b) s H c Q:=B6k h ht k
theorem C4g {ac:ACode} {Q1:Ex→B4→A3→Prop} (h:WP T ac s H c (fun e s' H'=>∃ s0,Sub s0 s'∧Q1 e s0 H')) (k:∀e s' H',Q1 e s' H'→Q e s' H'):WP T ac s H c Q:=C20 h k
theorem B2e {tr:Bool} {live:List Nat} {bd:ACode} (k:Nat) (hk:l.length = k) (s':B4) (hr:∀S,Sub s S→restrict S live = s') (h:WP T bd s' (H0++l) (bif tr then ⟨H0.length + k,c.cur :: c.outer⟩ else c) (UnQ T tr live bd c (H0.length + k) Q)):WP T (.loop tr live bd) s (H0++l) c Q:=B9p k hk s' hr h
theorem wi {ρ:Type} {x:Opd} {e:Bool} {A B:Option ρ} {r:ρ} {a b:ACode} (h:(if e = true then A else B) = some r) (hx:ev s x = some (.lit (.bool e))) (k1:e = true→A = some r→WP T a s H c Q) (k2:e = false→B = some r→WP T b s H c Q):WP T (.cond x a b) s H c Q:= by
 cases e with
 | true=>exact B6l hx rfl (k1 rfl h)
 | false=>exact B6k hx rfl (k2 rfl h)
theorem oB {α β:Type} {o:Option α} {f:α→Option β} {r:β} {P:Prop} (h:o.bind f = some r) (k:∀x,o = some x→f x = some r→P):P:= by
 obtain ⟨x,h1,h2⟩:=C2l h
 exact k x h1 h2
theorem os {α:Type} {a b:α} (h:some a = some b):a = b:=Option.some.inj h
def GQ (d:Nat) (v:AV) (s:B4) (H:A3) (s1:B4) (H1:A3):Prop:=H1 = H∧Sub ((d,v) :: s) s1
theorem B6d:∀{s:B4} {t:Nat} {v:AV},sget s t = some v→∃ x ∈ s,x.1 = t
 | [],_,_,h=>by simp [K5,I8] at h
 | x :: s,t,v,h=>by
  simp only [K5,I8] at h
  cases hb:Nat.beq x.1 t with
  | true=>exact ⟨x,by simp,Nat.eq_of_beq_eq_true hb⟩
  | false=>rw [hb] at h; obtain ⟨y,h1,h2⟩:=B6d h; exact ⟨y,by simp [h1],h2⟩
theorem B6e:∀{n:Nat} {s s1:B4},s1.drop n = s→((s1.take n).all fun y=>s.all fun x=>!Nat.beq y.1 x.1) = true→Sub s s1
 | 0,s,s1,h,_=>by rw [List.drop_zero] at h; subst h; exact Sub.refl _
 | n + 1,s,[],h,_=>by simp at h; subst h; exact Sub.refl _
 | n + 1,s,y :: s1,h,k=>by
  simp only [List.drop_succ_cons] at h
  simp only [List.take_succ_cons,List.all_cons,Bool.and_eq_true] at k
  have ih:=B6e h k.2
  intro t v e
  obtain ⟨x,hx,rfl⟩:=B6d e
  have:=List.all_eq_true.1 k.1 x hx
  simp only [Bool.not_eq_true'] at this
  simp only [K5,I8,this,cond_false]
  exact ih _ _ e
theorem ge (n:Nat) {d:Nat} {v:AV} {s1:B4} (hv:sget s1 d = some v) (hd:s1.drop n = s) (hk:((s1.take n).all fun y=>s.all fun x=>!Nat.beq y.1 x.1) = true):J4 T c n0 [] s1 H hc (GQ d v s H):=⟨0,s1,H,rfl,rfl,Sub.cons hv (B6e hd hk)⟩
theorem gpR (n d:Nat) (v:AV) (t:Nat) {g:Bool} (_hg:sget s t = some (.lit (.bool g))) (hq:calm (ops.drop n) = true) (h1:g = true→J4 T c n0 (ops.take n) s H hc (GQ d v s H)) (h2:g = false→J4 T c n0 (ops.take n) s H hc (GQ d v s H))
  (hR:∀a b H,Sub a b→R a H→R b H) (k:J4 T c n0 (ops.drop n) ((d,v) :: s) H [] R):J4 T c n0 ops s H hc R:= by
 have:J4 T c n0 (ops.take n) s H hc (GQ d v s H):= by
  cases g
  ·exact h2 rfl
  ·exact h1 rfl
 exact A85 n ((d,v) :: s) H hq this hR k
theorem gp {live:List Nat} (n d:Nat) (v:AV) (t:Nat) {g:Bool} (hg:sget s t = some (.lit (.bool g))) (hq:calm (ops.drop n) = true) (h1:g = true→J4 T c n0 (ops.take n) s H hc (GQ d v s H)) (h2:g = false→J4 T c n0 (ops.take n) s H hc (GQ d v s H))
  (k:J4 T c n0 (ops.drop n) ((d,v) :: s) H [] (RG live Q)):J4 T c n0 ops s H hc (RG live Q) :=
 gpR n d v t hg hq h1 h2 (fun _ _ _ h ⟨s',a,b,d⟩=>⟨s',a.trans h,b,d⟩) k
theorem gq {d1:Nat} {v1:AV} {s1:B4} {H1:A3} (n d:Nat) (v:AV) (t:Nat) {g:Bool} (hg:sget s t = some (.lit (.bool g))) (hq:calm (ops.drop n) = true) (h1:g = true→J4 T c n0 (ops.take n) s H hc (GQ d v s H)) (h2:g = false→J4 T c n0 (ops.take n) s H hc (GQ d v s H))
  (k:J4 T c n0 (ops.drop n) ((d,v) :: s) H [] (GQ d1 v1 s1 H1)):J4 T c n0 ops s H hc (GQ d1 v1 s1 H1) :=
 gpR n d v t hg hq h1 h2 (fun _ _ _ h q=>⟨q.1,q.2.trans h⟩) k
theorem bt {e:Bool} {α:Type} {A B:Option α} {r:α} (h:(if e = true then A else B) = some r) (he:e = true):A = some r:= by rw [if_pos he] at h; exact h
theorem bf {e:Bool} {α:Type} {A B:Option α} {r:α} (h:(if e = true then A else B) = some r) (he:e = false):B = some r:= by rw [if_neg (by rw [he]; decide)] at h; exact h
def PX (i:Nat) (s0:B4) (H0:A3) (e:Ex) (s':B4) (H':A3):Prop:=e = .exit i∧s' = s0∧H' = H0
theorem wl {γ σ ρ:Type} {live:List Nat} {bd:ACode} {body:σ→Option (σ ⊕ ρ)} {x0:σ} {r:ρ} (st:σ→B4) (lh:γ→σ→List AO) (N:Nat) (P:ρ→Ex→B4→A3→Prop) (g0:γ) (h:loop body x0 = some r) (hs:st x0 = s) (hl:lh g0 x0 = l)
  (hN:∀g x,(lh g x).length = N) (hlive:∀x,(st x).map (·.1) = live) (hnd:A65 live = true) (hbd:∀x,A0e (H0.length + N) (st x) = true)
  (hbody:∀g x o,body x = some o→WP T bd (st x) (H0++lh g x) ⟨H0.length + N,c.cur :: c.outer⟩ (B9q true st (fun g x=>H0++lh g x) (H0.length + N) P o))
  (k:∀e s' H',e.out = true→P r e s' H'→Q e s' H'):WP T (.loop true live bd) s (H0++l) c Q:= by
 subst hs; subst hl
 exact A2a (A8l st (fun g x=>H0++lh g x) (H0.length + N) P (fun g x=>by rw [List.length_append,hN]) hlive (A2h hnd) (fun x _=>hbd x) hbody h g0) fun e s' H' q=>k e s' H' q.1 q.2
theorem lnT {γ:Type} {s0:B4} {L:γ→List AO} {N:Nat} (g:γ) (hl:l.take N = L g) (hs:Sub s0 s'):Ex.normal = Ex.normal∧Sub s0 s'∧∃ g',(bif true then (H0++l).take (H0.length + N) else H0++l) = H0++L g' :=
 ⟨rfl,hs,g,by rw [cond_true,F1,hl]⟩
theorem lx {R:B4→Prop} {o:Bool} {s0:B4} (ho:o = true) (hr:R s0) (hs:Sub s0 s'):o = true∧∃ s0,Sub s0 s'∧R s0:=⟨ho,s0,hs,hr⟩
theorem me {R:B4→Prop} {s0:B4} (hr:R s0) (hs:Sub s0 s'):∃s0,Sub s0 s'∧R s0:=⟨s0,hs,hr⟩
theorem px {i:Nat} {s0:B4} {H:A3}:PX i s0 H (.exit i) s0 H:=⟨rfl,rfl,rfl⟩
theorem C01 {a:Opd} {j o k r:Nat} {cs ds:List AV} (h:ev s a = some (.ptr (H0.length + j) o)) (hl:(l.set (k0 + r) (.arr k false []))[j]? = some (.cells cs)) (hk:Nat.ble (o + 1) cs.length = true) (hok:c.okL (H0.length + j) [.asl (H0.length + (k0 + r)) 0] = true) (hd:splice cs o [.asl (H0.length + (k0 + r)) 0] = ds) :
  One T c (H0.length + k0) s (H0++l) (.storeN a k r) (.tup []) (H0++(l.set (k0 + r) (.arr k false [])).set j (.cells ds)) :=
 ⟨0,by simp only [core,prim,h,Nat.add_assoc,F0,A2x hl,hk,hok,Bool.and_self,if_true,hd]⟩
theorem I1 {x y:Opd} {a b:Int} (hx:ev s x = some (.lit (.int .i64 a))) (hy:ev s y = some (.lit (.int .i64 b))):One T c n0 s H (.bin .add x y) (.lit (.int .i64 (w64 (a + b)))) H:=F4 hx hy rfl
theorem Y2 {x y:Opd} {a b:Int} (hx:ev s x = some (.lit (.int .i64 a))) (hy:ev s y = some (.lit (.int .i64 b))):One T c n0 s H (.bin .sub x y) (.lit (.int .i64 (w64 (a - b)))) H:=F4 hx hy rfl
section
variable {x y:Opd} {a b:Int} {kk:IntKind}
theorem A3n {op:BinOp} {v:Value} (h:A41 op kk a b = some v):A29 op (.lit (.int kk a)) (.lit (.int kk b)) = some (.lit v):= by
 cases op <;> first | (simp only [A29,if_true,h,Option.map_some]; done) | (simp [A41] at h)
theorem J6 (hx:ev s x = some (.lit (.int kk a))) (hy:ev s y = some (.lit (.int kk b))):One T c n0 s H (.bin .eql x y) (.lit (.bool (a == b))) H:=F4 hx hy (A3n rfl)
theorem M7 (hx:ev s x = some (.lit (.int kk a))) (hy:ev s y = some (.lit (.int kk b))):One T c n0 s H (.bin .neq x y) (.lit (.bool (a != b))) H:=F4 hx hy (A3n rfl)
theorem L7 (hx:ev s x = some (.lit (.int kk a))) (hy:ev s y = some (.lit (.int kk b))):One T c n0 s H (.bin .lss x y) (.lit (.bool (decide (a < b)))) H:=F4 hx hy (A3n rfl)
theorem B9v (hx:ev s x = some (.lit (.int kk a))) (hy:ev s y = some (.lit (.int kk b))):One T c n0 s H (.bin .leq x y) (.lit (.bool (decide (a≤b)))) H:=F4 hx hy (A3n rfl)
theorem A09 (hx:ev s x = some (.lit (.int kk a))) (hy:ev s y = some (.lit (.int kk b))):One T c n0 s H (.bin .gtr x y) (.lit (.bool (decide (a > b)))) H:=F4 hx hy (A3n rfl)
theorem B0l (hx:ev s x = some (.lit (.int kk a))) (hy:ev s y = some (.lit (.int kk b))):One T c n0 s H (.bin .geq x y) (.lit (.bool (decide (a ≥ b)))) H:=F4 hx hy (A3n rfl)
end
theorem B4m {ks:List Nat} {x y:Opd} {a b:List AV} {t:Bool} (hx:ev s x = some (.agg a)) (hy:ev s y = some (.agg b)) (ha:kinds ks a = true) (hb:kinds ks b = true) (ht:F6 a b = some t):One T c n0 s H (.cmp false ks x y) (.lit (.bool t)) H:=C0u hx hy ha hb ht
theorem C22 {x y:Opd} {a b:ByteArray} (hx:ev s x = some (.lit (.string a))) (hy:ev s y = some (.lit (.string b))):One T c n0 s H (.bin .eql x y) (.lit (.bool (eqS a b))) H:=F4 hx hy rfl
theorem C42 {x y:Opd} {a b:ByteArray} (hx:ev s x = some (.lit (.string a))) (hy:ev s y = some (.lit (.string b))):One T c n0 s H (.bin .neq x y) (.lit (.bool (!eqS a b))) H:=F4 hx hy rfl
theorem A5t {x:Opd} {b:Bool} (hx:ev s x = some (.lit (.bool b))):One T c n0 s H (.un .not x) (.lit (.bool (!b))) H:=C2k hx rfl
theorem C5 {a:Opd} {j k:Nat} {cs:List AV} (h:ev s a = some (.ptr (H0.length + j) 0)) (hl:l[j]? = some (.cells cs)) (hk:Nat.beq cs.length k = true):One T c n0 s (H0++l) (.load (some k) a) (.agg cs) (H0++l):= by
 have hk:=Nat.eq_of_beq_eq_true hk
 exact E2 h hl (by rw [List.drop_zero,hk]; exact Nat.ble_eq_true_of_le (Nat.le_refl _)) (by rw [List.drop_zero,List.take_of_length_le (by omega)])
theorem A1d {a:Opd} {k:Nat} {cs:List AV} (h:ev s a = some (.cptr cs)) (hk:Nat.beq cs.length k = true):One T c n0 s H (.load (some k) a) (.agg cs) H:= by
 have hk:=Nat.eq_of_beq_eq_true hk
 exact B1g h (by rw [hk]; exact Nat.ble_eq_true_of_le (Nat.le_refl _)) (List.take_of_length_le (by omega))
end
section
variable {T:Tab} {H0:A3} {c:Sc}
theorem cE {i:Nat} {af:AFunc} {args rs:List AV} (haf:T i = some af) (hn:Nat.beq args.length af.nargs = true)
  (h:WP T af.body (L6 0 args) (H0++[]) ⟨H0.length,c.cur :: c.outer⟩ (RetQ H0 af.results rs)):E8 T c H0 (.fn (.func i) [] []) args rs :=
 B90 haf (List.append_nil _) hn (B6n h)
theorem cF {i:Nat} {af:AFunc} {args rs:List AV} (haf:T i = some af) (hn:Nat.beq args.length af.nargs = true)
  (h:WP T af.body (L6 0 args) (H0++[]) ⟨H0.length,c.cur :: c.outer⟩ (fun e s H=>∃ rs',RetQ H0 af.results rs' e s H∧rs'.map fzA = rs)):A08 T c H0 (.fn (.func i) [] []) args rs :=
 B91 haf (List.append_nil _) hn (B6n h)
end
section
variable {S:B4} {t1 t2 t3 t4 t5 t6 t7 t8 t9 t10 t11 t12 t13 t14:Nat} {v1 v2 v3 v4 v5 v6 v7 v8 v9 v10 v11 v12 v13 v14:AV}
theorem ra1 (h1:sget S t1 = some v1):RL S [t1] [(t1,v1)]:=.k h1 .n
theorem su1 (h1:sget S t1 = some v1):Sub [(t1,v1)] S:=.cons h1 (.nil _)
theorem ra2 (h1:sget S t1 = some v1) (h2:sget S t2 = some v2):RL S [t1,t2] [(t1,v1),(t2,v2)]:=.k h1 (.k h2 .n)
theorem su2 (h1:sget S t1 = some v1) (h2:sget S t2 = some v2):Sub [(t1,v1),(t2,v2)] S:=.cons h1 (.cons h2 (.nil _))
theorem ra3 (h1:sget S t1 = some v1) (h2:sget S t2 = some v2) (h3:sget S t3 = some v3):RL S [t1,t2,t3] [(t1,v1),(t2,v2),(t3,v3)]:=.k h1 (.k h2 (.k h3 .n))
theorem su3 (h1:sget S t1 = some v1) (h2:sget S t2 = some v2) (h3:sget S t3 = some v3):Sub [(t1,v1),(t2,v2),(t3,v3)] S:=.cons h1 (.cons h2 (.cons h3 (.nil _)))
theorem ra4 (h1:sget S t1 = some v1) (h2:sget S t2 = some v2) (h3:sget S t3 = some v3) (h4:sget S t4 = some v4):RL S [t1,t2,t3,t4] [(t1,v1),(t2,v2),(t3,v3),(t4,v4)]:=.k h1 (.k h2 (.k h3 (.k h4 .n)))
theorem su4 (h1:sget S t1 = some v1) (h2:sget S t2 = some v2) (h3:sget S t3 = some v3) (h4:sget S t4 = some v4):Sub [(t1,v1),(t2,v2),(t3,v3),(t4,v4)] S:=.cons h1 (.cons h2 (.cons h3 (.cons h4 (.nil _))))
theorem ra5 (h1:sget S t1 = some v1) (h2:sget S t2 = some v2) (h3:sget S t3 = some v3) (h4:sget S t4 = some v4) (h5:sget S t5 = some v5):RL S [t1,t2,t3,t4,t5] [(t1,v1),(t2,v2),(t3,v3),(t4,v4),(t5,v5)]:=.k h1 (.k h2 (.k h3 (.k h4 (.k h5 .n))))
theorem su5 (h1:sget S t1 = some v1) (h2:sget S t2 = some v2) (h3:sget S t3 = some v3) (h4:sget S t4 = some v4) (h5:sget S t5 = some v5):Sub [(t1,v1),(t2,v2),(t3,v3),(t4,v4),(t5,v5)] S:=.cons h1 (.cons h2 (.cons h3 (.cons h4 (.cons h5 (.nil _)))))
theorem ra6 (h1:sget S t1 = some v1) (h2:sget S t2 = some v2) (h3:sget S t3 = some v3) (h4:sget S t4 = some v4) (h5:sget S t5 = some v5) (h6:sget S t6 = some v6):RL S [t1,t2,t3,t4,t5,t6] [(t1,v1),(t2,v2),(t3,v3),(t4,v4),(t5,v5),(t6,v6)]:=.k h1 (.k h2 (.k h3 (.k h4 (.k h5 (.k h6 .n)))))
theorem su6 (h1:sget S t1 = some v1) (h2:sget S t2 = some v2) (h3:sget S t3 = some v3) (h4:sget S t4 = some v4) (h5:sget S t5 = some v5) (h6:sget S t6 = some v6):Sub [(t1,v1),(t2,v2),(t3,v3),(t4,v4),(t5,v5),(t6,v6)] S:=.cons h1 (.cons h2 (.cons h3 (.cons h4 (.cons h5 (.cons h6 (.nil _))))))
theorem ra7 (h1:sget S t1 = some v1) (h2:sget S t2 = some v2) (h3:sget S t3 = some v3) (h4:sget S t4 = some v4) (h5:sget S t5 = some v5) (h6:sget S t6 = some v6) (h7:sget S t7 = some v7):RL S [t1,t2,t3,t4,t5,t6,t7] [(t1,v1),(t2,v2),(t3,v3),(t4,v4),(t5,v5),(t6,v6),(t7,v7)]:=.k h1 (.k h2 (.k h3 (.k h4 (.k h5 (.k h6 (.k h7 .n))))))
theorem su7 (h1:sget S t1 = some v1) (h2:sget S t2 = some v2) (h3:sget S t3 = some v3) (h4:sget S t4 = some v4) (h5:sget S t5 = some v5) (h6:sget S t6 = some v6) (h7:sget S t7 = some v7):Sub [(t1,v1),(t2,v2),(t3,v3),(t4,v4),(t5,v5),(t6,v6),(t7,v7)] S:=.cons h1 (.cons h2 (.cons h3 (.cons h4 (.cons h5 (.cons h6 (.cons h7 (.nil _)))))))
theorem ra8 (h1:sget S t1 = some v1) (h2:sget S t2 = some v2) (h3:sget S t3 = some v3) (h4:sget S t4 = some v4) (h5:sget S t5 = some v5) (h6:sget S t6 = some v6) (h7:sget S t7 = some v7) (h8:sget S t8 = some v8):RL S [t1,t2,t3,t4,t5,t6,t7,t8] [(t1,v1),(t2,v2),(t3,v3),(t4,v4),(t5,v5),(t6,v6),(t7,v7),(t8,v8)]:=.k h1 (.k h2 (.k h3 (.k h4 (.k h5 (.k h6 (.k h7 (.k h8 .n)))))))
theorem su8 (h1:sget S t1 = some v1) (h2:sget S t2 = some v2) (h3:sget S t3 = some v3) (h4:sget S t4 = some v4) (h5:sget S t5 = some v5) (h6:sget S t6 = some v6) (h7:sget S t7 = some v7) (h8:sget S t8 = some v8):Sub [(t1,v1),(t2,v2),(t3,v3),(t4,v4),(t5,v5),(t6,v6),(t7,v7),(t8,v8)] S:=.cons h1 (.cons h2 (.cons h3 (.cons h4 (.cons h5 (.cons h6 (.cons h7 (.cons h8 (.nil _))))))))
theorem ra9 (h1:sget S t1 = some v1) (h2:sget S t2 = some v2) (h3:sget S t3 = some v3) (h4:sget S t4 = some v4) (h5:sget S t5 = some v5) (h6:sget S t6 = some v6) (h7:sget S t7 = some v7) (h8:sget S t8 = some v8) (h9:sget S t9 = some v9):RL S [t1,t2,t3,t4,t5,t6,t7,t8,t9] [(t1,v1),(t2,v2),(t3,v3),(t4,v4),(t5,v5),(t6,v6),(t7,v7),(t8,v8),(t9,v9)]:=.k h1 (.k h2 (.k h3 (.k h4 (.k h5 (.k h6 (.k h7 (.k h8 (.k h9 .n))))))))
theorem su9 (h1:sget S t1 = some v1) (h2:sget S t2 = some v2) (h3:sget S t3 = some v3) (h4:sget S t4 = some v4) (h5:sget S t5 = some v5) (h6:sget S t6 = some v6) (h7:sget S t7 = some v7) (h8:sget S t8 = some v8) (h9:sget S t9 = some v9):Sub [(t1,v1),(t2,v2),(t3,v3),(t4,v4),(t5,v5),(t6,v6),(t7,v7),(t8,v8),(t9,v9)] S:=.cons h1 (.cons h2 (.cons h3 (.cons h4 (.cons h5 (.cons h6 (.cons h7 (.cons h8 (.cons h9 (.nil _)))))))))
theorem ra10 (h1:sget S t1 = some v1) (h2:sget S t2 = some v2) (h3:sget S t3 = some v3) (h4:sget S t4 = some v4) (h5:sget S t5 = some v5) (h6:sget S t6 = some v6) (h7:sget S t7 = some v7) (h8:sget S t8 = some v8) (h9:sget S t9 = some v9) (h10:sget S t10 = some v10):RL S [t1,t2,t3,t4,t5,t6,t7,t8,t9,t10] [(t1,v1),(t2,v2),(t3,v3),(t4,v4),(t5,v5),(t6,v6),(t7,v7),(t8,v8),(t9,v9),(t10,v10)]:=.k h1 (.k h2 (.k h3 (.k h4 (.k h5 (.k h6 (.k h7 (.k h8 (.k h9 (.k h10 .n)))))))))
theorem ra11 (h1:sget S t1 = some v1) (h2:sget S t2 = some v2) (h3:sget S t3 = some v3) (h4:sget S t4 = some v4) (h5:sget S t5 = some v5) (h6:sget S t6 = some v6) (h7:sget S t7 = some v7) (h8:sget S t8 = some v8) (h9:sget S t9 = some v9) (h10:sget S t10 = some v10) (h11:sget S t11 = some v11):RL S [t1,t2,t3,t4,t5,t6,t7,t8,t9,t10,t11] [(t1,v1),(t2,v2),(t3,v3),(t4,v4),(t5,v5),(t6,v6),(t7,v7),(t8,v8),(t9,v9),(t10,v10),(t11,v11)]:=.k h1 (.k h2 (.k h3 (.k h4 (.k h5 (.k h6 (.k h7 (.k h8 (.k h9 (.k h10 (.k h11 .n))))))))))
theorem su11 (h1:sget S t1 = some v1) (h2:sget S t2 = some v2) (h3:sget S t3 = some v3) (h4:sget S t4 = some v4) (h5:sget S t5 = some v5) (h6:sget S t6 = some v6) (h7:sget S t7 = some v7) (h8:sget S t8 = some v8) (h9:sget S t9 = some v9) (h10:sget S t10 = some v10) (h11:sget S t11 = some v11):Sub [(t1,v1),(t2,v2),(t3,v3),(t4,v4),(t5,v5),(t6,v6),(t7,v7),(t8,v8),(t9,v9),(t10,v10),(t11,v11)] S:=.cons h1 (.cons h2 (.cons h3 (.cons h4 (.cons h5 (.cons h6 (.cons h7 (.cons h8 (.cons h9 (.cons h10 (.cons h11 (.nil _)))))))))))
theorem ra12 (h1:sget S t1 = some v1) (h2:sget S t2 = some v2) (h3:sget S t3 = some v3) (h4:sget S t4 = some v4) (h5:sget S t5 = some v5) (h6:sget S t6 = some v6) (h7:sget S t7 = some v7) (h8:sget S t8 = some v8) (h9:sget S t9 = some v9) (h10:sget S t10 = some v10) (h11:sget S t11 = some v11) (h12:sget S t12 = some v12):RL S [t1,t2,t3,t4,t5,t6,t7,t8,t9,t10,t11,t12] [(t1,v1),(t2,v2),(t3,v3),(t4,v4),(t5,v5),(t6,v6),(t7,v7),(t8,v8),(t9,v9),(t10,v10),(t11,v11),(t12,v12)]:=.k h1 (.k h2 (.k h3 (.k h4 (.k h5 (.k h6 (.k h7 (.k h8 (.k h9 (.k h10 (.k h11 (.k h12 .n)))))))))))
theorem ra13 (h1:sget S t1 = some v1) (h2:sget S t2 = some v2) (h3:sget S t3 = some v3) (h4:sget S t4 = some v4) (h5:sget S t5 = some v5) (h6:sget S t6 = some v6) (h7:sget S t7 = some v7) (h8:sget S t8 = some v8) (h9:sget S t9 = some v9) (h10:sget S t10 = some v10) (h11:sget S t11 = some v11) (h12:sget S t12 = some v12) (h13:sget S t13 = some v13):RL S [t1,t2,t3,t4,t5,t6,t7,t8,t9,t10,t11,t12,t13] [(t1,v1),(t2,v2),(t3,v3),(t4,v4),(t5,v5),(t6,v6),(t7,v7),(t8,v8),(t9,v9),(t10,v10),(t11,v11),(t12,v12),(t13,v13)]:=.k h1 (.k h2 (.k h3 (.k h4 (.k h5 (.k h6 (.k h7 (.k h8 (.k h9 (.k h10 (.k h11 (.k h12 (.k h13 .n))))))))))))
theorem ra14 (h1:sget S t1 = some v1) (h2:sget S t2 = some v2) (h3:sget S t3 = some v3) (h4:sget S t4 = some v4) (h5:sget S t5 = some v5) (h6:sget S t6 = some v6) (h7:sget S t7 = some v7) (h8:sget S t8 = some v8) (h9:sget S t9 = some v9) (h10:sget S t10 = some v10) (h11:sget S t11 = some v11) (h12:sget S t12 = some v12) (h13:sget S t13 = some v13) (h14:sget S t14 = some v14):RL S [t1,t2,t3,t4,t5,t6,t7,t8,t9,t10,t11,t12,t13,t14] [(t1,v1),(t2,v2),(t3,v3),(t4,v4),(t5,v5),(t6,v6),(t7,v7),(t8,v8),(t9,v9),(t10,v10),(t11,v11),(t12,v12),(t13,v13),(t14,v14)]:=.k h1 (.k h2 (.k h3 (.k h4 (.k h5 (.k h6 (.k h7 (.k h8 (.k h9 (.k h10 (.k h11 (.k h12 (.k h13 (.k h14 .n)))))))))))))
end
end Am
end
section
namespace Am
open Go
mutual
def AV.cl (N:Nat):AV→Bool
 | .lit _ | .nils _ | .undef=>true
 | .seq _ rows | .fresh _ rows=>freeR rows
 | .xseq _ rows=>clR N rows
 | .ptr b _ | .itr b | .eptr b _ _ _ | .asl b _ | .csl b _ _ _ | .mp b=>Nat.blt b N
 | .cptr cs | .agg cs | .tup cs=>clL N cs
 | .fn (.yield l) a c=>Nat.blt l N && clL N a && clL N c
 | .fn _ a c=>clL N a && clL N c
def clL (N:Nat):List AV→Bool
 | []=>true
 | x :: l=>x.cl N && clL N l
def clR (N:Nat):List (List AV)→Bool
 | []=>true
 | x :: l=>clL N x && clR N l
end
section
variable {p g:Nat}
theorem C1h {b:Nat} (h:Nat.blt b p = true):rb p g b = b:=A3y (Nat.le_of_ble_eq_true h)
mutual
theorem ren_cl:(v:AV)→v.cl p = true→ren p g v = v
 | .lit _,_ | .nils _,_ | .undef,_=>by simp only [ren]
 | .seq _ rows,h | .fresh _ rows,h=>by simp only [AV.cl] at h; simp only [ren,renR_free rows h]
 | .xseq _ rows,h=>by simp only [AV.cl] at h; simp only [ren,renR_cl rows h]
 | .ptr _ _,h | .itr _,h | .eptr _ _ _ _,h | .asl _ _,h | .csl _ _ _ _,h | .mp _,h=>by simp only [AV.cl] at h; simp only [ren,C1h h]
 | .cptr cs,h | .agg cs,h | .tup cs,h=>by simp only [AV.cl] at h; simp only [ren,renL_cl cs h]
 | .fn f a c,h=>by
  cases f with
  | yield l=>simp only [AV.cl,Bool.and_eq_true] at h; simp only [ren,A8b,C1h h.1.1,renL_cl a h.1.2,renL_cl c h.2]
  | _=>simp only [AV.cl,Bool.and_eq_true] at h; simp only [ren,A8b,renL_cl a h.1,renL_cl c h.2]
theorem renL_cl:(l:List AV)→clL p l = true→renL p g l = l
 | [],_=>by simp only [renL]
 | v :: l,h=>by
  simp only [clL,Bool.and_eq_true] at h
  simp only [renL,ren_cl v h.1,renL_cl l h.2]
theorem renR_cl:(l:List (List AV))→clR p l = true→renR p g l = l
 | [],_=>by simp only [renR]
 | v :: l,h=>by
  simp only [clR,Bool.and_eq_true] at h
  simp only [renR,renL_cl v h.1,renR_cl l h.2]
end
end
def clS (N:Nat) (s:B4):Bool:=s.all fun x=>x.2.cl N
def clM (N:Nat) (es:List (AV × AV)):Bool:=es.all fun x=>x.1.cl N && x.2.cl N
def AO.cl (N:Nat):AO→Bool
 | .dead | .iter _ _=>true
 | .cells cs=>clL N cs
 | .arr _ _ rows=>clR N rows
 | .map es=>clM N es
 | .loop _ s _ a b _ _=>clS N s && a.free && b.free
 | .ro o=>o.cl N
def clH (N:Nat) (H:A3):Bool:=H.all (AO.cl N)
section
variable {p g:Nat}
theorem B8o:∀s:B4,clS p s = true→N9 p g s = s
 | [],_=>rfl
 | x :: s,h=>by
  simp only [clS,List.all_cons,Bool.and_eq_true] at h
  have ih:=B8o s h.2
  unfold N9 at ih ⊢
  rw [List.map_cons,ih,ren_cl _ h.1]
theorem B8n:∀o:AO,o.cl p = true→L3 p g o = o
 | .dead,_ | .iter _ _,_=>by simp only [L3]
 | .cells cs,h=>by simp only [AO.cl] at h; simp only [L3,renL_cl cs h]
 | .arr _ _ rows,h=>by simp only [AO.cl] at h; simp only [L3,renR_cl rows h]
 | .map es,h=>by
  simp only [AO.cl,clM] at h
  simp only [L3]
  congr 1
  induction es with
  | nil=>rfl
  | cons x es ih =>
   simp only [List.all_cons,Bool.and_eq_true] at h
   rw [List.map_cons,ren_cl _ h.1.1,ren_cl _ h.1.2,ih h.2]
 | .loop f s ps a b busy pend,h=>by
  simp only [AO.cl,Bool.and_eq_true] at h
  simp only [L3,B8o s h.1.1,K8 a h.1.2,K8 b h.2]
 | .ro o,h=>by simp only [AO.cl] at h; simp only [L3,B8n o h]
theorem C0h {H G:A3} (h:clH H.length H = true):E7 H.length g G H = H++G:= by
 unfold E7
 rw [List.take_of_length_le (Nat.le_refl _),List.drop_of_length_le (Nat.le_refl _),List.map_nil,List.append_nil]
 congr 1
 have:∀l:A3,(∀ o ∈ l,o.cl H.length = true)→l.map (L3 H.length g) = l:= by
  intro l
  induction l with
  | nil=>intro _; rfl
  | cons o l ih=>intro hl; rw [List.map_cons,B8n o (hl o (List.mem_cons_self)),ih fun x hx=>hl x (List.mem_cons_of_mem _ hx)]
 exact this H fun o ho=>List.all_eq_true.1 h o ho
theorem B59 {N:Nat}:∀{l:List Nat},(l.all fun B=>Nat.ble B (N + g)) = true→ScBs N g (l.map (min · N)) l
 | [],_=>.nil
 | B :: l,h=>by
  simp only [List.all_cons,Bool.and_eq_true] at h
  have hB:=Nat.le_of_ble_eq_true h.1
  rw [List.map_cons]
  refine .cons ?_ (B59 h.2)
  by_cases c:B≤N
  ·exact .inl ⟨Nat.min_le_right _ _,by omega⟩
  ·exact .inr (.inr ⟨by omega,by omega,hB⟩)
end
mutual
theorem cl_mono {M N:Nat} (hMN:M≤N):(v:AV)→v.cl M = true→v.cl N = true
 | .lit _,_ | .nils _,_ | .undef,_=>by simp only [AV.cl]
 | .seq _ rows,h | .fresh _ rows,h=>by simp only [AV.cl] at h ⊢; exact h
 | .xseq _ rows,h=>by simp only [AV.cl] at h ⊢; exact clR_mono hMN rows h
 | .ptr _ _,h | .itr _,h | .eptr _ _ _ _,h | .asl _ _,h | .csl _ _ _ _,h | .mp _,h=>by
  simp only [AV.cl] at h ⊢
  have:=Nat.le_of_ble_eq_true h
  exact Nat.ble_eq_true_of_le (by omega)
 | .cptr cs,h | .agg cs,h | .tup cs,h=>by simp only [AV.cl] at h ⊢; exact clL_mono hMN cs h
 | .fn f a c,h=>by
  cases f with
  | yield l =>
   simp only [AV.cl,Bool.and_eq_true] at h ⊢
   have:=Nat.le_of_ble_eq_true h.1.1
   exact ⟨⟨Nat.ble_eq_true_of_le (by omega),clL_mono hMN a h.1.2⟩,clL_mono hMN c h.2⟩
  | _=>simp only [AV.cl,Bool.and_eq_true] at h ⊢; exact ⟨clL_mono hMN a h.1,clL_mono hMN c h.2⟩
theorem clL_mono {M N:Nat} (hMN:M≤N):(l:List AV)→clL M l = true→clL N l = true
 | [],_=>rfl
 | v :: l,h=>by simp only [clL,Bool.and_eq_true] at h ⊢; exact ⟨cl_mono hMN v h.1,clL_mono hMN l h.2⟩
theorem clR_mono {M N:Nat} (hMN:M≤N):(l:List (List AV))→clR M l = true→clR N l = true
 | [],_=>rfl
 | v :: l,h=>by simp only [clR,Bool.and_eq_true] at h ⊢; exact ⟨clL_mono hMN v h.1,clR_mono hMN l h.2⟩
end
theorem B92 {M N:Nat} (hMN:M≤N) {s:B4} (h:clS M s = true):clS N s = true:= by
 unfold clS at h ⊢
 rw [List.all_eq_true] at h ⊢
 exact fun x hx=>cl_mono hMN _ (h x hx)
theorem B5a {M N:Nat} (hMN:M≤N):(o:AO)→o.cl M = true→o.cl N = true
 | .dead,_ | .iter _ _,_=>by simp only [AO.cl]
 | .cells cs,h=>by simp only [AO.cl] at h ⊢; exact clL_mono hMN cs h
 | .arr _ _ rows,h=>by simp only [AO.cl] at h ⊢; exact clR_mono hMN rows h
 | .map es,h=>by
  simp only [AO.cl,clM,List.all_eq_true,Bool.and_eq_true] at h ⊢
  exact fun x hx=>⟨cl_mono hMN _ (h x hx).1,cl_mono hMN _ (h x hx).2⟩
 | .loop _ s _ a b _ _,h=>by
  simp only [AO.cl,Bool.and_eq_true] at h ⊢
  exact ⟨⟨B92 hMN h.1.1,h.1.2⟩,h.2⟩
 | .ro o,h=>by simp only [AO.cl] at h ⊢; exact B5a hMN o h
theorem B49 {M N:Nat} (hMN:M≤N) {H:A3} (h:clH M H = true):clH N H = true:= by
 unfold clH at h ⊢
 rw [List.all_eq_true] at h ⊢
 exact fun x hx=>B5a hMN _ (h x hx)
theorem G5 {α:Type} {f:α→List AV} (h:∀x,freeL (f x) = true):∀l:List α,freeR (l.map f) = true
 | []=>rfl
 | x :: l=>by simp only [List.map_cons,freeR,h x,G5 h l,Bool.and_self]
theorem C1t {H:A3} {l:List AO} (h:clH H.length H = true) (hl:clH (H.length + l.length) l = true):clH (H++l).length (H++l) = true:= by
 rw [List.length_append]
 have:=B49 (Nat.le_add_right H.length l.length) h
 unfold clH at this hl ⊢
 rw [List.all_append,this,hl]; rfl
mutual
theorem bd_free {N:Nat}:(v:AV)→v.free = true→v.bd N = true
 | .lit _,_ | .nils _,_ | .undef,_ | .seq _ _,_ | .fresh _ _,_=>by simp only [AV.bd]
 | .xseq _ rows,h=>by simp only [AV.free] at h; simp only [AV.bd]; exact bdR_free rows h
 | .cptr cs,h | .agg cs,h | .tup cs,h=>by simp only [AV.free] at h; simp only [AV.bd]; exact bdL_free cs h
 | .fn _ _ _,h | .ptr _ _,h | .itr _,h | .eptr _ _ _ _,h | .asl _ _,h | .csl _ _ _ _,h | .mp _,h=>by simp [AV.free] at h
theorem bdL_free {N:Nat}:(l:List AV)→freeL l = true→bdL N l = true
 | [],_=>rfl
 | v :: l,h=>by simp only [freeL,Bool.and_eq_true] at h; simp only [bdL,bd_free v h.1,bdL_free l h.2,Bool.and_self]
theorem bdR_free {N:Nat}:(l:List (List AV))→freeR l = true→bdR N l = true
 | [],_=>rfl
 | v :: l,h=>by simp only [freeR,Bool.and_eq_true] at h; simp only [bdR,bdL_free v h.1,bdR_free l h.2,Bool.and_self]
end
mutual
theorem cl_free {N:Nat}:(v:AV)→v.free = true→v.cl N = true
 | .lit _,_ | .nils _,_ | .undef,_=>by simp only [AV.cl]
 | .seq _ _,h | .fresh _ _,h=>by simp only [AV.free] at h; simp only [AV.cl,h]
 | .xseq _ rows,h=>by simp only [AV.free] at h; simp only [AV.cl]; exact clR_free rows h
 | .cptr cs,h | .agg cs,h | .tup cs,h=>by simp only [AV.free] at h; simp only [AV.cl]; exact clL_free cs h
 | .fn _ _ _,h | .ptr _ _,h | .itr _,h | .eptr _ _ _ _,h | .asl _ _,h | .csl _ _ _ _,h | .mp _,h=>by simp [AV.free] at h
theorem clL_free {N:Nat}:(l:List AV)→freeL l = true→clL N l = true
 | [],_=>rfl
 | v :: l,h=>by simp only [freeL,Bool.and_eq_true] at h; simp only [clL,cl_free v h.1,clL_free l h.2,Bool.and_self]
theorem clR_free {N:Nat}:(l:List (List AV))→freeR l = true→clR N l = true
 | [],_=>rfl
 | v :: l,h=>by simp only [freeR,Bool.and_eq_true] at h; simp only [clR,clL_free v h.1,clR_free l h.2,Bool.and_self]
end
theorem W6 {α:Type} {N:Nat} {f:α→List AV} (h:∀x,freeL (f x) = true) (l:List α):clR N (l.map f) = true:=clR_free _ (G5 h l)
theorem C5t {B b:Nat} {l:List Nat} {v:AV} (h:B≤b) (r:(l.all fun B=>Nat.ble B b || v.bd B) = true):((B :: l).all fun B=>Nat.ble B b || v.bd B) = true:= by
 rw [List.all_cons,r,Nat.ble_eq_true_of_le h]; rfl
theorem C3y {c:Sc} {H:A3} {j:Nat} {v:AV} (h:U7 c H = true):((c.cur :: c.outer).all fun B=>Nat.ble B (H.length + j) || v.bd B) = true:= by
 unfold U7 at h
 rw [List.all_eq_true] at h ⊢
 intro B hB
 have:=Nat.le_of_ble_eq_true (h B hB)
 rw [Nat.ble_eq_true_of_le (by omega)]; rfl
theorem C2m {c:Sc} {b:Nat} {v:AV} (h1:v.bd c.cur = true) (h2:(c.outer.all fun B=>Nat.ble B b || v.bd B) = true):c.okL b [v] = true:= by
 simp only [Sc.okL,Sc.ok,h1,h2,Bool.or_true,Bool.and_self,Bool.and_true]
theorem C54 {T:Tab} {d:Bool} {nres:Nat} {pre live:List Nat} {ops:List AOper} {s:B4} {H H1:A3} {c:Sc} {Q:Ex→B4→A3→Prop} (hp:publish s H pre = some H1) (h:WP T (.region d nres [] ops live) s H1 c Q):WP T (.region d nres pre ops live) s H c Q:= by
 intro S hS
 obtain ⟨e,S',s',H',⟨n,hn⟩,h1,h2⟩:=h S hS
 refine ⟨e,S',s',H',⟨n,?_⟩,h1,h2⟩
 cases n with
 | zero=>simp [mach] at hn
 | succ n =>
  rw [R3] at hn ⊢
  unfold E3 at hn ⊢
  simp only [publish] at hn
  simp only [A79 hS hp]
  exact hn
theorem C2u {s:B4} {H0:A3} {l l1:List AO} {t j o:Nat} {cs cs':List AV} (h:sget s t = some (.ptr (H0.length + j) o)) (hl:l[j]? = some (.cells cs)) (hf:S3 (H0++l) cs = some (cs',H0++l1)) (hl1:l1[j]? = some (.cells cs)):publish s (H0++l) [t] = some (H0++l1.set j (.cells cs')):= by
 simp only [publish,h,U0,A2x hl,hf,A2x hl1,F0]
theorem A42 {T:Tab} (hT:A5v T) {i:Nat} {aq rs:List AV} (h:E8 T ⟨0,[]⟩ [] (.fn (.func i) [] []) aq rs) (ha:freeL aq = true) (hr:freeL rs = true) {c:Sc} {H:A3} (hc:U7 c H = true):E8 T c H (.fn (.func i) [] []) aq rs :=
 ⟨O3.shift hT h.1 ha hr hc,bdL_free rs hr⟩
theorem B98 (v:AV):(fz1 v).free = v.free:= by cases v <;> rfl
theorem B27:∀cs:List AV,freeL (cs.map fz1) = freeL cs
 | []=>rfl
 | v :: cs=>by simp only [List.map_cons,freeL,B98,B27 cs]
theorem B99 (v:AV):(fzA v).free = v.free:= by
 cases v <;> first | rfl | (simp only [fzA,AV.free]; exact B27 _)
theorem B28:∀cs:List AV,freeL (cs.map fzA) = freeL cs
 | []=>rfl
 | v :: cs=>by simp only [List.map_cons,freeL,B99,B28 cs]
theorem B45 {T:Tab} (hT:A5v T) {i:Nat} {aq rs:List AV} (h:A08 T ⟨0,[]⟩ [] (.fn (.func i) [] []) aq rs) (ha:freeL aq = true) (hr:freeL rs = true) {c:Sc} {H:A3} (hc:U7 c H = true):A08 T c H (.fn (.func i) [] []) aq rs:= by
 obtain ⟨rs',h1,rfl⟩:=h
 exact ⟨rs',A42 hT h1 ha (by rw [← B28]; exact hr) hc,rfl⟩
theorem O3.gap {T:Tab} (hT:A5v T) {H H':A3} {f:AV} {aq rs:List AV} (h:∀c,U7 c H = true→O3 T c H f aq rs H') (hf:f.cl H.length = true) (ha:freeL aq = true) (hr:freeL rs = true)
  (hH:clH H.length H = true) (hl:H'.length = H.length) (hH':clH H'.length H' = true) {L:A3} {c:Sc} (hc:U7 c (H++L) = true):O3 T c (H++L) f aq rs (H'++L):= by
 have hc0:U7 ⟨min c.cur H.length,c.outer.map (min · H.length)⟩ H = true:= by
  unfold U7
  rw [List.all_cons,Nat.ble_eq_true_of_le (Nat.min_le_right _ _),Bool.true_and,List.all_map,List.all_eq_true]
  intro B _
  exact Nat.ble_eq_true_of_le (Nat.min_le_right _ _)
 obtain ⟨n,e⟩:=h _ hc0
 cases n with
 | zero=>simp [mach] at e
 | succ n =>
  rw [R2] at e
  have hs:ScBs H.length L.length ((min c.cur H.length) :: c.outer.map (min · H.length)) (c.cur :: c.outer):= by
   have:=B59 (N:=H.length) (g:=L.length) (l:=c.cur :: c.outer) (by unfold U7 at hc; rw [List.length_append] at hc; exact hc)
   rwa [List.map_cons] at this
  have:=(A4a (p:=H.length) (g:=L.length) (G:=L) (c:=⟨min c.cur H.length,c.outer.map (min · H.length)⟩) (c':=c) (fun i af h=>K8 _ (hT i af h)) (B1a (fun i af h=>K8 _ (hT i af h)) n) rfl hs (Nat.le_refl _) e).1
  rw [C0h hH,renL_free _ ha,renL_free _ hr,ren_cl f hf] at this
  have e2:E7 H.length L.length L H' = H'++L:= by rw [← hl]; exact C0h hH'
  rw [e2] at this
  exact ⟨n + 1,by rw [R2]; exact this⟩
def C4y {α:Type} (T:Tab) (i:Nat) (fc:List AV) (ea:α→AV) (pre:A3→Prop) (it:∀(σ ρ:Type),(α→σ→Option (σ ⊕ ρ))→σ→Option (σ ⊕ ρ)):Prop :=
 ∀ {σ ρ:Type} (Hm:σ ⊕ ρ→A3) (N:Nat),(∀ x,(Hm x).length = N)→(∀ x,pre (Hm x))→∀ (y:AV),y.bd N = true→y.cellsOf = [y]→∀ (body:α→σ→Option (σ ⊕ ρ)),
  (∀ {L:A3} {c:Sc} {x:α} {s:σ} {o:σ ⊕ ρ},U7 c (Hm (.inl s)++L) = true→body x s = some o→O3 T c (Hm (.inl s)++L) y [ea x] [.b o.isLeft] (Hm o++L)) →
  ∀ {s0:σ} {o:σ ⊕ ρ},it σ ρ body s0 = some o→∀ {c:Sc},U7 c (Hm (.inl s0)) = true→O3 T c (Hm (.inl s0)) (.fn (.func i) [] fc) [y] [] (Hm o)
section
variable {T:Tab} {s:B4} {H0:A3} {l:List AO} {c:Sc} {Q:Ex→B4→A3→Prop}
def BdQ {σ ρ:Type} (H0:A3) (k:Nat) (lh:σ→List AO) (lx:ρ→List AO) (ex:ρ→Ex) (b:AO) (o:σ ⊕ ρ) (e:Ex) (_s:B4) (H2:A3):Prop :=
 ∃ l2,H2 = H0++l2∧match o with
  | .inl s'=>e = .normal∧l2.take (k + 1) = lh s'++[b]
  | .inr r=>e = ex r∧l2.take (k + 1) = lx r++[b]
def AsQ (T:Tab) (H0:A3) (k:Nat) (b0 b1:AO) (bd:ACode) (c:Sc) (Q:Ex→B4→A3→Prop) (e:Ex) (s1:B4) (H1:A3):Prop :=
 ∃ l1,e = .normal∧H1 = H0++l1∧l1[k]? = some b0∧WP T bd s1 (H0++l1.set k b1) c Q
theorem B2u {l lh:List AO} {k:Nat} {b b':AO} (hk:lh.length = k) (h:l.take (k + 1) = lh++[b]):(l.set k b').take (k + 1) = lh++[b']:= by
 rw [List.take_set,h]
 rw [List.set_append_right _ _ (by omega),hk,Nat.sub_self]; rfl
def C1e {σ ρ:Type} (ex:ρ→Ex):σ ⊕ ρ→Option Ex
 | .inl _=>none
 | .inr r=>some (ex r)
def C6x {σ ρ:Type} (ex:ρ→Ex):σ ⊕ ρ→Ex
 | .inl _=>.normal
 | .inr r=>ex r
theorem B4u {σ ρ α:Type} {f:Opd} {p i k:Nat} {live:List Nat} {aq bd:ACode} {fc:List AV} {ea:α→AV} {pre:A3→Prop} {it:∀(σ ρ:Type),(α→σ→Option (σ ⊕ ρ))→σ→Option (σ ⊕ ρ)} {s0:σ} {o:σ ⊕ ρ} {body:α→σ→Option (σ ⊕ ρ)}
  (hit:C4y T i fc ea pre it) (hT:A5v T) (sl:B4) (lh:σ→List AO) (lx:ρ→List AO) (ex:ρ→Ex) (h:it σ ρ body s0 = some o) (hex:∀r,(ex r).out = true)
  (hf:ev s f = some (.fn (.func i) [] fc)) (hs:∀S,Sub s S→restrict S live = sl) (hl:lh s0 = l) (hk:∀x,(lh x).length = k) (hkx:∀x,(lx x).length = k) (hH0:clH H0.length H0 = true)
  (hfree:(aq.free && bd.free && clS (H0.length + (k + 1)) sl) = true) (hclh:∀x,clH (H0.length + (k + 1)) (lh x) = true) (hclx:∀x,clH (H0.length + (k + 1)) (lx x) = true) (hea:∀x,freeL [ea x] = true)
  (hpre:(∀ x b,pre (H0++(lh x++[b])))∧∀ x b,pre (H0++(lx x++[b]))) (hc:U7 c (H0++l) = true)
  (hb:∀c x s o,body x s = some o→∀ y0 y1:AO,WP T aq ((p,ea x) :: sl) (H0++(lh s++[y0])) ⟨H0.length + (k + 1),c⟩ (AsQ T H0 k y0 y1 bd ⟨H0.length + (k + 1),c⟩ (BdQ H0 k lh lx ex y1 o)))
  (kont:match o with | .inl s'=>Q .normal s (H0++(lh s'++[.dead])) | .inr r=>Q (ex r) s (H0++(lx r++[.dead]))):WP T (.rangeFunc f [p] live aq bd) s (H0++l) c Q:= by
 subst hl
 intro S hS
 let Hm:σ ⊕ ρ→A3:=fun o=>match o with
  | .inl x=>H0++(lh x++[.loop 0 sl [p] aq bd false none])
  | .inr r=>H0++(lx r++[.loop 0 sl [p] aq bd false (some (ex r))])
 simp only [Bool.and_eq_true] at hfree
 have hN:∀x,(Hm x).length = H0.length + (k + 1):= by
  intro x
  cases x with
  | inl x=>simp [Hm,hk]
  | inr x=>simp [Hm,hkx]
 have hlen:(H0++lh s0).length = H0.length + k:= by rw [List.length_append,hk]
 have hcl:∀x,clH (Hm x).length (Hm x) = true:= by
  intro x
  rw [hN]
  have hm:=B49 (Nat.le_add_right H0.length (k + 1)) hH0
  cases x with
  | inl x =>
   have:=hclh x
   simp only [Hm,clH,List.all_append,List.all_cons,List.all_nil,Bool.and_true,AO.cl,Bool.and_eq_true] at this hm ⊢
   exact ⟨hm,this,⟨hfree.2,hfree.1.1⟩,hfree.1.2⟩
  | inr x =>
   have:=hclx x
   simp only [Hm,clH,List.all_append,List.all_cons,List.all_nil,Bool.and_true,AO.cl,Bool.and_eq_true] at this hm ⊢
   exact ⟨hm,this,⟨hfree.2,hfree.1.1⟩,hfree.1.2⟩
 have hy:∀{L:A3} {c:Sc} {x:α} {s:σ} {o:σ ⊕ ρ},U7 c (Hm (.inl s)++L) = true→body x s = some o→O3 T c (Hm (.inl s)++L) (.fn (.yield (H0.length + k)) [] []) [ea x] [.b o.isLeft] (Hm o++L):= by
  intro L c x s o hsc hbo
  refine O3.gap (H:=Hm (.inl s)) (H':=Hm o) hT (f:=.fn (.yield (H0.length + k)) [] []) (fun c _=>?_) ?_ (hea x) rfl (hcl (.inl s)) ((hN o).trans (hN (.inl s)).symm) (hcl o) hsc
  ·obtain ⟨e1,S1,s1,H1,r1,q1,l1,rfl,rfl,hl1,hw⟩:=hb (c.cur :: c.outer) x s o hbo (.loop 0 sl [p] aq bd false none) (.loop 0 sl [p] aq bd true none) _ (Sub.refl _)
   obtain ⟨e2,S2,s2,H2,r2,q2,l2,rfl,hb2⟩:=hw S1 q1
   have hm:(Hm (.inl s)) = H0++(lh s++[.loop 0 sl [p] aq bd false none]):=rfl
   have hNs:=hN (.inl s)
   rw [hm] at hNs ⊢
   have g0:hget (H0++(lh s++[.loop 0 sl [p] aq bd false none])) (H0.length + k) = some (.loop 0 sl [p] aq bd false none):= by
    rw [R6,List.getElem?_append_right (by rw [hk]; exact Nat.le_refl _),hk,Nat.sub_self]; rfl
   have fin:∀(lb:List AO) (er:Ex),lb.length = k→l2.take (k + 1) = lb++[.loop 0 sl [p] aq bd true none]→e2 = er→O3 T c (H0++(lh s++[.loop 0 sl [p] aq bd false none])) (.fn (.yield (H0.length + k)) [] []) [ea x] [.b (!er.out)] (H0++(lb++[.loop 0 sl [p] aq bd false (match er with | .normal=>none | e=>some e)])):= by
    intro lb er hlb tk he
    subst he
    have g2:l2[k]? = some (.loop 0 sl [p] aq bd true none):= by
     have e:(l2.take (k + 1))[k]? = l2[k]?:=List.getElem?_take_of_lt (by omega)
     rw [← e,tk,List.getElem?_append_right (by omega),hlb,Nat.sub_self]; rfl
    refine O3.yield (ps:=[p]) (st0:=⟨(p,ea x) :: sl,H0++(lh s++[.loop 0 sl [p] aq bd false none]),⟨H0.length + (k + 1),c.cur :: c.outer⟩⟩) (st1:=⟨S1,H0++l1,⟨H0.length + (k + 1),c.cur :: c.outer⟩⟩)
     (st2:=⟨S2,H0++l2,⟨H0.length + (k + 1),c.cur :: c.outer⟩⟩) (e:=e2) rfl g0 rfl (by rw [hNs]; rfl) r1 (by rw [R6]; exact hl1) (by rw [F0]) r2 (by rw [R6]; exact g2) rfl ?_
    rw [hNs,F0]
    simp only [trunc,bdL,if_true]
    rw [F1,B2u hlb tk]
    cases e2 <;> rfl
   cases o with
   | inl s'=>exact fin (lh s') .normal (hk s') hb2.2 hb2.1
   | inr r =>
    have:=fin (lx r) (ex r) (hkx r) hb2.2 hb2.1
    have he:(match ex r with | .normal=>none | e=>some e) = some (ex r):= by
     have:=hex r
     cases hq:ex r <;> rw [hq] at this <;> first | rfl | cases this
    rw [he,hex r] at this
    exact this
  ·have hq:=hN (.inl s)
   simp only [AV.cl,clL,Bool.and_true]
   exact Nat.ble_eq_true_of_le (by omega)
 have hcall:=hit Hm (H0.length + (k + 1)) hN (by
  intro x
  cases x with
  | inl x=>exact hpre.1 x _
  | inr x=>exact hpre.2 x _) (.fn (.yield (H0.length + k)) [] []) (by simp only [AV.bd,bdL,Bool.and_true]; exact Nat.ble_eq_true_of_le (by omega)) rfl body hy h (c:=c) (by
  have hq:=hN (.inl s0)
  unfold U7 at hc ⊢
  rw [List.all_eq_true] at hc ⊢
  intro B hB
  have:=Nat.le_of_ble_eq_true (hc B hB)
  rw [hlen] at this
  exact Nat.ble_eq_true_of_le (by omega))
 have hres:=hs S hS
 have g:∀o:σ ⊕ ρ,hget (Hm o) (H0.length + k) = some (.loop 0 sl [p] aq bd false (C1e ex o)):= by
  intro o
  cases o with
  | inl x=>simp only [Hm]; rw [R6,List.getElem?_append_right (by rw [hk]; exact Nat.le_refl _),hk,Nat.sub_self]; rfl
  | inr x=>simp only [Hm]; rw [R6,List.getElem?_append_right (by rw [hkx]; exact Nat.le_refl _),hkx,Nat.sub_self]; rfl
 have hr:=I0.rangeFunc (T:=T) (ac:=.rangeFunc f [p] live aq bd) (st:=⟨S,H0++lh s0,c⟩) (l:=H0.length + k) (H0:=Hm (.inl s0)) (H':=Hm o) (pend:=C1e ex o) (e:=C6x ex o)
  (st':=⟨S,hset (Hm o) (H0.length + k) .dead,c⟩) rfl (A03 hS hf) hlen.symm (by simp only [hres,Hm,List.append_assoc]) hcall (g o) (by cases o <;> rfl) rfl
 refine ⟨_,S,s,_,hr,hS,?_⟩
 cases o with
 | inl x =>
  have:hset (Hm (.inl x)) (H0.length + k) .dead = H0++(lh x++[.dead]):= by
   simp only [Hm]; rw [F0,List.set_append_right _ _ (by rw [hk]; exact Nat.le_refl _),hk,Nat.sub_self]; rfl
  show Q .normal s (hset (Hm (.inl x)) (H0.length + k) .dead)
  rw [this]; exact kont
 | inr r =>
  have:hset (Hm (.inr r)) (H0.length + k) .dead = H0++(lx r++[.dead]):= by
   simp only [Hm]; rw [F0,List.set_append_right _ _ (by rw [hkx]; exact Nat.le_refl _),hkx,Nat.sub_self]; rfl
  show Q (ex r) s (hset (Hm (.inr r)) (H0.length + k) .dead)
  rw [this]; exact kont
end
end Am
namespace Am
open Go
section
variable {T:Tab} {s:B4} {H0 H:A3} {l:List AO} {c:Sc} {n0 N:Nat}
theorem A53 {a:Opd} {j o:Nat} {cs:List AV} {x:AV} (hN:H0.length = N) (h:ev s a = some (.ptr (N + j) o)) (hl:l[j]? = some (.cells cs)) (hd:(cs.drop o).head? = some x):One T c n0 s (H0++l) (.load none a) x (H0++l):= by subst hN; exact D1 h hl hd
theorem A54 {f:Opd} {args:List Opd} {fv:AV} {aq as' rs rs':List AV} {H1 H2:A3} (hf:ev s f = some fv) (ha:evs s args = some aq) (hz:O6 H aq = some (as',H1)) (hcall:O3 T c H1 fv as' rs H2) (hr:rs.map fzA = rs'):One T c n0 s H (.call f args [] false) (packed rs') H2:= by
 obtain ⟨n,e⟩:=hcall
 exact ⟨n,by simp only [core,Q8,hf,ha,Bool.false_eq_true,if_false,hz,e,Y5,hr]⟩
def B35 (H0 H':A3) (rv:List ARes) (rs:List AV) (e:Ex) (s:B4) (H:A3):Prop :=
 (match e with | .exit _=>False | _=>True)∧∃ rs0 H1,results s H rv = some rs0∧Q7 H0.length H rs0 = some (rs,H1)∧bdL H0.length rs = true∧H1.take H0.length = H'
theorem B48 {i:Nat} {af:AFunc} {first cap args aq rs:List AV} {H':A3} (haf:T i = some af) (has:first++args++cap = aq) (hn:Nat.beq aq.length af.nargs = true)
  (h:WP T af.body (L6 0 aq) H ⟨H.length,c.cur :: c.outer⟩ (B35 H H' af.results rs)):O3 T c H (.fn (.func i) first cap) args rs H':= by
 obtain ⟨e,S',s',H2,h1,h2,h3,rs0,H1,h4,h5,h6,h7⟩:=h _ (Sub.refl _)
 refine O3.fn (af:=af) (bd:=af.body) (aq:=aq) (rs0:=rs0) (rs1:=rs) (H1:=H1) (e:=e) (st':=⟨S',H2,⟨H.length,c.cur :: c.outer⟩⟩) rfl haf rfl has.symm hn rfl h1 (by cases e <;> first | rfl | exact h3.elim) (U5 h2 h4) h5 rfl ?_
 unfold trunc
 rw [h6,if_pos rfl,h7]
theorem B7m {H H':A3} {n:Nat} (h:U7 c H = true) (hl:H.length≤H'.length) (hn:n≤H'.length):U7 ⟨n,c.cur :: c.outer⟩ H' = true:= by
 unfold U7 at h ⊢
 rw [List.all_cons,Nat.ble_eq_true_of_le hn,Bool.true_and]
 rw [List.all_eq_true] at h ⊢
 intro B hB
 have:=Nat.le_of_ble_eq_true (h B hB)
 exact Nat.ble_eq_true_of_le (by omega)
theorem B9l {H0 H1 H':A3} {rv:List ARes} {rs rs0:List AV} {e:Ex} (he:(match e with | .exit _=>False | _=>True)) (h1:results s H1 rv = some rs0) (h2:Q7 H0.length H1 rs0 = some (rs,H1)) (h3:bdL H0.length rs = true) (h4:H1.take H0.length = H'):B35 H0 H' rv rs e s H1 :=
 ⟨he,rs0,H1,h1,h2,h3,h4⟩
end
end Am
end
section
namespace Am
open Go
section
variable {β:Type} {n:Nat}
end
section
variable {T:Tab} {s:B4} {H0 H:A3} {l:List AO} {c:Sc} {n0 k0:Nat} {β:Type} {n:Nat} {kk:IntKind} {g:β→List AV} {es:List (IArr n × β)} {k:IArr n} {ks:List Nat}
theorem B3g {b:Nat} {o:AO} (h:b < H0.length):hset (H0++l) b o = hset H0 b o++l:= by
 unfold hset
 exact List.set_append_left _ _ h
theorem B3e (H0:A3) (l:List AO) {b:Nat} (hb:b < H0.length):∀js:List Nat,hide (H0++l) (js.map (H0.length + ·)++[b]) = hset H0 b .dead++Y4 l js
 | []=>by simp only [List.map_nil,List.nil_append,hide,Y4]; exact B3g hb
 | j :: js=>by
  simp only [List.map_cons,List.cons_append,hide,B3e H0 l hb js,Y4]
  have:=F0 (hset H0 b .dead) (Y4 l js) j .dead
  rw [I5] at this
  exact this
theorem A90 (H0:A3) (l m:List AO) {b:Nat} (hb:b < H0.length):∀js:List Nat,unhide (H0++l) (hset H0 b .dead++m) (js.map (H0.length + ·)++[b]) = H0++P9 l m js
 | []=>by
  have h1:hget (H0++l) b = some H0[b]:= by
   unfold hget; rw [List.getElem?_append_left hb]; simp [hb]
  simp only [List.map_nil,List.nil_append,unhide,P9,h1]
  rw [B3g (by rw [I5]; exact hb)]
  congr 1
  unfold hset
  rw [List.set_set]
  exact List.set_getElem_self hb
 | j :: js=>by
  have h1:hget (H0++l) (H0.length + j) = l[j]?:= by rw [R6]
  simp only [List.map_cons,List.cons_append,unhide,P9,h1,A90 H0 l m hb js]
  cases l[j]? with
  | none=>rfl
  | some o=>exact F0 _ _ _ _
theorem B2l (N b:Nat) {js:List Nat}:(js.map (N + ·)++[b]).contains b = true:= by
 simp only [List.contains_iff_mem,List.mem_append,List.mem_singleton,or_true]
theorem C3i {op:AOp} {d:Option Nat} {gd:Option (Nat × Bool)} {hid:List Nat} {hida:List (Nat × List Nat)} {inc src:Nat} {bs js:List Nat} {k0 b:Nat} (jh:List Nat) (ejh:hid.map (H0.length + k0 + ·) = jh.map (H0.length + ·)) (hw:ways s (H0++Y4 l jh) hida = some bs) (e:jh.map (H0.length + ·)++bs = js.map (H0.length + ·)++[b]) (hall:(js.all fun j=>Nat.blt j l.length) = true) (hb:b < H0.length) :
  A0d (H0.length + k0) s (H0++l) ⟨d,op,gd,hid,hida,inc,src⟩ = some (js.map (H0.length + ·)++[b]):= by
 have h1:((js.map (H0.length + ·)++[b]).all fun b=>Nat.blt b (H0++l).length) = true:= by
  rw [List.all_append,B7w H0 l hall]
  simp only [List.all_cons,List.all_nil,Bool.and_true,Bool.true_and]
  exact Nat.ble_eq_true_of_le (by rw [List.length_append]; omega)
 unfold A0d
 simp only [ejh,A7w,hw,e,h1,Bool.or_true,if_true]
theorem C07 {R:B4→A3→Prop} {hc:List (Option (List Nat))} {ops:List AOper} {op:AOp} {d:Option Nat} {hid:List Nat} {hida:List (Nat × List Nat)} {inc src b:Nat} {v:AV} {l1:List AO} (js:List Nat) (l2:List AO) (hb:b < H0.length) (hhs:A0d n0 s (H0++l) ⟨d,op,none,hid,hida,inc,src⟩ = some (js.map (H0.length + ·)++[b])) (hseen:L4 s ⟨d,op,none,hid,hida,inc,src⟩ hc = true)
  (h:One T c n0 s (hset H0 b .dead++Y4 l js) op v (hset H0 b .dead++l1)) (hle:Nat.ble l.length l1.length = true) (hw:writes op = true) (e:P9 l l1 js = l2) (k:J4 T c n0 ops (sput s d v) (H0++l2) (some (js.map (H0.length + ·)++[b]) :: hc) R) :
  J4 T c n0 (⟨d,op,none,hid,hida,inc,src⟩ :: ops) s (H0++l) hc R:= by
 subst e
 obtain ⟨n1,e1⟩:=h
 obtain ⟨n2,s1,Hf,e2,h2⟩:=k
 refine ⟨max n1 n2,s1,Hf,?_,h2⟩
 have e1':=B4c (J1 T (Nat.le_max_left n1 n2)) e1
 have hle':Nat.ble (H0++l).length (hset H0 b .dead++l1).length = true:=Nat.ble_eq_true_of_le (by have:=Nat.le_of_ble_eq_true hle; rw [List.length_append,List.length_append,I5]; omega)
 simp only [opers,oper,wanted,hhs,hseen,B3e H0 l hb,e1',hle',Bool.or_true,if_true,A90 H0 l l1 hb,hw]
 exact U3 (J1 T (Nat.le_max_right n1 n2)) e2
def cpy {α:Type} (d m:List α):List α:=m.take (min m.length d.length)++d.drop (min m.length d.length)
theorem B6w {α:Type} (d m:List α):(cpy d m).length = d.length:= by
 unfold cpy
 simp only [List.length_append,List.length_take,List.length_drop]
 omega
theorem C19 {α:Type} {f:α→List AV} {k j n:Nat} {x y:Opd} {m d:List α} {v:AV} (hd:ev s x = some (.asl (H0.length + j) n)) (hx:ev s y = some v) (hl:l[j]? = some (.arr k false (d.map f))) (hn:d.length = n) (hr:rd (H0++l) v k (m.map f)) (hf:∀a,(f a).all AV.frz = true) :
  One T c n0 s (H0++l) (.copy k x y) (.lit (.int .i64 (min m.length n:Nat))) (H0++l.set j (.arr k false ((cpy d m).map f))):= by
 have:=C3t (T:=T) (c:=c) (n0:=n0) hd hx hl hn hr hf
 subst hn
 exact this
theorem A3s {a:Opd} {j k N:Nat} {cs:List AV} (hN:H0.length = N) (h:ev s a = some (.ptr (N + j) 0)) (hl:l[j]? = some (.cells cs)) (hk:Nat.beq cs.length k = true):One T c n0 s (H0++l) (.load (some k) a) (.agg cs) (H0++l):= by subst hN; exact C5 h hl hk
theorem C0t {a x:Opd} {j o k N:Nat} {cs ds:List AV} {v:AV} (hN:H0.length = N) (h:ev s a = some (.ptr (N + j) o)) (hv:ev s x = some v) (hl:l[j]? = some (.cells cs)) (hk:(Nat.beq v.cellsOf.length k && Nat.ble (o + k) cs.length) = true) (hok:v.cellsOf.all AV.plain = true) (hd:splice cs o v.cellsOf = ds) :
  One T c n0 s (H0++l) (.store k a x) (.tup []) (H0++l.set j (.cells ds)):= by subst hN; exact C1 h hv hl hk (B3 hok) hd
theorem B47 {H':A3} {i:Nat} {a aq rs cap:List AV} (h:O3 T c H (.fn (.func i) [] cap) (a++aq) rs H'):O3 T c H (.fn (.func i) a cap) aq rs H':= by
 obtain ⟨n,e⟩:=h
 cases n with
 | zero=>simp [mach] at e
 | succ n =>
  refine ⟨n + 1,?_⟩
  rw [R2] at e ⊢
  exact e
theorem B44 {i:Nat} {a aq rs cap:List AV} (h:E8 T c H (.fn (.func i) [] cap) (a++aq) rs):E8 T c H (.fn (.func i) a cap) aq rs:=⟨B47 h.1,h.2⟩
end
theorem A3b {α:Type} {l:List α} {i:Int} {w:α} (h:idx l i = some w):0≤i∧i < l.length:= by
 unfold idx at h
 split at h
 ·have:=(List.getElem?_eq_some_iff.1 h).1
  exact ⟨by assumption,by omega⟩
 ·cases h
theorem A61 {α:Type} {l:List α} {i:Int} {w:α} (h:idx l i = some w):l[i.toNat]? = some w:= by
 unfold idx at h
 split at h
 ·exact h
 ·cases h
theorem B0x {α:Type} {f:α→List AV} {k:Nat} (hk:∀a,(f a).length = k):∀e:List α,((e.map f).flatten).length = e.length * k
 | []=>by simp
 | a :: e=>by rw [List.map_cons,List.flatten_cons,List.length_append,hk a,B0x hk e,List.length_cons,Nat.succ_mul,Nat.add_comm]
theorem A0x {α:Type} {f:α→List AV} {k:Nat} (hk:∀a,(f a).length = k) (post:List AV):∀{e:List α} {i:Nat} {y:α},e[i]? = some y→((e.map f).flatten++post).drop (i * k) = f y++(((e.drop (i + 1)).map f).flatten++post)
 | [],_,_,h=>by simp at h
 | a :: e,0,y,h=>by
  simp only [List.getElem?_cons_zero,Option.some.injEq] at h
  subst h
  simp
 | a :: e,i + 1,y,h=>by
  simp only [List.getElem?_cons_succ] at h
  have ih:=A0x hk post h
  rw [List.map_cons,List.flatten_cons,List.append_assoc,Nat.succ_mul,Nat.add_comm,← List.drop_drop,List.drop_left' (hk a),ih]
  rfl
theorem B5c {α:Type} {f:α→List AV} {k:Nat} (hk:∀a,(f a).length = k) (post:List AV) (z:α):∀{e:List α} {i:Nat} {y:α},e[i]? = some y→splice ((e.map f).flatten++post) (i * k) (f z) = ((e.set i z).map f).flatten++post
 | [],_,_,h=>by simp at h
 | a :: e,0,y,h=>by
  unfold splice
  simp only [Nat.zero_mul,List.take_zero,List.nil_append,Nat.zero_add,List.map_cons,List.flatten_cons,List.set_cons_zero,List.append_assoc]
  rw [hk z,List.drop_left' (hk a)]
 | a :: e,i + 1,y,h=>by
  simp only [List.getElem?_cons_succ] at h
  have ih:=B5c hk post z h
  unfold splice at ih ⊢
  simp only [List.map_cons,List.flatten_cons,List.set_cons_succ,List.append_assoc] at ih ⊢
  rw [← ih,Nat.succ_mul,Nat.add_comm (i * k) k,← hk a,List.take_append,List.take_of_length_le (Nat.le_add_right _ _),Nat.add_sub_cancel_left,Nat.add_assoc,← List.drop_drop,List.drop_left,List.append_assoc]
theorem slc0 {α:Type} {e m:List α} {h:Int} (hm:slc e 0 h = some m):m = e.take h.toNat:= by
 obtain ⟨_,rfl⟩:=A59 hm
 rfl
section
variable {T:Tab} {s:B4} {H0 H:A3} {l:List AO} {c:Sc} {n0 k0:Nat} {α:Type} {f:α→List AV} {k o n:Nat} {kk:IntKind} {x i a:Opd} {m:Int} {y z:α} {e e2:List α} {cs ds post:List AV}
theorem A3e {b:Nat} (h:ev s x = some (.ptr b o)) (hi:ev s i = some (.lit (.int kk m))) (hn:e.length = n) (hy:idx e m = some y):One T c n0 s H (.idxA k n x i) (.ptr b (o + m.toNat * k)) H :=
 ⟨0,by
  have hb:=A3b hy
  rw [hn] at hb
  simp only [core,prim,h,hi,if_pos hb]⟩
theorem B8d {b:Nat} (h:ev s a = some (.ptr b (o + m.toNat * k))) (hc:hcells H b = some cs) (hcs:cs.drop o = (e.map f).flatten++post) (hk:∀a,(f a).length = k) (hy:idx e m = some y):∃r,cs.drop (o + m.toNat * k) = f y++r :=
 ⟨_,by rw [← List.drop_drop,hcs,A0x hk post (A61 hy)]⟩
theorem B1h {b:Nat} {g:α→AV} (hf:∀a,f a = [g a]) (h:ev s a = some (.ptr b (o + m.toNat * 1))) (hc:hcells H b = some cs) (hcs:cs.drop o = (e.map f).flatten++post) (hy:idx e m = some y):One T c n0 s H (.load none a) (g y) H :=
 ⟨0,by
  obtain ⟨r,hr⟩:=B8d h hc hcs (fun a=>by rw [hf]; rfl) hy
  rw [hf] at hr
  simp only [core,prim,h,F5,hc,hr,List.singleton_append]⟩
theorem A3t {j:Nat} {v:AV} (h:ev s a = some (.ptr (H0.length + j) (o + m.toNat * k))) (hv:ev s x = some v) (hvc:v.cellsOf = f z) (hl:l[j]? = some (.cells cs)) (ho:Nat.ble o cs.length = true) (hcs:cs.drop o = (e.map f).flatten++post) (hk:∀a,(f a).length = k) (hy:idx e m = some y) (he2:e2 = A97 e m z) (hds:cs.take o++((e2.map f).flatten++post) = ds) (hok:c.okL (H0.length + j) v.cellsOf = true) :
  One T c n0 s (H0++l) (.store k a x) (.tup []) (H0++l.set j (.cells ds)):= by
 have hb:=A61 hy
 have hlt:=(List.getElem?_eq_some_iff.1 hb).1
 have ho:=Nat.le_of_ble_eq_true ho
 have hzk:=hk z
 have hmul:m.toNat * k + k≤e.length * k:= by
  have:=Nat.mul_le_mul_right k (show m.toNat + 1≤e.length by omega)
  rw [Nat.succ_mul] at this; exact this
 have hle:o + m.toNat * k + k≤cs.length:= by
  have:=congrArg List.length hcs
  rw [List.length_drop,List.length_append,B0x hk] at this
  omega
 refine C1 h hv hl ?_ hok ?_
 ·rw [hvc,hzk,Nat.beq_refl,Bool.true_and]
  exact Nat.ble_eq_true_of_le (by omega)
 ·rw [← hds,hvc,he2]
  have h1:=B5c hk post z hb
  have e1:splice cs (o + m.toNat * k) (f z) = cs.take o++splice (cs.drop o) (m.toNat * k) (f z):= by
   unfold splice
   rw [List.take_add,Nat.add_assoc,← List.drop_drop]
   simp only [List.append_assoc]
  rw [e1,hcs,h1]; rfl
theorem A1c {g:α→AV} (hf:∀a,f a = [g a]) (h:ev s x = some (.agg cs)) (hi:ev s i = some (.lit (.int kk m))) (hn:e.length = n) (hcs:cs = (e.map f).flatten) (hy:idx e m = some y):One T c n0 s H (.idxAgg none 1 n x i) (g y) H :=
 ⟨0,by
  have hb:=A3b hy
  rw [hn] at hb
  have hr:=A0x (f:=f) (k:=1) (fun a=>by rw [hf]; rfl) [] (A61 hy)
  rw [List.append_nil,← hcs,hf] at hr
  have h1:cs[m.toNat * 1]? = some (g y):= by
   have h2:=congrArg List.head? hr
   rw [List.head?_drop] at h2
   rw [h2]; rfl
  simp only [core,prim,h,hi,if_pos hb,h1,Option.map_some]⟩
theorem C0z {b:Nat} {hi:Option Opd} {h':Int} {m':List α} (h:ev s x = some (.ptr b o)) (hc:hcells H b = some cs) (hb:bnd s n hi = some h') (hle:Nat.ble (o + n * k) cs.length = true) (hn:e.length = n) (hm:slc e 0 h' = some m'):One T c n0 s H (.sliceA k n x hi) (.csl b o k m'.length) H :=
 ⟨0,by
  obtain ⟨h3,rfl⟩:=A59 hm
  have h4:(((e.take h'.toNat).drop 0)).length = h'.toNat:= by rw [List.drop_zero,List.length_take]; omega
  rw [hn] at h3
  have h5:(Nat.ble (o + n * k) cs.length && decide (0≤h'∧h'≤(n:Int))) = true:= by rw [hle,decide_eq_true ⟨h3.2.1,h3.2.2⟩]; rfl
  simp only [core,prim,h,hc,hb,h5,if_true,Int.toNat_zero,h4]⟩
theorem B9a {b:Nat} (h:ev s x = some (.ptr b o)) (hc:hcells H b = some cs) (hle:Nat.ble (o + n * k) cs.length = true):One T c n0 s H (.sliceA k n x none) (.csl b o k n) H :=
 ⟨0,by
  have h5:(Nat.ble (o + n * k) cs.length && decide ((0:Int)≤(n:Int)∧(n:Int)≤(n:Int))) = true:= by rw [hle,decide_eq_true (by omega)]; rfl
  simp only [core,prim,h,hc,bnd,h5,if_true,Int.toNat_natCast]⟩
theorem C3b {b p:Nat} {e':List α} (hc:hcells H b = some cs) (hle:Nat.ble (o + e.length * k) cs.length = true) (hcs:cs.drop o = (e.map f).flatten++post) (hk:∀a,(f a).length = k) (he:e' = e.take p) (hp:e'.length = n):rd H (.csl b o k n) k (e'.map f):= by
 subst he; subst hp
 have hle:=Nat.le_of_ble_eq_true hle
 have h0:((e.take p)).length≤e.length:= by rw [List.length_take]; omega
 have h1:Nat.ble (o + (e.take p).length * k) cs.length = true:=Nat.ble_eq_true_of_le (by have:=Nat.mul_le_mul_right k h0; omega)
 refine ⟨?_,rfl⟩
 simp only [Y0,hc,h1,if_true,Option.some.injEq]
 apply List.ext_getElem?
 intro i
 rw [List.getElem?_map,List.getElem?_map]
 by_cases hi:i < (e.take p).length
 ·have hie:i < e.length:= by omega
  rw [List.getElem?_range hi,List.getElem?_eq_getElem hi]
  simp only [Option.map_some,Option.some.injEq]
  rw [← List.drop_drop,hcs,A0x hk post (List.getElem?_eq_getElem hie),List.take_left' (hk _),List.getElem_take]
 ·rw [List.getElem?_eq_none (by simpa using hi),List.getElem?_eq_none (by omega)]; rfl
theorem C2i {neg:Bool} {b:Nat} (h:ev s x = some (.csl b o k n)):One T c n0 s H (.nilq neg x) (.lit (.bool neg)) H:=⟨0,by simp only [core,prim,h]⟩
theorem C2a {g:α→AV} (h:ev s x = some (.cptr (e.map g))) (hi:ev s i = some (.lit (.int kk m))) (hn:e.length = n) (hy:idx e m = some y):One T c n0 s H (.idxA 1 n x i) (.cptr ((e.drop m.toNat).map g)) H :=
 ⟨0,by
  have hb:=A3b hy
  rw [hn] at hb
  simp only [core,prim,h,hi,if_pos hb,Nat.mul_one,List.map_drop]⟩
theorem C0y {g:α→AV} (h:ev s a = some (.cptr ((e.drop m.toNat).map g))) (hy:idx e m = some y):One T c n0 s H (.load none a) (g y) H :=
 ⟨0,by
  have h1:=A61 hy
  have h2:=(List.getElem?_eq_some_iff.1 h1).1
  rw [List.drop_eq_getElem_cons h2,(List.getElem?_eq_some_iff.1 h1).2] at h
  simp only [core,prim,h,F5,List.map_cons]⟩
end
structure Ar2 (α:Type) where
 mk ::
 (x0 x1:α)
 deriving DecidableEq
def Ar2.l {α:Type} (a:Ar2 α):List α:=[a.x0,a.x1]
def Ar2.set {α:Type} (a:Ar2 α) (i:Int) (v:α):Ar2 α:=⟨if i = 0 then v else a.x0,if i = 1 then v else a.x1⟩
def A6a {α:Type} (f:α→List AV) (a:Ar2 α):List AV:=f a.x0++(f a.x1++[])
theorem Ar2.set_l {α:Type} {a:Ar2 α} {i:Int} {v w:α} (h:idx a.l i = some w):(a.set i v).l = A97 a.l i v:= by
 obtain ⟨h0,h1⟩:=A3b h
 have h1:i < 2:=h1
 rcases (by omega:i = 0∨i = 1) with rfl | rfl
 all_goals rfl
structure Ar3 (α:Type) where
 mk ::
 (x0 x1 x2:α)
 deriving DecidableEq
def Ar3.l {α:Type} (a:Ar3 α):List α:=[a.x0,a.x1,a.x2]
def Ar3.set {α:Type} (a:Ar3 α) (i:Int) (v:α):Ar3 α:=⟨if i = 0 then v else a.x0,if i = 1 then v else a.x1,if i = 2 then v else a.x2⟩
def A6b {α:Type} (f:α→List AV) (a:Ar3 α):List AV:=f a.x0++(f a.x1++(f a.x2++[]))
theorem Ar3.set_l {α:Type} {a:Ar3 α} {i:Int} {v w:α} (h:idx a.l i = some w):(a.set i v).l = A97 a.l i v:= by
 obtain ⟨h0,h1⟩:=A3b h
 have h1:i < 3:=h1
 rcases (by omega:i = 0∨i = 1∨i = 2) with rfl | rfl | rfl
 all_goals rfl
structure Ar4 (α:Type) where
 mk ::
 (x0 x1 x2 x3:α)
 deriving DecidableEq
def Ar4.l {α:Type} (a:Ar4 α):List α:=[a.x0,a.x1,a.x2,a.x3]
def Ar4.set {α:Type} (a:Ar4 α) (i:Int) (v:α):Ar4 α:=⟨if i = 0 then v else a.x0,if i = 1 then v else a.x1,if i = 2 then v else a.x2,if i = 3 then v else a.x3⟩
def A0f {α:Type} (f:α→List AV) (a:Ar4 α):List AV:=f a.x0++(f a.x1++(f a.x2++(f a.x3++[])))
theorem Ar4.set_l {α:Type} {a:Ar4 α} {i:Int} {v w:α} (h:idx a.l i = some w):(a.set i v).l = A97 a.l i v:= by
 obtain ⟨h0,h1⟩:=A3b h
 have h1:i < 4:=h1
 rcases (by omega:i = 0∨i = 1∨i = 2∨i = 3) with rfl | rfl | rfl | rfl
 all_goals rfl
structure Ar5 (α:Type) where
 mk ::
 (x0 x1 x2 x3 x4:α)
 deriving DecidableEq
def Ar5.l {α:Type} (a:Ar5 α):List α:=[a.x0,a.x1,a.x2,a.x3,a.x4]
def Ar5.set {α:Type} (a:Ar5 α) (i:Int) (v:α):Ar5 α:=⟨if i = 0 then v else a.x0,if i = 1 then v else a.x1,if i = 2 then v else a.x2,if i = 3 then v else a.x3,if i = 4 then v else a.x4⟩
def J8 {α:Type} (f:α→List AV) (a:Ar5 α):List AV:=f a.x0++(f a.x1++(f a.x2++(f a.x3++(f a.x4++[]))))
theorem Ar5.set_l {α:Type} {a:Ar5 α} {i:Int} {v w:α} (h:idx a.l i = some w):(a.set i v).l = A97 a.l i v:= by
 obtain ⟨h0,h1⟩:=A3b h
 have h1:i < 5:=h1
 rcases (by omega:i = 0∨i = 1∨i = 2∨i = 3∨i = 4) with rfl | rfl | rfl | rfl | rfl
 all_goals rfl
structure Ar6 (α:Type) where
 mk ::
 (x0 x1 x2 x3 x4 x5:α)
 deriving DecidableEq
def Ar6.l {α:Type} (a:Ar6 α):List α:=[a.x0,a.x1,a.x2,a.x3,a.x4,a.x5]
def Ar6.set {α:Type} (a:Ar6 α) (i:Int) (v:α):Ar6 α:=⟨if i = 0 then v else a.x0,if i = 1 then v else a.x1,if i = 2 then v else a.x2,if i = 3 then v else a.x3,if i = 4 then v else a.x4,if i = 5 then v else a.x5⟩
theorem Ar6.set_l {α:Type} {a:Ar6 α} {i:Int} {v w:α} (h:idx a.l i = some w):(a.set i v).l = A97 a.l i v:= by
 obtain ⟨h0,h1⟩:=A3b h
 have h1:i < 6:=h1
 rcases (by omega:i = 0∨i = 1∨i = 2∨i = 3∨i = 4∨i = 5) with rfl | rfl | rfl | rfl | rfl | rfl
 all_goals rfl
structure Ar10 (α:Type) where
 mk ::
 (x0 x1 x2 x3 x4 x5 x6 x7 x8 x9:α)
 deriving DecidableEq
def Ar10.l {α:Type} (a:Ar10 α):List α:=[a.x0,a.x1,a.x2,a.x3,a.x4,a.x5,a.x6,a.x7,a.x8,a.x9]
def Ar10.set {α:Type} (a:Ar10 α) (i:Int) (v:α):Ar10 α:=⟨if i = 0 then v else a.x0,if i = 1 then v else a.x1,if i = 2 then v else a.x2,if i = 3 then v else a.x3,if i = 4 then v else a.x4,if i = 5 then v else a.x5,if i = 6 then v else a.x6,if i = 7 then v else a.x7,if i = 8 then v else a.x8,if i = 9 then v else a.x9⟩
theorem Ar10.set_l {α:Type} {a:Ar10 α} {i:Int} {v w:α} (h:idx a.l i = some w):(a.set i v).l = A97 a.l i v:= by
 obtain ⟨h0,h1⟩:=A3b h
 have h1:i < 10:=h1
 rcases (by omega:i = 0∨i = 1∨i = 2∨i = 3∨i = 4∨i = 5∨i = 6∨i = 7∨i = 8∨i = 9) with rfl | rfl | rfl | rfl | rfl | rfl | rfl | rfl | rfl | rfl
 all_goals rfl
structure KeyOk {κ:Type} [DecidableEq κ] (ag:Bool) (ks:List Nat) (av:κ→AV) (kc:κ→List AV):Prop where
 cells:∀a,G0 ag (av a) = some (kc a)
 kinds:∀a,kinds ks (kc a) = true
 eql:∀a b,F6 (kc a) (kc b) = some (decide (a = b))
theorem B97 (a b:Int):F6 [.lit (.int .i64 a)] [.lit (.int .i64 b)] = some (decide (a = b)):= by
 simp only [F6,A0h,if_true]
 by_cases h:a = b
 ·subst h; simp
 ·rw [show (a == b) = false from beq_eq_false_iff_ne.mpr h,decide_eq_false h]
theorem A7y:KeyOk (κ:=Int) false [0] (fun n=>.lit (.int .i64 n)) (fun n=>[.lit (.int .i64 n)]):=⟨fun _=>rfl,fun _=>rfl,B97⟩
section
variable {κ β:Type} [DecidableEq κ]
def kfind (k:κ):List (κ × β)→Nat→Option (Nat × β)
 | [],_=>none
 | e :: es,i=>if k = e.1 then some (i,e.2) else kfind k es (i + 1)
def kget (es:List (κ × β)) (k:κ):Option β:=(kfind k es 0).map (·.2)
def kset (es:List (κ × β)) (k:κ) (v:β):List (κ × β):=match kfind k es 0 with
 | some (i,_)=>es.set i (k,v)
 | none=>es++[(k,v)]
def kE (av:κ→AV) (gv:β→AV) (e:κ × β):AV × AV:=(av e.1,gv e.2)
theorem A5z {ag:Bool} {ks:List Nat} {av:κ→AV} {kc:κ→List AV} (hK:KeyOk ag ks av kc) (gv:β→AV) (k:κ):∀(es:List (κ × β)) (i:Nat),findKey ag ks (kc k) (es.map (kE av gv)) i = some ((kfind k es i).map fun x=>(x.1,gv x.2))
 | [],_=>rfl
 | e :: es,i=>by
  simp only [List.map_cons,kE,findKey,hK.cells,hK.kinds,if_true,hK.eql]
  by_cases h:k = e.1
  ·simp only [kfind,h,decide_true,if_true,Option.map_some]
  ·simp only [kfind,h,decide_false,if_false]
   exact A5z hK gv k es (i + 1)
end
section
variable {T:Tab} {s:B4} {H0 H:A3} {l:List AO} {c:Sc} {n0 k0:Nat} {κ β:Type} [DecidableEq κ] {ag:Bool} {ks:List Nat} {av:κ→AV} {kc:κ→List AV} {gv:β→AV} {es:List (κ × β)} {k:κ} {x i:Opd} {b:Nat} {z:β}
theorem B68 {zz:AV} (hK:KeyOk ag ks av kc) (hx:ev s x = some (.mp b)) (hm:hmap H b = some (es.map (kE av gv))) (hi:ev s i = some (av k)) (hz:zz = gv z):One T c n0 s H (.lookup zz ag ks x i false) (gv ((kget es k).getD z)) H:= by
 subst hz
 refine ⟨0,?_⟩
 simp only [core,prim,hx,hm,hi,hK.cells,hK.kinds,if_true,A5z hK]
 unfold kget
 cases kfind k es 0 with
 | none=>rfl
 | some y=>rfl
theorem C3u {m:Opd} {v:β} (hK:KeyOk ag ks av kc) (hx:ev s m = some (.mp b)) (hm:A49 H b = some (es.map (kE av gv))) (hi:ev s i = some (av k)) (hv:ev s x = some (gv v)) (hg:((gv v).cellsOf.all AV.frz && !(gv v).cellsOf.isEmpty) = true):One T c n0 s H (.mupd ag ks m i x) (.tup []) (hset H b (.map ((kset es k v).map (kE av gv)))):= by
 refine ⟨0,?_⟩
 have h3:(Am.kinds ks (kc k) && (gv v).cellsOf.all AV.frz && !(gv v).cellsOf.isEmpty) = true:= by
  rw [hK.kinds,Bool.true_and]; exact hg
 simp only [core,prim,hx,hi,hv,hm,hK.cells,h3,if_true,A5z hK]
 unfold kset
 cases kfind k es 0 with
 | none=>simp [kE]
 | some y=>simp [kE,List.map_set]
omit [DecidableEq κ] in
theorem B03 {j:Nat} {es:List (AV × AV)} (h:l[j]? = some (.map es)):hmap (H0++l) (H0.length + j) = some es:= by
 unfold hmap; rw [R6,h]
theorem B81 {j:Nat} {es:List (AV × AV)} (h:l[j]? = some (.map es)):A49 (H0++l) (H0.length + j) = some es:= by
 unfold A49; rw [R6,h]
theorem B8i {m:Opd} {v:β} {j:Nat} (hK:KeyOk ag ks av kc) (hx:ev s m = some (.mp (H0.length + j))) (hm:l[j]? = some (.map (es.map (kE av gv)))) (hi:ev s i = some (av k)) (hv:ev s x = some (gv v)) (hg:((gv v).cellsOf.all AV.frz && !(gv v).cellsOf.isEmpty) = true):One T c n0 s (H0++l) (.mupd ag ks m i x) (.tup []) (H0++l.set j (.map ((kset es k v).map (kE av gv)))):= by
 have:=C3u (T:=T) (c:=c) (n0:=n0) hK hx (B81 hm) hi hv hg
 rwa [F0] at this
end
section
variable {T:Tab} {s:B4} {H0:A3} {l:List AO} {c:Sc} {Q:Ex→B4→A3→Prop}
def C4z {γ σ ρ:Type} (st:σ→B4) (hp:γ→σ→A3) (P:ρ→Ex→B4→A3→Prop):σ ⊕ ρ→Ex→B4→A3→Prop
 | .inl x,e,s',H'=>e = .normal∧Sub (st x) s'∧∃ g',H' = hp g' x
 | .inr r,e,s',H'=>e.out = true∧∃ s0,Sub s0 s'∧P r e s0 H'
theorem C1p {γ σ ρ:Type} {live:List Nat} {bd:ACode} {body:σ→Option (σ ⊕ ρ)} (st:σ→B4) (hp:γ→σ→A3) (P:ρ→Ex→B4→A3→Prop)
  (hlive:∀x,(st x).map (·.1) = live) (hnd:live.Nodup)
  (hbody:∀g x o,body x = some o→WP T bd (st x) (hp g x) c (C4z st hp P o))
  {x0:σ} {r:ρ} (h:loop body x0 = some r) (g0:γ):WP T (.loop false live bd) (st x0) (hp g0 x0) c (fun e s' H'=>e.out = true∧P r e s' H'):= by
 have key:∀n g0 x0,B5r body n x0 = some r→WP T (.loop false live bd) (st x0) (hp g0 x0) c (fun e s' H'=>e.out = true∧P r e s' H'):= by
  intro n
  induction n with
  | zero=>intro g0 x0 h; cases h
  | succ n ih =>
   intro g0 x0 h S hS
   rw [B08] at h
   have hr:restrict S live = st x0:=M0 (hlive x0) hnd hS
   have hin:A3c false live ⟨S,hp g0 x0,c⟩ = ⟨st x0,hp g0 x0,c⟩:= by
    unfold A3c; simp [hr]
   split at h
   ·next x' hb =>
    obtain ⟨e,S1,s1,H1,h1,h2,rfl,h4,g',h5⟩:=hbody g0 x0 _ hb _ (Sub.refl _)
    have hr1:restrict S1 live = st x':=M0 (hlive x') hnd (h4.trans h2)
    obtain ⟨e2,S2,s2,H2,g1,g2,g3⟩:=ih g' x' h _ (Sub.refl _)
    refine ⟨e2,S2,s2,H2,I0.loop (st1:=⟨S1,H1,c⟩) rfl hin.symm h1 ?_ g1,g2,g3⟩
    unfold A5a
    simp only [Bool.false_eq_true,if_false,hr1,h5]
   ·next r' hb =>
    simp only [Option.some.injEq] at h
    subst h
    obtain ⟨e,S1,s1,H1,h1,h2,h3,s2,h4,h5⟩:=hbody g0 x0 _ hb _ (Sub.refl _)
    exact ⟨e,S1,s2,H1,I0.loopOut (st1:=⟨S1,H1,c⟩) rfl hin.symm h3 h1 rfl,h4.trans h2,h3,h5⟩
   ·cases h
 exact key _ _ _ h
theorem C0j {α:Type} (l:List α) (x:α) {n:Nat} (h:n = l.length):(l++[x])[n]? = some x:= by subst h; simp
theorem B5o {α:Type} (l:List α) (x y:α) {n:Nat} (h:n = l.length):(l++[x]).set n y = l++[y]:= by subst h; simp
end
end Am
end
section
set_option maxRecDepth 100000
namespace Go.Proofs.YtbheamjhjgoccaaDoor
open Go Am
namespace Cd
def c7:ACode :=
 (.s 0 [M 0 0 (.b false)] [] (.s 2 [q 0 19 (.lits 1 [.lit (.int .i64 0)] 1 [(0,.i 3)] none),CL 1 20 40 [19],q 2 21 (.call (.f 40) [.c (.seq 1 [])] [] false),q 3 1 (.alloc [.lit (.int .i64 0),.lit (.int .i64 0),.lit (.int .i64 0),.seq 1 [],.seq 4 [],.seq 6 [],.seq 1 []] [] 0),q 4 2 (.alloc [.lit (.int .i64 0),.lit (.int .i64 0),.lit (.int .i64 0),.seq 1 [],.seq 4 [],.seq 6 [],.seq 1 []] [] 1),ST 5 7 1 20,ST 6 7 2 21] [1,2] (.s 1 [LK 0 23 7 1,CL 1 24 19 [23,.i 1,.i 0],M 2 22 24,EX 3 25 22 0,EX 4 26 22 1,q 5 3 (.alloc [.lit (.int .i64 0),.lit (.int .i64 0)] [] 0),ST 6 2 3 25,M 7 4 26] [1,2,3,4] (.s 0 [LK 0 28 7 1,CL 1 29 21 [28,.i 0,.i 1,.i 0],M 2 27 29,EX 3 30 27 0,EX 4 31 27 1,M 5 5 30,M 6 6 31] [1,2,3,4,5,6] (.s 1 [LK 0 33 7 2,CL 1 34 31 [33],M 2 32 34,EX 3 35 32 0,EX 4 36 32 1,EX 5 37 32 2,q 6 7 (.alloc [.lit (.int .i64 0),.seq 1 []] [] 0),ST 7 2 7 35,M 8 8 36,M 9 9 37] [1,3,4,5,6,7,8,9] (.sd 0 [LK 0 39 7 1,q 1 40 (.lits 1 [.lit (.int .i64 0)] 3 [(0,.i 1),(1,.i 0),(2,.i (-1))] none),CP 2 41 41 [.i 1,40],CL 3 42 27 [39,41],M 4 38 42,EX 5 43 38 0,EX 6 44 38 1,M 7 10 43,M 8 11 44] [1,3,4,5,6,7,8,9,11] (.s 0 [LK 0 46 7 1,CL 1 47 36 [46],M 2 45 47,EX 3 48 45 0,EX 4 49 45 1,M 5 12 48,M 6 13 49] [1,3,4,5,6,7,8,9,11,12,13] (.s 0 [LK 0 51 7 1,CL 1 52 38 [51,.i 1],M 2 50 52,EX 3 53 50 0,EX 4 54 50 1,M 5 14 53,M 6 15 54] [1,3,4,5,6,7,8,9,11,12,13,14,15] (.sd 0 [LK 0 56 7 1,q 1 57 (.lits 1 [.lit (.int .i64 0)] 3 [(0,.i (-1)),(1,.i (-1)),(2,.i 2)] none),CP 2 58 41 [.i 1,57],CL 3 59 29
 [56,58],M 4 55 59,EX 5 60 55 0,EX 6 61 55 1,EX 7 62 55 2,M 8 16 60,M 9 17 61,M 10 18 62] [3,4,5,6,7,8,9,11,12,13,14,15,16,17,18] (.sd 0 [M 0 63 4,B 1 64 .eql 63 (.i 0),M 2 65 64,G 3 66 65 true (.mv 6),G 4 67 65 true (.bin .eql 66 (.i 0)),q 5 68 (.pick 65 67 (.b false)),M 6 69 68,G 7 70 69 true (.mv 9),G 8 71 69 true (.bin .eql 70 (.i 0)),q 9 72 (.pick 69 71 (.b false)),M 10 73 72,G 11 74 73 true (.mv 11),G 12 75 73 true (.bin .eql 74 (.i 9)),q 13 76 (.pick 73 75 (.b false)),M 14 77 76,G 15 78 77 true (.mv 13),G 16 79 77 true (.bin .eql 78 (.i 0)),q 17 80 (.pick 77 79 (.b false)),M 18 81 80,G 19 82 81 true (.mv 15),G 20 83 81 true (.bin .eql 82 (.i 0)),q 21 84 (.pick 81 83 (.b false)),M 22 85 84,G 23 86 85 true (.mv 18),G 24 87 85 true (.bin .eql 86 (.i 0)),q 25 88 (.pick 85 87 (.b false)),M 26 89 88,G 27 90 89 true (.load (some 2) 3),G 28 91 89 true (.call (.f 42) [.i 30,.i 50] [] true),G 29 92 89 true (.cmp false [0,0] 90 91),q 30 93 (.pick 89 92 (.b false)),M 31 94 93,G 32 95 94 true (.mv 5),G 33 96 94 true (.bin .eql 95 (.i 0)),q 34 97 (.pick 94 96 (.b false)),M 35 98 97,G 36 99 98 true (.load (some 2) 7),G 37 100 98 true (.lits 1 [.lit (.int .i64 0)] 3 [(0,.i (-1)),(1,.i 0),(2,.i 2)] none),G 38 101 98 true (.call (.f 41) [.i 1,100] [] true),G 39 102 98 true (.call (.f 33) [99,101] [] false),q 40 103 (.pick 98 102 (.b false)),M 41 104 103,G 42 105 104 true (.mv 8),G 43 106 104 true (.bin .eql 105 (.i 12)),q 44 107 (.pick 104 106 (.b false)),M 45 108 107,G 46 109 108 true
 (.mv 12),G 47 110 108 true (.lenL 109),G 48 111 108 true (.bin .eql 110 (.i 0)),q 49 112 (.pick 108 111 (.b false)),M 50 113 112,G 51 114 113 true (.mv 14),G 52 115 113 true (.bin .eql 114 (.i 0)),q 53 116 (.pick 113 115 (.b false)),M 54 117 116,G 55 118 117 true (.mv 16),G 56 119 117 true (.bin .eql 118 (.i 2)),q 57 120 (.pick 117 119 (.b false)),M 58 121 120,G 59 122 121 true (.mv 17),G 60 123 121 true (.bin .eql 122 (.i 3)),q 61 124 (.pick 121 123 (.b false)),M 62 125 124,G 63 126 125 true (.call (.f 23) [] [] false),q 64 127 (.pick 125 126 (.b false)),M 65 0 127] [0] .ret))))))))))
def a7:AFunc:=⟨0,c7,[.tmp 0]⟩
def c17:ACode :=
 (.s 1 [q 0 1 (.box 7 0 0),M 1 2 (.i 0),M 2 3 (.i 0),M 3 4 (.i 0)] [1] (.seq (.s 0 [FA 0 5 0 1,LK 1 6 2 5,CL 2 7 61 [6,.i (-100),.i 100],M 3 4 7] [1,4] (.s 0 [M 0 8 4,B 1 9 .neq 8 (.i 0)] [1,4,9] (.cond 9 (.s 0 [M 0 10 4,M 1 2 (.i 1),M 2 3 (.i 0),M 3 4 10] [2,3,4] .ret) .skip))) (.seq (.s 0 [FA 0 11 2 1,L 1 12 11,q 2 13 (.lits 1 [.lit (.int .i64 0)] 1 [(0,12)] none),CL 3 14 62 [.i 0,.i 3,13]] [1,14] (.cond 14 (.s 0 [M 0 2 (.i 2),M 1 3 (.i 0),M 2 4 (.i 7)] [2,3,4] .ret) .skip)) (.seq (.sd 0 [⟨some 18,.call (.f 64) [.i 0,.i 2000] [] false,none,[],[(1,[])],0,2⟩,FA 0 16 3 1,⟨some 17,.load none 16,none,[],[],1,1⟩,CL 3 19 63 [17,.i 4,18],M 4 15 19,EX 5 20 15 0,EX 6 21 15 1,M 7 3 20,M 8 4 21] [1,3,4] (.s 0 [M 0 22 4,B 1 23 .neq 22 (.i 0)] [1,3,4,23] (.cond 23 (.s 0 [M 0 24 3,M 1 25 4,M 2 2 (.i 3),M 3 3 24,M 4 4 25] [2,3,4] .ret) .skip))) (.s 0 [FA 0 27 4 1,L 1 28 27,q 2 29 (.mkfn (.func 66) [] [1]),CL 3 30 65 [28,.i 5,29],M 4 26 30,EX 5 31 26 0,EX 6 32 26 1,M 7 3 31,M 8 4 32] [1,3,4] (.seq (.s 0 [M 0 33 4,B 1 34 .neq 33 (.i 0)] [1,3,4,34] (.cond 34 (.s 0 [M 0 35 3,M 1 36 4,M 2 2 (.i 4),M 3 3 35,M 4 4 36] [2,3,4] .ret) .skip)) (.s 0 [FA 0 38 5 1,L 1 39 38,q 2 40 (.mkfn (.func 73) [] [1]),CL 3 41 72 [39,.i 5,40],M 4 37 41,EX 5 42 37 0,EX 6 43 37 1,M 7 3 42,M 8 4 43] [1,3,4] (.seq (.s 0 [M 0 44 4,B 1 45 .neq 44 (.i 0)] [1,3,4,45] (.cond 45 (.s 0 [M 0 46 3,M 1 47 4,M 2 2 (.i 5),M 3 3 46,M 4 4 47] [2,3,4] .ret) .skip)) (.seq (.sd 0 [⟨some 51,.call (.f 64) [.i 0,.i 9] []
 false,none,[],[(1,[])],0,2⟩,FA 0 49 6 1,⟨some 50,.load none 49,none,[],[],1,1⟩,CL 3 52 63 [50,.i 3,51],M 4 48 52,EX 5 53 48 0,EX 6 54 48 1,M 7 3 53,M 8 4 54] [3,4] (.s 0 [M 0 55 4,B 1 56 .neq 55 (.i 0)] [3,4,56] (.cond 56 (.s 0 [M 0 57 3,M 1 58 4,M 2 2 (.i 6),M 3 3 57,M 4 4 58] [2,3,4] .ret) .skip))) (.s 0 [M 0 2 (.i 0),M 1 3 (.i 0),M 2 4 (.i 0)] [2,3,4] .ret))))))))))
def a17:AFunc:=⟨1,c17,[.tmp 2,.tmp 3,.tmp 4]⟩
def c19:ACode :=
 (.s 2 [q 0 3 (.box 7 0 0),q 1 6 (.alloc [.lit (.int .i64 0),.lit (.int .i64 0)] [] 1),M 2 7 (.i 0)] [1,2,3,6] (.s 0 [LK 0 11 7 3,CL 1 12 81 [11],M 2 10 12,EX 3 13 10 0,EX 4 14 10 1,M 5 8 13,M 6 9 14] [1,2,6,8,9] (.seq (.s 0 [M 0 15 9,B 1 16 .eql 15 (.i 0)] [1,2,6,8,9,16] (.cond 16 (.g 0 [M 0 17 8,M 1 18 1,M 2 19 2,CL 3 20 82 [17,18,19],M 4 9 20] [1,2,6,8,9]) .skip)) (.seq (.s 0 [M 0 21 9,B 1 22 .neq 21 (.i 0)] [1,2,6,8,9,22] (.cond 22 (.s 0 [q 0 23 (.build [.lit (.int .i64 0),.lit (.int .i64 0)] []),M 1 24 9,ST 2 2 6 23,M 3 7 24] [6,7] .ret) .skip)) (.s 0 [M 0 25 8,M 1 26 1,M 2 27 2,CL 3 28 83 [25,26,27],ST 4 2 6 28,M 5 7 (.i 0)] [6,7] .ret)))))
def a19:AFunc:=⟨3,c19,[.cell 6 (some 2),.tmp 7]⟩
def c21:ACode :=
 (.s 1 [q 0 4 (.box 7 0 0),M 1 8 (.i 0),M 2 9 (.i 0)] [1,2,3,4] (.s 0 [LK 0 13 7 4,CL 1 14 81 [13],M 2 12 14,EX 3 15 12 0,EX 4 16 12 1,M 5 10 15,M 6 11 16] [1,2,3,4,10,11] (.seq (.block 0 (.s 0 [M 0 18 11,B 1 19 .neq 18 (.i 0),M 2 17 19] [1,2,3,4,10,11,17] (.cond 17 (.s 0 [M 0 20 11,M 1 8 (.i 0),M 2 9 20] [8,9] .ret) (.s 0 [FA 0 22 5 4,L 1 23 22,LE 2 24 23,B 3 25 .sub 24 (.i 1),M 4 26 1,q 5 27 (.lits 1 [.lit (.int .i64 0)] 1 [(0,26)] none),CL 6 28 62 [.i 0,25,27],M 7 21 28] [1,2,3,10,21] (.cond 21 (.s 0 [M 0 8 (.i 0),M 1 9 (.i 4)] [8,9] .ret) .skip))))) (.seq (.s 0 [M 0 29 10,M 1 30 2,M 2 31 3,CL 3 32 82 [29,30,31],M 4 11 32] [1,2,3,10,11] (.s 0 [M 0 33 11,B 1 34 .neq 33 (.i 0)] [1,2,3,10,11,34] (.cond 34 (.s 0 [M 0 35 11,M 1 8 (.i 0),M 2 9 35] [8,9] .ret) .skip))) (.s 0 [M 0 36 10,M 1 37 1,M 2 38 2,M 3 39 3,CL 4 40 86 [36,37,38,39],M 5 8 40,M 6 9 (.i 0)] [8,9] .ret)))))
def a21:AFunc:=⟨4,c21,[.tmp 8,.tmp 9]⟩
def c23:ACode :=
 (.s 0 [M 0 0 (.b false)] [] (.s 2 [q 0 27 (.lits 1 [.lit (.int .i64 0)] 1 [(0,.i 3)] none),CL 1 28 40 [27],q 2 29 (.call (.f 40) [.c (.seq 1 [])] [] false),q 3 1 (.alloc [.lit (.int .i64 0),.lit (.int .i64 0),.lit (.int .i64 0),.seq 1 [],.seq 4 [],.seq 6 [],.seq 1 []] [] 0),q 4 2 (.alloc [.lit (.int .i64 0),.lit (.int .i64 0),.lit (.int .i64 0),.seq 1 [],.seq 4 [],.seq 6 [],.seq 1 []] [] 1),ST 5 7 1 28,ST 6 7 2 29] [1,2] (.s 1 [LK 0 31 7 1,CL 1 32 19 [31,.i 1,.i 1],M 2 30 32,EX 3 33 30 0,EX 4 34 30 1,q 5 3 (.alloc [.lit (.int .i64 0),.lit (.int .i64 0)] [] 0),ST 6 2 3 33,M 7 4 34] [1,2,3,4] (.s 0 [LK 0 36 7 1,CL 1 37 21 [36,.i 0,.i 1,.i 1],M 2 35 37,EX 3 38 35 0,EX 4 39 35 1,M 5 5 38,M 6 6 39] [1,2,3,4,5,6] (.s 0 [LK 0 41 7 1,CL 1 42 21 [41,.i 2,.i 1,.i 1],M 2 40 42,EX 3 43 40 0,EX 4 44 40 1,M 5 7 43,M 6 8 44] [1,2,3,4,5,6,7,8] (.s 1 [LK 0 46 7 1,CL 1 47 31 [46],M 2 45 47,EX 3 48 45 0,EX 4 49 45 1,EX 5 50 45 2,q 6 9 (.alloc [.lit (.int .i64 0),.seq 1 []] [] 0),ST 7 2 9 48,M 8 10 49,M 9 11 50] [1,2,3,4,5,6,7,8,9,10,11] (.sd 0 [LK 0 52 7 1,q 1 53 (.lits 1 [.lit (.int .i64 0)] 3 [(0,.i 1),(1,.i (-1)),(2,.i 2)] none),CP 2 54 41 [.i 1,53],CL 3 55 27 [52,54],M 4 51 55,EX 5 56 51 0,EX 6 57 51 1,M 7 12 56,M 8 13 57] [1,2,3,4,5,6,7,8,9,10,11,13] (.sd 0 [LK 0 59 7 1,q 1 60 (.lits 1 [.lit (.int .i64 0)] 3 [(0,.i 1),(1,.i 0),(2,.i 2)] none),CP 2 61 41 [.i 1,60],CL 3 62 24 [59,61],M 4 58 62,EX 5 63 58 0,EX 6 64 58 1,M 7 14 63,M 8 15 64] [1,2,3,4,5,6,7,8,9,10,11,13,14,15] (.s 0 [q 0 66
 (.lits 1 [.lit (.int .i64 0)] 2 [(0,.i 1),(1,.i 3)] none),CL 1 67 40 [66],CL 2 68 36 [67],M 3 65 68,EX 4 69 65 0,EX 5 70 65 1,M 6 16 69,M 7 17 70] [1,2,3,4,5,6,7,8,9,10,11,13,14,15,16,17] (.s 0 [LK 0 72 7 1,CL 1 73 34 [72],M 2 71 73,EX 3 74 71 0,EX 4 75 71 1,M 5 18 74,M 6 19 75] [1,2,3,4,5,6,7,8,9,10,11,13,14,15,16,17,18,19] (.s 0 [LK 0 77 7 2,CL 1 78 34 [77],M 2 76 78,EX 3 79 76 0,EX 4 80 76 1,M 5 20 79,M 6 21 80] [1,3,4,5,6,7,8,9,10,11,13,14,15,16,17,18,19,20,21] (.s 0 [LK 0 82 7 1,CL 1 83 38 [82,.i 0],M 2 81 83,EX 3 84 81 0,EX 4 85 81 1,M 5 22 84,M 6 23 85] [1,3,4,5,6,7,8,9,10,11,13,14,15,16,17,18,19,20,21,22,23] (.s 0 [LK 0 87 7 1,LK 1 88 2 9,CL 2 89 29 [87,88],M 3 86 89,EX 4 90 86 0,EX 5 91 86 1,EX 6 92 86 2,M 7 24 90,M 8 25 91,M 9 26 92] [3,4,5,6,7,8,9,10,11,13,14,15,16,17,18,19,20,21,22,23,24,25,26] (.sd 0 [M 0 93 4,B 1 94 .eql 93 (.i 0),M 2 95 94,G 3 96 95 true (.mv 6),G 4 97 95 true (.bin .eql 96 (.i 0)),q 5 98 (.pick 95 97 (.b false)),M 6 99 98,G 7 100 99 true (.mv 8),G 8 101 99 true (.bin .eql 100 (.i 0)),q 9 102 (.pick 99 101 (.b false)),M 10 103 102,G 11 104 103 true (.mv 11),G 12 105 103 true (.bin .eql 104 (.i 0)),q 13 106 (.pick 103 105 (.b false)),M 14 107 106,G 15 108 107 true (.mv 13),G 16 109 107 true (.bin .eql 108 (.i 9)),q 17 110 (.pick 107 109 (.b false)),M 18 111 110,G 19 112 111 true (.mv 15),G 20 113 111 true (.bin .eql 112 (.i 0)),q 21 114 (.pick 111 113 (.b false)),M 22 115 114,G 23 116 115 true (.mv 17),G 24 117 115 true (.bin .eql 116 (.i 0)),q
 25 118 (.pick 115 117 (.b false)),M 26 119 118,G 27 120 119 true (.mv 19),G 28 121 119 true (.bin .eql 120 (.i 0)),q 29 122 (.pick 119 121 (.b false)),M 30 123 122,G 31 124 123 true (.mv 21),G 32 125 123 true (.bin .eql 124 (.i 0)),q 33 126 (.pick 123 125 (.b false)),M 34 127 126,G 35 128 127 true (.mv 23),G 36 129 127 true (.bin .eql 128 (.i 0)),q 37 130 (.pick 127 129 (.b false)),M 38 131 130,G 39 132 131 true (.mv 26),G 40 133 131 true (.bin .eql 132 (.i 0)),q 41 134 (.pick 131 133 (.b false)),M 42 135 134,G 43 136 135 true (.load (some 2) 3),G 44 137 135 true (.call (.f 42) [.i 45,.i 70] [] true),G 45 138 135 true (.cmp false [0,0] 136 137),q 46 139 (.pick 135 138 (.b false)),M 47 140 139,G 48 141 140 true (.mv 5),G 49 142 140 true (.bin .eql 141 (.i 1)),q 50 143 (.pick 140 142 (.b false)),M 51 144 143,G 52 145 144 true (.mv 7),G 53 146 144 true (.bin .eql 145 (.i 0)),q 54 147 (.pick 144 146 (.b false)),M 55 148 147,G 56 149 148 true (.load (some 2) 9),G 57 150 148 true (.lits 1 [.lit (.int .i64 0)] 3 [(0,.i (-1)),(1,.i 0),(2,.i 2)] none),G 58 151 148 true (.call (.f 41) [.i 1,150] [] true),G 59 152 148 true (.call (.f 33) [149,151] [] false),q 60 153 (.pick 148 152 (.b false)),M 61 154 153,G 62 155 154 true (.mv 10),G 63 156 154 true (.bin .eql 155 (.i 12)),q 64 157 (.pick 154 156 (.b false)),M 65 158 157,G 66 159 158 true (.mv 14),G 67 160 158 true (.lits 1 [.lit (.int .i64 0)] 2 [(0,.i 350),(1,.i 320)] none),G 68 161 158 true (.call (.f 26) [159,160] [] false),q 69 162
 (.pick 158 161 (.b false)),M 70 163 162,G 71 164 163 true (.mv 16),G 72 165 163 true (.lits 1 [.lit (.int .i64 0)] 1 [(0,.i 0)] none),G 73 166 163 true (.call (.f 26) [164,165] [] false),q 74 167 (.pick 163 166 (.b false)),M 75 168 167,G 76 169 168 true (.mv 18),G 77 170 168 true (.lits 1 [.lit (.int .i64 0)] 1 [(0,.i 0)] none),G 78 171 168 true (.call (.f 26) [169,170] [] false),q 79 172 (.pick 168 171 (.b false)),M 80 173 172,G 81 174 173 true (.mv 20),G 82 175 173 true (.lenL 174),G 83 176 173 true (.bin .eql 175 (.i 0)),q 84 177 (.pick 173 176 (.b false)),M 85 178 177,G 86 179 178 true (.mv 22),G 87 180 178 true (.bin .eql 179 (.i 1)),q 88 181 (.pick 178 180 (.b false)),M 89 182 181,G 90 183 182 true (.mv 24),G 91 184 182 true (.bin .eql 183 (.i 1)),q 92 185 (.pick 182 184 (.b false)),M 93 186 185,G 94 187 186 true (.mv 25),G 95 188 186 true (.bin .eql 187 (.i 0)),q 96 189 (.pick 186 188 (.b false)),M 97 0 189] [0] .ret))))))))))))))
def a23:AFunc:=⟨0,c23,[.tmp 0]⟩
def c24:ACode :=
 (.s 2 [q 0 2 (.box 7 0 0),q 1 3 (.box 2 1 1),M 2 4 (.c (.seq 1 [])),M 3 5 (.i 0)] [2,3] (.s 1 [LK 0 11 7 2,LK 1 12 2 3,CL 2 13 87 [11,12],M 3 10 13,EX 4 14 10 0,EX 5 15 10 1,EX 6 16 10 2,q 7 7 (.alloc [.lit (.int .i64 0),.lit (.int .i64 0),.lit (.int .i64 0),.lit (.int .i64 0),.lit (.int .i64 0),.lit (.int .i64 0)] [] 0),M 8 6 14,ST 9 6 7 15,M 10 8 16] [2,6,7,8] (.seq (.s 0 [M 0 17 8,B 1 18 .neq 17 (.i 0)] [2,6,7,8,18] (.cond 18 (.s 0 [M 0 19 8,M 1 4 (.c (.seq 1 [])),M 2 5 19] [4,5] .ret) .skip)) (.s 1 [M 0 20 6,FA 1 21 1 7,LK 2 22 5 21,CL 3 23 88 [20,22],q 4 9 (.alloc [.lit (.int .i64 0),.lit (.int .i64 0),.lit (.int .i64 0),.lit (.int .i64 0)] [] 0),ST 5 4 9 23] [2,9] (.s 0 [FA 0 24 3 2,L 1 25 24,LE 2 26 25,q 3 27 (.sliceA 1 4 9 (some 26)),CL 4 28 89 [27],M 5 4 28,M 6 5 (.i 0)] [4,5] .ret)))))
def a24:AFunc:=⟨2,c24,[.tmp 4,.tmp 5]⟩
def c26:ACode :=
 (.s 0 [M 0 4 (.b false)] [0,1] (.s 0 [M 0 7 0,LE 1 8 7,M 2 9 1,LE 3 10 9,B 4 11 .eql 8 10,M 5 5 11] [0,1,5] (.seq (.s 0 [M 0 6 (.i 0)] [0,1,5,6] (.block 0 (.loop true [0,1,5,6] (.seq (.s 0 [M 0 12 5,M 1 13 12,G 2 14 13 true (.mv 6),G 3 15 13 true (.mv 0),G 4 16 13 true (.lenL 15),G 5 17 13 true (.bin .lss 14 16),q 6 18 (.pick 13 17 (.b false))] [0,1,5,6,18] (.cond 18 .skip (.exit 0))) (.seq (.block 1 (.gd 0 [M 0 21 0,M 1 22 6,IX 2 23 1 21 22,L 3 24 23,M 4 25 1,M 5 26 6,IX 6 27 1 25 26,L 7 28 27,B 8 29 .eql 24 28,M 9 5 29] [0,1,5,6])) (.g 0 [M 0 19 6,B 1 20 .add 19 (.i 1),M 2 6 20] [0,1,5,6])))))) (.s 0 [M 0 30 5,M 1 4 30] [4] .ret))))
def a26:AFunc:=⟨2,c26,[.tmp 4]⟩
def c27:ACode :=
 (.s 2 [q 0 2 (.box 7 0 0),q 1 3 (.box 2 1 1),M 2 4 (.i 0),M 3 5 (.i 0)] [2,3] (.s 1 [LK 0 10 7 2,LK 1 11 2 3,CL 2 12 90 [10,11],M 3 9 12,EX 4 13 9 0,EX 5 14 9 1,EX 6 15 9 2,q 7 7 (.alloc [.lit (.int .i64 0),.lit (.int .i64 0),.lit (.int .i64 0),.lit (.int .i64 0),.lit (.int .i64 0),.lit (.int .i64 0)] [] 0),M 8 6 13,ST 9 6 7 14,M 10 8 15] [6,7,8] (.seq (.s 0 [M 0 16 8,B 1 17 .neq 16 (.i 0)] [6,7,8,17] (.cond 17 (.s 0 [M 0 18 8,M 1 4 (.i 0),M 2 5 18] [4,5] .ret) .skip)) (.s 0 [M 0 19 6,FA 1 20 1 7,LK 2 21 5 20,CL 3 22 91 [19,21],M 4 4 22,M 5 5 (.i 0)] [4,5] .ret))))
def a27:AFunc:=⟨2,c27,[.tmp 4,.tmp 5]⟩
def c29:ACode :=
 (.s 2 [q 0 2 (.box 7 0 0),q 1 3 (.box 2 1 1),M 2 4 (.i 0),M 3 5 (.i 0),M 4 6 (.i 0)] [2,3,5] (.s 1 [LK 0 15 7 2,LK 1 16 2 3,CL 2 17 90 [15,16],M 3 14 17,EX 4 18 14 0,EX 5 19 14 1,EX 6 20 14 2,q 7 8 (.alloc [.lit (.int .i64 0),.lit (.int .i64 0),.lit (.int .i64 0),.lit (.int .i64 0),.lit (.int .i64 0),.lit (.int .i64 0)] [] 0),M 8 7 18,ST 9 6 8 19,M 10 6 20] [5,6,7,8] (.seq (.s 0 [M 0 21 6,B 1 22 .neq 21 (.i 0)] [5,6,7,8,22] (.cond 22 (.s 0 [M 0 23 6,M 1 4 (.i 0),M 2 5 (.i 0),M 3 6 23] [4,5,6] .ret) .skip)) (.s 0 [M 0 4 (.i (-1))] [4,5,7,8] (.seq (.s 0 [FA 0 24 1 8,LK 1 25 5 24,M 2 26 (.i 0)] [4,5,7,8,25,26] (.block 0 (.loop true [4,5,7,8,25,26] (.s 0 [B 0 27 .lss 26 (.i 5)] [4,5,7,8,25,26,27] (.seq (.cond 27 .skip (.exit 0)) (.seq (.block 1 (.s 0 [M 0 28 26,q 1 29 (.idxAgg none 1 5 25 26),M 2 9 28,M 3 10 29] [4,5,7,8,9,10,25,26] (.seq (.s 0 [M 0 30 10,B 1 31 .eql 30 (.i 0)] [4,5,7,8,9,10,25,26,31] (.cond 31 (.exit 1) .skip)) (.sd 2 [M 0 32 7,M 1 33 10,B 2 34 .sub 33 (.i 1),FA 3 35 0 8,⟨some 36,.load none 35,none,[0,1],[],0,4⟩,⟨some 37,.call (.f 83) [32,34,36] [] true,none,[0,1],[],0,5⟩,q 14 11 (.alloc [.lit (.int .i64 0),.lit (.int .i64 0)] [] 0),q 15 12 (.alloc [.lit (.string ⟨#[]⟩),.lit (.int .i64 0),.lit (.int .i64 0),.lit (.int .i64 0),.lit (.int .i64 0),.lit (.int .i64 0)] [] 1),⟨none,.store 2 11 37,none,[],[(7,[])],0,16⟩,M 6 38 7,NK 7 39 38,FA 8 40 0 39,FA 9 41 5 40,⟨some 42,.load none 41,none,[0,1],[],1,10⟩,M 11 43 9,⟨some 44,.idxS 6 42 43,none,[0,1],[],1,12⟩,⟨some
 45,.load (some 6) 44,none,[0,1],[],1,13⟩,ST 17 6 12 45] [4,5,7,8,9,11,12,25,26] (.s 0 [FA 0 46 0 11,L 1 47 46,FA 2 48 3 12,L 3 49 48,B 4 50 .sub 47 49,FA 5 51 4 12,L 6 52 51,FA 7 53 1 11,L 8 54 53,B 9 55 .sub 52 54,q 10 56 (.mm false [50,55]),M 11 13 56] [4,5,7,8,9,13,25,26] (.s 0 [M 0 57 4,B 1 58 .lss 57 (.i 0),M 2 59 58,G 3 60 59 false (.mv 13),G 4 61 59 false (.mv 5),G 5 62 59 false (.bin .lss 60 61),q 6 63 (.pick 59 (.b true) 62)] [4,5,7,8,9,13,25,26,63] (.cond 63 (.g 0 [M 0 64 9,M 1 65 13,M 2 4 64,M 3 5 65] [4,5,7,8,25,26]) .skip))))))) (.g 0 [B 0 66 .add 26 (.i 1),M 1 26 66] [4,5,7,8,25,26]))))))) (.seq (.s 0 [M 0 67 4,B 1 68 .lss 67 (.i 0)] [4,5,68] (.cond 68 (.s 0 [M 0 4 (.i 0),M 1 5 (.i 0),M 2 6 (.i 4)] [4,5,6] .ret) .skip)) (.s 0 [M 0 69 4,M 1 70 5,M 2 4 69,M 3 5 70,M 4 6 (.i 0)] [4,5,6] .ret)))))))
def a29:AFunc:=⟨2,c29,[.tmp 4,.tmp 5,.tmp 6]⟩
def c31:ACode :=
 (.s 3 [q 0 1 (.box 7 0 0),q 1 2 (.alloc [.lit (.int .i64 0),.seq 1 []] [] 1),q 2 3 (.alloc [.lit (.int .i64 0)] [] 2),M 3 4 (.i 0)] [1,2,3] (.s 1 [LK 0 12 7 1,CL 1 13 81 [12],M 2 11 13,EX 3 14 11 0,EX 4 15 11 1,q 5 5 (.alloc [.lit (.pointer none)] [] 0),ST 6 1 5 14,M 7 4 15] [1,2,3,4,5] (.seq (.s 0 [M 0 16 4,B 1 17 .neq 16 (.i 0)] [1,2,3,4,5,17] (.cond 17 (.s 0 [LK 0 18 2 2,M 1 19 4,ST 2 2 2 18,ST 3 1 3 (.i 0),M 4 4 19] [2,3,4] .ret) .skip)) (.s 0 [ST 0 1 3 (.i (-1))] [1,2,3,5] (.s 1 [q 0 6 (.alloc [.lit (.int .i64 0),.lit (.int .i64 0),.lit (.int .i64 0),.lit (.int .i64 0),.lit (.int .i64 0),.lit (.int .i64 0)] [] 0)] [1,2,3,5,6] (.seq (.s 0 [L 0 20 5,CL 1 21 93 [20]] [1,2,3,5,6,21] (.block 0 (.rangeFunc 21 [22] [3,5,6] (.g 1 [q 0 7 (.alloc [.lit (.int .i64 0),.lit (.int .i64 0),.lit (.int .i64 0),.lit (.int .i64 0),.lit (.int .i64 0),.lit (.int .i64 0)] [] 0),ST 1 6 7 22] [3,5,6,7]) (.block 1 (.s 0 [L 0 23 5,FA 1 24 1 7,LK 2 25 5 24,CL 3 26 91 [23,25],M 4 8 26] [3,6,7,8] (.s 0 [M 0 27 8,L 1 28 3,B 2 29 .gtr 27 28] [3,6,7,8,29] (.cond 29 (.g 0 [LK 0 30 6 7,M 1 31 8,ST 2 6 6 30,ST 3 1 3 31] []) .skip))))))) (.seq (.s 0 [L 0 32 3,B 1 33 .lss 32 (.i 0)] [1,2,3,6,33] (.cond 33 (.s 0 [LK 0 34 2 2,ST 1 2 2 34,ST 2 1 3 (.i 0),M 3 4 (.i 9)] [2,3,4] .ret) .skip)) (.s 1 [FA 0 35 5 1,L 1 36 35,LE 2 37 36,q 3 38 (.mkslice 1 8 [.lit (.int .i64 0)] 37 37 0),M 4 9 38] [2,3,6,9] (.s 0 [M 0 39 9,FA 1 40 1 6,q 2 41 (.sliceA 1 5 40 none),q 3 42 (.copy 1 39 41)] [2,3,6,9] (.seq (.s 0 [M 0 43
 9,LE 1 44 43,M 2 45 (.i 0)] [2,3,6,9,44,45] (.block 2 (.loop true [2,3,6,9,44,45] (.s 0 [B 0 46 .lss 45 44] [2,3,6,9,44,45,46] (.seq (.cond 46 .skip (.exit 2)) (.seq (.block 3 (.s 0 [M 0 47 45,M 1 10 47] [2,3,6,9,10,44,45] (.g 0 [M 0 48 9,M 1 49 10,IX 2 50 1 48 49,L 3 51 50,B 4 52 .sub 51 (.i 1),IX 5 53 1 48 49,ST 6 1 53 52] [2,3,6,9,44,45]))) (.g 0 [B 0 54 .add 45 (.i 1),M 1 45 54] [2,3,6,9,44,45]))))))) (.sd 0 [FA 0 55 0 6,L 1 56 55,M 2 57 9,q 3 58 (.build [.lit (.int .i64 0),.seq 1 []] [(0,1,56),(1,1,57)]),⟨none,.store 2 2 58,none,[],[(3,[])],0,5⟩,⟨some 59,.load none 3,none,[],[],1,4⟩,ST 6 1 3 59,M 7 4 (.i 0)] [2,3,4] .ret)))))))))))
def a31:AFunc:=⟨1,c31,[.cell 2 (some 2),.cell 3 none,.tmp 4]⟩
def c33:ACode :=
 (.s 2 [q 0 2 (.box 2 0 0),q 1 3 (.box 2 1 1),M 2 4 (.b false)] [2,3] (.s 0 [FA 0 5 0 2,L 1 6 5,FA 2 7 0 3,L 3 8 7,B 4 9 .eql 6 8,M 5 10 9,G 6 11 10 true (.fieldAddr 1 2),G 7 12 10 true (.load none 11),G 8 13 10 true (.fieldAddr 1 3),G 9 14 10 true (.load none 13),G 10 15 10 true (.call (.f 26) [12,14] [] false),q 11 16 (.pick 10 15 (.b false)),M 12 4 16] [4] .ret))
def a33:AFunc:=⟨2,c33,[.tmp 4]⟩
def c34:ACode :=
 (.s 2 [q 0 1 (.box 7 0 0),q 1 2 (.nil 1 1),M 2 3 (.i 0)] [1,2] (.s 0 [LK 0 12 7 1,CL 1 13 81 [12],M 2 11 13,EX 3 14 11 0,EX 4 15 11 1,M 5 4 14,M 6 3 15] [1,2,3,4] (.seq (.s 0 [M 0 16 3,B 1 17 .neq 16 (.i 0)] [1,2,3,4,17] (.cond 17 (.s 1 [M 0 18 3,q 1 2 (.nil 1 0),M 2 3 18] [2,3] .ret) .skip)) (.s 1 [q 0 5 (.alloc [.lit (.int .i64 0)] [] 0),ST 1 1 5 (.i 0)] [1,2,4,5] (.s 1 [q 0 6 (.alloc [.lit (.int .i64 0),.lit (.int .i64 0),.lit (.int .i64 0),.lit (.int .i64 0),.lit (.int .i64 0)] [] 0)] [1,2,4,5,6] (.seq (.s 0 [M 0 19 4,CL 1 20 93 [19]] [1,2,5,6,20] (.block 0 (.rangeFunc 20 [21] [5,6] (.g 1 [q 0 7 (.alloc [.lit (.int .i64 0),.lit (.int .i64 0),.lit (.int .i64 0),.lit (.int .i64 0),.lit (.int .i64 0),.lit (.int .i64 0)] [] 0),ST 1 6 7 21] [5,6,7]) (.block 1 (.s 0 [L 0 22 5,B 1 23 .add 22 (.i 1),ST 2 1 5 23] [6,7] (.s 0 [FA 0 24 1 7,LK 1 25 5 24,M 2 26 (.i 0)] [6,25,26] (.block 2 (.loop true [6,25,26] (.s 0 [B 0 27 .lss 26 (.i 5)] [6,25,26,27] (.seq (.cond 27 .skip (.exit 2)) (.seq (.block 3 (.s 0 [M 0 28 26,q 1 29 (.idxAgg none 1 5 25 26),M 2 8 28,M 3 9 29] [6,8,9,25,26] (.g 0 [M 0 30 8,M 1 31 8,q 2 32 (.idxA 1 5 6 31),L 3 33 32,M 4 34 9,q 5 35 (.mm true [33,34]),q 6 36 (.idxA 1 5 6 30),ST 7 1 36 35] [6,25,26]))) (.g 0 [B 0 37 .add 26 (.i 1),M 1 26 37] [6,25,26])))))))))))) (.seq (.s 0 [L 0 38 5,B 1 39 .eql 38 (.i 0)] [1,2,6,39] (.cond 39 (.s 1 [q 0 2 (.nil 1 0),M 1 3 (.i 9)] [2,3] .ret) .skip)) (.seq (.s 0 [FA 0 40 5 1,L 1 41 40,LE 2 42 41,M 3 43 (.i 0)] [2,6,42,43] (.block
 4 (.loop true [2,6,42,43] (.s 0 [B 0 44 .lss 43 42] [2,6,42,43,44] (.seq (.cond 44 .skip (.exit 4)) (.seq (.block 5 (.s 0 [M 0 45 43,M 1 10 45] [2,6,10,42,43] (.s 0 [M 0 46 10,q 1 47 (.idxA 1 5 6 46),L 2 48 47,B 3 49 .eql 48 (.i 0)] [2,6,10,42,43,49] (.cond 49 (.g 0 [M 0 50 2,M 1 51 10,q 2 52 (.lits 1 [.lit (.int .i64 0)] 1 [(0,51)] none),q 3 53 (.append 1 8 50 52 none false),M 4 2 53] [2,6,42,43]) .skip)))) (.g 0 [B 0 54 .add 43 (.i 1),M 1 43 54] [2,6,42,43]))))))) (.s 0 [M 0 55 2,M 1 2 55,M 2 3 (.i 0)] [2,3] .ret)))))))))
def a34:AFunc:=⟨1,c34,[.tmp 2,.tmp 3]⟩
def c36:ACode :=
 (.s 1 [q 0 1 (.box 7 0 0),M 1 2 (.c (.seq 1 [])),M 2 3 (.i 0)] [1,2] (.s 0 [LK 0 11 7 1,CL 1 12 81 [11],M 2 10 12,EX 3 13 10 0,EX 4 14 10 1,M 5 4 13,M 6 3 14] [1,2,3,4] (.seq (.s 0 [M 0 15 3,B 1 16 .neq 15 (.i 0)] [1,2,3,4,16] (.cond 16 (.s 0 [M 0 17 3,M 1 2 (.c (.seq 1 [])),M 2 3 17] [2,3] .ret) .skip)) (.s 0 [M 0 5 (.b false)] [1,2,4,5] (.seq (.s 0 [FA 0 18 6 1,L 1 19 18,LE 2 20 19,B 3 21 .shl (.i 1) 20,M 4 22 (.i 0)] [1,2,4,5,21,22] (.block 0 (.loop false [1,2,4,5,21,22] (.s 0 [B 0 23 .lss 22 21] [1,2,4,5,21,22,23] (.seq (.cond 23 .skip (.exit 0)) (.seq (.block 1 (.s 0 [M 0 24 22,M 1 6 24] [1,2,4,5,6,21,22] (.s 0 [M 0 25 6,CL 1 26 95 [25],M 2 7 26] [1,2,4,5,6,7,21,22] (.seq (.s 0 [M 0 27 5,M 1 28 27,G 2 29 28 true (.mv 7),G 3 30 28 true (.lenL 29),G 4 31 28 true (.mv 2),G 5 32 28 true (.lenL 31),G 6 33 28 true (.bin .gtr 30 32),G 7 34 28 true (.mv 33),G 8 35 34 false (.mv 7),G 9 36 34 false (.lenL 35),G 10 37 34 false (.mv 2),G 11 38 34 false (.lenL 37),G 12 39 34 false (.bin .eql 36 38),G 13 40 34 false (.mv 39),G 14 41 40 true (.mv 7),G 15 42 40 true (.mv 2),G 16 43 40 true (.call (.f 96) [41,42] [] false),G 17 44 40 true (.bin .gtr 43 (.i 0)),G 18 45 34 false (.pick 40 44 (.b false)),G 19 46 28 true (.pick 34 (.b true) 45),q 20 47 (.pick 28 46 (.b false))] [1,2,4,5,6,7,21,22,47] (.cond 47 (.exit 1) .skip)) (.s 1 [M 0 48 4,NK 1 49 48,FA 2 50 0 49,FA 3 51 6 50,r 4 (.storeN 51 1 0)] [1,2,4,5,6,7,21,22] (.seq (.s 0 [FA 0 52 6 1,L 1 53 52,LE 2 54 53,M 3 55 (.i 0)]
 [1,2,4,5,6,7,21,22,53,54,55] (.block 2 (.loop true [1,2,4,5,6,7,21,22,53,54,55] (.s 0 [B 0 56 .lss 55 54] [1,2,4,5,6,7,21,22,53,54,55,56] (.seq (.cond 56 .skip (.exit 2)) (.seq (.block 3 (.s 0 [M 0 57 55,IX 1 58 1 53 55,L 2 59 58,M 3 8 57,M 4 9 59] [1,2,4,5,6,7,8,9,21,22,53,54,55] (.s 0 [M 0 60 6,M 1 61 8,B 2 62 .shr 60 61,B 3 63 .and 62 (.i 1),B 4 64 .eql 63 (.i 0)] [1,2,4,5,6,7,9,21,22,53,54,55,64] (.cond 64 (.g 0 [M 0 65 4,M 1 66 4,NK 2 67 66,FA 3 68 0 67,FA 4 69 6 68,L 5 70 69,M 6 71 9,q 7 72 (.lits 1 [.lit (.int .i64 0)] 1 [(0,71)] none),q 8 73 (.append 1 8 70 72 none false),NK 9 74 65,FA 10 75 0 74,FA 11 76 6 75,ST 12 1 76 73] [1,2,4,5,6,7,21,22,53,54,55]) .skip)))) (.g 0 [B 0 77 .add 55 (.i 1),M 1 55 77] [1,2,4,5,6,7,21,22,53,54,55]))))))) (.seq (.region false 0 [4] [M 0 78 4,CL 1 79 97 [78]] [1,2,4,5,7,21,22,79]) (.cond 79 (.g 0 [M 0 80 7,M 1 2 80,M 2 5 (.b true)] [1,2,4,5,21,22]) .skip)))))))) (.g 0 [B 0 81 .add 22 (.i 1),M 1 22 81] [1,2,4,5,21,22]))))))) (.s 0 [M 0 82 2,M 1 2 82,M 2 3 (.i 0)] [2,3] .ret))))))
def a36:AFunc:=⟨1,c36,[.tmp 2,.tmp 3]⟩
def c38:ACode :=
 (.s 1 [q 0 2 (.box 7 0 0),M 1 4 (.i 0),M 2 5 (.i 0)] [1,2] (.s 0 [LK 0 12 7 2,CL 1 13 81 [12],M 2 11 13,EX 3 14 11 0,EX 4 15 11 1,M 5 6 14,M 6 7 15] [1,2,6,7] (.seq (.block 0 (.s 0 [M 0 17 7,B 1 18 .neq 17 (.i 0),M 2 16 18] [1,2,6,7,16] (.cond 16 (.s 0 [M 0 19 7,M 1 4 (.i 0),M 2 5 19] [4,5] .ret) (.s 0 [FA 0 21 5 2,L 1 22 21,LE 2 23 22,B 3 24 .sub 23 (.i 1),M 4 25 1,q 5 26 (.lits 1 [.lit (.int .i64 0)] 1 [(0,25)] none),CL 6 27 62 [.i 0,24,26],M 7 20 27] [1,2,6,20] (.cond 20 (.s 0 [M 0 4 (.i 0),M 1 5 (.i 4)] [4,5] .ret) .skip))))) (.s 0 [M 0 8 (.i (-1))] [1,2,6,8] (.seq (.s 0 [FA 0 28 2 2,L 1 29 28,B 2 30 .shl (.i 1) 29,M 3 31 (.i 0)] [1,2,6,8,30,31] (.block 1 (.loop true [1,2,6,8,30,31] (.s 0 [B 0 32 .lss 31 30] [1,2,6,8,30,31,32] (.seq (.cond 32 .skip (.exit 1)) (.seq (.block 2 (.s 0 [M 0 33 31,M 1 9 33] [1,2,6,8,9,30,31] (.seq (.s 0 [M 0 34 8,B 1 35 .geq 34 (.i 0),M 2 36 35,G 3 37 36 true (.mv 9),G 4 38 36 true (.conv .u64 37),G 5 39 36 true (.call (.f 100) [38] [] false),G 6 40 36 true (.mv 8),G 7 41 36 true (.conv .u64 40),G 8 42 36 true (.call (.f 100) [41] [] false),G 9 43 36 true (.bin .geq 39 42),q 10 44 (.pick 36 43 (.b false))] [1,2,6,8,9,30,31,44] (.cond 44 (.exit 2) .skip)) (.s 0 [FA 0 45 4 2,L 1 46 45,LE 2 47 46,M 3 48 (.i 0)] [1,2,6,8,9,30,31,47,48] (.block 3 (.loop true [1,2,6,8,9,30,31,47,48] (.s 0 [B 0 49 .lss 48 47] [1,2,6,8,9,30,31,47,48,49] (.seq (.cond 49 .skip (.exit 3)) (.seq (.block 4 (.s 0 [M 0 50 48,M 1 10 50] [1,2,6,8,9,10,30,31,47,48] (.s 0 [M 0 51
 6,M 1 52 1,M 2 53 10,M 3 54 9,CL 4 55 86 [51,52,53,54],B 5 56 .eql 55 (.i 1)] [1,2,6,8,9,30,31,47,48,56] (.cond 56 (.g 0 [M 0 57 9,M 1 8 57] [1,2,6,8,9,30,31,47,48]) .skip)))) (.g 0 [B 0 58 .add 48 (.i 1),M 1 48 58] [1,2,6,8,9,30,31,47,48])))))))))) (.g 0 [B 0 59 .add 31 (.i 1),M 1 31 59] [1,2,6,8,30,31]))))))) (.seq (.s 0 [M 0 60 8,B 1 61 .lss 60 (.i 0)] [8,61] (.cond 61 (.s 0 [M 0 4 (.i 0),M 1 5 (.i 9)] [4,5] .ret) .skip)) (.s 0 [M 0 62 8,M 1 4 62,M 2 5 (.i 0)] [4,5] .ret)))))))
def a38:AFunc:=⟨2,c38,[.tmp 4,.tmp 5]⟩
def c40:ACode :=
 (.s 1 [q 0 2 (.alloc [.lit (.int .i64 0),.lit (.int .i64 0),.lit (.int .i64 0),.seq 1 [],.seq 4 [],.seq 6 [],.seq 1 []] [] 0)] [0,2] (.s 0 [CL 0 3 42 [.i 30,.i 50],q 1 4 (.lits 1 [.lit (.int .i64 0)] 2 [(0,.i 300),(1,.i 250)] none),CL 2 5 42 [.i 0,.i 2],q 3 6 (.lits 2 [.lit (.int .i64 0),.lit (.int .i64 0)] 1 [(0,5)] none),q 4 7 (.build [.lit (.string ⟨#[]⟩),.lit (.bool false),.seq 2 [],.lit (.int .i64 0)] [(0,1,.c (.lit (.string ⟨#[100,111,111,114]⟩))),(2,1,6),(3,1,.i 1)]),CL 5 8 42 [.i 15,.i 20],q 6 9 (.lits 2 [.lit (.int .i64 0),.lit (.int .i64 0)] 1 [(0,8)] none),q 7 10 (.build [.lit (.string ⟨#[]⟩),.lit (.bool false),.seq 2 [],.lit (.int .i64 0)] [(0,1,.c (.lit (.string ⟨#[104,101,97,114,116,104]⟩))),(1,1,.c (.lit (.bool true))),(2,1,9),(3,1,.i 3)]),CL 8 11 42 [.i 8,.i 10],q 9 12 (.lits 2 [.lit (.int .i64 0),.lit (.int .i64 0)] 1 [(0,11)] none),q 10 13 (.build [.lit (.string ⟨#[]⟩),.lit (.bool false),.seq 2 [],.lit (.int .i64 0)] [(0,1,.c (.lit (.string ⟨#[110,105,99,104,101]⟩))),(1,1,.c (.lit (.bool true))),(2,1,12),(3,1,.i 2)]),q 11 14 (.lits 4 [.lit (.string ⟨#[]⟩),.lit (.bool false),.seq 2 [],.lit (.int .i64 0)] 3 [(0,7),(1,10),(2,13)] none),CL 12 15 42 [.i 40,.i 75],q 13 16 (.call (.f 102) [.c (.lit (.string ⟨#[107,105,110,103]⟩)),.i 1,.i 200,15,.i 9] [] false),CL 14 17 42 [.i 30,.i 60],q 15 18 (.call (.f 102) [.c (.lit (.string ⟨#[110,117,110]⟩)),.i 2,.i 150,17,.i 5] [] false),CL 16 19 42 [.i 35,.i 65],q 17 20 (.call (.f 102) [.c (.lit (.string
 ⟨#[116,104,105,101,102]⟩)),.i 3,.i 120,19,.i 7] [] false),q 18 21 (.lits 6 [.lit (.string ⟨#[]⟩),.lit (.int .i64 0),.lit (.int .i64 0),.lit (.int .i64 0),.lit (.int .i64 0),.lit (.int .i64 0)] 3 [(0,16),(1,18),(2,20)] none),M 19 22 0,q 20 23 (.build [.lit (.int .i64 0),.lit (.int .i64 0),.lit (.int .i64 0),.seq 1 [],.seq 4 [],.seq 6 [],.seq 1 []] [(0,2,3),(2,1,.i 1),(3,1,4),(4,1,14),(5,1,21),(6,1,22)]),ST 21 7 2 23] [2] .ret))
def a40:AFunc:=⟨1,c40,[.cell 2 (some 7)]⟩
def c41:ACode :=
 (.s 1 [q 0 4 (.alloc [.lit (.int .i64 0),.seq 1 []] [] 0)] [0,1,4] (.s 0 [M 0 5 0,M 1 6 1,q 2 7 (.build [.lit (.int .i64 0),.seq 1 []] [(0,1,5),(1,1,6)]),ST 3 2 4 7] [4] .ret))
def a41:AFunc:=⟨2,c41,[.cell 4 (some 2)]⟩
def c42:ACode :=
 (.s 1 [q 0 4 (.alloc [.lit (.int .i64 0),.lit (.int .i64 0)] [] 0)] [0,1,4] (.s 0 [M 0 5 0,M 1 6 1,q 2 7 (.build [.lit (.int .i64 0),.lit (.int .i64 0)] [(0,1,5),(1,1,6)]),ST 3 2 4 7] [4] .ret))
def a42:AFunc:=⟨2,c42,[.cell 4 (some 2)]⟩
def c61:ACode :=
 (.s 1 [q 0 3 (.box 2 0 0),M 1 6 (.i 0)] [1,2,3] (.seq (.block 0 (.s 0 [M 0 8 1,M 1 9 2,FA 2 10 0 3,L 3 11 10,FA 4 12 1 3,L 5 13 12,q 6 14 (.lits 1 [.lit (.int .i64 0)] 2 [(0,11),(1,13)] none),CL 7 15 62 [8,9,14],M 8 7 15] [3,7] (.cond 7 (.s 0 [M 0 6 (.i 7)] [6] .ret) (.s 0 [FA 0 17 0 3,L 1 18 17,FA 2 19 1 3,L 3 20 19,B 4 21 .gtr 18 20,M 5 16 21] [16] (.cond 16 (.s 0 [M 0 6 (.i 2)] [6] .ret) .skip))))) (.s 0 [M 0 6 (.i 0)] [6] .ret)))
def a61:AFunc:=⟨3,c61,[.tmp 6]⟩
def c62:ACode :=
 (.s 2 [q 0 3 (.box 1 0 0),q 1 4 (.box 1 1 1),M 2 6 (.b false)] [2,3,4] (.s 0 [M 0 7 2,q 1 8 (.mkfn (.func 105) [] [3,4]),CL 2 9 104 [7,8],M 3 6 9] [6] .ret))
def a62:AFunc:=⟨3,c62,[.tmp 6]⟩
def c63:ACode :=
 (.s 0 [M 0 6 (.i 0),M 1 7 (.i 0)] [0,1,2] (.seq (.s 0 [M 0 11 0,LE 1 12 11,M 2 13 1,B 3 14 .gtr 12 13] [0,2,14] (.cond 14 (.s 0 [M 0 6 (.i 0),M 1 7 (.i 3)] [6,7] .ret) .skip)) (.seq (.s 0 [M 0 15 0,LE 1 16 15,M 2 17 (.i 0)] [2,15,16,17] (.block 0 (.loop true [2,15,16,17] (.s 0 [B 0 18 .lss 17 16] [2,15,16,17,18] (.seq (.cond 18 .skip (.exit 0)) (.seq (.block 1 (.s 0 [M 0 19 17,IX 1 20 1 15 17,L 2 21 20,M 3 8 19,M 4 9 21] [2,8,9,15,16,17] (.s 0 [M 0 22 2,M 1 23 8,M 2 24 9,q 3 25 (.call 22 [23,24] [] false),M 4 10 25] [2,8,10,15,16,17] (.s 0 [M 0 26 10,B 1 27 .neq 26 (.i 0)] [2,8,10,15,16,17,27] (.cond 27 (.s 0 [M 0 28 8,M 1 29 10,M 2 6 28,M 3 7 29] [6,7] .ret) .skip))))) (.g 0 [B 0 30 .add 17 (.i 1),M 1 17 30] [2,15,16,17]))))))) (.s 0 [M 0 6 (.i 0),M 1 7 (.i 0)] [6,7] .ret))))
def a63:AFunc:=⟨3,c63,[.tmp 6,.tmp 7]⟩
def c64:ACode :=
 (.s 2 [q 0 2 (.box 1 0 0),q 1 3 (.box 1 1 1),M 2 4 (.c (.lit .nilFunc))] [2,3] (.s 0 [q 0 5 (.mkfn (.func 106) [] [2,3]),M 1 4 5] [4] .ret))
def a64:AFunc:=⟨2,c64,[.tmp 4]⟩
def c65:ACode :=
 (.s 0 [M 0 6 (.i 0),M 1 7 (.i 0)] [0,1,2] (.seq (.s 0 [M 0 11 0,LE 1 12 11,M 2 13 1,B 3 14 .gtr 12 13] [0,2,14] (.cond 14 (.s 0 [M 0 6 (.i 0),M 1 7 (.i 3)] [6,7] .ret) .skip)) (.seq (.s 0 [M 0 15 0,LE 1 16 15,M 2 17 (.i 0)] [2,15,16,17] (.block 0 (.loop true [2,15,16,17] (.s 0 [B 0 18 .lss 17 16] [2,15,16,17,18] (.seq (.cond 18 .skip (.exit 0)) (.seq (.block 1 (.s 1 [M 0 19 17,IX 1 20 4 15 17,LK 2 21 4 20,q 3 9 (.alloc [.lit (.string ⟨#[]⟩),.lit (.bool false),.seq 2 [],.lit (.int .i64 0)] [] 0),M 4 8 19,ST 5 4 9 21] [2,8,9,15,16,17] (.s 0 [M 0 22 2,M 1 23 8,LK 2 24 4 9,q 3 25 (.call 22 [23,24] [] false),M 4 10 25] [2,8,10,15,16,17] (.s 0 [M 0 26 10,B 1 27 .neq 26 (.i 0)] [2,8,10,15,16,17,27] (.cond 27 (.s 0 [M 0 28 8,M 1 29 10,M 2 6 28,M 3 7 29] [6,7] .ret) .skip))))) (.g 0 [B 0 30 .add 17 (.i 1),M 1 17 30] [2,15,16,17]))))))) (.s 0 [M 0 6 (.i 0),M 1 7 (.i 0)] [6,7] .ret))))
def a65:AFunc:=⟨3,c65,[.tmp 6,.tmp 7]⟩
def c66:ACode :=
 (.s 1 [q 0 4 (.box 4 1 0),M 1 5 (.i 0)] [0,2,4] (.seq (.block 0 (.s 0 [FA 0 9 0 4,L 1 10 9,CL 2 11 67 [10],q 3 12 (.un .not 11),M 4 8 12] [0,2,4,8] (.cond 8 (.s 0 [M 0 5 (.i 6)] [5] .ret) (.s 0 [FA 0 14 4 2,L 1 15 14,M 2 16 0,q 3 17 (.sliceQ 4 15 none (some 16)),q 4 18 (.mkfn (.func 69) [] [4]),CL 5 19 68 [17,18],M 6 13 19] [2,4,13] (.cond 13 (.s 0 [M 0 5 (.i 5)] [5] .ret) (.s 0 [FA 0 21 2 4,L 1 22 21,LE 2 23 22,FA 3 24 2 2,L 4 25 24,B 5 26 .neq 23 25,M 6 20 26] [2,4,20] (.cond 20 (.s 0 [M 0 5 (.i 3)] [5] .ret) .skip))))))) (.seq (.s 0 [FA 0 28 2 4,L 1 29 28,FA 2 30 2 2,L 3 31 30,CL 4 32 70 [29,31,.f 71],M 5 27 32,EX 6 33 27 0,EX 7 34 27 1,M 8 6 33,M 9 7 34] [2,4,7] (.s 0 [M 0 35 7,B 1 36 .neq 35 (.i 0)] [2,4,7,36] (.cond 36 (.s 0 [M 0 37 7,M 1 5 37] [5] .ret) .skip))) (.seq (.sd 0 [FA 0 38 3 2,L 1 39 38,LE 2 40 39,B 3 41 .shl (.i 1) 40,B 4 42 .sub 41 (.i 1),FA 5 43 3 4,L 6 44 43,q 7 45 (.lits 1 [.lit (.int .i64 0)] 1 [(0,44)] none),CL 8 46 62 [.i 0,42,45]] [46] (.cond 46 (.s 0 [M 0 5 (.i 4)] [5] .ret) .skip)) (.s 0 [M 0 5 (.i 0)] [5] .ret)))))
def a66:AFunc:=⟨3,c66,[.tmp 5]⟩
def c67:ACode :=
 (.s 0 [M 0 2 (.b false)] [0] (.seq (.s 1 [M 0 6 0,q 1 7 (.range 6 0)] [0,7] (.block 0 (.loop true [0,7] (.s 0 [q 0 8 (.next 7),EX 1 9 8 0] [0,7,8,9] (.seq (.cond 9 .skip (.exit 0)) (.block 1 (.s 0 [EX 0 10 8 1,EX 1 11 8 2,M 2 3 10,M 3 4 11] [0,3,4,7] (.s 0 [M 0 12 4,B 1 13 .leq (.c (.lit (.int .i32 97))) 12,M 2 14 13,G 3 15 14 true (.mv 4),G 4 16 14 true (.bin .leq 15 (.c (.lit (.int .i32 122)))),q 5 17 (.pick 14 16 (.b false)),M 6 5 17] [0,3,4,5,7] (.s 0 [M 0 18 5,q 1 19 (.un .not 18),M 2 20 19,G 3 21 20 true (.mv 3),G 4 22 20 true (.bin .eql 21 (.i 0)),G 5 23 20 true (.mv 22),G 6 24 23 false (.mv 4),G 7 25 23 false (.bin .neq 24 (.c (.lit (.int .i32 46)))),G 8 26 23 false (.mv 25),G 9 27 26 true (.mv 4),G 10 28 26 true (.bin .lss 27 (.c (.lit (.int .i32 48)))),G 11 29 26 true (.mv 28),G 12 30 29 false (.mv 4),G 13 31 29 false (.bin .gtr 30 (.c (.lit (.int .i32 57)))),G 14 32 26 true (.pick 29 (.b true) 31),G 15 33 23 false (.pick 26 32 (.b false)),G 16 34 20 true (.pick 23 (.b true) 33),q 17 35 (.pick 20 34 (.b false))] [0,7,35] (.cond 35 (.s 0 [M 0 2 (.b false)] [2] .ret) .skip)))))))))) (.s 0 [M 0 36 0,B 1 37 .neq 36 (.c (.lit (.string ⟨#[]⟩))),M 2 38 37,G 3 39 38 true (.mv 0),G 4 40 38 true (.lenS 39),G 5 41 38 true (.bin .leq 40 (.i 16)),q 6 42 (.pick 38 41 (.b false)),M 7 2 42] [2] .ret)))
def a67:AFunc:=⟨1,c67,[.tmp 2]⟩
def c68:ACode :=
 (.s 0 [M 0 4 (.b false)] [0,1] (.s 0 [M 0 5 0,M 1 6 1,CL 2 7 107 [5,6],B 3 8 .geq 7 (.i 0),M 4 4 8] [4] .ret))
def a68:AFunc:=⟨2,c68,[.tmp 4]⟩
def c69:ACode :=
 (.s 1 [q 0 2 (.box 4 0 0),M 1 3 (.b false)] [1,2] (.s 0 [FA 0 4 0 2,L 1 5 4,FA 2 6 0 1,L 3 7 6,B 4 8 .eql 5 7,M 5 3 8] [3] .ret))
def a69:AFunc:=⟨2,c69,[.tmp 3]⟩
def c70:ACode :=
 (.s 0 [M 0 6 (.i 0),M 1 7 (.i 0)] [0,1,2] (.seq (.s 0 [M 0 11 0,LE 1 12 11,M 2 13 1,B 3 14 .gtr 12 13] [0,2,14] (.cond 14 (.s 0 [M 0 6 (.i 0),M 1 7 (.i 3)] [6,7] .ret) .skip)) (.seq (.s 0 [M 0 15 0,LE 1 16 15,M 2 17 (.i 0)] [2,15,16,17] (.block 0 (.loop true [2,15,16,17] (.s 0 [B 0 18 .lss 17 16] [2,15,16,17,18] (.seq (.cond 18 .skip (.exit 0)) (.seq (.block 1 (.s 1 [M 0 19 17,IX 1 20 2 15 17,LK 2 21 2 20,q 3 9 (.alloc [.lit (.int .i64 0),.lit (.int .i64 0)] [] 0),M 4 8 19,ST 5 2 9 21] [2,8,9,15,16,17] (.s 0 [M 0 22 2,M 1 23 8,LK 2 24 2 9,q 3 25 (.call 22 [23,24] [] false),M 4 10 25] [2,8,10,15,16,17] (.s 0 [M 0 26 10,B 1 27 .neq 26 (.i 0)] [2,8,10,15,16,17,27] (.cond 27 (.s 0 [M 0 28 8,M 1 29 10,M 2 6 28,M 3 7 29] [6,7] .ret) .skip))))) (.g 0 [B 0 30 .add 17 (.i 1),M 1 17 30] [2,15,16,17]))))))) (.s 0 [M 0 6 (.i 0),M 1 7 (.i 0)] [6,7] .ret))))
def a70:AFunc:=⟨3,c70,[.tmp 6,.tmp 7]⟩
def c71:ACode :=
 (.s 1 [q 0 3 (.box 2 1 0),M 1 4 (.i 0)] [3] (.s 0 [LK 0 5 2 3,CL 1 6 61 [5,.i 0,.i 60],M 2 4 6] [4] .ret))
def a71:AFunc:=⟨2,c71,[.tmp 4]⟩
def c72:ACode :=
 (.s 0 [M 0 6 (.i 0),M 1 7 (.i 0)] [0,1,2] (.seq (.s 0 [M 0 11 0,LE 1 12 11,M 2 13 1,B 3 14 .gtr 12 13] [0,2,14] (.cond 14 (.s 0 [M 0 6 (.i 0),M 1 7 (.i 3)] [6,7] .ret) .skip)) (.seq (.s 0 [M 0 15 0,LE 1 16 15,M 2 17 (.i 0)] [2,15,16,17] (.block 0 (.loop true [2,15,16,17] (.s 0 [B 0 18 .lss 17 16] [2,15,16,17,18] (.seq (.cond 18 .skip (.exit 0)) (.seq (.block 1 (.s 1 [M 0 19 17,IX 1 20 6 15 17,LK 2 21 6 20,q 3 9 (.alloc [.lit (.string ⟨#[]⟩),.lit (.int .i64 0),.lit (.int .i64 0),.lit (.int .i64 0),.lit (.int .i64 0),.lit (.int .i64 0)] [] 0),M 4 8 19,ST 5 6 9 21] [2,8,9,15,16,17] (.s 0 [M 0 22 2,M 1 23 8,LK 2 24 6 9,q 3 25 (.call 22 [23,24] [] false),M 4 10 25] [2,8,10,15,16,17] (.s 0 [M 0 26 10,B 1 27 .neq 26 (.i 0)] [2,8,10,15,16,17,27] (.cond 27 (.s 0 [M 0 28 8,M 1 29 10,M 2 6 28,M 3 7 29] [6,7] .ret) .skip))))) (.g 0 [B 0 30 .add 17 (.i 1),M 1 17 30] [2,15,16,17]))))))) (.s 0 [M 0 6 (.i 0),M 1 7 (.i 0)] [6,7] .ret))))
def a72:AFunc:=⟨3,c72,[.tmp 6,.tmp 7]⟩
def c73:ACode :=
 (.s 1 [q 0 4 (.box 6 1 0),M 1 5 (.i 0)] [0,2,4] (.seq (.block 0 (.s 0 [FA 0 7 0 4,L 1 8 7,CL 2 9 67 [8],q 3 10 (.un .not 9),M 4 6 10] [0,2,4,6] (.cond 6 (.s 0 [M 0 5 (.i 6)] [5] .ret) (.s 0 [FA 0 12 5 2,L 1 13 12,M 2 14 0,q 3 15 (.sliceQ 6 13 none (some 14)),q 4 16 (.mkfn (.func 75) [] [4]),CL 5 17 74 [15,16],M 6 11 17] [4,11] (.cond 11 (.s 0 [M 0 5 (.i 5)] [5] .ret) (.s 0 [FA 0 19 1 4,L 1 20 19,q 2 21 (.lits 1 [.lit (.int .i64 0)] 1 [(0,20)] none),CL 3 22 62 [.i 0,.i 9,21],M 4 23 22,G 5 24 23 false (.fieldAddr 2 4),G 6 25 23 false (.load none 24),G 7 26 23 false (.lits 1 [.lit (.int .i64 0)] 1 [(0,25)] none),G 8 27 23 false (.call (.f 62) [.i 1,.i 500,26] [] false),q 9 28 (.pick 23 (.b true) 27),M 10 29 28,G 11 30 29 false (.fieldAddr 5 4),G 12 31 29 false (.load none 30),G 13 32 29 false (.lits 1 [.lit (.int .i64 0)] 1 [(0,31)] none),G 14 33 29 false (.call (.f 62) [.i 0,.i 100,32] [] false),q 15 34 (.pick 29 (.b true) 33),M 16 18 34] [4,18] (.cond 18 (.s 0 [M 0 5 (.i 7)] [5] .ret) .skip))))))) (.s 0 [FA 0 35 3 4,L 1 36 35,FA 2 37 4 4,L 3 38 37,q 4 39 (.build [.lit (.int .i64 0),.lit (.int .i64 0)] [(0,1,36),(1,1,38)]),CL 5 40 61 [39,.i (-100),.i 100],M 6 5 40] [5] .ret)))
def a73:AFunc:=⟨3,c73,[.tmp 5]⟩
def c74:ACode :=
 (.s 0 [M 0 4 (.b false)] [0,1] (.s 0 [M 0 5 0,M 1 6 1,CL 2 7 108 [5,6],B 3 8 .geq 7 (.i 0),M 4 4 8] [4] .ret))
def a74:AFunc:=⟨2,c74,[.tmp 4]⟩
def c75:ACode :=
 (.s 1 [q 0 2 (.box 6 0 0),M 1 3 (.b false)] [1,2] (.s 0 [FA 0 4 0 2,L 1 5 4,FA 2 6 0 1,L 3 7 6,B 4 8 .eql 5 7,M 5 3 8] [3] .ret))
def a75:AFunc:=⟨2,c75,[.tmp 3]⟩
def c81:ACode :=
 (.s 1 [q 0 1 (.box 7 0 0),M 1 2 (.c (.lit (.pointer none))),M 2 3 (.i 0)] [1] (.s 0 [LK 0 8 7 1,CL 1 9 17 [8],M 2 7 9,EX 3 10 7 0,EX 4 11 7 1,EX 5 12 7 2,M 6 4 10,M 7 5 11,M 8 6 12] [1,6] (.s 1 [LK 0 13 7 1,q 1 14 (.build [.lit (.bool false),.lit .nilFunc] [(0,1,.c (.lit (.bool false))),(1,1,.f 112)]),q 2 15 (.build [.lit (.bool false),.lit .nilFunc] [(0,1,.c (.lit (.bool true))),(1,1,.f 113)]),q 3 16 (.xlits 2 [.lit (.bool false),.lit .nilFunc] 2 [(0,14),(1,15)]),q 4 17 (.build [.lit (.int .i64 0),.lit (.int .i64 0),.lit (.int .i64 0),.seq 1 [],.seq 4 [],.seq 6 [],.seq 1 [],.seq 2 []] [(0,7,13),(7,1,16)]),q 5 18 (.box 8 17 0),M 6 19 6,M 7 2 18,M 8 3 19] [2,3] .ret)))
def a81:AFunc:=⟨1,c81,[.tmp 2,.tmp 3]⟩
def c82:ACode :=
 (.s 0 [M 0 6 (.i 0)] [0,1,2] (.seq (.block 0 (.s 0 [M 0 8 0,NK 1 9 8,FA 2 10 0 9,FA 3 11 4 10,L 4 12 11,LE 5 13 12,B 6 14 .sub 13 (.i 1),M 7 15 1,q 8 16 (.lits 1 [.lit (.int .i64 0)] 1 [(0,15)] none),CL 9 17 62 [.i 0,14,16],M 10 7 17] [0,2,7] (.cond 7 (.s 0 [M 0 6 (.i 4)] [6] .ret) (.s 0 [M 0 19 0,NK 1 20 19,FA 2 21 0 20,FA 3 22 2 21,L 4 23 22,B 5 24 .shl (.i 1) 23,B 6 25 .sub 24 (.i 1),M 7 26 2,q 8 27 (.lits 1 [.lit (.int .i64 0)] 1 [(0,26)] none),CL 9 28 62 [.i 0,25,27],M 10 18 28] [18] (.cond 18 (.s 0 [M 0 6 (.i 7)] [6] .ret) .skip))))) (.s 0 [M 0 6 (.i 0)] [6] .ret)))
def a82:AFunc:=⟨3,c82,[.tmp 6]⟩
def c83:ACode :=
 (.s 1 [q 0 6 (.alloc [.lit (.int .i64 0),.lit (.int .i64 0)] [] 0)] [0,1,2,6] (.s 1 [M 0 10 0,NK 1 11 10,FA 2 12 0 11,FA 3 13 0 12,LK 4 14 2 13,q 5 7 (.alloc [.lit (.int .i64 0),.lit (.int .i64 0)] [] 0),ST 6 2 7 14] [0,1,2,6,7] (.seq (.s 0 [M 0 15 0,NK 1 16 15,FA 2 17 0 16,FA 3 18 4 17,L 4 19 18,M 5 20 1,IX 6 21 4 19 20,FA 7 22 2 21,L 8 23 22,LE 9 24 23,M 10 25 (.i 0)] [2,6,7,23,24,25] (.block 0 (.loop true [2,6,7,23,24,25] (.s 0 [B 0 26 .lss 25 24] [2,6,7,23,24,25,26] (.seq (.cond 26 .skip (.exit 0)) (.seq (.block 1 (.s 1 [M 0 27 25,IX 1 28 2 23 25,LK 2 29 2 28,q 3 9 (.alloc [.lit (.int .i64 0),.lit (.int .i64 0)] [] 0),M 4 8 27,ST 5 2 9 29] [2,6,7,8,9,23,24,25] (.s 0 [M 0 30 2,M 1 31 8,B 2 32 .shr 30 31,B 3 33 .and 32 (.i 1),B 4 34 .eql 33 (.i 1)] [2,6,7,9,23,24,25,34] (.cond 34 (.s 0 [FA 0 35 0 7,L 1 36 35,FA 2 37 0 9,L 3 38 37,B 4 39 .add 36 38,FA 5 40 0 7,ST 6 1 40 39] [2,6,7,9,23,24,25] (.g 0 [FA 0 41 1 7,L 1 42 41,FA 2 43 1 9,L 3 44 43,B 4 45 .add 42 44,FA 5 46 1 7,ST 6 1 46 45] [2,6,7,23,24,25])) .skip)))) (.g 0 [B 0 47 .add 25 (.i 1),M 1 25 47] [2,6,7,23,24,25]))))))) (.s 0 [LK 0 48 2 7,ST 1 2 6 48] [6] .ret))))
def a83:AFunc:=⟨3,c83,[.cell 6 (some 2)]⟩
def c86:ACode :=
 (.s 0 [M 0 8 (.i 0)] [0,1,2,3] (.sd 2 [M 0 12 0,M 1 13 2,M 2 14 3,⟨some 15,.call (.f 83) [12,13,14] [] true,none,[0,1],[],0,3⟩,q 12 9 (.alloc [.lit (.int .i64 0),.lit (.int .i64 0)] [] 0),q 13 10 (.alloc [.lit (.string ⟨#[]⟩),.lit (.int .i64 0),.lit (.int .i64 0),.lit (.int .i64 0),.lit (.int .i64 0),.lit (.int .i64 0)] [] 1),⟨none,.store 2 9 15,none,[],[(0,[])],0,14⟩,M 4 16 0,NK 5 17 16,FA 6 18 0 17,FA 7 19 5 18,⟨some 20,.load none 19,none,[0,1],[],1,8⟩,M 9 21 1,⟨some 22,.idxS 6 20 21,none,[0,1],[],1,10⟩,⟨some 23,.load (some 6) 22,none,[0,1],[],1,11⟩,ST 15 6 10 23] [9,10] (.s 1 [FA 0 24 0 9,L 1 25 24,FA 2 26 3 10,L 3 27 26,q 4 28 (.mm true [25,27]),FA 5 29 1 9,L 6 30 29,FA 7 31 4 10,L 8 32 31,q 9 33 (.mm false [30,32]),q 10 34 (.build [.lit (.int .i64 0),.lit (.int .i64 0)] [(0,1,28),(1,1,33)]),q 11 11 (.alloc [.lit (.int .i64 0),.lit (.int .i64 0)] [] 0),ST 12 2 11 34] [9,11] (.seq (.block 0 (.s 0 [LK 0 36 2 11,LK 1 37 2 9,q 2 38 (.cmp false [0,0] 36 37),M 3 35 38] [11,35] (.cond 35 (.s 0 [M 0 8 (.i 1)] [8] .ret) (.s 0 [FA 0 40 0 11,L 1 41 40,FA 2 42 1 11,L 3 43 42,B 4 44 .gtr 41 43,M 5 39 44] [39] (.cond 39 (.s 0 [M 0 8 (.i 2)] [8] .ret) .skip))))) (.s 0 [M 0 8 (.i 0)] [8] .ret)))))
def a86:AFunc:=⟨4,c86,[.tmp 8]⟩
def c87:ACode :=
 (.s 3 [q 0 2 (.box 7 0 0),q 1 3 (.box 2 1 1),M 2 4 (.c (.lit (.pointer none))),q 3 5 (.alloc [.lit (.int .i64 0),.lit (.int .i64 0),.lit (.int .i64 0),.lit (.int .i64 0),.lit (.int .i64 0),.lit (.int .i64 0)] [] 2),M 4 6 (.i 0)] [2,3,5] (.s 0 [LK 0 10 7 2,CL 1 11 81 [10],M 2 9 11,EX 3 12 9 0,EX 4 13 9 1,M 5 4 12,M 6 6 13] [2,3,4,5,6] (.seq (.block 0 (.s 0 [M 0 15 6,B 1 16 .neq 15 (.i 0),M 2 14 16] [2,3,4,5,6,14] (.cond 14 (.sd 0 [LK 0 17 6 5,M 2 4 (.c (.lit (.pointer none))),ST 3 6 5 17,M 1 18 6,M 4 6 18] [4,5,6] .ret) (.sd 0 [FA 0 20 2 2,L 1 21 20,B 2 22 .shl (.i 1) 21,B 3 23 .sub 22 (.i 1),FA 4 24 0 3,L 5 25 24,q 6 26 (.lits 1 [.lit (.int .i64 0)] 1 [(0,25)] none),CL 7 27 62 [.i 0,23,26],M 8 19 27] [2,3,4,5,19] (.cond 19 (.sd 0 [LK 0 28 6 5,M 1 4 (.c (.lit (.pointer none))),ST 2 6 5 28,M 3 6 (.i 7)] [4,5,6] .ret) (.s 0 [FA 0 30 1 3,L 1 31 30,LE 2 32 31,FA 3 33 5 2,L 4 34 33,LE 5 35 34,B 6 36 .neq 32 35,M 7 29 36] [2,3,4,5,29] (.cond 29 (.sd 0 [LK 0 37 6 5,M 1 4 (.c (.lit (.pointer none))),ST 2 6 5 37,M 3 6 (.i 3)] [4,5,6] .ret) (.s 0 [FA 0 39 4 2,L 1 40 39,LE 2 41 40,B 3 42 .sub 41 (.i 1),FA 4 43 1 3,L 5 44 43,CL 6 45 62 [.i (-1),42,44],M 7 38 45] [3,4,5,38] (.cond 38 (.sd 0 [LK 0 46 6 5,M 1 4 (.c (.lit (.pointer none))),ST 2 6 5 46,M 3 6 (.i 4)] [4,5,6] .ret) .skip))))))))) (.s 0 [FA 0 47 0 3,L 1 48 47,FA 2 49 0 5,ST 3 1 49 48] [3,4,5] (.seq (.s 0 [FA 0 50 1 3,L 1 51 50,LE 2 52 51,M 3 53 (.i 0)] [3,4,5,51,52,53] (.block 1 (.loop true [3,4,5,51,52,53] (.s 0 [B 0 54 .lss 53
 52] [3,4,5,51,52,53,54] (.seq (.cond 54 .skip (.exit 1)) (.seq (.block 2 (.s 0 [M 0 55 53,IX 1 56 1 51 53,L 2 57 56,M 3 7 55,M 4 8 57] [3,4,5,7,8,51,52,53] (.seq (.s 0 [M 0 58 8,B 1 59 .neq 58 (.i (-1)),M 2 60 59,G 3 61 60 true (.fieldAddr 1 3),G 4 62 60 true (.load none 61),G 5 63 60 true (.mv 7),G 6 64 60 true (.sliceQ 1 62 none (some 63)),G 7 65 60 true (.mv 8),G 8 66 60 true (.call (.f 114) [64,65] [] false),q 9 67 (.pick 60 66 (.b false))] [3,4,5,7,8,51,52,53,67] (.cond 67 (.s 0 [q 0 68 (.build [.lit (.int .i64 0),.lit (.int .i64 0),.lit (.int .i64 0),.lit (.int .i64 0),.lit (.int .i64 0),.lit (.int .i64 0)] []),M 1 4 (.c (.lit (.pointer none))),ST 2 6 5 68,M 3 6 (.i 5)] [4,5,6] .ret) .skip)) (.g 0 [M 0 69 7,M 1 70 8,B 2 71 .add 70 (.i 1),FA 3 72 1 5,q 4 73 (.idxA 1 5 72 69),ST 5 1 73 71] [3,4,5,51,52,53])))) (.g 0 [B 0 74 .add 53 (.i 1),M 1 53 74] [3,4,5,51,52,53]))))))) (.sd 0 [M 0 75 4,LK 1 76 6 5,M 2 4 75,ST 3 6 5 76,M 4 6 (.i 0)] [4,5,6] .ret))))))
def a87:AFunc:=⟨2,c87,[.tmp 4,.cell 5 (some 6),.tmp 6]⟩
def c88:ACode :=
 (.s 2 [q 0 3 (.box 5 1 0),q 1 4 (.alloc [.lit (.int .i64 0),.lit (.int .i64 0),.lit (.int .i64 0),.lit (.int .i64 0)] [] 1)] [0,3,4] (.seq (.s 0 [LK 0 8 5 3,M 1 9 (.i 0)] [0,4,8,9] (.block 0 (.loop true [0,4,8,9] (.s 0 [B 0 10 .lss 9 (.i 5)] [0,4,8,9,10] (.seq (.cond 10 .skip (.exit 0)) (.seq (.block 1 (.s 0 [M 0 11 9,q 1 12 (.idxAgg none 1 5 8 9),M 2 5 11,M 3 6 12] [0,4,5,6,8,9] (.seq (.s 0 [M 0 13 6,B 1 14 .eql 13 (.i 0)] [0,4,5,6,8,9,14] (.cond 14 (.exit 1) .skip)) (.s 0 [M 0 15 0,NK 1 16 15,FA 2 17 0 16,FA 3 18 3 17,L 4 19 18,LE 5 20 19,M 6 21 (.i 0)] [0,4,5,6,8,9,20,21] (.block 2 (.loop true [0,4,5,6,8,9,20,21] (.s 0 [B 0 22 .lss 21 20] [0,4,5,6,8,9,20,21,22] (.seq (.cond 22 .skip (.exit 2)) (.seq (.block 3 (.s 0 [M 0 23 21,M 1 7 23] [0,4,5,6,7,8,9,20,21] (.s 0 [M 0 24 0,NK 1 25 24,FA 2 26 0 25,FA 3 27 4 26,L 4 28 27,M 5 29 6,B 6 30 .sub 29 (.i 1),IX 7 31 4 28 30,FA 8 32 3 31,L 9 33 32,M 10 34 7,B 11 35 .shr 33 34,B 12 36 .and 35 (.i 1),B 13 37 .eql 36 (.i 1)] [0,4,5,6,7,8,9,20,21,37] (.cond 37 (.gd 0 [M 0 38 7,q 1 39 (.idxA 1 4 4 38),L 2 40 39,M 3 41 0,NK 4 42 41,FA 5 43 0 42,FA 6 44 5 43,L 7 45 44,M 8 46 5,IX 9 47 6 45 46,FA 10 48 2 47,L 11 49 48,B 12 50 .add 40 49,q 13 51 (.idxA 1 4 4 38),ST 14 1 51 50] [0,4,5,6,8,9,20,21]) .skip)))) (.g 0 [B 0 52 .add 21 (.i 1),M 1 21 52] [0,4,5,6,8,9,20,21])))))))))) (.g 0 [B 0 53 .add 9 (.i 1),M 1 9 53] [0,4,8,9]))))))) (.s 0 [LK 0 54 4 4,ST 1 4 4 54] [4] .ret)))
def a88:AFunc:=⟨2,c88,[.cell 4 (some 4)]⟩
def c89:ACode :=
 (.s 0 [M 0 2 (.c (.seq 1 []))] [0] (.seq (.s 0 [M 0 3 0,q 1 4 (.nilq false 3)] [0,4] (.cond 4 (.s 0 [M 0 2 (.c (.seq 1 []))] [2] .ret) .skip)) (.s 1 [q 0 5 (.lits 1 [.lit (.int .i64 0)] 0 [] (some 0)),M 1 6 0,q 2 7 (.append 1 8 5 6 none true),M 3 2 7] [2] .ret)))
def a89:AFunc:=⟨1,c89,[.tmp 2]⟩
def c90:ACode :=
 (.s 3 [q 0 2 (.box 7 0 0),q 1 3 (.box 2 1 1),M 2 4 (.c (.lit (.pointer none))),q 3 5 (.alloc [.lit (.int .i64 0),.lit (.int .i64 0),.lit (.int .i64 0),.lit (.int .i64 0),.lit (.int .i64 0),.lit (.int .i64 0)] [] 2),M 4 6 (.i 0)] [2,3,5] (.s 1 [LK 0 13 7 2,LK 1 14 2 3,CL 2 15 87 [13,14],M 3 12 15,EX 4 16 12 0,EX 5 17 12 1,EX 6 18 12 2,q 7 8 (.alloc [.lit (.int .i64 0),.lit (.int .i64 0),.lit (.int .i64 0),.lit (.int .i64 0),.lit (.int .i64 0),.lit (.int .i64 0)] [] 0),M 8 7 16,ST 9 6 8 17,M 10 9 18] [5,7,8,9] (.seq (.s 0 [M 0 19 9,B 1 20 .neq 19 (.i 0)] [5,7,8,9,20] (.cond 20 (.sd 0 [LK 0 21 6 8,M 2 4 (.c (.lit (.pointer none))),ST 3 6 5 21,M 1 22 9,M 4 6 22] [4,5,6] .ret) .skip)) (.seq (.s 0 [FA 0 23 1 8,LK 1 24 5 23,M 2 25 (.i 0)] [5,7,8,24,25] (.block 0 (.loop true [5,7,8,24,25] (.s 0 [B 0 26 .lss 25 (.i 5)] [5,7,8,24,25,26] (.seq (.cond 26 .skip (.exit 0)) (.seq (.block 1 (.s 0 [M 0 27 25,q 1 28 (.idxAgg none 1 5 24 25),M 2 10 27,M 3 11 28] [5,7,8,10,11,24,25] (.s 0 [M 0 29 11,B 1 30 .gtr 29 (.i 0),M 2 31 30,G 3 32 31 true (.mv 7),G 4 33 31 true (.mv 10),G 5 34 31 true (.mv 11),G 6 35 31 true (.bin .sub 34 (.i 1)),G 7 36 31 true (.fieldAddr 0 8),G 8 37 31 true (.load none 36),G 9 38 31 true (.call (.f 86) [32,33,35,37] [] false),G 10 39 31 true (.bin .neq 38 (.i 1)),q 11 40 (.pick 31 39 (.b false))] [5,7,8,24,25,40] (.cond 40 (.sd 0 [LK 0 41 6 8,M 1 4 (.c (.lit (.pointer none))),ST 2 6 5 41,M 3 6 (.i 9)] [4,5,6] .ret) .skip)))) (.g 0 [B 0 42 .add 25 (.i 1),M 1 25 42]
 [5,7,8,24,25]))))))) (.seq (.s 0 [M 0 43 7,FA 1 44 1 8,LK 2 45 5 44,CL 3 46 115 [43,45,.c (.lit (.bool true))],q 4 47 (.un .not 46)] [5,7,8,47] (.cond 47 (.sd 0 [LK 0 48 6 8,M 1 4 (.c (.lit (.pointer none))),ST 2 6 5 48,M 3 6 (.i 9)] [4,5,6] .ret) .skip)) (.sd 0 [M 0 49 7,LK 1 50 6 8,M 2 4 49,ST 3 6 5 50,M 4 6 (.i 0)] [4,5,6] .ret))))))
def a90:AFunc:=⟨2,c90,[.tmp 4,.cell 5 (some 6),.tmp 6]⟩
def c91:ACode :=
 (.s 1 [q 0 3 (.box 5 1 0),M 1 4 (.i 0)] [0,3,4] (.seq (.s 0 [LK 0 7 5 3,M 1 8 (.i 0)] [0,4,7,8] (.block 0 (.loop true [0,4,7,8] (.s 0 [B 0 9 .lss 8 (.i 5)] [0,4,7,8,9] (.seq (.cond 9 .skip (.exit 0)) (.seq (.block 1 (.s 0 [M 0 10 8,q 1 11 (.idxAgg none 1 5 7 8),M 2 5 10,M 3 6 11] [0,4,5,6,7,8] (.s 0 [M 0 12 6,B 1 13 .gtr 12 (.i 0)] [0,4,5,7,8,13] (.cond 13 (.g 0 [M 0 14 4,M 1 15 0,NK 2 16 15,FA 3 17 0 16,FA 4 18 5 17,L 5 19 18,M 6 20 5,IX 7 21 6 19 20,FA 8 22 5 21,L 9 23 22,B 10 24 .add 14 23,M 11 4 24] [0,4,7,8]) .skip)))) (.g 0 [B 0 25 .add 8 (.i 1),M 1 8 25] [0,4,7,8]))))))) (.s 0 [M 0 26 4,M 1 4 26] [4] .ret)))
def a91:AFunc:=⟨2,c91,[.tmp 4]⟩
def c93:ACode :=
 (.s 1 [q 0 1 (.box 1 0 0),M 1 2 (.c (.lit .nilFunc))] [1] (.s 0 [q 0 3 (.mkfn (.func 116) [] [1]),M 1 2 3] [2] .ret))
def a93:AFunc:=⟨1,c93,[.tmp 2]⟩
def c95:ACode :=
 (.s 1 [q 0 2 (.nil 1 0)] [0,2] (.seq (.block 0 (.loop true [0,2] (.seq (.s 0 [M 0 3 0,B 1 4 .neq 3 (.i 0)] [0,2,4] (.cond 4 .skip (.exit 0))) (.seq (.block 1 (.g 0 [M 0 9 2,M 1 10 0,q 2 11 (.conv .u64 10),CL 3 12 118 [11],q 4 13 (.lits 1 [.lit (.int .i64 0)] 1 [(0,12)] none),q 5 14 (.append 1 8 9 13 none false),M 6 2 14] [0,2])) (.g 0 [M 0 5 0,M 1 6 0,B 2 7 .sub 6 (.i 1),B 3 8 .and 5 7,M 4 0 8] [0,2]))))) (.s 0 [M 0 15 2,M 1 2 15] [2] .ret)))
def a95:AFunc:=⟨1,c95,[.tmp 2]⟩
def c96:ACode :=
 (.s 0 [M 0 4 (.i 0)] [0,1] (.seq (.s 0 [M 0 9 0,LE 1 10 9,M 2 11 (.i 0)] [0,1,9,10,11] (.block 0 (.loop true [0,1,9,10,11] (.s 0 [B 0 12 .lss 11 10] [0,1,9,10,11,12] (.seq (.cond 12 .skip (.exit 0)) (.seq (.block 1 (.s 0 [M 0 13 11,IX 1 14 1 9 11,L 2 15 14,M 3 5 13,M 4 6 15] [0,1,5,6,9,10,11] (.seq (.s 0 [M 0 16 5,M 1 17 1,LE 2 18 17,B 3 19 .geq 16 18] [0,1,5,6,9,10,11,19] (.cond 19 (.s 0 [M 0 4 (.i 1)] [4] .ret) .skip)) (.s 0 [M 0 20 1,M 1 21 5,IX 2 22 1 20 21,L 3 23 22,M 4 7 23] [0,1,6,7,9,10,11] (.s 0 [M 0 24 6,M 1 25 7,CL 2 26 119 [24,25],M 3 8 26] [0,1,8,9,10,11] (.s 0 [M 0 27 8,B 1 28 .neq 27 (.i 0)] [0,1,8,9,10,11,28] (.cond 28 (.s 0 [M 0 29 8,M 1 4 29] [4] .ret) .skip))))))) (.g 0 [B 0 30 .add 11 (.i 1),M 1 11 30] [0,1,9,10,11]))))))) (.seq (.s 0 [M 0 31 0,LE 1 32 31,M 2 33 1,LE 3 34 33,B 4 35 .lss 32 34] [35] (.cond 35 (.s 0 [M 0 4 (.i (-1))] [4] .ret) .skip)) (.s 0 [M 0 4 (.i 0)] [4] .ret))))
def a96:AFunc:=⟨2,c96,[.tmp 4]⟩
def c97:ACode :=
 (.s 1 [q 0 2 (.alloc [.lit (.bool false)] [] 0)] [0,2] (.seq (.s 0 [M 0 3 0,CL 1 4 93 [3]] [2,4] (.block 0 (.rangeFunc 4 [5] [2] .skip (.block 1 (.s 0 [ST 0 1 2 (.b true)] [] .ret))))) (.s 0 [ST 0 1 2 (.b false)] [2] .ret)))
def a97:AFunc:=⟨1,c97,[.cell 2 none]⟩
def c100:ACode :=
 (.s 0 [M 0 2 (.i 0)] [0] (.seq (.cond (.b false) (.s 0 [M 0 3 0,q 1 4 (.conv .u32 3),CL 2 5 121 [4],M 3 2 5] [2] .ret) .skip) (.s 0 [M 0 6 0,CL 1 7 122 [6],M 2 2 7] [2] .ret)))
def a100:AFunc:=⟨1,c100,[.tmp 2]⟩
def c102:ACode :=
 (.s 2 [q 0 8 (.box 2 3 0),q 1 10 (.alloc [.lit (.string ⟨#[]⟩),.lit (.int .i64 0),.lit (.int .i64 0),.lit (.int .i64 0),.lit (.int .i64 0),.lit (.int .i64 0)] [] 1)] [0,1,2,4,8,10] (.s 0 [M 0 11 0,M 1 12 1,M 2 13 2,FA 3 14 0 8,L 4 15 14,FA 5 16 1 8,L 6 17 16,M 7 18 4,q 8 19 (.build [.lit (.string ⟨#[]⟩),.lit (.int .i64 0),.lit (.int .i64 0),.lit (.int .i64 0),.lit (.int .i64 0),.lit (.int .i64 0)] [(0,1,11),(1,1,12),(2,1,13),(3,1,15),(4,1,17),(5,1,18)]),ST 9 6 10 19] [10] .ret))
def a102:AFunc:=⟨5,c102,[.cell 10 (some 6)]⟩
def c104:ACode :=
 (.s 0 [M 0 4 (.b false)] [0,1] (.s 0 [M 0 5 0,M 1 6 1,CL 2 7 123 [5,6],B 3 8 .geq 7 (.i 0),M 4 4 8] [4] .ret))
def a104:AFunc:=⟨2,c104,[.tmp 4]⟩
def c105:ACode :=
 (.s 0 [M 0 4 (.b false)] [0,1,2] (.s 0 [M 0 5 0,L 1 6 1,B 2 7 .lss 5 6,M 3 8 7,G 4 9 8 false (.mv 0),G 5 10 8 false (.load none 2),G 6 11 8 false (.bin .gtr 9 10),q 7 12 (.pick 8 (.b true) 11),M 8 4 12] [4] .ret))
def a105:AFunc:=⟨3,c105,[.tmp 4]⟩
def c106:ACode :=
 (.s 0 [M 0 6 (.i 0)] [1,2,3] (.seq (.s 0 [L 0 7 2,L 1 8 3,M 2 9 1,q 3 10 (.lits 1 [.lit (.int .i64 0)] 1 [(0,9)] none),CL 4 11 62 [7,8,10]] [11] (.cond 11 (.s 0 [M 0 6 (.i 7)] [6] .ret) .skip)) (.s 0 [M 0 6 (.i 0)] [6] .ret)))
def a106:AFunc:=⟨4,c106,[.tmp 6]⟩
def c107:ACode :=
 (.s 0 [M 0 4 (.i 0)] [0,1] (.seq (.s 0 [M 0 6 0,LE 1 7 6,M 2 8 (.i 0)] [0,1,7,8] (.block 0 (.loop true [0,1,7,8] (.s 0 [B 0 9 .lss 8 7] [0,1,7,8,9] (.seq (.cond 9 .skip (.exit 0)) (.seq (.block 1 (.s 0 [M 0 10 8,M 1 5 10] [0,1,5,7,8] (.s 0 [M 0 11 1,M 1 12 0,M 2 13 5,IX 3 14 4 12 13,LK 4 15 4 14,q 5 16 (.call 11 [15] [] false)] [0,1,5,7,8,16] (.cond 16 (.s 0 [M 0 17 5,M 1 4 17] [4] .ret) .skip)))) (.g 0 [B 0 18 .add 8 (.i 1),M 1 8 18] [0,1,7,8]))))))) (.s 0 [M 0 4 (.i (-1))] [4] .ret)))
def a107:AFunc:=⟨2,c107,[.tmp 4]⟩
def c108:ACode :=
 (.s 0 [M 0 4 (.i 0)] [0,1] (.seq (.s 0 [M 0 6 0,LE 1 7 6,M 2 8 (.i 0)] [0,1,7,8] (.block 0 (.loop true [0,1,7,8] (.s 0 [B 0 9 .lss 8 7] [0,1,7,8,9] (.seq (.cond 9 .skip (.exit 0)) (.seq (.block 1 (.s 0 [M 0 10 8,M 1 5 10] [0,1,5,7,8] (.s 0 [M 0 11 1,M 1 12 0,M 2 13 5,IX 3 14 6 12 13,LK 4 15 6 14,q 5 16 (.call 11 [15] [] false)] [0,1,5,7,8,16] (.cond 16 (.s 0 [M 0 17 5,M 1 4 17] [4] .ret) .skip)))) (.g 0 [B 0 18 .add 8 (.i 1),M 1 8 18] [0,1,7,8]))))))) (.s 0 [M 0 4 (.i (-1))] [4] .ret)))
def a108:AFunc:=⟨2,c108,[.tmp 4]⟩
def c112:ACode :=
 (.s 1 [q 0 3 (.box 5 1 0),M 1 4 (.b false)] [0,3] (.seq (.s 0 [M 0 7 0,LK 1 8 5 3,CL 2 9 88 [7,8],M 3 10 (.i 0)] [0,9,10] (.block 0 (.loop true [0,9,10] (.s 0 [B 0 11 .lss 10 (.i 4)] [0,9,10,11] (.seq (.cond 11 .skip (.exit 0)) (.seq (.block 1 (.s 0 [M 0 12 10,q 1 13 (.idxAgg none 1 4 9 10),M 2 5 12,M 3 6 13] [0,5,6,9,10] (.s 0 [M 0 14 5,M 1 15 0,NK 2 16 15,FA 3 17 0 16,FA 4 18 3 17,L 5 19 18,LE 6 20 19,B 7 21 .lss 14 20,M 8 22 21,G 9 23 22 true (.mv 6),G 10 24 22 true (.mv 0),G 11 25 22 true (.nilck 24),G 12 26 22 true (.fieldAddr 0 25),G 13 27 22 true (.fieldAddr 3 26),G 14 28 22 true (.load none 27),G 15 29 22 true (.mv 5),G 16 30 22 true (.idxS 1 28 29),G 17 31 22 true (.load none 30),G 18 32 22 true (.bin .gtr 23 31),q 19 33 (.pick 22 32 (.b false))] [0,9,10,33] (.cond 33 (.s 0 [M 0 4 (.b false)] [4] .ret) .skip)))) (.g 0 [B 0 34 .add 10 (.i 1),M 1 10 34] [0,9,10]))))))) (.s 0 [M 0 4 (.b true)] [4] .ret)))
def a112:AFunc:=⟨2,c112,[.tmp 4]⟩
def c113:ACode :=
 (.s 1 [q 0 3 (.box 5 1 0),M 1 4 (.b false)] [0,3] (.seq (.s 0 [LK 0 10 5 3,q 1 11 (.build [.lit (.int .i64 0),.lit (.int .i64 0),.lit (.int .i64 0),.lit (.int .i64 0),.lit (.int .i64 0)] []),q 2 12 (.cmp false [0,0,0,0,0] 10 11)] [0,3,12] (.cond 12 (.s 0 [M 0 13 0,NK 1 14 13,FA 2 15 0 14,FA 3 16 6 15,L 4 17 16,LE 5 18 17,B 6 19 .eql 18 (.i 0),M 7 4 19] [4] .ret) .skip)) (.s 1 [q 0 20 (.mkmap 0),M 1 5 20] [0,3,5] (.seq (.s 0 [LK 0 21 5 3,M 1 22 (.i 0)] [0,5,21,22] (.block 0 (.loop true [0,5,21,22] (.s 0 [B 0 23 .lss 22 (.i 5)] [0,5,21,22,23] (.seq (.cond 23 .skip (.exit 0)) (.seq (.block 1 (.s 0 [M 0 24 22,q 1 25 (.idxAgg none 1 5 21 22),M 2 6 24,M 3 7 25] [0,5,6,7,21,22] (.s 0 [M 0 26 7,B 1 27 .gtr 26 (.i 0),M 2 28 27,G 3 29 28 true (.mv 0),G 4 30 28 true (.nilck 29),G 5 31 28 true (.fieldAddr 0 30),G 6 32 28 true (.fieldAddr 4 31),G 7 33 28 true (.load none 32),G 8 34 28 true (.mv 7),G 9 35 28 true (.bin .sub 34 (.i 1)),G 10 36 28 true (.idxS 4 33 35),G 11 37 28 true (.fieldAddr 1 36),G 12 38 28 true (.load none 37),q 13 39 (.pick 28 38 (.b false))] [0,5,6,21,22,39] (.cond 39 (.g 0 [M 0 40 5,M 1 41 0,NK 2 42 41,FA 3 43 0 42,FA 4 44 5 43,L 5 45 44,M 6 46 6,IX 7 47 6 45 46,FA 8 48 1 47,L 9 49 48,q 10 50 (.lookup (.lit (.int .i64 0)) false [0] 40 49 false),B 11 51 .add 50 (.i 1),r 12 (.mupd false [0] 40 49 51)] [0,5,21,22]) .skip)))) (.g 0 [B 0 52 .add 22 (.i 1),M 1 22 52] [0,5,21,22]))))))) (.seq (.s 0 [M 0 53 0,NK 1 54 53,FA 2 55 0 54,FA 3 56 6 55,L 4 57 56,LE 5 58 57,M 6 59
 (.i 0)] [5,57,58,59] (.block 2 (.loop true [5,57,58,59] (.s 0 [B 0 60 .lss 59 58] [5,57,58,59,60] (.seq (.cond 60 .skip (.exit 2)) (.seq (.block 3 (.s 0 [IX 0 61 1 57 59,L 1 62 61,M 2 9 62] [5,9,57,58,59] (.s 0 [M 0 63 5,M 1 64 9,q 2 65 (.lookup (.lit (.int .i64 0)) false [0] 63 64 false),B 3 66 .sub 65 (.i 1),r 4 (.mupd false [0] 63 64 66)] [5,9,57,58,59] (.s 0 [M 0 67 5,M 1 68 9,q 2 69 (.lookup (.lit (.int .i64 0)) false [0] 67 68 false),B 3 70 .lss 69 (.i 0)] [5,57,58,59,70] (.cond 70 (.s 0 [M 0 4 (.b false)] [4] .ret) .skip))))) (.g 0 [B 0 71 .add 59 (.i 1),M 1 59 71] [5,57,58,59]))))))) (.s 0 [M 0 4 (.b true)] [4] .ret))))))
def a113:AFunc:=⟨2,c113,[.tmp 4]⟩
def c114:ACode :=
 (.s 0 [M 0 4 (.b false)] [0,1] (.s 0 [M 0 5 0,M 1 6 1,CL 2 7 124 [5,6],B 3 8 .geq 7 (.i 0),M 4 4 8] [4] .ret))
def a114:AFunc:=⟨2,c114,[.tmp 4]⟩
def c115:ACode :=
 (.s 1 [q 0 4 (.box 5 1 0),M 1 6 (.b false)] [0,2,4] (.seq (.s 0 [M 0 9 0,NK 1 10 9,FA 2 11 7 10,L 3 12 11,LE 4 13 12,M 5 14 (.i 0)] [0,2,4,12,13,14] (.block 0 (.loop true [0,2,4,12,13,14] (.s 0 [B 0 15 .lss 14 13] [0,2,4,12,13,14,15] (.seq (.cond 15 .skip (.exit 0)) (.seq (.block 1 (.s 1 [IX 0 16 2 12 14,LK 1 17 2 16,q 2 8 (.alloc [.lit (.bool false),.lit .nilFunc] [] 0),ST 3 2 8 17] [0,2,4,8,12,13,14] (.s 0 [M 0 18 2,M 1 19 18,G 2 20 19 false (.fieldAddr 0 8),G 3 21 19 false (.load none 20),G 4 22 19 false (.un .not 21),q 5 23 (.pick 19 (.b true) 22),M 6 24 23,G 7 25 24 true (.fieldAddr 1 8),G 8 26 24 true (.load none 25),G 9 27 24 true (.mv 0),G 10 28 24 true (.load (some 5) 4),G 11 29 24 true (.call 26 [27,28] [] false),G 12 30 24 true (.un .not 29),q 13 31 (.pick 24 30 (.b false))] [0,2,4,12,13,14,31] (.cond 31 (.s 0 [M 0 6 (.b false)] [6] .ret) .skip)))) (.g 0 [B 0 32 .add 14 (.i 1),M 1 14 32] [0,2,4,12,13,14]))))))) (.s 0 [M 0 6 (.b true)] [6] .ret)))
def a115:AFunc:=⟨3,c115,[.tmp 6]⟩
def c116:ACode :=
 (.s 1 [q 0 2 (.box 1 0 0)] [1,2] (.s 1 [L 0 7 1,q 1 8 (.mkfn (.func 86) [7] []),q 2 3 (.alloc [.lit .nilFunc] [] 0),ST 3 1 3 8] [1,2,3] (.s 0 [L 0 9 1,NK 1 10 9,FA 2 11 0 10,FA 3 12 2 11,L 4 13 12,B 5 14 .shl (.i 1) 13,M 6 15 (.i 0)] [1,2,3,14,15] (.block 0 (.loop true [1,2,3,14,15] (.s 0 [B 0 16 .lss 15 14] [1,2,3,14,15,16] (.seq (.cond 16 .skip (.exit 0)) (.seq (.block 1 (.s 1 [M 0 17 15,q 1 4 (.alloc [.lit (.int .i64 0)] [] 0),ST 2 1 4 17] [1,2,3,4,14,15] (.s 1 [q 0 5 (.alloc [.lit (.int .i64 0),.lit (.int .i64 0),.lit (.int .i64 0),.lit (.int .i64 0),.lit (.int .i64 0)] [] 0)] [1,2,3,4,5,14,15] (.s 1 [q 0 6 (.alloc [.lit .nilFunc] [] 0)] [1,2,3,4,5,6,14,15] (.s 0 [q 0 18 (.mkfn (.func 117) [] [1,5,2,4,3,6]),ST 1 1 6 18] [1,2,3,6,14,15] (.s 0 [L 0 19 6,q 1 20 (.call 19 [.i 0,.i 0] [] false),q 2 21 (.un .not 20)] [1,2,3,14,15,21] (.cond 21 .ret .skip))))))) (.g 0 [B 0 22 .add 15 (.i 1),M 1 15 22] [1,2,3,14,15])))))))))
def a116:AFunc:=⟨2,c116,[]⟩
def c117:ACode :=
 (.s 0 [M 0 10 (.b false)] [0,1,2,3,4,5,6,7] (.scope (.seq (.s 0 [M 0 12 0,L 1 13 2,NK 2 14 13,FA 3 15 0 14,FA 4 16 5 15,L 5 17 16,LE 6 18 17,B 7 19 .eql 12 18] [0,1,2,3,4,5,6,7,19] (.cond 19 (.s 0 [L 0 20 2,LK 1 21 5 3,CL 2 22 115 [20,21,.c (.lit (.bool true))],q 3 23 (.un .not 22),M 4 24 23,G 5 25 24 false (.load none 4),G 6 26 24 false (.load none 5),G 7 27 24 false (.load (some 5) 3),G 8 28 24 false (.build [.lit (.int .i64 0),.lit (.int .i64 0),.lit (.int .i64 0),.lit (.int .i64 0),.lit (.int .i64 0),.lit (.int .i64 0)] [(0,1,26),(1,5,27)]),G 9 29 24 false (.call 25 [28] [] false),q 10 30 (.pick 24 (.b true) 29),M 11 10 30] [10] .ret) .skip)) (.seq .skip (.seq (.s 0 [L 0 31 2,NK 1 32 31,FA 2 33 0 32,FA 3 34 4 33,L 4 35 34,LE 5 36 35,M 6 37 (.i 0)] [0,1,2,3,5,6,7,36,37] (.block 0 (.loop true [0,1,2,3,5,6,7,36,37] (.s 0 [B 0 38 .lss 37 36] [0,1,2,3,5,6,7,36,37,38] (.seq (.cond 38 .skip (.exit 0)) (.seq (.block 1 (.s 0 [M 0 39 37,M 1 11 39] [0,1,2,3,5,6,7,11,36,37] (.seq (.s 0 [M 0 40 1,M 1 41 11,B 2 42 .shr 40 41,B 3 43 .and 42 (.i 1),B 4 44 .eql 43 (.i 1),M 5 45 44,G 6 46 45 false (.load none 6),G 7 47 45 false (.mv 0),G 8 48 45 false (.mv 11),G 9 49 45 false (.load none 5),G 10 50 45 false (.call 46 [47,48,49] [] false),G 11 51 45 false (.bin .neq 50 (.i 1)),q 12 52 (.pick 45 (.b true) 51)] [0,1,2,3,5,6,7,11,36,37,52] (.cond 52 (.exit 1) .skip)) (.s 0 [M 0 53 0,M 1 54 11,B 2 55 .add 54 (.i 1),q 3 56 (.idxA 1 5 3 53),ST 4 1 56 55] [0,1,2,3,5,6,7,11,36,37] (.sd 0 [L 0 57
 2,LK 1 58 5 3,CL 2 59 115 [57,58,.c (.lit (.bool false))],M 3 60 59,G 4 61 60 true (.load none 7),G 5 62 60 true (.mv 0),G 6 63 60 true (.bin .add 62 (.i 1)),G 7 64 60 true (.mv 1),G 8 65 60 true (.mv 11),G 9 66 60 true (.bin .shl (.i 1) 65),G 10 67 60 true (.bin .or 64 66),G 11 68 60 true (.call 61 [63,67] [] false),G 12 69 60 true (.un .not 68),q 13 70 (.pick 60 69 (.b false))] [0,1,2,3,5,6,7,36,37,70] (.cond 70 (.s 0 [M 0 10 (.b false)] [10] .ret) .skip)))))) (.g 0 [B 0 71 .add 37 (.i 1),M 1 37 71] [0,1,2,3,5,6,7,36,37]))))))) (.s 0 [M 0 72 0,q 1 73 (.idxA 1 5 3 72),ST 2 1 73 (.i 0)] [0,1,7] (.s 0 [L 0 74 7,M 1 75 0,B 2 76 .add 75 (.i 1),M 3 77 1,q 4 78 (.call 74 [76,77] [] false),M 5 10 78] [10] .ret)))))))
def a117:AFunc:=⟨8,c117,[.tmp 10]⟩
def c118:ACode :=
 (.s 0 [M 0 2 (.i 0)] [0] (.seq (.cond (.b false) (.s 0 [M 0 3 0,q 1 4 (.conv .u32 3),CL 2 5 125 [4],M 3 2 5] [2] .ret) .skip) (.s 0 [M 0 6 0,CL 1 7 126 [6],M 2 2 7] [2] .ret)))
def a118:AFunc:=⟨1,c118,[.tmp 2]⟩
def c119:ACode :=
 (.s 0 [M 0 4 (.i 0)] [0,1] (.s 0 [M 0 7 0,CL 1 8 127 [7],M 2 5 8] [0,1,5] (.s 0 [M 0 9 1,CL 1 10 127 [9],M 2 6 10] [0,1,5,6] (.seq (.s 0 [M 0 11 5] [0,1,6,11] (.cond 11 (.seq (.s 0 [M 0 12 6] [12] (.cond 12 (.s 0 [M 0 4 (.i 0)] [4] .ret) .skip)) (.s 0 [M 0 4 (.i (-1))] [4] .ret)) .skip)) (.seq (.s 0 [M 0 13 6] [0,1,13] (.cond 13 (.s 0 [M 0 4 (.i 1)] [4] .ret) .skip)) (.seq (.s 0 [M 0 14 0,M 1 15 1,B 2 16 .lss 14 15] [0,1,16] (.cond 16 (.s 0 [M 0 4 (.i (-1))] [4] .ret) .skip)) (.seq (.s 0 [M 0 17 0,M 1 18 1,B 2 19 .gtr 17 18] [19] (.cond 19 (.s 0 [M 0 4 (.i 1)] [4] .ret) .skip)) (.s 0 [M 0 4 (.i 0)] [4] .ret))))))))
def a119:AFunc:=⟨2,c119,[.tmp 4]⟩
def c121:ACode :=
 (.s 0 [M 0 2 (.i 0)] [0] (.sd 0 [M 0 3 0,B 1 4 .shr 3 (.c (.lit (.int .u64 24))),q 2 5 (.idxStr (.c (.lit (.string ⟨#[0,1,1,2,1,2,2,3,1,2,2,3,2,3,3,4,1,2,2,3,2,3,3,4,2,3,3,4,3,4,4,5,1,2,2,3,2,3,3,4,2,3,3,4,3,4,4,5,2,3,3,4,3,4,4,5,3,4,4,5,4,5,5,6,1,2,2,3,2,3,3,4,2,3,3,4,3,4,4,5,2,3,3,4,3,4,4,5,3,4,4,5,4,5,5,6,2,3,3,4,3,4,4,5,3,4,4,5,4,5,5,6,3,4,4,5,4,5,5,6,4,5,5,6,5,6,6,7,1,2,2,3,2,3,3,4,2,3,3,4,3,4,4,5,2,3,3,4,3,4,4,5,3,4,4,5,4,5,5,6,2,3,3,4,3,4,4,5,3,4,4,5,4,5,5,6,3,4,4,5,4,5,5,6,4,5,5,6,5,6,6,7,2,3,3,4,3,4,4,5,3,4,4,5,4,5,5,6,3,4,4,5,4,5,5,6,4,5,5,6,5,6,6,7,3,4,4,5,4,5,5,6,4,5,5,6,5,6,6,7,4,5,5,6,5,6,6,7,5,6,6,7,6,7,7,8]⟩))) 4),M 3 6 0,B 4 7 .shr 6 (.c (.lit (.int .u64 16))),B 5 8 .and 7 (.c (.lit (.int .u32 255))),q 6 9 (.idxStr (.c (.lit (.string ⟨#[0,1,1,2,1,2,2,3,1,2,2,3,2,3,3,4,1,2,2,3,2,3,3,4,2,3,3,4,3,4,4,5,1,2,2,3,2,3,3,4,2,3,3,4,3,4,4,5,2,3,3,4,3,4,4,5,3,4,4,5,4,5,5,6,1,2,2,3,2,3,3,4,2,3,3,4,3,4,4,5,2,3,3,4,3,4,4,5,3,4,4,5,4,5,5,6,2,3,3,4,3,4,4,5,3,4,4,5,4,5,5,6,3,4,4,5,4,5,5,6,4,5,5,6,5,6,6,7,1,2,2,3,2,3,3,4,2,3,3,4,3,4,4,5,2,3,3,4,3,4,4,5,3,4,4,5,4,5,5,6,2,3,3,4,3,4,4,5,3,4,4,5,4,5,5,6,3,4,4,5,4,5,5,6,4,5,5,6,5,6,6,7,2,3,3,4,3,4,4,5,3,4,4,5,4,5,5,6,3,4,4,5,4,5,5,6,4,5,5,6,5,6,6,7,3,4,4,5,4,5,5,6,4,5,5,6,5,6,6,7,4,5,5,6,5,6,6,7,5,6,6,7,6,7,7,8]⟩))) 8),B 7 10 .add 5 9,M 8 11 0,B 9 12 .shr 11 (.c (.lit (.int .u64 8))),B 10 13 .and 12 (.c (.lit (.int .u32 255))),q 11 14 (.idxStr (.c (.lit (.string
 ⟨#[0,1,1,2,1,2,2,3,1,2,2,3,2,3,3,4,1,2,2,3,2,3,3,4,2,3,3,4,3,4,4,5,1,2,2,3,2,3,3,4,2,3,3,4,3,4,4,5,2,3,3,4,3,4,4,5,3,4,4,5,4,5,5,6,1,2,2,3,2,3,3,4,2,3,3,4,3,4,4,5,2,3,3,4,3,4,4,5,3,4,4,5,4,5,5,6,2,3,3,4,3,4,4,5,3,4,4,5,4,5,5,6,3,4,4,5,4,5,5,6,4,5,5,6,5,6,6,7,1,2,2,3,2,3,3,4,2,3,3,4,3,4,4,5,2,3,3,4,3,4,4,5,3,4,4,5,4,5,5,6,2,3,3,4,3,4,4,5,3,4,4,5,4,5,5,6,3,4,4,5,4,5,5,6,4,5,5,6,5,6,6,7,2,3,3,4,3,4,4,5,3,4,4,5,4,5,5,6,3,4,4,5,4,5,5,6,4,5,5,6,5,6,6,7,3,4,4,5,4,5,5,6,4,5,5,6,5,6,6,7,4,5,5,6,5,6,6,7,5,6,6,7,6,7,7,8]⟩))) 13),B 12 15 .add 10 14,M 13 16 0,B 14 17 .and 16 (.c (.lit (.int .u32 255))),q 15 18 (.idxStr (.c (.lit (.string ⟨#[0,1,1,2,1,2,2,3,1,2,2,3,2,3,3,4,1,2,2,3,2,3,3,4,2,3,3,4,3,4,4,5,1,2,2,3,2,3,3,4,2,3,3,4,3,4,4,5,2,3,3,4,3,4,4,5,3,4,4,5,4,5,5,6,1,2,2,3,2,3,3,4,2,3,3,4,3,4,4,5,2,3,3,4,3,4,4,5,3,4,4,5,4,5,5,6,2,3,3,4,3,4,4,5,3,4,4,5,4,5,5,6,3,4,4,5,4,5,5,6,4,5,5,6,5,6,6,7,1,2,2,3,2,3,3,4,2,3,3,4,3,4,4,5,2,3,3,4,3,4,4,5,3,4,4,5,4,5,5,6,2,3,3,4,3,4,4,5,3,4,4,5,4,5,5,6,3,4,4,5,4,5,5,6,4,5,5,6,5,6,6,7,2,3,3,4,3,4,4,5,3,4,4,5,4,5,5,6,3,4,4,5,4,5,5,6,4,5,5,6,5,6,6,7,3,4,4,5,4,5,5,6,4,5,5,6,5,6,6,7,4,5,5,6,5,6,6,7,5,6,6,7,6,7,7,8]⟩))) 17),B 16 19 .add 15 18,q 17 20 (.conv .i64 19),M 18 2 20] [2] .ret))
def a121:AFunc:=⟨1,c121,[.tmp 2]⟩
def c122:ACode :=
 (.s 0 [M 0 2 (.i 0)] [0] (.s 0 [M 0 3 0,B 1 4 .shr 3 (.c (.lit (.int .u64 1))),B 2 5 .and 4 (.c (.lit (.int .u64 6148914691236517205))),M 3 6 0,B 4 7 .and 6 (.c (.lit (.int .u64 6148914691236517205))),B 5 8 .add 5 7,M 6 0 8] [0] (.s 0 [M 0 9 0,B 1 10 .shr 9 (.c (.lit (.int .u64 2))),B 2 11 .and 10 (.c (.lit (.int .u64 3689348814741910323))),M 3 12 0,B 4 13 .and 12 (.c (.lit (.int .u64 3689348814741910323))),B 5 14 .add 11 13,M 6 0 14] [0] (.s 0 [M 0 15 0,B 1 16 .shr 15 (.c (.lit (.int .u64 4))),M 2 17 0,B 3 18 .add 16 17,B 4 19 .and 18 (.c (.lit (.int .u64 1085102592571150095))),M 5 0 19] [0] (.s 0 [M 0 20 0,M 1 21 0,B 2 22 .shr 21 (.c (.lit (.int .u64 8))),B 3 23 .add 20 22,M 4 0 23] [0] (.s 0 [M 0 24 0,M 1 25 0,B 2 26 .shr 25 (.c (.lit (.int .u64 16))),B 3 27 .add 24 26,M 4 0 27] [0] (.s 0 [M 0 28 0,M 1 29 0,B 2 30 .shr 29 (.c (.lit (.int .u64 32))),B 3 31 .add 28 30,M 4 0 31] [0] (.s 0 [M 0 32 0,q 1 33 (.conv .i64 32),B 2 34 .and 33 (.i 127),M 3 2 34] [2] .ret))))))))
def a122:AFunc:=⟨1,c122,[.tmp 2]⟩
def c123:ACode :=
 (.s 0 [M 0 4 (.i 0)] [0,1] (.seq (.s 0 [M 0 6 0,LE 1 7 6,M 2 8 (.i 0)] [0,1,7,8] (.block 0 (.loop true [0,1,7,8] (.s 0 [B 0 9 .lss 8 7] [0,1,7,8,9] (.seq (.cond 9 .skip (.exit 0)) (.seq (.block 1 (.s 0 [M 0 10 8,M 1 5 10] [0,1,5,7,8] (.s 0 [M 0 11 1,M 1 12 0,M 2 13 5,IX 3 14 1 12 13,L 4 15 14,q 5 16 (.call 11 [15] [] false)] [0,1,5,7,8,16] (.cond 16 (.s 0 [M 0 17 5,M 1 4 17] [4] .ret) .skip)))) (.g 0 [B 0 18 .add 8 (.i 1),M 1 8 18] [0,1,7,8]))))))) (.s 0 [M 0 4 (.i (-1))] [4] .ret)))
def a123:AFunc:=⟨2,c123,[.tmp 4]⟩
def c124:ACode :=
 (.s 0 [M 0 4 (.i 0)] [0,1] (.seq (.s 0 [M 0 6 0,LE 1 7 6,M 2 8 (.i 0)] [0,1,7,8] (.block 0 (.loop true [0,1,7,8] (.s 0 [B 0 9 .lss 8 7] [0,1,7,8,9] (.seq (.cond 9 .skip (.exit 0)) (.seq (.block 1 (.s 0 [M 0 10 8,M 1 5 10] [0,1,5,7,8] (.s 0 [M 0 11 1,M 1 12 0,M 2 13 5,IX 3 14 1 12 13,L 4 15 14,B 5 16 .eql 11 15] [0,1,5,7,8,16] (.cond 16 (.s 0 [M 0 17 5,M 1 4 17] [4] .ret) .skip)))) (.g 0 [B 0 18 .add 8 (.i 1),M 1 8 18] [0,1,7,8]))))))) (.s 0 [M 0 4 (.i (-1))] [4] .ret)))
def a124:AFunc:=⟨2,c124,[.tmp 4]⟩
def c125:ACode :=
 (.s 0 [M 0 2 (.i 0)] [0] (.seq (.s 0 [M 0 3 0,B 1 4 .eql 3 (.c (.lit (.int .u32 0)))] [0,4] (.cond 4 (.s 0 [M 0 2 (.i 32)] [2] .ret) .skip)) (.s 0 [M 0 5 0,M 1 6 0,q 2 7 (.un .neg 6),B 3 8 .and 5 7,B 4 9 .mul 8 (.c (.lit (.int .u32 125613361))),B 5 10 .shr 9 (.c (.lit (.int .u64 27))),q 6 11 (.idxA 1 32 (.c (C0c 0)) 10),L 7 12 11,q 8 13 (.conv .i64 12),M 9 2 13] [2] .ret)))
def a125:AFunc:=⟨1,c125,[.tmp 2]⟩
def c126:ACode :=
 (.s 0 [M 0 2 (.i 0)] [0] (.seq (.s 0 [M 0 3 0,B 1 4 .eql 3 (.c (.lit (.int .u64 0)))] [0,4] (.cond 4 (.s 0 [M 0 2 (.i 64)] [2] .ret) .skip)) (.s 0 [M 0 5 0,M 1 6 0,q 2 7 (.un .neg 6),B 3 8 .and 5 7,B 4 9 .mul 8 (.c (.lit (.int .u64 285870213051353865))),B 5 10 .shr 9 (.c (.lit (.int .u64 58))),q 6 11 (.idxA 1 64 (.c (C0c 1)) 10),L 7 12 11,q 8 13 (.conv .i64 12),M 9 2 13] [2] .ret)))
def a126:AFunc:=⟨1,c126,[.tmp 2]⟩
def c127:ACode :=
 (.s 0 [M 0 2 (.b false)] [0] (.s 0 [M 0 3 0,M 1 4 0,B 2 5 .neq 3 4,M 3 2 5] [2] .ret))
def a127:AFunc:=⟨1,c127,[.tmp 2]⟩
def tab:Tab:=fun n=>match n with
 | 7=>some a7
 | 17=>some a17
 | 19=>some a19
 | 21=>some a21
 | 23=>some a23
 | 24=>some a24
 | 26=>some a26
 | 27=>some a27
 | 29=>some a29
 | 31=>some a31
 | 33=>some a33
 | 34=>some a34
 | 36=>some a36
 | 38=>some a38
 | 40=>some a40
 | 41=>some a41
 | 42=>some a42
 | 61=>some a61
 | 62=>some a62
 | 63=>some a63
 | 64=>some a64
 | 65=>some a65
 | 66=>some a66
 | 67=>some a67
 | 68=>some a68
 | 69=>some a69
 | 70=>some a70
 | 71=>some a71
 | 72=>some a72
 | 73=>some a73
 | 74=>some a74
 | 75=>some a75
 | 81=>some a81
 | 82=>some a82
 | 83=>some a83
 | 86=>some a86
 | 87=>some a87
 | 88=>some a88
 | 89=>some a89
 | 90=>some a90
 | 91=>some a91
 | 93=>some a93
 | 95=>some a95
 | 96=>some a96
 | 97=>some a97
 | 100=>some a100
 | 102=>some a102
 | 104=>some a104
 | 105=>some a105
 | 106=>some a106
 | 107=>some a107
 | 108=>some a108
 | 112=>some a112
 | 113=>some a113
 | 114=>some a114
 | 115=>some a115
 | 116=>some a116
 | 117=>some a117
 | 118=>some a118
 | 119=>some a119
 | 121=>some a121
 | 122=>some a122
 | 123=>some a123
 | 124=>some a124
 | 125=>some a125
 | 126=>some a126
 | 127=>some a127
 | _=>none
end Cd
end Go.Proofs.YtbheamjhjgoccaaDoor
end
