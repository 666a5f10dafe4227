/- Texts that the claim stands on, one behind another. -/
import Derived.Test.YtbheamjhjgoccaaDoorA2
import Derived.IntWalk
import Derived.ChangeArms
import Derived.ChangeReads
import Derived.OpenShut
import Derived.WideShapes
set_option linter.unusedVariables false
set_option linter.unusedSimpArgs false
set_option linter.unnecessarySimpa false
section
namespace Am
open Go
section
variable {p g:Nat} {G:A7} (hG:G.length = g)
include hG
theorem X9 {B B':Nat} (hB:ScB p g B B') {H:A7} (hp:p≤H.length) (v:AV):A36 B' (G8 p g G H) (ren p g v) = (A36 B H v).map (ren2 p g G):= by
 cases v with
 | asl b n =>
  have hf:=C5x hG hp (.asl b n)
  simp only [ren] at hf
  simp only [ren,A36,A74 hG hp,hB.le]
  cases A4j H b with
  | none=>exact hf
  | some y =>
   obtain ⟨k,q,rows⟩:=y
   cases q with
   | true=>exact hf
   | false =>
    simp only [Option.map_some,V9]
    split
    ·split
     ·simp only [Option.map_some,ren2,ren,← S6 hG hp,P7]
     ·rfl
    ·exact hf
 | nils k=>simp [ren,A36,ren2,renR]
 | _=>simp [ren,A36,ren2]
omit hG
theorem C10 {B:Nat} {H:A7} {v:AV} {r:AV × A7} (h:A36 B H v = some r):r.2.length = H.length:= by
 cases v with
 | asl b n =>
  simp only [A36] at h
  split at h
  ·split at h
   ·split at h
    ·simp only [Option.some.injEq] at h; subst h; exact L8 ..
    ·cases h
   ·exact B54 h
  ·exact B54 h
 | nils k=>simp only [A36,Option.some.injEq] at h; subst h; rfl
 | _=>simp only [A36,Option.some.injEq] at h; subst h; rfl
theorem C41 {B:Nat}:∀{l:List AV} {H:A7} {r:List AV × A7},A1r B H l = some r→r.2.length = H.length
 | [],H,r,h=>by simp only [A1r,Option.some.injEq] at h; subst h; rfl
 | v :: l,H,r,h=>by
  simp only [A1r] at h
  split at h
  ·cases h
  ·next v' H' e1 =>
   split at h
   ·cases h
   ·next l' H'' e2 =>
    simp only [Option.some.injEq] at h; subst h
    have:=C10 e1; have:=C41 e2; simp_all
theorem C74 {B:Nat} {H:A7} {v:AV} {r:AV × A7} (h:A1k B H v = some r):r.2.length = H.length:= by
 cases v with
 | agg cs =>
  simp only [A1k,Option.map_eq_some_iff] at h
  obtain ⟨x,h1,rfl⟩:=h; exact C41 h1
 | _=>simp only [A1k] at h; exact C10 h
theorem C43 {B:Nat}:∀{l:List AV} {H:A7} {r:List AV × A7},A0n B H l = some r→r.2.length = H.length
 | [],H,r,h=>by simp only [A0n,Option.some.injEq] at h; subst h; rfl
 | v :: l,H,r,h=>by
  simp only [A0n] at h
  split at h
  ·cases h
  ·next v' H' e1 =>
   split at h
   ·cases h
   ·next l' H'' e2 =>
    simp only [Option.some.injEq] at h; subst h
    have:=C74 e1; have:=C43 e2; simp_all
include hG
theorem C42 {B B':Nat} (hB:ScB p g B B'):∀(l:List AV) {H:A7} (hp:p≤H.length),A1r B' (G8 p g G H) (renL p g l) = (A1r B H l).map fun r=>(renL p g r.1,G8 p g G r.2)
 | [],H,hp=>by simp [A1r,renL]
 | v :: l,H,hp=>by
  simp only [renL,A1r,X9 hG hB hp]
  cases e:A36 B H v with
  | none=>rfl
  | some r =>
   simp only [Option.map_some,ren2]
   rw [C42 hB l (by rw [C10 e]; exact hp)]
   cases A1r B r.2 l with
   | none=>rfl
   | some q=>simp [renL]
theorem D6b {B B':Nat} (hB:ScB p g B B') {H:A7} (hp:p≤H.length) (v:AV):A1k B' (G8 p g G H) (ren p g v) = (A1k B H v).map (ren2 p g G):= by
 cases v with
 | agg cs =>
  simp only [ren,A1k,C42 hG hB cs hp]
  cases A1r B H cs <;> simp [ren2,ren]
 | nils k=>have:=X9 hG hB hp (.nils k); simpa [ren,A1k] using this
 | lit u=>have:=X9 hG hB hp (.lit u); simpa [ren,A1k] using this
 | seq k rows=>have:=X9 hG hB hp (.seq k rows); simpa [ren,A1k] using this
 | xseq k rows=>have:=X9 hG hB hp (.xseq k rows); simpa [ren,A1k] using this
 | ptr b o=>have:=X9 hG hB hp (.ptr b o); simpa [ren,A1k] using this
 | itr b=>have:=X9 hG hB hp (.itr b); simpa [ren,A1k] using this
 | eptr b n i o=>have:=X9 hG hB hp (.eptr b n i o); simpa [ren,A1k] using this
 | cptr cs=>have:=X9 hG hB hp (.cptr cs); simpa [ren,A1k] using this
 | asl b n=>have:=X9 hG hB hp (.asl b n); simpa [ren,A1k] using this
 | csl b o k n=>have:=X9 hG hB hp (.csl b o k n); simpa [ren,A1k] using this
 | mp b=>have:=X9 hG hB hp (.mp b); simpa [ren,A1k] using this
 | fn f a c=>have:=X9 hG hB hp (.fn f a c); simpa [ren,A1k] using this
 | tup cs=>have:=X9 hG hB hp (.tup cs); simpa [ren,A1k] using this
 | fresh k rows=>have:=X9 hG hB hp (.fresh k rows); simpa [ren,A1k] using this
 | undef=>have:=X9 hG hB hp .undef; simpa [ren,A1k] using this
theorem C44 {B B':Nat} (hB:ScB p g B B'):∀(l:List AV) {H:A7} (hp:p≤H.length),A0n B' (G8 p g G H) (renL p g l) = (A0n B H l).map fun r=>(renL p g r.1,G8 p g G r.2)
 | [],H,hp=>by simp [A0n,renL]
 | v :: l,H,hp=>by
  simp only [renL,A0n,D6b hG hB hp]
  cases e:A1k B H v with
  | none=>rfl
  | some r =>
   simp only [Option.map_some,ren2]
   rw [C44 hB l (by rw [C74 e]; exact hp)]
   cases A0n B r.2 l with
   | none=>rfl
   | some q=>simp [renL]
theorem D1g {n0:Nat} (hn:p≤n0) {H:A7} (hp:p≤H.length) (own:List (Nat × Nat)) (j:Nat) (v:AV):inC (n0 + g) (G8 p g G H) own j (ren p g v) = ren2 p g G (inC n0 H own j v):= by
 cases v with
 | fresh k rows =>
  simp only [ren,inC]
  cases A1z j own with
  | none=>simp only [ren2,ren]
  | some r=>simp only [ren2,ren,rbn hn,V9,← A2x hG hp hn,P7]
 | _=>simp [ren,inC,ren2]
omit hG
theorem C54 {n0:Nat} {H:A7} (own:List (Nat × Nat)) (j:Nat) (v:AV):(inC n0 H own j v).2.length = H.length:= by
 cases v with
 | fresh k rows=>simp only [inC]; cases A1z j own <;> simp [L8]
 | _=>simp [inC]
theorem C7o {n0:Nat} (own:List (Nat × Nat)):∀(l:List AV) (j:Nat) (H:A7),(A6o n0 H own j l).2.length = H.length
 | [],j,H=>rfl
 | v :: l,j,H=>by simp only [A6o]; rw [C7o own l]; exact C54 ..
theorem D1j {n0:Nat} {H:A7} (own:List (Nat × Nat)) (v:AV):(inV n0 H own v).2.length = H.length:= by
 cases v with
 | agg cs=>simp only [inV]; exact C7o ..
 | _=>simp only [inV]; exact C54 ..
theorem C02 {n0:Nat}:∀(l:List AV) (own:List (List (Nat × Nat))) (H:A7),(A1e n0 H l own).2.length = H.length
 | [],own,H=>rfl
 | v :: l,own,H=>by simp only [A1e]; rw [C02 l]; exact D1j ..
include hG
theorem C7q {n0:Nat} (hn:p≤n0) (own:List (Nat × Nat)):∀(l:List AV) (j:Nat) {H:A7} (hp:p≤H.length),A6o (n0 + g) (G8 p g G H) own j (renL p g l) = (renL p g (A6o n0 H own j l).1,G8 p g G (A6o n0 H own j l).2)
 | [],j,H,hp=>by simp [A6o,renL]
 | v :: l,j,H,hp=>by
  simp only [renL,A6o,D1g hG hn hp,ren2]
  rw [C7q hn own l (j + 1) (by rw [C54]; exact hp)]
theorem D7p {n0:Nat} (hn:p≤n0) {H:A7} (hp:p≤H.length) (own:List (Nat × Nat)) (v:AV):inV (n0 + g) (G8 p g G H) own (ren p g v) = ren2 p g G (inV n0 H own v):= by
 cases v with
 | agg cs=>simp only [ren,inV,C7q hG hn own cs 0 hp,ren2]
 | fresh k rows=>have:=D1g hG hn hp own 0 (.fresh k rows); simpa [ren,inV] using this
 | _=>simp [ren,inV,inC,ren2]
theorem C03 {n0:Nat} (hn:p≤n0):∀(l:List AV) (own:List (List (Nat × Nat))) {H:A7} (hp:p≤H.length),A1e (n0 + g) (G8 p g G H) (renL p g l) own = (renL p g (A1e n0 H l own).1,G8 p g G (A1e n0 H l own).2)
 | [],own,H,hp=>by simp [A1e,renL]
 | v :: l,own,H,hp=>by
  simp only [renL,A1e,D7p hG hn hp,ren2]
  rw [C03 hn l own.tail (by rw [D1j]; exact hp)]
omit hG
theorem C12 (l:List AV):packed (renL p g l) = ren p g (packed l):= by
 cases l with
 | nil=>simp [renL,packed,ren]
 | cons v l=>cases l <;> simp [renL,packed,ren]
theorem C7r {H:A7} (hp:p≤H.length) {B:Nat} (hB:p≤B) (hG:G.length = g):(G8 p g G H).take (B + g) = G8 p g G (H.take B):= by
 unfold G8
 have hl:((H.take p).map (P7 p g)).length = p:= by simp; omega
 rw [List.take_append,hl,List.take_of_length_le (by rw [hl]; omega),List.take_append,hG,List.take_of_length_le (l:=G) (by omega),List.take_take,Nat.min_eq_left hB]
 congr 2
 rw [← List.map_take,List.drop_take]
 congr 2; omega
theorem C5c {B B':Nat} (hB:p≤B) (hB':B' = B + g) {H:A7} (hp:p≤H.length) (hG:G.length = g) (rs:List AV):trunc B' (renL p g rs) (G8 p g G H) = G8 p g G (trunc B rs H):= by
 subst hB'
 unfold trunc
 rw [bdL_ren (.inr (.inl ⟨hB,rfl⟩))]
 split
 ·exact C7r hp hB hG
 ·rfl
theorem C5b {B:Nat} (hB:p≤B) {H:A7} (hp:p≤H.length) (rs:List AV):p≤(trunc B rs H).length:= by
 unfold trunc; split
 ·rw [List.length_take]; omega
 ·exact hp
include hG
theorem C0z {H:A7} (hp:p≤H.length):∀l:List Nat,hide (G8 p g G H) (l.map (rb p g)) = G8 p g G (hide H l)∧(hide H l).length = H.length
 | []=>⟨rfl,rfl⟩
 | b :: l=>by
  obtain ⟨h1,h2⟩:=C0z hp l
  constructor
  ·simp only [List.map_cons,hide,h1]
   rw [← S6 hG (by rw [h2]; exact hp)]; simp only [P7]
  ·simp only [hide,L8,h2]
theorem C2w {H0 H:A7} (hp0:p≤H0.length) (hp:p≤H.length):∀l:List Nat,unhide (G8 p g G H0) (G8 p g G H) (l.map (rb p g)) = G8 p g G (unhide H0 H l)∧(unhide H0 H l).length = H.length
 | []=>⟨rfl,rfl⟩
 | b :: l=>by
  obtain ⟨h1,h2⟩:=C2w hp0 hp l
  simp only [List.map_cons,unhide,A2w hG hp0,h1]
  cases hget H0 b with
  | none=>exact ⟨rfl,h2⟩
  | some o =>
   simp only [Option.map_some]
   exact ⟨S6 hG (by rw [h2]; exact hp) b o,by rw [L8,h2]⟩
omit hG
theorem C5q (v:AV):(ren p g v).box? = v.box?.map (rb p g):= by cases v <;> simp [ren,AV.box?]
include hG
theorem C0w {H:A7} (hp:p≤H.length):∀(l:List Nat) (b:Nat),follow (G8 p g G H) (rb p g b) l = (follow H b l).map (rb p g)
 | [],b=>rfl
 | o :: l,b=>by
  simp only [follow,B1f hG hp]
  cases hcells H b with
  | none=>rfl
  | some cs =>
   simp only [Option.map_some,B63]
   cases h:cs[o]? with
   | none=>rfl
   | some v =>
    simp only [Option.map_some,Option.bind_some,C5q]
    cases v.box? with
    | none=>rfl
    | some b'=>exact C0w hp l b'
theorem C8x (s:C9) {H:A7} (hp:p≤H.length):∀l:List (Nat × List Nat),ways (U3 p g s) (G8 p g G H) l = (ways s H l).map (List.map (rb p g))
 | []=>rfl
 | x :: l=>by
  simp only [ways,B02]
  cases sget s x.1 with
  | none=>rfl
  | some v =>
   simp only [Option.map_some,Option.bind_some,C5q]
   cases v.box? with
   | none=>rfl
   | some b =>
    simp only [Option.map_some,C0w hG hp,C8x s hp l]
    cases follow H b x.2 with
    | none=>rfl
    | some b'=>cases ways s H l <;> rfl
omit hG
theorem C23 (op:AOp):writes (L6 p g op) = writes op:= by cases op <;> rfl
theorem D7y {n0:Nat} (hn:p≤n0) (l:List Nat):l.map (n0 + g + ·) = (l.map (n0 + ·)).map (rb p g):= by
 rw [List.map_map]; congr 1; funext r; simp only [Function.comp_def]; exact (rbn hn r).symm
theorem C6x {B B':Nat} (h:ScB p g B B') (l:List Nat):((l.map (rb p g)).all fun b=>Nat.blt b B') = l.all fun b=>Nat.blt b B:= by
 rw [List.all_map]; congr 1; funext b; exact h.lt b
include hG
theorem D5g {n0:Nat} (hn:p≤n0) (s:C9) {H:A7} (hp:p≤H.length) (o:AOper):A5t (n0 + g) (U3 p g s) (G8 p g G H) (A2q p g o) = (A5t n0 s H o).map (List.map (rb p g)):= by
 unfold A5t
 simp only [A2q,D7y hn]
 obtain ⟨h1,h2⟩:=C0z hG hp (o.hid.map (n0 + ·))
 rw [h1,C8x hG s (by rw [h2]; exact hp)]
 cases ways s (hide H (o.hid.map (n0 + ·))) o.hida with
 | none=>rfl
 | some bs =>
  simp only [Option.map_some,C23,← List.map_append]
  rw [C6x (.inr (.inl ⟨hp,A61 hG hp⟩))]
  split <;> rfl
omit hG
theorem C87 (op:AOp):T9 (L6 p g op) = (T9 op).map (F6 p g):= by cases op <;> rfl
theorem D6o (s:C9) (op:AOp):rbox (U3 p g s) (L6 p g op) = (rbox s op).map (rb p g):= by
 unfold rbox; rw [C87]
 cases T9 op with
 | none=>rfl
 | some x =>
  simp only [Option.map_some,Option.bind_some,K7]
  cases ev s x with
  | none=>rfl
  | some v=>exact C5q v
theorem C5t (l:List Nat) (b:Nat):(l.map (rb p g)).contains (rb p g b) = l.contains b:= by
 induction l with
 | nil=>rfl
 | cons a l ih=>simp only [List.map_cons,List.contains_cons,ih,E0b]
abbrev hcR (p g:Nat) (hc:List (Option (List Nat))):List (Option (List Nat)):=hc.map (Option.map (List.map (rb p g)))
theorem D0m (s:C9) (o:AOper) (hc:List (Option (List Nat))):P9 (U3 p g s) (A2q p g o) (hcR p g hc) = P9 s o hc:= by
 unfold P9
 simp only [A2q,D6o]
 cases rbox s o.op with
 | none=>rfl
 | some b =>
  simp only [Option.map_some,hcR,← List.map_take,List.all_map]
  congr 1; funext e
  cases e with
  | none=>rfl
  | some hs=>simp only [Function.comp_def,Option.map_some,C5t]
theorem D0t (s:C9) (x:Option (Nat × Bool)):wanted (U3 p g s) x = wanted s x:= by
 cases x with
 | none=>rfl
 | some x =>
  simp only [wanted,B02]
  cases sget s x.1 with
  | none=>rfl
  | some v=>cases v with
   | lit u=>cases u <;> simp [ren]
   | tup cs=>cases cs <;> simp [ren,renL]
   | _=>simp [ren]
theorem C2p (s:C9) (d:Option Nat) (v:AV):sput (U3 p g s) d (ren p g v) = U3 p g (sput s d v):= by cases d <;> rfl
omit hG in
theorem C7i {H H':A7} {v:AV} (h:A2h H v = some H'):H'.length = H.length:= by
 have other:(A0m H v).map (·.2) = some H'→H'.length = H.length:= by
  intro h0
  obtain ⟨r,h1,h2⟩:=Option.map_eq_some_iff.1 h0
  subst h2
  exact B2u h1
 cases v with
 | ptr b off =>
  simp only [A2h] at h
  split at h
  ·split at h
   ·next e =>
    split at h
    ·simp only [Option.some.injEq] at h
     subst h
     rw [L8]
     exact B0h e
    ·cases h
   ·cases h
  ·cases h
 | _=>exact other h
include hG
theorem C7j {H:A7} (hp:p≤H.length) (v:AV):A2h (G8 p g G H) (ren p g v) = (A2h H v).map (G8 p g G):= by
 have other:(A0m (G8 p g G H) (ren p g v)).map (·.2) = ((A0m H v).map (·.2)).map (G8 p g G):= by
  rw [B52 hG hp]
  cases A0m H v <;> rfl
 cases v with
 | ptr b off =>
  simp only [ren,A2h,A9i hG hp]
  cases A1t H b with
  | none=>rfl
  | some cs =>
   simp only [Option.map_some,B53 hG cs hp]
   cases e:A1d H cs with
   | none=>rfl
   | some r =>
    have hp':p≤r.2.length:= by rw [B0h e]; exact hp
    simp only [Option.map_some,A9i hG hp']
    cases A1t r.2 b with
    | none=>rfl
    | some cs1=>simp only [Option.map_some,← S6 hG hp',P7]
 | _=>first | exact other | (simp only [ren] at other; simp only [ren,A2h]; exact other)
theorem B8y (s:C9):∀(l:List Nat) {H:A7} (hp:p≤H.length),publish (U3 p g s) (G8 p g G H) l = (publish s H l).map (G8 p g G)∧∀ H',publish s H l = some H'→H'.length = H.length
 | [],H,hp=>⟨rfl,fun H' h=>by simp only [publish,Option.some.injEq] at h; subst h; rfl⟩
 | t :: l,H,hp=>by
  simp only [publish,B02]
  cases sget s t with
  | none=>exact ⟨rfl,fun H' h=>by cases h⟩
  | some v =>
   simp only [Option.map_some,C7j hG hp]
   cases e:A2h H v with
   | none=>exact ⟨rfl,fun H' h=>by cases h⟩
   | some r =>
    have hl:=C7i e
    obtain ⟨h1,h2⟩:=B8y s l (H:=r) (by rw [hl]; exact hp)
    exact ⟨h1,fun H' h=>by rw [h2 H' h,hl]⟩
theorem C15 {H:A7} (hp:p≤H.length) (v:AV):pubbed (G8 p g G H) (ren p g v) = pubbed H v:= by
 cases v with
 | asl b n=>simp only [ren,pubbed,A8j hG hp]; cases harr H b <;> rfl
 | _=>simp [ren,pubbed]
theorem C79 {H:A7} (hp:p≤H.length) (v:AV):X0 (G8 p g G H) (ren p g v) = X0 H v:= by
 cases v with
 | agg cs =>
  simp only [ren,X0,T7,List.all_map]
  congr 1; funext x; exact C15 hG hp x
 | asl b n=>have:=C15 hG hp (.asl b n); simpa [ren,X0] using this
 | _=>simp [ren,X0,pubbed]
omit hG
theorem C8v (o:AO):(P7 p g o).toRo = P7 p g o.toRo:= by
 cases o <;> simp [P7,AO.toRo]
theorem D9j (H:A7):(G8 p g G H).map AO.toRo = G8 p g (G.map AO.toRo) (H.map AO.toRo):= by
 unfold G8
 simp only [List.map_append,List.map_map,List.map_take,List.map_drop]
 congr 2
 ·congr 1; funext o; exact C8v o
 ·congr 2; funext o; exact C8v o
theorem B3i (hG:G.length = g) (s:C9) {H:A7} (hp:p≤H.length):∀l:List ARes,results (U3 p g s) (G8 p g G H) l = (results s H l).map (renL p g)
 | []=>by simp [results,renL]
 | .tmp t :: l=>by
  simp only [results,B02,B3i hG s hp l]
  cases sget s t with
  | none=>rfl
  | some v=>cases results s H l <;> simp [renL]
 | .cell t k :: l=>by
  simp only [results,B3i hG s hp l]
  have h1:prim ⟨0,[]⟩ 0 (U3 p g s) (G8 p g G H) (.load k (.t t)) = prim ⟨0,[]⟩ (p + g) (U3 p g s) (G8 p g G H) (.load k (.t t)):= by cases k <;> rfl
  have h2:prim ⟨0,[]⟩ 0 s H (.load k (.t t)) = prim ⟨0,[]⟩ p s H (.load k (.t t)):= by cases k <;> rfl
  rw [h1,h2]
  have:=C77 hG (c:=⟨0,[]⟩) (c':=⟨0,[]⟩) ⟨.inl ⟨Nat.zero_le _,rfl⟩,.nil⟩ (Nat.le_refl p) hp s (.load k (.t t))
  simp only [L6,F6] at this
  rw [this]
  cases prim ⟨0,[]⟩ p s H (.load k (.t t)) with
  | none=>rfl
  | some r=>cases results s H l <;> simp [renL,ren2]
theorem B5p:∀(l:List AV) (i:Nat),Q3 i (renL p g l) = U3 p g (Q3 i l)
 | [],i=>by simp [renL,Q3,U3]
 | v :: l,i=>by simp only [renL,Q3,B5p l,U3,List.map_cons]
theorem A6e (s:C9):∀l:List Nat,restrict (U3 p g s) l = U3 p g (restrict s l)
 | []=>rfl
 | t :: l=>by
  simp only [restrict,B02,A6e s l]
  cases sget s t <;> rfl
theorem C3y {B B':Nat} (h:ScB p g B B'):∀s:C9,A5v B' (U3 p g s) = A5v B s
 | []=>rfl
 | x :: s=>by simp only [U3,List.map_cons,A5v,bd_ren h]; rw [← U3,C3y h s]
theorem D1m {H:A7} (hp:p≤H.length) (l:List AO):G8 p g G (H++l) = G8 p g G H++l.map (P7 p g):= by
 unfold G8
 rw [List.take_append_of_le_length hp,List.drop_append_of_le_length hp]
 simp only [List.map_append,List.append_assoc]
theorem C8e (a b:List AV):renL p g (a++b) = renL p g a++renL p g b:= by simp only [T7,List.map_append]
structure RenM (p g:Nat) (M:Mach):Prop where
 call:∀{G:A7},G.length = g→∀ {c c':Sc} {H:A7} {f:AV} {aq rs:List AV} {H':A7},ScR p g c c'→p≤H.length→M.call c H f aq = some (rs,H')→M.call c' (G8 p g G H) (ren p g f) (renL p g aq) = some (renL p g rs,G8 p g G H')∧p≤H'.length
 code:∀{G:A7},G.length = g→∀ {ac:ACode} {st:St} {e:Ex} {st':St} {c':Sc},ScR p g st.c c'→p≤st.H.length→M.code ac st = some (e,st') →
  M.code (M1 p g ac) ⟨U3 p g st.s,G8 p g G st.H,c'⟩ = some (e,⟨U3 p g st'.s,G8 p g G st'.H,c'⟩)∧p≤st'.H.length∧st'.c = st.c
theorem D6m {c:Sc} {n0:Nat} {s:C9} {H:A7} {op:AOp} {r:AV × A7} (h:prim c n0 s H op = some r):r.2.length = H.length:= by
 cases op
 case alloc zs owns q=>simp only [prim,Option.some.injEq] at h; subst h; simp only [L8,B3m]
 case nil=>simp only [prim,Option.some.injEq] at h; subst h; exact L8 ..
 case mkmap=>simp only [prim,Option.some.injEq] at h; subst h; exact L8 ..
 case call=>cases h
 case mv=>simp only [prim,Option.map_eq_some_iff] at h; obtain ⟨_,_,rfl⟩:=h; rfl
 case build=>simp only [prim,Option.bind_eq_some_iff,Option.map_eq_some_iff] at h; obtain ⟨_,_,_,_,rfl⟩:=h; rfl
 case xlits=>simp only [prim,Option.bind_eq_some_iff,Option.map_eq_some_iff] at h; obtain ⟨_,_,_,_,rfl⟩:=h; rfl
 case lits k z n parts own =>
  simp only [prim,Option.bind_eq_some_iff] at h
  obtain ⟨_,_,_,_,h⟩:=h
  split at h
  ·cases own <;> simp only [Option.some.injEq] at h <;> subst h
   ·rfl
   ·exact L8 ..
  ·cases h
 case load k a =>
  cases k <;> simp only [prim] at h
  ·split at h
   ·split at h
    ·simp only [Option.some.injEq] at h; subst h; rfl
    ·cases h
   ·cases h
  ·split at h
   ·split at h
    ·split at h
     ·simp only [Option.some.injEq] at h; subst h; rfl
     ·cases h
    ·cases h
   ·cases h
 case storeN a k r =>
  simp only [prim] at h
  split at h
  ·split at h
   ·split at h
    ·simp only [Option.some.injEq] at h; subst h; simp only [L8]
    ·cases h
   ·cases h
  ·cases h
 case store k a v =>
  simp only [prim] at h
  split at h
  ·split at h
   ·split at h
    ·simp only [Option.some.injEq] at h; subst h; exact L8 ..
    ·cases h
   ·cases h
  ·split at h
   ·cases h
   ·next e1 =>
    have hl:=B0h e1
    split at h
    ·split at h
     ·split at h
      ·simp only [Option.some.injEq] at h; subst h; simp only [L8]; exact hl
      ·cases h
     ·cases h
    ·cases h
  ·cases h
 case mvz x =>
  simp only [prim] at h
  split at h
  ·exact B2u h
  ·cases h
 case sliceL kk x lo hi =>
  simp only [prim] at h
  split at h
  ·split at h
   ·next e1 =>
    have hl:=B2u e1
    split at h
    ·split at h
     ·simp only [Option.some.injEq] at h; subst h; exact hl
     ·cases h
    ·cases h
   ·cases h
  ·cases h
 all_goals
  simp only [prim] at h
  repeat' split at h
  all_goals first
   | (cases h; done)
   | (simp only [Option.some.injEq] at h; subst h; first | rfl | exact L8 .. | (simp only [L8]; done))
   | (simp only [Option.map_eq_some_iff] at h; obtain ⟨_,_,rfl⟩:=h; first | rfl | exact L8 ..)
theorem C9b {M:Mach} (hM:RenM p g M) (hG:G.length = g) {c c':Sc} (hc:ScR p g c c') {n0:Nat} (hn:p≤n0) {s:C9} {H:A7} (hp:p≤H.length) {f:Opd} {args:List Opd} {own:List (List (Nat × Nat))} {pure:Bool} {r:AV × A7} (h:A0o M c n0 s H f args own pure = some r) :
  A0o M c' (n0 + g) (U3 p g s) (G8 p g G H) (F6 p g f) (args.map (F6 p g)) own pure = some (ren2 p g G r)∧p≤r.2.length:= by
 unfold A0o at h ⊢
 rw [K7,B9u]
 split at h
 ·next fv aq e1 e2 =>
  simp only [e1,e2,Option.map_some]
  cases pure with
  | true =>
   simp only [if_true] at h ⊢
   have e0:(renL p g aq).all (X0 (G8 p g G H)) = aq.all (X0 H):= by
    rw [T7,List.all_map]; congr 1; funext v; exact C79 hG hp v
   rw [e0]
   split at h
   ·next h0 =>
    simp only [h0,if_true]
    rw [B7v hG aq hp]
    split at h
    ·cases h
    ·next as' H1 e3 =>
     simp only [e3,Option.map_some]
     split at h
     ·cases h
     ·next rs H2 e4 =>
      have:=hM.call (G:=G.map AO.toRo) (by simpa using hG) hc (by simpa using hp) e4
      rw [D9j,this.1]
      simp only
      rw [A61 hG hp,bdL_ren (.inr (.inl ⟨hp,rfl⟩))]
      split at h
      ·next h5 =>
       simp only [h5,if_true]
       simp only [Option.some.injEq] at h; subst h
       rw [C03 hG hn rs own hp]
       exact ⟨by simp only [C12],by rw [C02]; exact hp⟩
      ·cases h
   ·cases h
  | false =>
   simp only [Bool.false_eq_true,if_false] at h ⊢
   rw [B7v hG aq hp]
   split at h
   ·cases h
   ·next as' H1 e3 =>
    have hl:=C4e e3
    simp only at hl
    simp only [e3,Option.map_some]
    split at h
    ·cases h
    ·next rs H2 e4 =>
     have:=hM.call hG hc (by rw [hl]; exact hp) e4
     rw [this.1]
     simp only [Option.some.injEq] at h; subst h
     simp only
     rw [C03 hG hn rs own this.2]
     exact ⟨by simp only [C12],by rw [C02]; exact this.2⟩
 ·cases h
theorem D41 {M:Mach} (hM:RenM p g M) (hG:G.length = g) {c c':Sc} (hc:ScR p g c c') {n0:Nat} (hn:p≤n0) {s:C9} {H:A7} (hp:p≤H.length) {op:AOp} {r:AV × A7} (h:core M c n0 s H op = some r) :
  core M c' (n0 + g) (U3 p g s) (G8 p g G H) (L6 p g op) = some (ren2 p g G r)∧p≤r.2.length:= by
 have hk:(∃ f args own pure,op = .call f args own pure)∨((∀ (M:Mach) (c:Sc) (n0:Nat) (s:C9) (H:A7),core M c n0 s H op = prim c n0 s H op)∧∀ (M:Mach) (c:Sc) (n0:Nat) (s:C9) (H:A7),core M c n0 s H (L6 p g op) = prim c n0 s H (L6 p g op)):= by
  cases op <;> first
   | exact .inl ⟨_,_,_,_,rfl⟩
   | exact .inr ⟨fun _ _ _ _ _=>rfl,fun _ _ _ _ _=>rfl⟩
 rcases hk with ⟨f,args,own,pure,rfl⟩ | ⟨h1,h2⟩
 ·exact C9b hM hG hc hn hp h
 ·rw [h1] at h
  rw [h2,C77 hG hc hn hp s op,h]
  exact ⟨rfl,by rw [D6m h]; exact hp⟩
theorem D6a {M:Mach} (hM:RenM p g M) (hG:G.length = g) {c c':Sc} (hc:ScR p g c c') {n0:Nat} (hn:p≤n0) {s:C9} {H:A7} (hp:p≤H.length) {hc0:List (Option (List Nat))} {o:AOper} {s1:C9} {H1:A7} {hc1:List (Option (List Nat))} (h:oper M c n0 s H hc0 o = some (s1,H1,hc1)) :
  oper M c' (n0 + g) (U3 p g s) (G8 p g G H) (hcR p g hc0) (A2q p g o) = some (U3 p g s1,G8 p g G H1,hcR p g hc1)∧p≤H1.length:= by
 unfold oper at h ⊢
 have hw:wanted (U3 p g s) (A2q p g o).guard = wanted s o.guard:=D0t s o.guard
 have hwr:writes (A2q p g o).op = writes o.op:=C23 o.op
 rw [hw,D5g hG hn s hp o,D0m,hwr]
 split at h
 ·cases h
 ·next e0 =>
  simp only [Option.some.injEq,Prod.mk.injEq] at h
  obtain ⟨rfl,rfl,rfl⟩:=h
  try simp only [e0]
  refine ⟨?_,hp⟩
  have:sput (U3 p g s) (A2q p g o).dst (.tup []) = U3 p g (sput s o.dst (.tup [])):= by
   have:=C2p (p:=p) (g:=g) s o.dst (.tup []); simpa [ren,renL,A2q] using this
  rw [this]
  cases writes o.op <;> rfl
 ·next e0 =>
  try simp only [e0]
  split at h
  ·next hs e1 e2 =>
   simp only [e1,e2,Option.map_some]
   obtain ⟨k1,k2⟩:=C0z hG hp hs
   rw [k1]
   split at h
   ·next r e3 =>
    obtain ⟨k3,k4⟩:=D41 hM hG hc hn (by rw [k2]; exact hp) e3
    have e4:(A2q p g o).op = L6 p g o.op:=rfl
    rw [e4,k3]
    simp only
    have hE:(hs.map (rb p g)).isEmpty = hs.isEmpty:= by cases hs <;> rfl
    have hL:Nat.ble (G8 p g G H).length (G8 p g G r.2).length = Nat.ble H.length r.2.length:= by
     rw [A61 hG hp,A61 hG k4]
     cases h1:Nat.ble H.length r.2.length with
     | true=>exact Nat.ble_eq_true_of_le (by have:=Nat.le_of_ble_eq_true h1; omega)
     | false =>
      cases h2:Nat.ble (H.length + g) (r.2.length + g) with
      | false=>rfl
      | true =>
       have:=Nat.le_of_ble_eq_true h2
       have:=Nat.ble_eq_true_of_le (show H.length≤r.2.length by omega)
       rw [h1] at this; cases this
    rw [hE,hL]
    split at h
    ·next h5 =>
     simp only [h5,if_true]
     simp only [Option.some.injEq,Prod.mk.injEq] at h
     obtain ⟨rfl,rfl,rfl⟩:=h
     obtain ⟨k5,k6⟩:=C2w hG hp k4 hs
     refine ⟨?_,by rw [k6]; exact k4⟩
     rw [k5]
     have:sput (U3 p g s) (A2q p g o).dst (ren2 p g G r).1 = U3 p g (sput s o.dst r.1):=C2p s o.dst r.1
     rw [this]
     cases writes o.op <;> rfl
    ·cases h
   ·cases h
  ·cases h
theorem C40 {M:Mach} (hM:RenM p g M) (hG:G.length = g) {c c':Sc} (hc:ScR p g c c') {n0:Nat} (hn:p≤n0):∀{l:List AOper} {s:C9} {H:A7} (hp:p≤H.length) {hc0:List (Option (List Nat))} {s1:C9} {H1:A7},opers M c n0 l s H hc0 = some (s1,H1) →
  opers M c' (n0 + g) (l.map (A2q p g)) (U3 p g s) (G8 p g G H) (hcR p g hc0) = some (U3 p g s1,G8 p g G H1)∧p≤H1.length
 | [],s,H,hp,hc0,s1,H1,h=>by
  simp only [opers,Option.some.injEq,Prod.mk.injEq] at h
  obtain ⟨rfl,rfl⟩:=h
  exact ⟨rfl,hp⟩
 | o :: l,s,H,hp,hc0,s1,H1,h=>by
  simp only [opers,List.map_cons] at h ⊢
  split at h
  ·cases h
  ·next s2 H2 hc2 e1 =>
   obtain ⟨k1,k2⟩:=D6a hM hG hc hn hp e1
   simp only [k1]
   exact C40 hM hG hc hn k2 h
theorem C5r {M:Mach} (hM:RenM p g M) (hG:G.length = g) {ac:ACode} {st:St} {e:Ex} {st':St} {c':Sc} (hc:ScR p g st.c c') (hp:p≤st.H.length) (h:G4 M st ac = some (e,st')) :
  G4 M ⟨U3 p g st.s,G8 p g G st.H,c'⟩ (M1 p g ac) = some (e,⟨U3 p g st'.s,G8 p g G st'.H,c'⟩)∧p≤st'.H.length∧st'.c = st.c:= by
 cases ac with
 | skip=>simp only [G4,Option.some.injEq,Prod.mk.injEq] at h; obtain ⟨rfl,rfl⟩:=h; exact ⟨rfl,hp,rfl⟩
 | exit id=>simp only [G4,Option.some.injEq,Prod.mk.injEq] at h; obtain ⟨rfl,rfl⟩:=h; exact ⟨rfl,hp,rfl⟩
 | ret=>simp only [G4,Option.some.injEq,Prod.mk.injEq] at h; obtain ⟨rfl,rfl⟩:=h; exact ⟨rfl,hp,rfl⟩
 | scope a=>exact hM.code hG hc hp h
 | region d nres pre ops live =>
  simp only [G4,M1] at h ⊢
  obtain ⟨k1,k2⟩:=B8y hG st.s pre hp
  rw [k1]
  split at h
  ·next H e1 =>
   have hl:=k2 H e1
   simp only [e1,Option.map_some]
   split at h
   ·next r e2 =>
    simp only [Option.some.injEq,Prod.mk.injEq] at h
    obtain ⟨rfl,rfl⟩:=h
    have hp':p≤H.length:= by rw [hl]; exact hp
    have:=C40 hM hG hc (n0:=H.length) hp' (by simp; omega) e2
    rw [D1m hp',List.map_replicate] at this
    rw [A61 hG hp']
    simp only [P7,hcR,List.map_nil] at this
    rw [this.1]
    exact ⟨by simp only [A6e],this.2,rfl⟩
   ·cases h
  ·cases h
 | seq a b =>
  simp only [G4,M1] at h ⊢
  cases h1:M.code a st with
  | none=>simp [h1] at h
  | some q =>
   obtain ⟨e1,st1⟩:=q
   obtain ⟨k1,k2,k3⟩:=hM.code hG hc hp h1
   rw [h1] at h
   rw [k1]
   cases e1 with
   | normal =>
    simp only at h ⊢
    obtain ⟨k4,k5,k6⟩:=hM.code hG (c':=c') (by rw [k3]; exact hc) k2 h
    exact ⟨k4,k5,k6.trans k3⟩
   | exit id=>simp only [Option.some.injEq,Prod.mk.injEq] at h; obtain ⟨rfl,rfl⟩:=h; exact ⟨rfl,k2,k3⟩
   | ret=>simp only [Option.some.injEq,Prod.mk.injEq] at h; obtain ⟨rfl,rfl⟩:=h; exact ⟨rfl,k2,k3⟩
 | cond x a b =>
  simp only [G4,M1,K7] at h ⊢
  split at h
  ·next e1=>simp only [e1,Option.map_some,ren]; exact hM.code hG hc hp h
  ·next e1=>simp only [e1,Option.map_some,ren]; exact hM.code hG hc hp h
  ·cases h
 | block id a =>
  simp only [G4,M1] at h ⊢
  cases h1:M.code a st with
  | none=>simp [h1] at h
  | some q =>
   obtain ⟨e1,st1⟩:=q
   obtain ⟨k1,k2,k3⟩:=hM.code hG hc hp h1
   rw [h1] at h
   rw [k1]
   cases e1 with
   | exit j =>
    simp only at h ⊢
    split at h
    ·next hj=>simp only [hj,if_true]; simp only [Option.some.injEq,Prod.mk.injEq] at h; obtain ⟨rfl,rfl⟩:=h; exact ⟨rfl,k2,k3⟩
    ·next hj=>simp only [hj]; simp only [Option.some.injEq,Prod.mk.injEq] at h; obtain ⟨rfl,rfl⟩:=h; exact ⟨rfl,k2,k3⟩
   | normal=>simp only [Option.some.injEq,Prod.mk.injEq] at h; obtain ⟨rfl,rfl⟩:=h; exact ⟨rfl,k2,k3⟩
   | ret=>simp only [Option.some.injEq,Prod.mk.injEq] at h; obtain ⟨rfl,rfl⟩:=h; exact ⟨rfl,k2,k3⟩
 | loop tr live body =>
  simp only [G4,M1] at h ⊢
  rw [A61 hG hp,A6e]
  have hcb:ScR p g (if tr then { s:=restrict st.s live,H:=st.H,c:=⟨st.H.length,st.c.cur :: st.c.outer⟩ } else { st with s:=restrict st.s live }:St).c (if tr then ⟨st.H.length + g,c'.cur :: c'.outer⟩ else c'):= by
   cases tr with
   | true=>exact ⟨.inr (.inl ⟨hp,rfl⟩),.cons hc.cur hc.outer⟩
   | false=>exact hc
  cases h1:M.code body (if tr then { s:=restrict st.s live,H:=st.H,c:=⟨st.H.length,st.c.cur :: st.c.outer⟩ } else { st with s:=restrict st.s live }) with
  | none=>simp [h1] at h
  | some q =>
   obtain ⟨e1,st1⟩:=q
   obtain ⟨k1,k2,k3⟩:=hM.code hG hcb (by cases tr <;> exact hp) h1
   rw [h1] at h
   have k1':M.code (M1 p g body) (if tr then { s:=U3 p g (restrict st.s live),H:=G8 p g G st.H,c:=⟨st.H.length + g,c'.cur :: c'.outer⟩ } else { s:=U3 p g (restrict st.s live),H:=G8 p g G st.H,c:=c' }) = some (e1,⟨U3 p g st1.s,G8 p g G st1.H,if tr then ⟨st.H.length + g,c'.cur :: c'.outer⟩ else c'⟩):= by
    cases tr with
    | true=>simpa using k1
    | false=>simpa using k1
   rw [k1']
   cases e1 with
   | normal =>
    simp only [A6e] at h ⊢
    cases tr with
    | true =>
     simp only [if_true] at h ⊢
     rw [C3y (.inr (.inl ⟨hp,rfl⟩))]
     split at h
     ·next h5 =>
      simp only [h5,if_true]
      rw [C7r k2 hp hG]
      have:=hM.code hG (ac:=.loop true live body) (st:={ s:=restrict st1.s live,H:=st1.H.take st.H.length,c:=st.c }) (c':=c') hc (by rw [List.length_take]; omega) h
      exact this
     ·cases h
    | false =>
     simp only [Bool.false_eq_true,if_false] at h ⊢
     exact hM.code hG (ac:=.loop false live body) (st:={ s:=restrict st1.s live,H:=st1.H,c:=st.c }) (c':=c') hc k2 h
   | exit id=>simp only [Option.some.injEq,Prod.mk.injEq] at h; obtain ⟨rfl,rfl⟩:=h; exact ⟨rfl,k2,rfl⟩
   | ret=>simp only [Option.some.injEq,Prod.mk.injEq] at h; obtain ⟨rfl,rfl⟩:=h; exact ⟨rfl,k2,rfl⟩
 | rangeFunc f ps live assign body =>
  simp only [G4,M1,K7,A6e] at h ⊢
  split at h
  ·next i fa fc e1 =>
   simp only [e1,Option.map_some,ren,B62]
   split at h
   ·next rs H' e2 =>
    have:=hM.call hG hc (by simp; omega) e2
    rw [D1m hp] at this
    simp only [List.map_cons,List.map_nil,P7,ren,B62,renL] at this
    rw [A7b hp] at this
    rw [A61 hG hp,this.1]
    simp only
    have hg:hget (G8 p g G H') (st.H.length + g) = (hget H' st.H.length).map (P7 p g):= by rw [← A7b (g:=g) hp]; exact A2w hG this.2 _
    have hs:hset (G8 p g G H') (st.H.length + g) .dead = G8 p g G (hset H' st.H.length .dead):= by rw [← A7b (g:=g) hp,← S6 hG this.2]; simp only [P7]
    rw [hg,hs]
    split at h
    ·next e3 =>
     simp only [e3,Option.map_some,P7]
     simp only [Option.some.injEq,Prod.mk.injEq] at h; obtain ⟨rfl,rfl⟩:=h
     exact ⟨rfl,by rw [L8]; exact this.2,rfl⟩
    ·next e3 =>
     simp only [e3,Option.map_some,P7]
     simp only [Option.some.injEq,Prod.mk.injEq] at h; obtain ⟨rfl,rfl⟩:=h
     exact ⟨rfl,by rw [L8]; exact this.2,rfl⟩
    ·cases h
   ·cases h
  ·cases h
theorem C17:∀(l:List (Nat × AV)) (s:C9),(l.map fun x=>(x.1,ren p g x.2)).foldl (fun s x=>sput s (some x.1) x.2) (U3 p g s) = U3 p g (l.foldl (fun s x=>sput s (some x.1) x.2) s)
 | [],s=>rfl
 | x :: l,s=>by
  simp only [List.map_cons,List.foldl_cons,C2p]
  exact C17 l _
theorem B09 {T:Tab} (hT:∀i af,T i = some af→M1 p g af.body = af.body) {M:Mach} (hM:RenM p g M) (hG:G.length = g) {c c':Sc} {H:A7} {f:AV} {aq rs:List AV} {H':A7} (hc:ScBs p g (c.cur :: c.outer) (c'.cur :: c'.outer)) (hp:p≤H.length) (h:Q4 T M c H f aq = some (rs,H')) :
  Q4 T M c' (G8 p g G H) (ren p g f) (renL p g aq) = some (renL p g rs,G8 p g G H')∧p≤H'.length:= by
 have hcb:ScR p g ⟨H.length,c.cur :: c.outer⟩ ⟨(G8 p g G H).length,c'.cur :: c'.outer⟩:=⟨.inr (.inl ⟨hp,A61 hG hp⟩),hc⟩
 unfold Q4 at h
 split at h
 ·next i first cap =>
  simp only [ren,B62]
  unfold Q4
  simp only
  split at h
  ·cases h
  ·next af e1 =>
   try simp only [e1]
   try simp only at h
   have e2:renL p g first++renL p g aq++renL p g cap = renL p g (first++aq++cap):= by rw [C8e,C8e]
   rw [e2,A19]
   split at h
   ·next h5 =>
    simp only [h5,if_true]
    have fin:∀e1 st,(e1 = Ex.normal∨e1 = Ex.ret)→M.code af.body { s:=Q3 0 (first++aq++cap),H,c:=⟨H.length,c.cur :: c.outer⟩ } = some (e1,st)→(match results st.s st.H af.results with
      | none=>none
      | some rs=>match A0n H.length st.H rs with
       | none=>none
       | some (rs,H')=>some (rs,trunc H.length rs H')) = some (rs,H') →
      M.code af.body { s:=Q3 0 (renL p g (first++aq++cap)),H:=G8 p g G H,c:=⟨(G8 p g G H).length,c'.cur :: c'.outer⟩ } = some (e1,⟨U3 p g st.s,G8 p g G st.H,⟨(G8 p g G H).length,c'.cur :: c'.outer⟩⟩)∧(match results (U3 p g st.s) (G8 p g G st.H) af.results with
      | none=>none
      | some rs=>match A0n (G8 p g G H).length (G8 p g G st.H) rs with
       | none=>none
       | some (rs,H')=>some (rs,trunc (G8 p g G H).length rs H')) = some (renL p g rs,G8 p g G H')∧p≤H'.length:= by
     intro e1 st _ h1 h2
     obtain ⟨k1,k2,k3⟩:=hM.code hG hcb hp h1
     rw [hT _ _ ‹_›] at k1
     rw [B5p]
     refine ⟨k1,?_⟩
     rw [B3i hG st.s k2]
     split at h2
     ·cases h2
     ·next rs0 e3 =>
      simp only [e3,Option.map_some]
      rw [C44 hG hcb.cur rs0 k2]
      split at h2
      ·cases h2
      ·next rs1 H1 e4 =>
       have hl:=C43 e4
       simp only [e4,Option.map_some]
       simp only [Option.some.injEq,Prod.mk.injEq] at h2
       obtain ⟨rfl,rfl⟩:=h2
       simp only at hl
       exact ⟨by rw [C5c hp (A61 hG hp) (by rw [hl]; exact k2) hG],C5b hp (by rw [hl]; exact k2) _⟩
    split at h
    ·next st e3=>obtain ⟨a,b,d⟩:=fin _ _ (.inl rfl) e3 h; rw [a]; exact ⟨b,d⟩
    ·next st e3=>obtain ⟨a,b,d⟩:=fin _ _ (.inr rfl) e3 h; rw [a]; exact ⟨b,d⟩
    ·cases h
   ·cases h
 ·next l =>
  simp only [ren,B62,renL]
  unfold Q4
  simp only
  rw [A2w hG hp]
  split at h
  ·next f0 s ps assign body e1 =>
   simp only [e1,Option.map_some,P7,A19]
   split at h
   ·next h5 =>
    simp only [h5,if_true]
    have ez:ps.zip (renL p g aq) = (ps.zip aq).map fun x=>(x.1,ren p g x.2):= by
     rw [T7,List.zip_map_right]; rfl
    rw [ez,C17]
    split at h
    ·next st e2 =>
     obtain ⟨k1,k2,k3⟩:=hM.code hG hcb hp e2
     simp only at k1
     rw [k1]
     simp only
     rw [A2w hG k2]
     split at h
     ·next f1 s1 ps1 a1 b1 e3 =>
      simp only [e3,Option.map_some,P7]
      split at h
      ·next e st2 e4 =>
       have hs:hset (G8 p g G st.H) (rb p g l) (.loop f1 (U3 p g s1) ps1 (M1 p g a1) (M1 p g b1) true none) = G8 p g G (hset st.H l (.loop f1 s1 ps1 a1 b1 true none)):= by
        rw [← S6 hG k2]; simp only [P7]
       obtain ⟨k4,k5,k6⟩:=hM.code hG (st:={ st with H:=hset st.H l (.loop f1 s1 ps1 a1 b1 true none) }) (by rw [show ({ st with H:=hset st.H l (.loop f1 s1 ps1 a1 b1 true none) }:St).c = st.c from rfl,k3]; exact hcb) (by rw [L8]; exact k2) e4
       simp only at k4
       rw [hs,k4]
       simp only
       rw [A2w hG k5]
       split at h
       ·next f2 s2 ps2 a2 b2 e5 =>
        simp only [e5,Option.map_some,P7]
        simp only [Option.some.injEq,Prod.mk.injEq] at h
        obtain ⟨rfl,rfl⟩:=h
        have hs2:∀pend,hset (G8 p g G st2.H) (rb p g l) (.loop f2 (U3 p g s2) ps2 (M1 p g a2) (M1 p g b2) false pend) = G8 p g G (hset st2.H l (.loop f2 s2 ps2 a2 b2 false pend)):= by
         intro pend; rw [← S6 hG k5]; simp only [P7]
        rw [hs2]
        refine ⟨?_,C5b hp (by rw [L8]; exact k5) _⟩
        have ht:∀pend,trunc (G8 p g G H).length [] (G8 p g G (hset st2.H l (.loop f2 s2 ps2 a2 b2 false pend))) = G8 p g G (trunc H.length [] (hset st2.H l (.loop f2 s2 ps2 a2 b2 false pend))):= by
         intro pend
         have:=C5c (p:=p) (g:=g) hp (A61 hG hp) (H:=hset st2.H l (.loop f2 s2 ps2 a2 b2 false pend)) (by rw [L8]; exact k5) hG []
         simp only [renL] at this
         exact this
        rw [ht]
        cases e <;> simp [renL,ren]
       ·cases h
      ·cases h
     ·cases h
    ·cases h
   ·cases h
  ·cases h
 ·cases h
theorem C08 {T:Tab} (hT:∀i af,T i = some af→M1 p g af.body = af.body):∀n,RenM p g (mach T n)
 | 0=>by
  constructor
  ·intros; rename_i h; simp [mach] at h
  ·intros; rename_i h; simp [mach] at h
 | n + 1=>by
  have ih:=C08 hT n
  constructor
  ·intro G hG c c' H f aq rs H' hc hp h
   rw [A0u] at h ⊢
   exact B09 hT ih hG (.cons hc.cur hc.outer) hp h
  ·intro G hG ac st e st' c' hc hp h
   rw [A0v] at h ⊢
   exact C5r ih hG hc hp h
end
mutual
def AV.free:AV→Bool
 | .lit _ | .nils _ | .undef=>true
 | .seq _ rows | .fresh _ rows | .xseq _ rows=>freeR rows
 | .agg cs | .tup cs | .cptr cs=>freeL cs
 | _=>false
def freeL:List AV→Bool
 | []=>true
 | v :: l=>v.free && freeL l
def freeR:List (List AV)→Bool
 | []=>true
 | r :: l=>freeL r && freeR l
end
mutual
theorem ren_free {p g:Nat}:(v:AV)→v.free = true→ren p g v = v
 | .lit _,_ | .nils _,_ | .undef,_=>by simp only [ren]
 | .seq _ rows,h | .fresh _ rows,h | .xseq _ rows,h=>by simp only [AV.free] at h; simp only [ren,renR_free rows h]
 | .agg cs,h | .tup cs,h | .cptr cs,h=>by simp only [AV.free] at h; simp only [ren,renL_free cs h]
 | .ptr _ _,h | .itr _,h | .eptr _ _ _ _,h | .asl _ _,h | .csl _ _ _ _,h | .mp _,h | .fn _ _ _,h=>by simp [AV.free] at h
theorem renL_free {p g:Nat}:(l:List AV)→freeL l = true→renL p g l = l
 | [],_=>by simp only [renL]
 | v :: l,h=>by
  simp only [freeL,Bool.and_eq_true] at h
  simp only [renL,ren_free v h.1,renL_free l h.2]
theorem renR_free {p g:Nat}:(l:List (List AV))→freeR l = true→renR p g l = l
 | [],_=>by simp only [renR]
 | v :: l,h=>by
  simp only [freeR,Bool.and_eq_true] at h
  simp only [renR,renL_free v h.1,renR_free l h.2]
end
def Opd.free:Opd→Bool
 | .c v=>v.free
 | _=>true
def D1c:Option Opd→Bool
 | some x=>x.free
 | none=>true
theorem J2 {p g:Nat} {x:Opd} (h:x.free = true):F6 p g x = x:= by
 cases x with
 | c v=>simp only [F6]; rw [ren_free v h]
 | _=>rfl
theorem A08 {p g:Nat} {x:Option Opd} (h:D1c x = true):A6c p g x = x:= by
 cases x with
 | none=>rfl
 | some x=>simp only [A6c]; rw [J2 h]
theorem B6f {p g:Nat} {l:List Opd} (h:l.all Opd.free = true):l.map (F6 p g) = l:= by
 induction l with
 | nil=>rfl
 | cons x l ih =>
  simp only [List.all_cons,Bool.and_eq_true] at h
  rw [List.map_cons,J2 h.1,ih h.2]
theorem D0c {p g:Nat} {l:List (Nat × Nat × Opd)} (h:(l.all fun q=>q.2.2.free) = true):l.map (fun q=>(q.1,q.2.1,F6 p g q.2.2)) = l:= by
 induction l with
 | nil=>rfl
 | cons x l ih =>
  simp only [List.all_cons,Bool.and_eq_true] at h
  rw [List.map_cons,J2 h.1,ih h.2]
theorem B8v {p g:Nat} {l:List (Nat × Opd)} (h:(l.all fun q=>q.2.free) = true):l.map (fun q=>(q.1,F6 p g q.2)) = l:= by
 induction l with
 | nil=>rfl
 | cons x l ih =>
  simp only [List.all_cons,Bool.and_eq_true] at h
  rw [List.map_cons,J2 h.1,ih h.2]
def D80:Fn→Bool
 | .func _=>true
 | _=>false
def AOp.free:AOp→Bool
 | .mv x | .mvz x | .storeN x _ _ | .box _ x _ | .load _ x | .nilck x | .un _ x | .conv _ x | .idc x | .nilq _ x | .fieldAddr _ x | .field _ _ x | .range x _ | .next x | .extract x _ | .lenS x | .lenL x | .lenM x=>x.free
 | .nil _ _ | .mkmap _=>true
 | .pick c a b=>c.free && a.free && b.free
 | .alloc zs _ _=>freeL zs
 | .build z parts=>freeL z && parts.all fun q=>q.2.2.free
 | .lits _ z _ parts _ | .xlits _ z _ parts=>freeL z && parts.all fun q=>q.2.free
 | .store _ a v | .bin _ a v | .beq _ a v | .cmp _ _ a v | .idxS _ a v | .idxA _ _ a v | .idxStr a v | .idxAgg _ _ _ a v | .append _ _ a v _ _ | .copy _ a v=>a.free && v.free
 | .mkfn f a c=>D80 f && a.all Opd.free && c.all Opd.free
 | .mkslice _ _ z l c _=>freeL z && l.free && c.free
 | .sliceS x lo hi | .sliceL _ x lo hi | .sliceQ _ x lo hi=>x.free && D1c lo && D1c hi
 | .lookup z _ _ x i _=>z.free && x.free && i.free
 | .mupd _ _ m k v=>m.free && k.free && v.free
 | .mm _ xs=>xs.all Opd.free
 | .cut _ x hi _ | .sliceA _ _ x hi=>x.free && D1c hi
 | .call f args _ _=>f.free && args.all Opd.free
theorem D3k {p g:Nat} {f:Fn} (h:D80 f = true):B62 p g f = f:= by cases f <;> first | rfl | cases h
theorem D0i {p g:Nat} {op:AOp} (h:op.free = true):L6 p g op = op:= by
 cases op <;> simp only [AOp.free,Bool.and_eq_true] at h <;> simp only [L6]
 case mkfn=>rw [D3k h.1.1,B6f h.1.2,B6f h.2]
 case alloc=>rw [renL_free _ h]
 case build=>rw [renL_free _ h.1,D0c h.2]
 case lits=>rw [renL_free _ h.1,B8v h.2]
 case xlits=>rw [renL_free _ h.1,B8v h.2]
 case mkslice=>rw [renL_free _ h.1.1,J2 h.1.2,J2 h.2]
 case lookup=>rw [ren_free _ h.1.1,J2 h.1.2,J2 h.2]
 case sliceS=>rw [J2 h.1.1,A08 h.1.2,A08 h.2]
 case sliceL=>rw [J2 h.1.1,A08 h.1.2,A08 h.2]
 case sliceQ=>rw [J2 h.1.1,A08 h.1.2,A08 h.2]
 case cut=>rw [J2 h.1,A08 h.2]
 case sliceA=>rw [J2 h.1,A08 h.2]
 case call=>rw [J2 h.1,B6f h.2]
 case mm=>rw [B6f h]
 all_goals first
  | rw [J2 h]
  | rw [J2 h.1,J2 h.2]
  | rw [J2 h.1.1,J2 h.1.2,J2 h.2]
def ACode.free:ACode→Bool
 | .region _ _ _ ops _=>ops.all fun o=>o.op.free
 | .seq a b=>a.free && b.free
 | .cond c a b=>c.free && (a.free && b.free)
 | .block _ a | .loop _ _ a | .scope a=>a.free
 | .rangeFunc f _ _ a b=>f.free && (a.free && b.free)
 | _=>true
theorem D3c {p g:Nat} {l:List AOper} (h:(l.all fun o=>o.op.free) = true):l.map (A2q p g) = l:= by
 induction l with
 | nil=>rfl
 | cons x l ih =>
  simp only [List.all_cons,Bool.and_eq_true] at h
  rw [List.map_cons,ih h.2]
  unfold A2q; rw [D0i h.1]
theorem P3 {p g:Nat}:(ac:ACode)→ac.free = true→M1 p g ac = ac
 | .region _ _ _ ops _,h=>by simp only [ACode.free] at h; simp only [M1]; rw [D3c h]
 | .seq a b,h=>by simp only [ACode.free,Bool.and_eq_true] at h; simp only [M1,P3 a h.1,P3 b h.2]
 | .cond c a b,h=>by simp only [ACode.free,Bool.and_eq_true] at h; simp only [M1,J2 h.1,P3 a h.2.1,P3 b h.2.2]
 | .block _ a,h | .loop _ _ a,h | .scope a,h=>by simp only [ACode.free] at h; simp only [M1,P3 a h]
 | .rangeFunc f _ _ a b,h=>by simp only [ACode.free,Bool.and_eq_true] at h; simp only [M1,J2 h.1,P3 a h.2.1,P3 b h.2.2]
 | .skip,_ | .exit _,_ | .ret,_=>by simp only [M1]
def B3p (T:Tab):Prop:=∀ i af,T i = some af→af.body.free = true
def A0j (c:Sc) (H:A7):Bool:=(c.cur :: c.outer).all fun B=>Nat.ble B H.length
theorem D18 {g:Nat}:∀{l:List Nat},(l.all fun B=>Nat.ble B g) = true→ScBs 0 g [] l
 | [],_=>.nil
 | B :: l,h=>by
  simp only [List.all_cons,Bool.and_eq_true] at h
  exact .extra (fun b=>by rw [A7b (Nat.zero_le b)]; have:=Nat.le_of_ble_eq_true h.1; omega) (D18 h.2)
theorem D7q (G:A7) (g:Nat):G8 0 g G [] = G:= by simp [G8]
theorem V4.shift {T:Tab} (hT:B3p T) {i:Nat} {aq rs:List AV} (h:V4 T ⟨0,[]⟩ [] (.fn (.func i) [] []) aq rs []) (ha:freeL aq = true) (hr:freeL rs = true) {c:Sc} {H:A7} (hc:A0j c H = true):V4 T c H (.fn (.func i) [] []) aq rs H:= by
 obtain ⟨n,e⟩:=h
 cases n with
 | zero=>simp [mach] at e
 | succ n =>
  rw [A0u] at e
  have:=(B09 (p:=0) (g:=H.length) (G:=H) (c:=⟨0,[]⟩) (c':=c) (fun i af h=>P3 _ (hT i af h)) (C08 (fun i af h=>P3 _ (hT i af h)) n) rfl (.drop (D18 hc)) (Nat.zero_le _) e).1
  rw [D7q,renL_free _ ha,renL_free _ hr,ren] at this
  simp only [B62,renL] at this
  exact ⟨n + 1,by rw [A0u]; exact this⟩
def WP (T:Tab) (ac:ACode) (s:C9) (H:A7) (c:Sc) (Q:Ex→C9→A7→Prop):Prop :=
 ∀ S,Sub s S→∃ e S' s' H',L4 T ac ⟨S,H,c⟩ e ⟨S',H',c⟩∧Sub s' S'∧Q e s' H'
section
variable {T:Tab} {s:C9} {H:A7} {c:Sc} {Q Q':Ex→C9→A7→Prop}
def D38 (T:Tab) (b:ACode) (c:Sc) (Q:Ex→C9→A7→Prop):Ex→C9→A7→Prop
 | .normal,s,H=>WP T b s H c Q
 | e,s,H=>Q e s H
def C5i (id:Nat) (Q:Ex→C9→A7→Prop):Ex→C9→A7→Prop
 | .exit j,s,H=>bif Nat.beq j id then Q .normal s H else Q (.exit j) s H
 | e,s,H=>Q e s H
theorem A8f {ac:ACode} (h:WP T ac s H c Q) (k:∀e s' H',Q e s' H'→Q' e s' H'):WP T ac s H c Q':= by
 intro S hS
 obtain ⟨e,S',s',H',h1,h2,h3⟩:=h S hS
 exact ⟨e,S',s',H',h1,h2,k _ _ _ h3⟩
theorem D8u {ac:ACode} {Q1:Ex→C9→A7→Prop} (h:WP T ac s H c (fun e s' H'=>∃ s0,Sub s0 s'∧Q1 e s0 H')) (k:∀e s' H',Q1 e s' H'→Q e s' H'):WP T ac s H c Q:= by
 intro S hS
 obtain ⟨e,S',s',H',h1,h2,s0,h3,h4⟩:=h S hS
 exact ⟨e,S',s0,H',h1,h3.trans h2,k _ _ _ h4⟩
theorem D8v (h:Q .normal s H):WP T .skip s H c Q:=fun S hS=>⟨.normal,S,s,H,⟨1,rfl⟩,hS,h⟩
theorem D8t {id:Nat} (h:Q (.exit id) s H):WP T (.exit id) s H c Q:=fun S hS=>⟨.exit id,S,s,H,⟨1,rfl⟩,hS,h⟩
theorem E0h (h:Q .ret s H):WP T .ret s H c Q:=fun S hS=>⟨.ret,S,s,H,⟨1,rfl⟩,hS,h⟩
theorem D0w {a b:ACode} (h:WP T a s H c (D38 T b c Q)):WP T (.seq a b) s H c Q:= by
 intro S hS
 obtain ⟨e,S1,s1,H1,h1,h2,h3⟩:=h S hS
 cases e with
 | normal =>
  obtain ⟨e2,S2,s2,H2,h4,h5,h6⟩:=h3 S1 h2
  exact ⟨e2,S2,s2,H2,L4.seq rfl h1 h4,h5,h6⟩
 | exit id=>exact ⟨_,S1,s1,H1,L4.seqOut rfl rfl h1,h2,h3⟩
 | ret=>exact ⟨_,S1,s1,H1,L4.seqOut rfl rfl h1,h2,h3⟩
theorem C81 {x:Opd} {t:Bool} {a b:ACode} (h:ev s x = some (.lit (.bool t))) (ht:t = true) (k:WP T a s H c Q):WP T (.cond x a b) s H c Q:= by
 subst ht
 intro S hS
 obtain ⟨e,S1,s1,H1,h1,h2,h3⟩:=k S hS
 exact ⟨e,S1,s1,H1,L4.condT rfl (A60 hS h) h1,h2,h3⟩
theorem C80 {x:Opd} {t:Bool} {a b:ACode} (h:ev s x = some (.lit (.bool t))) (ht:t = false) (k:WP T b s H c Q):WP T (.cond x a b) s H c Q:= by
 subst ht
 intro S hS
 obtain ⟨e,S1,s1,H1,h1,h2,h3⟩:=k S hS
 exact ⟨e,S1,s1,H1,L4.condF rfl (A60 hS h) h1,h2,h3⟩
theorem D62 {id:Nat} {a:ACode} (h:WP T a s H c (C5i id Q)):WP T (.block id a) s H c Q:= by
 intro S hS
 obtain ⟨e,S1,s1,H1,h1,h2,h3⟩:=h S hS
 cases e with
 | normal=>exact ⟨_,S1,s1,H1,L4.block rfl rfl h1,h2,h3⟩
 | ret=>exact ⟨_,S1,s1,H1,L4.block rfl rfl h1,h2,h3⟩
 | exit j =>
  cases hb:Nat.beq j id with
  | true =>
   have:=Nat.eq_of_beq_eq_true hb
   subst this
   simp only [C5i,hb,cond_true] at h3
   exact ⟨.normal,S1,s1,H1,L4.blockExit rfl h1,h2,h3⟩
  | false =>
   simp only [C5i,hb,cond_false] at h3
   exact ⟨.exit j,S1,s1,H1,L4.block rfl (by simp only [Ex.not,hb,Bool.not_false]) h1,h2,h3⟩
theorem D64 {a:ACode} (h:WP T a s H c Q):WP T (.scope a) s H c Q:= by
 intro S hS
 obtain ⟨e,S1,s1,H1,h1,h2,h3⟩:=h S hS
 exact ⟨e,S1,s1,H1,L4.scope rfl h1,h2,h3⟩
def B4k {σ ρ:Type} (b:σ→Option (σ ⊕ ρ)) (n:Nat):σ→Option ρ :=
 Nat.rec (fun _=>none) (fun _ ih s=>match b s with
  | some (.inl s')=>ih s'
  | some (.inr r)=>some r
  | none=>none) n
def loop {σ ρ:Type} (b:σ→Option (σ ⊕ ρ)) (s:σ):Option ρ:=B4k b 9223372036854775808 s
theorem A0c {σ ρ:Type} (b:σ→Option (σ ⊕ ρ)) (n:Nat) (s:σ):B4k b (n + 1) s = match b s with
  | some (.inl s')=>B4k b n s'
  | some (.inr r)=>some r
  | none=>none:=rfl
theorem K5:∀{s:C9} {live:List Nat} (_:s.map (·.1) = live) (_:live.Nodup) {S:C9} (_:Sub s S),restrict S live = s
 | [],_,h,_,S,_=>by subst h; rfl
 | (t,v) :: s,_,h,hn,S,hS=>by
  subst h
  simp only [List.map_cons,List.nodup_cons] at hn ⊢
  have h1:sget S t = some v:=hS t v (by simp [O7,M3])
  have h2:Sub s S:= by
   intro u w hu
   refine hS u w ?_
   simp only [O7,M3]
   cases hb:Nat.beq t u with
   | false=>exact hu
   | true =>
    have:=Nat.eq_of_beq_eq_true hb
    subst this
    exfalso
    apply hn.1
    have:∀{s:C9} {u:Nat} {w:AV},sget s u = some w→u ∈ s.map (·.1):= by
     intro s
     induction s with
     | nil=>intro u w h; simp [O7,M3] at h
     | cons x s ih =>
      intro u w h
      simp only [O7,M3] at h
      cases hb:Nat.beq x.1 u with
      | true=>simp [(Nat.eq_of_beq_eq_true hb).symm]
      | false=>rw [hb] at h; simp only [List.map_cons,List.mem_cons]; exact .inr (ih h)
    exact this hu
  simp only [restrict,h1]
  rw [K5 rfl hn.2 h2]
def D36 {γ σ ρ:Type} (tr:Bool) (st:σ→C9) (hp:γ→σ→A7) (N:Nat) (P:ρ→Ex→C9→A7→Prop):σ ⊕ ρ→Ex→C9→A7→Prop
 | .inl x,e,s',H'=>e = .normal∧Sub (st x) s'∧∃ g',(bif tr then H'.take N else H') = hp g' x
 | .inr r,e,s',H'=>e.out = true∧∃ s0,Sub s0 s'∧P r e s0 H'
theorem C82 {γ σ ρ:Type} {tr:Bool} {live:List Nat} {bd:ACode} {body:σ→Option (σ ⊕ ρ)} (st:σ→C9) (hp:γ→σ→A7) (N:Nat) (P:ρ→Ex→C9→A7→Prop)
  (hN:∀g x,(hp g x).length = N) (hlive:∀x,(st x).map (·.1) = live) (hnd:live.Nodup) (hbd:∀x,tr = true→A5v N (st x) = true)
  (hstep:∀g x x',body x = some (.inl x')→WP T bd (st x) (hp g x) (bif tr then ⟨N,c.cur :: c.outer⟩ else c) (fun e s' H'=>e = .normal∧Sub (st x') s'∧∃ g',(bif tr then H'.take N else H') = hp g' x'))
  (hexit:∀g x r,body x = some (.inr r)→WP T bd (st x) (hp g x) (bif tr then ⟨N,c.cur :: c.outer⟩ else c) (fun e s' H'=>e.out = true∧∃ s0,Sub s0 s'∧P r e s0 H'))
  {x0:σ} {r:ρ} (h:loop body x0 = some r) (g0:γ):WP T (.loop tr live bd) (st x0) (hp g0 x0) c (fun e s' H'=>e.out = true∧P r e s' H'):= by
 have key:∀n g0 x0,B4k body n x0 = some r→WP T (.loop tr live bd) (st x0) (hp g0 x0) c (fun e s' H'=>e.out = true∧P r e s' H'):= by
  intro n
  induction n with
  | zero=>intro g0 x0 h; cases h
  | succ n ih =>
   intro g0 x0 h S hS
   rw [A0c] at h
   have hr:restrict S live = st x0:=K5 (hlive x0) hnd hS
   have hin:A9z tr live ⟨S,hp g0 x0,c⟩ = ⟨st x0,hp g0 x0,bif tr then ⟨N,c.cur :: c.outer⟩ else c⟩:= by
    unfold A9z; cases tr <;> simp [hr,hN]
   split at h
   ·next x' hb =>
    obtain ⟨e,S1,s1,H1,h1,h2,rfl,h4,g',h5⟩:=hstep g0 x0 x' hb _ (Sub.refl _)
    have hr1:restrict S1 live = st x':=K5 (hlive x') hnd (h4.trans h2)
    obtain ⟨e2,S2,s2,H2,g1,g2,g3⟩:=ih g' x' h _ (Sub.refl _)
    refine ⟨e2,S2,s2,H2,L4.loop (st1:=⟨S1,H1,bif tr then ⟨N,c.cur :: c.outer⟩ else c⟩) rfl hin.symm h1 ?_ g1,g2,g3⟩
    unfold B2z
    cases tr with
    | true =>
     have hb1:=hbd x' rfl
     simp only [hr1,if_true,hN,hb1]
     simp only [cond_true] at h5
     rw [h5]
    | false =>
     simp only [cond_false] at h5
     simp only [Bool.false_eq_true,if_false,hr1,h5]
   ·next r' hb =>
    simp only [Option.some.injEq] at h
    subst h
    obtain ⟨e,S1,s1,H1,h1,h2,h3,s2,h4,h5⟩:=hexit g0 x0 _ hb _ (Sub.refl _)
    exact ⟨e,S1,s2,H1,L4.loopOut (st1:=⟨S1,H1,bif tr then ⟨N,c.cur :: c.outer⟩ else c⟩) rfl hin.symm h3 h1 rfl,h4.trans h2,h3,h5⟩
   ·cases h
 exact key _ _ _ h
theorem B7h {γ σ ρ:Type} {tr:Bool} {live:List Nat} {bd:ACode} {body:σ→Option (σ ⊕ ρ)} (st:σ→C9) (hp:γ→σ→A7) (N:Nat) (P:ρ→Ex→C9→A7→Prop)
  (hN:∀g x,(hp g x).length = N) (hlive:∀x,(st x).map (·.1) = live) (hnd:live.Nodup) (hbd:∀x,tr = true→A5v N (st x) = true)
  (hbody:∀g x o,body x = some o→WP T bd (st x) (hp g x) (bif tr then ⟨N,c.cur :: c.outer⟩ else c) (D36 tr st hp N P o))
  {x0:σ} {r:ρ} (h:loop body x0 = some r) (g0:γ):WP T (.loop tr live bd) (st x0) (hp g0 x0) c (fun e s' H'=>e.out = true∧P r e s' H') :=
 C82 st hp N P hN hlive hnd hbd (fun g x _ h=>hbody g x _ h) (fun g x _ h=>hbody g x _ h) h g0
inductive UnQ (T:Tab) (tr:Bool) (live:List Nat) (bd:ACode) (c:Sc) (N:Nat) (Q:Ex→C9→A7→Prop):Ex→C9→A7→Prop
 | next {s1:C9} {H1:A7} (sN:C9) (HN:A7) (hs:Sub sN s1) (hl:sN.map (·.1) = live) (nd:live.Nodup) (hH:(bif tr then H1.take N else H1) = HN) (hb:tr = true→A5v N sN = true) (h:WP T (.loop tr live bd) sN HN c Q):UnQ T tr live bd c N Q .normal s1 H1
 | out {e:Ex} {s1:C9} {H1:A7} (he:e.out = true) (h:Q e s1 H1):UnQ T tr live bd c N Q e s1 H1
theorem UnQ.nextT {live:List Nat} {bd:ACode} {N:Nat} {s1:C9} {H1:A7} (sN:C9) (HN:A7) (hs:Sub sN s1) (hl:sN.map (·.1) = live) (nd:live.Nodup) (hH:H1.take N = HN) (hb:A5v N sN = true) (h:WP T (.loop true live bd) sN HN c Q):UnQ T true live bd c N Q .normal s1 H1 :=
 .next sN HN hs hl nd hH (fun _=>hb) h
theorem D31 {H0:A7} {l:List AO} {tr:Bool} {live:List Nat} {bd:ACode} (k:Nat) (hk:l.length = k) (s':C9) (hr:∀S,Sub s S→restrict S live = s') (h:WP T bd s' (H0++l) (bif tr then ⟨H0.length + k,c.cur :: c.outer⟩ else c) (UnQ T tr live bd c (H0.length + k) Q)):WP T (.loop tr live bd) s (H0++l) c Q:= by
 intro S hS
 have hr':=hr S hS
 have hN:(H0++l).length = H0.length + k:= by rw [List.length_append,hk]
 have hin:A9z tr live ⟨S,H0++l,c⟩ = ⟨s',H0++l,bif tr then ⟨H0.length + k,c.cur :: c.outer⟩ else c⟩:= by
  unfold A9z; cases tr <;> simp only [hr',hN,if_true,Bool.false_eq_true,if_false,cond_true,cond_false]
 obtain ⟨e,S1,s1,H1,h1,h2,h3⟩:=h s' (Sub.refl _)
 cases h3 with
 | next sN HN hs hl nd hH hb hw =>
  have hr1:restrict S1 live = sN:=K5 hl nd (hs.trans h2)
  obtain ⟨e2,S2,s2,H2,g1,g2,g3⟩:=hw sN (Sub.refl _)
  refine ⟨e2,S2,s2,H2,L4.loop (st1:=⟨S1,H1,bif tr then ⟨H0.length + k,c.cur :: c.outer⟩ else c⟩) rfl hin.symm h1 ?_ g1,g2,g3⟩
  unfold B2z
  cases tr with
  | true =>
   have hb1:=hb rfl
   simp only [hr1,if_true,hN,hb1]
   simp only [cond_true] at hH
   rw [hH]
  | false =>
   simp only [cond_false] at hH
   simp only [Bool.false_eq_true,if_false,hr1,hH]
 | out he hq=>exact ⟨e,S1,s1,H1,L4.loopOut (st1:=⟨S1,H1,bif tr then ⟨H0.length + k,c.cur :: c.outer⟩ else c⟩) rfl hin.symm he h1 rfl,h2,hq⟩
def M9 (T:Tab) (c:Sc) (n0:Nat) (ops:List AOper) (s:C9) (H:A7) (hc:List (Option (List Nat))) (R:C9→A7→Prop):Prop :=
 ∃ n s1 H1,opers (mach T n) c n0 ops s H hc = some (s1,H1)∧R s1 H1
abbrev C6q (T:Tab) (c:Sc) (n0:Nat) (ops:List AOper) (s:C9) (H:A7) (hc:List (Option (List Nat))) (s':C9) (H':A7):Prop :=
 M9 T c n0 ops s H hc fun s1 H1=>H1 = H'∧Sub s' s1
end
section
variable {T:Tab} {s s':C9} {H0 H H':A7} {l l':List AO} {c:Sc} {n0 k0:Nat} {hc:List (Option (List Nat))} {ops:List AOper} {R:C9→A7→Prop}
theorem C5g {d:Bool} {nres:Nat} {live:List Nat} {Q:Ex→C9→A7→Prop} (k0:Nat) (s':C9) (H':A7) (hk:l.length = k0) (hl:(s'.all fun x=>live.contains x.1) = true)
  (h:C6q T c (H0.length + k0) ops s (H0++(l++List.replicate nres .dead)) [] s' H') (hQ:Q .normal s' H'):WP T (.region d nres [] ops live) s (H0++l) c Q:= by
 intro S hS
 obtain ⟨n,s1,H1,h1,rfl,h2⟩:=h
 obtain ⟨S1,h3,h4⟩:=B5d hS h1
 refine ⟨.normal,restrict S1 live,s',H1,⟨n + 1,?_⟩,?_,hQ⟩
 ·rw [A0v]
  simp only [G4,publish,List.length_append,hk,← List.append_assoc] at h3 ⊢
  rw [h3]
 ·intro t v e
  rw [A65]
  refine ⟨?_,h4 _ _ (h2 _ _ e)⟩
  rw [List.all_eq_true] at hl
  have:∀{s:C9},sget s t = some v→∃ x ∈ s,x.1 = t:= by
   intro s
   induction s with
   | nil=>intro h; simp [O7,M3] at h
   | cons x s ih =>
    intro h
    simp only [O7,M3] at h
    cases hb:Nat.beq x.1 t with
    | true=>exact ⟨x,by simp,Nat.eq_of_beq_eq_true hb⟩
    | false=>rw [hb] at h; obtain ⟨y,h1,h2⟩:=ih h; exact ⟨y,by simp [h1],h2⟩
  obtain ⟨x,hx,rfl⟩:=this e
  simpa using hl x hx
def One (T:Tab) (c:Sc) (n0:Nat) (s:C9) (H:A7) (op:AOp) (v:AV) (H':A7):Prop:=∃ n,core (mach T n) c n0 s H op = some (v,H')
theorem C5u {M M':Mach} (h:M.le M') {op:AOp} {r:AV × A7} (e:core M c n0 s H op = some r):core M' c n0 s H op = some r:=C34 h e
theorem C1x {M:Mach} {op:AOp} {d:Option Nat} {src:Nat} {v:AV} {H':A7} (e:core M c n0 s H op = some (v,H')) :
  oper M c n0 s H hc ⟨d,op,none,[],[],0,src⟩ = some (sput s d v,H',if writes op then some [] :: hc else hc):= by
 have h1:A5t n0 s H ⟨d,op,none,[],[],0,src⟩ = some []:= by simp [A5t,ways]
 have h2:P9 s ⟨d,op,none,[],[],0,src⟩ hc = true:= by unfold P9; split <;> simp
 unfold oper
 simp only [wanted,h1,h2,hide,e,List.isEmpty_nil,Bool.true_or,if_true,unhide]
theorem B36 {op:AOp} {d:Option Nat} {src:Nat} {v:AV} {H1:A7} {hc':List (Option (List Nat))} (h:One T c n0 s H op v H1) (hhc:(if writes op then some [] :: hc else hc) = hc') (k:M9 T c n0 ops (sput s d v) H1 hc' R) :
  M9 T c n0 (⟨d,op,none,[],[],0,src⟩ :: ops) s H hc R:= by
 obtain ⟨n1,e1⟩:=h
 obtain ⟨n2,s1,Hf,e2,h2⟩:=k
 refine ⟨max n1 n2,s1,Hf,?_,h2⟩
 simp only [opers]
 rw [C1x (C5u (M6 T (Nat.le_max_left n1 n2)) e1)]
 simp only [hhc]
 exact A2o (M6 T (Nat.le_max_right n1 n2)) e2
theorem A0 {op:AOp} {d src:Nat} {v:AV} {H1:A7} (h:One T c n0 s H op v H1) (hw:writes op = false) (k:M9 T c n0 ops ((d,v) :: s) H1 hc R):M9 T c n0 (⟨some d,op,none,[],[],0,src⟩ :: ops) s H hc R :=
 B36 h (by simp [hw]) k
theorem A5a {op:AOp} {d src:Nat} {v:AV} {H1:A7} (h:One T c n0 s H op v H1) (hw:writes op = true) (k:M9 T c n0 ops ((d,v) :: s) H1 (some [] :: hc) R):M9 T c n0 (⟨some d,op,none,[],[],0,src⟩ :: ops) s H hc R :=
 B36 h (by simp [hw]) k
theorem F0 {op:AOp} {src:Nat} {v:AV} {H1:A7} (h:One T c n0 s H op v H1) (hw:writes op = true) (k:M9 T c n0 ops s H1 (some [] :: hc) R):M9 T c n0 (⟨none,op,none,[],[],0,src⟩ :: ops) s H hc R :=
 B36 (d:=none) h (by simp [hw]) k
theorem D85 {d:Option Nat} {op:AOp} {t:Nat} {w g:Bool} {hid:List Nat} {hida:List (Nat × List Nat)} {inc src:Nat} (hg:sget s t = some (.lit (.bool g))) (hw:(g == w) = true) (k:M9 T c n0 (⟨d,op,none,hid,hida,inc,src⟩ :: ops) s H hc R) :
  M9 T c n0 (⟨d,op,some (t,w),hid,hida,inc,src⟩ :: ops) s H hc R:= by
 obtain ⟨n,s1,Hf,e,h⟩:=k
 refine ⟨n,s1,Hf,?_,h⟩
 simp only [opers] at e ⊢
 have:oper (mach T n) c n0 s H hc ⟨d,op,some (t,w),hid,hida,inc,src⟩ = oper (mach T n) c n0 s H hc ⟨d,op,none,hid,hida,inc,src⟩:= by
  unfold oper
  simp only [wanted,hg,hw]
  rfl
 rw [this]; exact e
theorem D13 {d:Nat} {op:AOp} {t:Nat} {w:Bool} {hid:List Nat} {hida:List (Nat × List Nat)} {inc src:Nat} (hw:wanted s (some (t,w)) = some false) (hwr:writes op = false) (k:M9 T c n0 ops ((d,.tup []) :: s) H hc R) :
  M9 T c n0 (⟨some d,op,some (t,w),hid,hida,inc,src⟩ :: ops) s H hc R:= by
 obtain ⟨n,s1,Hf,e,h⟩:=k
 refine ⟨n,s1,Hf,?_,h⟩
 simp only [opers,oper,hw,hwr,Bool.false_eq_true,if_false,sput]
 exact e
theorem I0 {d:Nat} {op:AOp} {t:Nat} {w:Bool} {hid:List Nat} {hida:List (Nat × List Nat)} {inc src:Nat} (hw:wanted s (some (t,w)) = some false) (hwr:writes op = true) (k:M9 T c n0 ops ((d,.tup []) :: s) H (none :: hc) R) :
  M9 T c n0 (⟨some d,op,some (t,w),hid,hida,inc,src⟩ :: ops) s H hc R:= by
 obtain ⟨n,s1,Hf,e,h⟩:=k
 refine ⟨n,s1,Hf,?_,h⟩
 simp only [opers,oper,hw,hwr,if_true,sput]
 exact e
theorem gT {d:Option Nat} {op:AOp} {t:Nat} {g:Bool} {hid:List Nat} {hida:List (Nat × List Nat)} {inc src:Nat} (hg:sget s t = some (.lit (.bool g))) (hw:g = true) (k:M9 T c n0 (⟨d,op,none,hid,hida,inc,src⟩ :: ops) s H hc R) :
  M9 T c n0 (⟨d,op,some (t,true),hid,hida,inc,src⟩ :: ops) s H hc R:=D85 hg (by rw [hw]; rfl) k
theorem gF {d:Option Nat} {op:AOp} {t:Nat} {g:Bool} {hid:List Nat} {hida:List (Nat × List Nat)} {inc src:Nat} (hg:sget s t = some (.lit (.bool g))) (hw:g = false) (k:M9 T c n0 (⟨d,op,none,hid,hida,inc,src⟩ :: ops) s H hc R) :
  M9 T c n0 (⟨d,op,some (t,false),hid,hida,inc,src⟩ :: ops) s H hc R:=D85 hg (by rw [hw]; rfl) k
theorem nT {d:Nat} {op:AOp} {t:Nat} {g:Bool} {hid:List Nat} {hida:List (Nat × List Nat)} {inc src:Nat} (hg:sget s t = some (.lit (.bool g))) (hw:g = false) (hwr:writes op = false) (k:M9 T c n0 ops ((d,.tup []) :: s) H hc R) :
  M9 T c n0 (⟨some d,op,some (t,true),hid,hida,inc,src⟩ :: ops) s H hc R:=D13 (by simp only [wanted,hg,hw]; rfl) hwr k
theorem nF {d:Nat} {op:AOp} {t:Nat} {g:Bool} {hid:List Nat} {hida:List (Nat × List Nat)} {inc src:Nat} (hg:sget s t = some (.lit (.bool g))) (hw:g = true) (hwr:writes op = false) (k:M9 T c n0 ops ((d,.tup []) :: s) H hc R) :
  M9 T c n0 (⟨some d,op,some (t,false),hid,hida,inc,src⟩ :: ops) s H hc R:=D13 (by simp only [wanted,hg,hw]; rfl) hwr k
theorem nX {d:Nat} {op:AOp} {t:Nat} {w:Bool} {hid:List Nat} {hida:List (Nat × List Nat)} {inc src:Nat} (hg:sget s t = some (.tup [])) (hwr:writes op = false) (k:M9 T c n0 ops ((d,.tup []) :: s) H hc R) :
  M9 T c n0 (⟨some d,op,some (t,w),hid,hida,inc,src⟩ :: ops) s H hc R:=D13 (by simp only [wanted,hg]) hwr k
theorem F2 {t:Nat} {w g:Bool} (hg:sget s t = some (.lit (.bool g))) (hw:(g == w) = false):wanted s (some (t,w)) = some false:= by
 simp only [wanted,hg,hw]
def A4k (l:List AO):List Nat→List AO
 | []=>l
 | j :: js=>(A4k l js).set j .dead
def Z2 (l m:List AO):List Nat→List AO
 | []=>m
 | j :: js=>match l[j]? with
  | some o=>(Z2 l m js).set j o
  | none=>Z2 l m js
theorem B58 (H0:A7) (l:List AO):∀js:List Nat,hide (H0++l) (js.map (H0.length + ·)) = H0++A4k l js
 | []=>rfl
 | j :: js=>by
  simp only [List.map_cons,hide,B58 H0 l js,A4k,hset]
  rw [List.set_append_right _ _ (Nat.le_add_right _ _)]; congr 2; omega
theorem C2v (H0:A7) (l m:List AO):∀js:List Nat,unhide (H0++l) (H0++m) (js.map (H0.length + ·)) = H0++Z2 l m js
 | []=>rfl
 | j :: js=>by
  have h1:hget (H0++l) (H0.length + j) = l[j]?:= by
   unfold hget; rw [List.getElem?_append_right (Nat.le_add_right _ _)]; congr 1; omega
  simp only [List.map_cons,unhide,Z2,h1,C2v H0 l m js]
  cases l[j]? with
  | none=>rfl
  | some o=>simp only [hset]; rw [List.set_append_right _ _ (Nat.le_add_right _ _)]; congr 2; omega
theorem D6c {op:AOp} {d:Option Nat} {hid:List Nat} {hida:List (Nat × List Nat)} {inc src:Nat} {v:AV} {l1:List AO} (js:List Nat) (hhs:A5t n0 s (H0++l) ⟨d,op,none,hid,hida,inc,src⟩ = some (js.map (H0.length + ·))) (hseen:P9 s ⟨d,op,none,hid,hida,inc,src⟩ hc = true)
  (h:One T c n0 s (H0++A4k l js) op v (H0++l1)) (hle:Nat.ble l.length l1.length = true) (k:M9 T c n0 ops (sput s d v) (H0++Z2 l l1 js) (bif writes op then some (js.map (H0.length + ·)) :: hc else hc) R) :
  M9 T c n0 (⟨d,op,none,hid,hida,inc,src⟩ :: ops) s (H0++l) hc R:= by
 obtain ⟨n1,e1⟩:=h
 obtain ⟨n2,s1,Hf,e2,h2⟩:=k
 refine ⟨max n1 n2,s1,Hf,?_,h2⟩
 have e1':=C5u (M6 T (Nat.le_max_left n1 n2)) e1
 have hle':Nat.ble (H0++l).length (H0++l1).length = true:=Nat.ble_eq_true_of_le (by have:=Nat.le_of_ble_eq_true hle; simp; omega)
 simp only [opers,oper,wanted,hhs,hseen,B58,e1',hle',Bool.or_true,if_true,C2v]
 cases hw:writes op with
 | true=>simp only [hw,cond_true] at e2; simp only [if_true]; exact A2o (M6 T (Nat.le_max_right n1 n2)) e2
 | false=>simp only [hw,cond_false] at e2; simp only [Bool.false_eq_true,if_false]; exact A2o (M6 T (Nat.le_max_right n1 n2)) e2
theorem B1g (l:List AO):∀js:List Nat,(A4k l js).length = l.length
 | []=>rfl
 | j :: js=>by simp only [A4k,List.length_set,B1g l js]
theorem A87 (l m:List AO) (h:m.length = l.length):∀js:List Nat,(Z2 l m js).length = l.length
 | []=>h
 | j :: js=>by
  simp only [Z2]
  cases l[j]? with
  | none=>exact A87 l m h js
  | some o=>simp only [List.length_set]; exact A87 l m h js
theorem C4i (l:List AO):∀(js:List Nat) (i:Nat),i ∉ js→(A4k l js)[i]? = l[i]?
 | [],_,_=>rfl
 | j :: js,i,h=>by
  simp only [List.mem_cons,not_or] at h
  simp only [A4k]
  rw [List.getElem?_set_ne (fun e=>h.1 e.symm)]
  exact C4i l js i h.2
theorem B89 (l m:List AO) (hm:m.length = l.length):∀(js:List Nat) (i:Nat),(i ∈ js→(Z2 l m js)[i]? = l[i]?)∧(i ∉ js→(Z2 l m js)[i]? = m[i]?)
 | [],_=>⟨fun h=>by simp at h,fun _=>rfl⟩
 | j :: js,i=>by
  have ih:=B89 l m hm js i
  have hlen:=A87 l m hm js
  simp only [Z2]
  by_cases hij:j = i
  ·subst hij
   constructor
   ·intro _
    cases hl:l[j]? with
    | none =>
     simp only
     rw [List.getElem?_eq_none]
     rw [hlen]; exact List.getElem?_eq_none_iff.1 hl
    | some o =>
     simp only
     have:=(List.getElem?_eq_some_iff.1 hl).1
     rw [List.getElem?_set_self (by rw [hlen]; exact this)]
   ·intro h; simp at h
  ·have e:∀o,((Z2 l m js).set j o)[i]? = (Z2 l m js)[i]?:=fun o=>List.getElem?_set_ne hij
   cases l[j]? with
   | none=>simp only [List.mem_cons]; exact ⟨fun h=>ih.1 (h.resolve_left fun e=>hij e.symm),fun h=>ih.2 fun k=>h (.inr k)⟩
   | some o=>simp only [List.mem_cons,e]; exact ⟨fun h=>ih.1 (h.resolve_left fun e=>hij e.symm),fun h=>ih.2 fun k=>h (.inr k)⟩
theorem C8w (l:List AO) (js:List Nat):Z2 l (A4k l js) js = l:= by
 apply List.ext_getElem?
 intro i
 have h:=B89 l (A4k l js) (B1g l js) js i
 by_cases hi:i ∈ js
 ·exact h.1 hi
 ·rw [h.2 hi,C4i l js i hi]
theorem S8 {op:AOp} {d:Nat} {hid:List Nat} {hida:List (Nat × List Nat)} {inc src:Nat} {v:AV} (js:List Nat) (hhs:A5t n0 s (H0++l) ⟨some d,op,none,hid,hida,inc,src⟩ = some (js.map (H0.length + ·))) (hseen:P9 s ⟨some d,op,none,hid,hida,inc,src⟩ hc = true)
  (h:One T c n0 s (H0++A4k l js) op v (H0++A4k l js)) (hw:writes op = false) (k:M9 T c n0 ops ((d,v) :: s) (H0++l) hc R) :
  M9 T c n0 (⟨some d,op,none,hid,hida,inc,src⟩ :: ops) s (H0++l) hc R :=
 D6c js hhs hseen h (by rw [B1g]; exact Nat.ble_eq_true_of_le (Nat.le_refl _)) (by rw [C8w,hw]; exact k)
theorem A64 {op:AOp} {d:Option Nat} {hid:List Nat} {hida:List (Nat × List Nat)} {inc src:Nat} {v:AV} {l1:List AO} (js:List Nat) (l2:List AO) (hhs:A5t n0 s (H0++l) ⟨d,op,none,hid,hida,inc,src⟩ = some (js.map (H0.length + ·))) (hseen:P9 s ⟨d,op,none,hid,hida,inc,src⟩ hc = true)
  (h:One T c n0 s (H0++A4k l js) op v (H0++l1)) (hle:Nat.ble l.length l1.length = true) (hw:writes op = true) (e:Z2 l l1 js = l2) (k:M9 T c n0 ops (sput s d v) (H0++l2) (some (js.map (H0.length + ·)) :: hc) R) :
  M9 T c n0 (⟨d,op,none,hid,hida,inc,src⟩ :: ops) s (H0++l) hc R :=
 D6c js hhs hseen h hle (by rw [e,hw]; exact k)
theorem I6 {s:C9} {H:A7}:ways s H [] = some []:=rfl
theorem A0y {s:C9} {H:A7} {t b b':Nat} {p:List Nat} {l:List (Nat × List Nat)} {bs:List Nat} (h:(sget s t).bind AV.box? = some b) (hf:follow H b p = some b') (k:ways s H l = some bs):ways s H ((t,p) :: l) = some (b' :: bs):= by
 simp only [ways,h,hf,k]
theorem X4 {H:A7} {b:Nat}:follow H b [] = some b:=rfl
theorem D01 (H0:A7) (l:List AO) {js:List Nat} (h:(js.all fun j=>Nat.blt j l.length) = true):((js.map (H0.length + ·)).all fun b=>Nat.blt b (H0++l).length) = true:= by
 rw [List.all_eq_true] at h ⊢
 intro b hb
 simp only [List.mem_map] at hb
 obtain ⟨j,hj,rfl⟩:=hb
 have:=Nat.le_of_ble_eq_true (h j hj)
 exact Nat.ble_eq_true_of_le (by simp; omega)
theorem W5 {op:AOp} {d:Option Nat} {g:Option (Nat × Bool)} {hid:List Nat} {hida:List (Nat × List Nat)} {inc src:Nat} {bs js:List Nat} {k0:Nat} (jh:List Nat) (ejh:hid.map (H0.length + k0 + ·) = jh.map (H0.length + ·)) (hw:ways s (H0++A4k l jh) hida = some bs) (e:jh.map (H0.length + ·)++bs = js.map (H0.length + ·)) (hall:(js.all fun j=>Nat.blt j l.length) = true) :
  A5t (H0.length + k0) s (H0++l) ⟨d,op,g,hid,hida,inc,src⟩ = some (js.map (H0.length + ·)):= by
 unfold A5t
 simp only [ejh,B58,hw,e,D01 H0 l hall,Bool.or_true,if_true]
theorem seen0 {o:AOper} (h:o.inc = 0):P9 s o hc = true:= by
 unfold P9; split
 ·rfl
 ·simp [h]
theorem A6j {o:AOper} {b:Nat} (hb:rbox s o.op = some b) (h:((hc.take o.inc).all fun e=>match e with | none=>true | some hs=>hs.contains b) = true):P9 s o hc = true:= by
 unfold P9; rw [hb]; exact h
theorem Q7 (N:Nat) {js:List Nat} {j:Nat} (h:js.contains j = true):(js.map (N + ·)).contains (N + j) = true:= by
 simp only [List.contains_iff_mem,List.mem_map] at h ⊢
 exact ⟨j,h,rfl⟩
theorem D78 {α β:Type} {o:Option α} {f:α→Option β} {r:β} (h:o.bind f = some r):∃x,o = some x∧f x = some r:= by
 cases o with
 | none=>cases h
 | some x=>exact ⟨x,rfl,h⟩
def calm:List AOper→Bool
 | []=>true
 | o :: l=>Nat.beq o.inc 0 && calm l
theorem D3a {M:Mach} {o:AOper} (ho:Nat.beq o.inc 0 = true) (hc hc':List (Option (List Nat))) {x:C9 × A7 × List (Option (List Nat))} (e:oper M c n0 s H hc o = some x):∃hc1,oper M c n0 s H hc' o = some (x.1,x.2.1,hc1):= by
 have hz:o.inc = 0:=Nat.eq_of_beq_eq_true ho
 have h2:∀hc,P9 s o hc = true:= by intro hc; unfold P9; split <;> simp [hz]
 unfold oper at e ⊢
 split at e
 ·cases e
 ·simp only [Option.some.injEq] at e; subst e; exact ⟨_,rfl⟩
 ·rw [h2] at e ⊢
  split at e
  ·next hs _ e1 _ =>
   try simp only [e1]
   split at e
   ·next r e3 =>
    try simp only [e3]
    split at e
    ·next e4=>simp only [Option.some.injEq] at e; subst e; simp only [e4,if_true]; exact ⟨_,rfl⟩
    ·cases e
   ·cases e
  ·cases e
theorem C1z {M:Mach}:∀{l:List AOper} (_:calm l = true) {s:C9} {H:A7} (hc hc':List (Option (List Nat))) {r:C9 × A7},opers M c n0 l s H hc = some r→opers M c n0 l s H hc' = some r
 | [],_,_,_,_,_,_,e=>e
 | o :: l,h,s,H,hc,hc',r,e=>by
  simp only [calm,Bool.and_eq_true] at h
  simp only [opers] at e ⊢
  split at e
  ·cases e
  ·next s1 H1 hc1 e1 =>
   obtain ⟨hc2,e2⟩:=D3a h.1 hc hc' e1
   simp only [e2]
   exact C1z h.2 _ _ e
theorem C4y (M:Mach):∀(l m:List AOper) (s:C9) (H:A7) (hc:List (Option (List Nat))),opers M c n0 (l++m) s H hc = (opers3 M c n0 l (s,H,hc)).bind fun x=>opers M c n0 m x.1 x.2.1 x.2.2
 | [],m,s,H,hc=>rfl
 | o :: l,m,s,H,hc=>by
  simp only [List.cons_append,opers,opers3]
  cases oper M c n0 s H hc o with
  | none=>rfl
  | some y=>exact C4y M l m y.1 y.2.1 y.2.2
theorem B8a (n:Nat) (s1:C9) (H1:A7) (hq:calm (ops.drop n) = true) (h1:C6q T c n0 (ops.take n) s H hc s1 H1) (hR:∀a b H,Sub a b→R a H→R b H) (h2:M9 T c n0 (ops.drop n) s1 H1 [] R):M9 T c n0 ops s H hc R:= by
 obtain ⟨n1,t1,_,e1,rfl,r1⟩:=h1
 obtain ⟨n2,t2,H',e2,r2⟩:=h2
 have e1':=A2o (M6 T (Nat.le_max_left n1 n2)) e1
 have e2':=A2o (M6 T (Nat.le_max_right n1 n2)) e2
 obtain ⟨S2,e3,r3⟩:=B5d r1 e2'
 refine ⟨max n1 n2,S2,H',?_,hR _ _ _ r3 r2⟩
 have h3:=B79 (mach T (max n1 n2)) c n0 (ops.take n) (s,H,hc)
 simp only at h3
 rw [e1'] at h3
 cases h4:opers3 (mach T (max n1 n2)) c n0 (ops.take n) (s,H,hc) with
 | none=>rw [h4] at h3; cases h3
 | some y =>
  rw [h4] at h3
  simp only [Option.map_some,Option.some.injEq,Prod.mk.injEq] at h3
  have h5:opers (mach T (max n1 n2)) c n0 (ops.take n++ops.drop n) s H hc = some (S2,H'):= by
   rw [C4y,h4]
   simp only [Option.bind_some,← h3.1,← h3.2]
   exact C1z hq _ _ e3
  rw [List.take_append_drop] at h5
  exact h5
def RG (live:List Nat) (Q:Ex→C9→A7→Prop) (s:C9) (H:A7):Prop:=∃ s',Sub s' s∧(s'.all fun x=>live.contains x.1) = true∧Q .normal s' H
theorem C22 {d:Bool} {nres:Nat} {live:List Nat} {Q:Ex→C9→A7→Prop} (k0:Nat) (hk:l.length = k0)
  (h:M9 T c (H0.length + k0) ops s (H0++(l++List.replicate nres .dead)) [] (RG live Q)):WP T (.region d nres [] ops live) s (H0++l) c Q:= by
 obtain ⟨n,s1,H1,h1,s',h2,h3,h4⟩:=h
 exact C5g k0 s' H1 hk h3 ⟨n,s1,H1,h1,rfl,h2⟩ h4
structure InlQ (T:Tab) (c:Sc) (n0 N:Nat) (rv:List ARes) (own:List (List (Nat × Nat))) (d:Nat) (ops:List AOper) (s:C9) (hc:List (Option (List Nat))) (R:C9→A7→Prop) (e:Ex) (s1:C9) (H2:A7):Prop where
 he:(match e with | .exit _=>False | _=>True)
 hr:∃rs0 rs H3 vs H4,results s1 H2 rv = some rs0∧A0n N H2 rs0 = some (rs,H3)∧A1e n0 (trunc N rs H3) rs own = (vs,H4)∧M9 T c n0 ops ((d,packed vs) :: s) H4 (some [] :: hc) R
theorem Q0 {f:Opd} {args:List Opd} {own:List (List (Nat × Nat))} {d src i N:Nat} {first cap aq as' as2:List AV} {af:AFunc} {H1:A7} (hf:ev s f = some (.fn (.func i) first cap)) (ha:evs s args = some aq) (hz:W4 H aq = some (as',H1)) (haf:T i = some af) (has:first++as'++cap = as2) (hn:Nat.beq as2.length af.nargs = true) (hN:H1.length = N)
  (h:WP T af.body (Q3 0 as2) H1 ⟨N,c.cur :: c.outer⟩ (InlQ T c n0 N af.results own d ops s hc R)):M9 T c n0 (⟨some d,.call f args own false,none,[],[],0,src⟩ :: ops) s H hc R:= by
 obtain ⟨e,S',s',H',h1,h2,h3,rs0,rs,H3,vs,H4,h4,h5,h6,n2,s2,H5,h7,h8⟩:=h _ (Sub.refl _)
 subst hN
 have hcall:=V4.fn (c:=c) (H:=H1) (f:=.fn (.func i) first cap) (args:=as') (rs:=rs) (rs1:=rs) (rs0:=rs0) rfl haf rfl has.symm hn rfl h1 (by cases e <;> first | rfl | exact h3.elim) (A2r h2 h4) h5 rfl rfl
 obtain ⟨n1,e1⟩:=hcall
 refine ⟨max n1 n2,s2,H5,?_,h8⟩
 have e1':=(M6 T (Nat.le_max_left n1 n2)).call _ _ _ _ _ e1
 have e2':=A2o (M6 T (Nat.le_max_right n1 n2)) h7
 simp only [opers]
 rw [C1x (v:=packed vs) (H':=H4) (by simp only [core,A0o,hf,ha,Bool.false_eq_true,if_false,hz,e1',h6])]
 simp only [writes,Bool.not_false,if_true,sput]
 exact e2'
structure InlH (T:Tab) (c:Sc) (n0 N:Nat) (rv:List ARes) (own:List (List (Nat × Nat))) (d:Nat) (ops:List AOper) (s:C9) (hc:List (Option (List Nat))) (R:C9→A7→Prop) (js:List Nat) (H0:A7) (l l2:List AO) (e:Ex) (s1:C9) (H2:A7):Prop where
 he:(match e with | .exit _=>False | _=>True)
 hr:∃rs0 rs H3 vs l4,results s1 H2 rv = some rs0∧A0n N H2 rs0 = some (rs,H3)∧A1e n0 (trunc N rs H3) rs own = (vs,H0++l4)∧Nat.ble l.length l4.length = true∧Z2 l l4 js = l2∧M9 T c n0 ops ((d,packed vs) :: s) (H0++l2) (some (js.map (H0.length + ·)) :: hc) R
theorem C1m {H0:A7} {l l2:List AO} {f:Opd} {args:List Opd} {own:List (List (Nat × Nat))} {d src i N inc:Nat} {hid:List Nat} {hida:List (Nat × List Nat)} {first cap aq as' as2:List AV} {af:AFunc} {H1:A7} (js:List Nat) (hhs:A5t n0 s (H0++l) ⟨some d,.call f args own false,none,hid,hida,inc,src⟩ = some (js.map (H0.length + ·))) (hseen:P9 s ⟨some d,.call f args own false,none,hid,hida,inc,src⟩ hc = true)
  (hf:ev s f = some (.fn (.func i) first cap)) (ha:evs s args = some aq) (hz:W4 (H0++A4k l js) aq = some (as',H1)) (haf:T i = some af) (has:first++as'++cap = as2) (hn:Nat.beq as2.length af.nargs = true) (hN:H1.length = N)
  (h:WP T af.body (Q3 0 as2) H1 ⟨N,c.cur :: c.outer⟩ (InlH T c n0 N af.results own d ops s hc R js H0 l l2)):M9 T c n0 (⟨some d,.call f args own false,none,hid,hida,inc,src⟩ :: ops) s (H0++l) hc R:= by
 obtain ⟨e,S',s',H',h1,h2,h3,rs0,rs,H3,vs,l4,h4,h5,h6,h7,h8,h9⟩:=h _ (Sub.refl _)
 subst hN
 have hcall:=V4.fn (c:=c) (H:=H1) (f:=.fn (.func i) first cap) (args:=as') (rs:=rs) (rs1:=rs) (rs0:=rs0) rfl haf rfl has.symm hn rfl h1 (by cases e <;> first | rfl | exact h3.elim) (A2r h2 h4) h5 rfl rfl
 obtain ⟨n1,e1⟩:=hcall
 exact A64 js l2 hhs hseen (v:=packed vs) (l1:=l4) ⟨n1,by simp only [core,A0o,hf,ha,Bool.false_eq_true,if_false,hz,e1,h6]⟩ h7 rfl h8 h9
end
section
variable {H0:A7} {l:List AO} {j:Nat}
theorem A02 (H0:A7) (l:List AO) (j:Nat):hget (H0++l) (H0.length + j) = l[j]?:= by
 unfold hget; rw [List.getElem?_append_right (Nat.le_add_right _ _)]; congr 1; omega
theorem I1 (H0:A7) (l:List AO) (j:Nat) (o:AO):hset (H0++l) (H0.length + j) o = H0++l.set j o:= by
 unfold hset; rw [List.set_append_right _ _ (Nat.le_add_right _ _)]; congr 2; omega
theorem C4h {b:Nat} {o:AO} (h:hget H0 b = some o) (l:List AO):hget (H0++l) b = some o:= by
 unfold hget at h ⊢
 have:=List.getElem?_eq_some_iff.1 h
 rw [List.getElem?_append_left this.1]; exact h
theorem D9 {cs:List AV} (h:l[j]? = some (.cells cs)):hcells (H0++l) (H0.length + j) = some cs:= by
 unfold hcells; rw [A02,h]
theorem A9j {cs:List AV} (h:l[j]? = some (.cells cs)):A1t (H0++l) (H0.length + j) = some cs:= by
 unfold A1t; rw [A02,h]
theorem N3 {b:Nat} {cs:List AV} (h:hcells H0 b = some cs) (l:List AO):hcells (H0++l) b = some cs:= by
 unfold hcells at h ⊢
 split at h
 ·next e=>rw [C4h e]; exact h
 ·next e=>rw [C4h e]; exact h
 ·cases h
theorem B7y (H:A7) (b:Nat):hcells (H.map AO.toRo) b = hcells H b:= by
 unfold hcells hget
 rw [List.getElem?_map]
 cases h:H[b]? with
 | none=>rfl
 | some o=>cases o <;> first | rfl | (next o=>cases o <;> rfl)
theorem A01 {k:Nat} {p:Bool} {rows:List (List AV)} (h:l[j]? = some (.arr k p rows)):harr (H0++l) (H0.length + j) = some (k,p,rows):= by
 unfold harr; rw [A02,h]
theorem U0 {k:Nat} {p:Bool} {rows:List (List AV)} (h:l[j]? = some (.arr k p rows)):A4j (H0++l) (H0.length + j) = some (k,p,rows):= by
 unfold A4j; rw [A02,h]
theorem I2 (H0:A7) (l:List AO) (k:Nat):(H0++l).take (H0.length + k) = H0++l.take k:= by
 rw [List.take_append,List.take_of_length_le (Nat.le_add_right _ _)]; simp
end
def cI (n:Int):List AV:=[.lit (.int .i64 n)]
def A0z (n:Int):List AV:=[.lit (.int .u8 n)]
def cB (b:Bool):List AV:=[.lit (.bool b)]
def cS (s:ByteArray):List AV:=[.lit (.string s)]
structure IArr (n:Nat) where
 l:List Int
 h:l.length = n
theorem IArr.ext {n:Nat} {a b:IArr n} (h:a.l = b.l):a = b:= by cases a; cases b; simp only at h; subst h; rfl
instance {n:Nat}:DecidableEq (IArr n):=fun a b=>if h:a.l = b.l then isTrue (IArr.ext h) else isFalse fun e=>h (by rw [e])
def IArr.zero (n:Nat):IArr n:=⟨List.replicate n 0,List.length_replicate⟩
def IArr.set {n:Nat} (a:IArr n) (i x:Int):IArr n:=⟨a.l.set i.toNat x,by rw [List.length_set]; exact a.h⟩
abbrev w64 (n:Int):Int:=IntKind.i64.wrap n
def idx {α:Type} (l:List α) (i:Int):Option α:=if 0≤i then l[i.toNat]? else none
def A6l {α:Type} (l:List α) (i:Int) (x:α):List α:=l.set i.toNat x
def app {α:Type} (bytes:Nat) (l m:List α):Option (List α):=if (l.length + m.length) * bytes≤1099511627776∧l.length + m.length≤1099511627776 then some (l++m) else none
def slc {α:Type} (l:List α) (lo hi:Int):Option (List α):=if 0≤lo∧lo≤hi∧hi≤l.length then some ((l.take hi.toNat).drop lo.toNat) else none
def C2r (s:ByteArray) (i:Int):Option Int:=if 0≤i then (s[i.toNat]?).map fun c=>(c.toNat:Int) else none
def C4t {α:Type} (bytes:Nat) (n:Int) (z:α):Option (List α):=if 0≤n∧n * bytes≤1099511627776∧n≤1099511627776 then some (List.replicate n.toNat z) else none
def C2e (a b:Int):Option Int:=if b = 0 then none else some (a.tmod b)
def B4g (k:IntKind) (a b:Int):Option Int:=if b < 0 then none else some (k.wrap (a * 2 ^ (min b.toNat k.bits)))
def B4h (k:IntKind) (a b:Int):Option Int:=if b < 0 then none else some (a.fdiv (2 ^ (min b.toNat k.bits)))
def B4z (a b:Int):Int:=w64 (BitVec.ofInt 64 a &&& BitVec.ofInt 64 b).toNat
def orI (a b:Int):Int:=w64 (BitVec.ofInt 64 a ||| BitVec.ofInt 64 b).toNat
def P0 (k:IntKind) (a b:Int):Int:=k.wrap (BitVec.ofInt k.bits a &&& BitVec.ofInt k.bits b).toNat
def A1h (x y:Int):Int:=if y > x then y else x
def A3a (x y:Int):Int:=if y < x then y else x
def eqS (x y:ByteArray):Bool:=x.data.toList == y.data.toList
section
variable {T:Tab} {s:C9} {H0 H:A7} {l:List AO} {c:Sc} {n0 k0:Nat} {R:C9→A7→Prop}
theorem E3r {x:Opd} {v:AV} (h:ev s x = some v):One T c n0 s H (.mv x) v H:=⟨0,by simp [core,prim,h]⟩
theorem D0 {x a b:Opd} {g:Bool} {v:AV} (h:ev s x = some (.lit (.bool g))) (hg:g = true) (ha:ev s a = some v):One T c n0 s H (.pick x a b) v H:=⟨0,by subst hg; simp [core,prim,h,ha]⟩
theorem D1 {x a b:Opd} {g:Bool} {v:AV} (h:ev s x = some (.lit (.bool g))) (hg:g = false) (ha:ev s b = some v):One T c n0 s H (.pick x a b) v H:=⟨0,by subst hg; simp [core,prim,h,ha]⟩
theorem qm {hc:List (Option (List Nat))} {ops:List AOper} {d src:Nat} {x:Opd} {v:AV} (h:ev s x = some v) (k:M9 T c n0 ops ((d,v) :: s) H hc R):M9 T c n0 (⟨some d,.mv x,none,[],[],0,src⟩ :: ops) s H hc R:=A0 (E3r h) rfl k
theorem B18 {k r:Nat}:One T c (H0.length + k0) s (H0++l) (.nil k r) (.asl (H0.length + (k0 + r)) 0) (H0++l.set (k0 + r) (.arr k false [])) :=
 ⟨0,by simp only [core,prim,Nat.add_assoc,I1]⟩
theorem D6 {zs:List AV} {r:Nat}:One T c (H0.length + k0) s (H0++l) (.alloc zs [] r) (.ptr (H0.length + (k0 + r)) 0) (H0++l.set (k0 + r) (.cells zs)) :=
 ⟨0,by simp only [core,prim,R3,Nat.add_assoc,I1]⟩
theorem A8r {zs:List AV} {j q k j' q' k' r:Nat}:One T c (H0.length + k0) s (H0++l) (.alloc zs [(j,q,k),(j',q',k')] r) (.ptr (H0.length + (k0 + r)) 0) (H0++((l.set (k0 + q) (.arr k false [])).set (k0 + q') (.arr k' false [])).set (k0 + r) (.cells ((zs.set j (.asl (H0.length + (k0 + q)) 0)).set j' (.asl (H0.length + (k0 + q')) 0)))) :=
 ⟨0,by simp only [core,prim,R3,Nat.add_assoc,I1]⟩
theorem F3 {n r:Nat} {x:Opd} {v:AV} {cs:List AV} (h:ev s x = some v) (hc:v.cellsOf = cs) (hn:Nat.beq cs.length n = true):One T c (H0.length + k0) s (H0++l) (.box n x r) (.ptr (H0.length + (k0 + r)) 0) (H0++l.set (k0 + r) (.cells cs)) :=
 ⟨0,by subst hc; simp only [core,prim,h,hn,if_true,Nat.add_assoc,I1]⟩
theorem G6 {z cs:List AV} {parts:List (Nat × Nat × Opd)} {ps:List (Nat × Nat × AV)} (h1:Y4 s parts = some ps) (h2:B16 z ps = some cs):One T c n0 s H (.build z parts) (.agg cs) H:=⟨0,by simp [core,prim,h1,h2]⟩
theorem J5 {k n:Nat} {z:List AV} {parts:List (Nat × Opd)} {ps:List (Nat × AV)} {rows:List (List AV)} (h1:N0 s parts = some ps) (h2:A6m k (List.replicate n z) ps = some rows) (h3:B9d rows = true):One T c n0 s H (.lits k z n parts none) (.seq k rows) H :=
 ⟨0,by simp [core,prim,h1,h2,h3]⟩
theorem A2m {k n r:Nat} {z:List AV} {parts:List (Nat × Opd)} {ps:List (Nat × AV)} {rows:List (List AV)} (h1:N0 s parts = some ps) (h2:A6m k (List.replicate n z) ps = some rows) (h3:B9d rows = true) :
  One T c (H0.length + k0) s (H0++l) (.lits k z n parts (some r)) (.asl (H0.length + (k0 + r)) n) (H0++l.set (k0 + r) (.arr k false rows)) :=
 ⟨0,by simp [core,prim,h1,h2,h3,Nat.add_assoc,I1]⟩
theorem C3 {a:Opd} {j o:Nat} {cs:List AV} {x:AV} (h:ev s a = some (.ptr (H0.length + j) o)) (hl:l[j]? = some (.cells cs)) (hd:(cs.drop o).head? = some x):One T c n0 s (H0++l) (.load none a) x (H0++l) :=
 ⟨0,by
  simp only [core,prim,h,I9,D9 hl]
  cases hc:cs.drop o with
  | nil=>simp [hc] at hd
  | cons y t=>simp only [hc,List.head?_cons,Option.some.injEq] at hd; subst hd; rfl⟩
theorem E3 {a:Opd} {j o k:Nat} {cs ds:List AV} (h:ev s a = some (.ptr (H0.length + j) o)) (hl:l[j]? = some (.cells cs)) (hk:Nat.ble k (cs.drop o).length = true) (hd:(cs.drop o).take k = ds):One T c n0 s (H0++l) (.load (some k) a) (.agg ds) (H0++l) :=
 ⟨0,by simp only [core,prim,h,I9,D9 hl,hk,if_true,hd]⟩
theorem J9 {a:Opd} {b o:Nat} {cs:List AV} {x:AV} (h:ev s a = some (.ptr b o)) (hl:hcells H0 b = some cs) (hd:(cs.drop o).head? = some x):One T c n0 s (H0++l) (.load none a) x (H0++l) :=
 ⟨0,by
  simp only [core,prim,h,I9,N3 hl]
  cases hc:cs.drop o with
  | nil=>simp [hc] at hd
  | cons y t=>simp only [hc,List.head?_cons,Option.some.injEq] at hd; subst hd; rfl⟩
theorem C1j {a:Opd} {b o k:Nat} {cs ds:List AV} (h:ev s a = some (.ptr b o)) (hl:hcells H0 b = some cs) (hk:Nat.ble k (cs.drop o).length = true) (hd:(cs.drop o).take k = ds):One T c n0 s (H0++l) (.load (some k) a) (.agg ds) (H0++l) :=
 ⟨0,by simp only [core,prim,h,I9,N3 hl,hk,if_true,hd]⟩
theorem E9 {a:Opd} {cs:List AV} {x:AV} (h:ev s a = some (.cptr cs)) (hd:cs.head? = some x):One T c n0 s H (.load none a) x H :=
 ⟨0,by
  simp only [core,prim,h,I9]
  cases cs with
  | nil=>simp at hd
  | cons y t=>simp only [List.head?_cons,Option.some.injEq] at hd; subst hd; rfl⟩
theorem C1k {a:Opd} {k:Nat} {cs ds:List AV} (h:ev s a = some (.cptr cs)) (hk:Nat.ble k cs.length = true) (hd:cs.take k = ds):One T c n0 s H (.load (some k) a) (.agg ds) H :=
 ⟨0,by simp only [core,prim,h,I9,hk,if_true,hd]⟩
theorem B91 {a:Opd} {j n i o k:Nat} {p:Bool} {rows:List (List AV)} {r:List AV} {x:AV} (h:ev s a = some (.eptr (H0.length + j) n i o)) (hl:l[j]? = some (.arr k p rows)) (hn:rows.length = n) (hr:rows[i]? = some r) (hd:(r.drop o).head? = some x):One T c n0 s (H0++l) (.load none a) x (H0++l) :=
 ⟨0,by
  simp only [core,prim,h,I9,A01 hl,hn,Nat.beq_refl,if_true,hr]
  cases hc:r.drop o with
  | nil=>simp [hc] at hd
  | cons y t=>simp only [hc,List.head?_cons,Option.some.injEq] at hd; subst hd; rfl⟩
theorem C0 {b:Nat}:∀{vs:List AV},vs.all AV.plain = true→c.okL b vs = true
 | [],_=>rfl
 | v :: vs,h=>by
  simp only [List.all_cons,Bool.and_eq_true] at h
  simp only [Sc.okL,Sc.ok,h.1,C0 h.2,Bool.or_true,Bool.true_or,Bool.and_self]
theorem U9 {b:Nat} (hb:c.cur≤b):∀{vs:List AV},c.okL b vs = true
 | []=>rfl
 | v :: vs=>by simp only [Sc.okL,Sc.ok,Nat.ble_eq_true_of_le hb,Bool.true_or,U9 hb,Bool.and_self]
theorem C7 {a x:Opd} {j o k:Nat} {cs ds:List AV} {v:AV} (h:ev s a = some (.ptr (H0.length + j) o)) (hv:ev s x = some v) (hl:l[j]? = some (.cells cs)) (hk:(Nat.beq v.cellsOf.length k && Nat.ble (o + k) cs.length) = true) (hok:c.okL (H0.length + j) v.cellsOf = true) (hd:splice cs o v.cellsOf = ds) :
  One T c n0 s (H0++l) (.store k a x) (.tup []) (H0++l.set j (.cells ds)) :=
 ⟨0,by simp only [core,prim,h,hv,A9j hl,hk,hok,Bool.and_self,if_true,hd,I1]⟩
theorem B44 {H:A7}:∀{vs:List AV},vs.all AV.plain = true→A1d H vs = some (vs,H)
 | [],_=>rfl
 | v :: vs,h=>by
  simp only [List.all_cons,Bool.and_eq_true] at h
  have:frv H v = some (v,H):= by cases v <;> first | rfl | (simp [AV.plain] at h)
  simp only [A1d,this,B44 h.2]
theorem B6l {a x:Opd} {j n i o k kk:Nat} {rows:List (List AV)} {r ds:List AV} {v:AV} (h:ev s a = some (.eptr (H0.length + j) n i o)) (hv:ev s x = some v) (hp:v.cellsOf.all AV.plain = true) (hz:v.cellsOf.all AV.frz = true) (hl:l[j]? = some (.arr kk false rows)) (hn:rows.length = n) (hr:rows[i]? = some r)
  (hk:(Nat.beq v.cellsOf.length k && Nat.ble (o + k) r.length) = true) (hd:splice r o v.cellsOf = ds) :
  One T c n0 s (H0++l) (.store k a x) (.tup []) (H0++l.set j (.arr kk false (rows.set i ds))) :=
 ⟨0,by
  rw [Bool.and_eq_true] at hk
  simp only [core,prim,h,hv,B44 hp,U0 hl,hr,hn,Nat.beq_refl,hk.1,hk.2,hz,Bool.and_self,if_true,hd,I1]⟩
def D5x:AV→Bool
 | .ptr _ _ | .eptr _ _ _ _ | .cptr _ | .fn (.func _) _ _=>true
 | _=>false
theorem P2 {x:Opd} {v:AV} (h:ev s x = some v) (hv:D5x v = true):One T c n0 s H (.nilck x) v H:=⟨0,by
 cases v with
 | fn f a b=>cases f <;> first | (simp [core,prim,h]; done) | (simp [D5x] at hv)
 | _=>first | (simp [core,prim,h]; done) | (simp [D5x] at hv)⟩
theorem F9 {op:BinOp} {x y:Opd} {a b v:AV} (hx:ev s x = some a) (hy:ev s y = some b) (hv:A9w op a b = some v):One T c n0 s H (.bin op x y) v H:=⟨0,by simp [core,prim,hx,hy,hv]⟩
theorem D50 {ng:Bool} {ks:List Nat} {x y:Opd} {a b:List AV} {t:Bool} (hx:ev s x = some (.agg a)) (hy:ev s y = some (.agg b)) (ha:kinds ks a = true) (hb:kinds ks b = true) (ht:J0 a b = some t):One T c n0 s H (.cmp ng ks x y) (.lit (.bool (if ng then !t else t))) H :=
 ⟨0,by simp [core,prim,hx,hy,ha,hb,ht]⟩
theorem B5y:J0 [] [] = some true:=rfl
theorem A28 {k:IntKind} {a b:Int} {l m:List AV} {t:Bool} (h:J0 l m = some t):J0 (.lit (.int k a) :: l) (.lit (.int k b) :: m) = some ((a == b) && t):= by
 simp only [J0,A5z,if_true]
 cases a == b <;> simp [h]
theorem D77 {op:UnOp} {x:Opd} {a v:AV} (hx:ev s x = some a) (hv:unV op a = some v):One T c n0 s H (.un op x) v H:=⟨0,by simp [core,prim,hx,hv]⟩
theorem A25 {k k':IntKind} {x:Opd} {n:Int} (h:ev s x = some (.lit (.int k' n))):One T c n0 s H (.conv k x) (.lit (.int k (k.wrap n))) H:=⟨0,by simp [core,prim,h]⟩
theorem A7n {f:Fn} {a b:List Opd} {u w:List AV} (h1:evs s a = some u) (h2:evs s b = some w):One T c n0 s H (.mkfn f a b) (.fn f u w) H:=⟨0,by simp [core,prim,h1,h2]⟩
theorem D23 {α:Type} {bytes:Nat} {n:Int} {z:α} {r:List α} (h:C4t bytes n z = some r):(0≤n∧n * bytes≤1099511627776∧n≤1099511627776)∧r = List.replicate n.toNat z:= by
 unfold C4t at h; split at h
 ·next e=>simp only [Option.some.injEq] at h; exact ⟨e,h.symm⟩
 ·cases h
theorem D26 {α:Type} {f:α→List AV} {k bytes r:Nat} {z:List AV} {x y:Opd} {n:Int} {zt:α} {e:List α} (hx:ev s x = some (.lit (.int .i64 n))) (hy:ev s y = some (.lit (.int .i64 n))) (hz:f zt = z) (h:C4t bytes n zt = some e) :
  One T c (H0.length + k0) s (H0++l) (.mkslice k bytes z x y r) (.asl (H0.length + (k0 + r)) e.length) (H0++l.set (k0 + r) (.arr k false (e.map f))):=⟨0,by
 obtain ⟨h1,h2⟩:=D23 h
 subst h2; subst hz
 simp only [core,prim,hx,hy,h1,and_self,if_true,Nat.add_assoc,I1,List.length_replicate,List.map_replicate]⟩
theorem B4b {α:Type} {e m:List α} {lo hi:Int} (h:slc e lo hi = some m):(0≤lo∧lo≤hi∧hi≤e.length)∧m = (e.take hi.toNat).drop lo.toNat:= by
 unfold slc at h; split at h
 ·next e1=>simp only [Option.some.injEq] at h; exact ⟨e1,h.symm⟩
 ·cases h
theorem B0p {α:Type} {f:α→List AV} {k:Nat} {x:Opd} {lo hi:Option Opd} {e m:List α} {a b:Int} (h:ev s x = some (.seq k (e.map f))) (h1:bnd s 0 lo = some a) (h2:bnd s e.length hi = some b) (hm:slc e a b = some m):One T c n0 s H (.sliceQ k x lo hi) (.seq k (m.map f)) H:=⟨0,by
 obtain ⟨h3,rfl⟩:=B4b hm
 simp only [core,prim,h,h1,List.length_map,h2,h3,and_self,if_true,List.map_drop,List.map_take]⟩
theorem C4 {off b o:Nat} {x:Opd} (h:ev s x = some (.ptr b o)):One T c n0 s H (.fieldAddr off x) (.ptr b (o + off)) H:=⟨0,by simp [core,prim,h]⟩
theorem D1x {off b n i o:Nat} {x:Opd} (h:ev s x = some (.eptr b n i o)):One T c n0 s H (.fieldAddr off x) (.eptr b n i (o + off)) H:=⟨0,by simp [core,prim,h]⟩
theorem A29 {off:Nat} {x:Opd} {cs ds:List AV} (h:ev s x = some (.cptr cs)) (hd:cs.drop off = ds):One T c n0 s H (.fieldAddr off x) (.cptr ds) H:=⟨0,by simp [core,prim,h,hd]⟩
theorem C53 {α:Type} {e:List α} {n:Int} {a:α} (h:idx e n = some a):0≤n∧e[n.toNat]? = some a:= by
 unfold idx at h; split at h
 ·next h1=>exact ⟨h1,h⟩
 ·cases h
theorem E6 {α:Type} {f:α→List AV} {k:Nat} {kk:IntKind} {x i:Opd} {e:List α} {n:Int} {a:α} (h:ev s x = some (.seq k (e.map f))) (hi:ev s i = some (.lit (.int kk n))) (ha:idx e n = some a):One T c n0 s H (.idxS k x i) (.cptr (f a)) H:=⟨0,by
 obtain ⟨h1,h2⟩:=C53 ha
 simp [core,prim,h,hi,h1,h2]⟩
theorem C1h {α:Type} {f:α→List AV} {k j m:Nat} {p:Bool} {kk:IntKind} {x i:Opd} {e:List α} {n:Int} {a:α} (h:ev s x = some (.asl (H0.length + j) m)) (hi:ev s i = some (.lit (.int kk n))) (hl:l[j]? = some (.arr k p (e.map f))) (hm:e.length = m) (ha:idx e n = some a) :
  One T c n0 s (H0++l) (.idxS k x i) (.eptr (H0.length + j) m n.toNat 0) (H0++l):=⟨0,by
 obtain ⟨h1,h2⟩:=C53 ha
 have h3:n < m:= by
  have:=(List.getElem?_eq_some_iff.1 h2).1
  omega
 simp [core,prim,h,hi,A01 hl,h1,h3,hm]⟩
theorem B3k {α:Type} {f:α→List AV} {e:List α} {n:Int} {a:α} (ha:idx e n = some a):(e.map f)[n.toNat]? = some (f a):= by
 rw [List.getElem?_map,(C53 ha).2]; rfl
theorem C1i {kk:IntKind} {x i:Opd} {b:ByteArray} {n a:Int} (h:ev s x = some (.lit (.string b))) (hi:ev s i = some (.lit (.int kk n))) (ha:C2r b n = some a):One T c n0 s H (.idxStr x i) (.lit (.int .u8 a)) H:=⟨0,by
 unfold C2r at ha
 split at ha
 ·next h1 =>
  simp only [Option.map_eq_some_iff] at ha
  obtain ⟨c',h2,rfl⟩:=ha
  simp [core,prim,h,hi,h1,h2]
 ·cases ha⟩
theorem A6 {x:Opd} {i:Nat} {cs:List AV} {v:AV} (h:ev s x = some (.tup cs)) (hv:cs[i]? = some v):One T c n0 s H (.extract x i) v H:=⟨0,by simp [core,prim,h,hv]⟩
theorem C59 {x:Opd} {b:ByteArray} (h:ev s x = some (.lit (.string b))):One T c n0 s H (.lenS x) (.lit (.int .i64 b.size)) H:=⟨0,by simp [core,prim,h]⟩
theorem D8 {α:Type} {f:α→List AV} {k:Nat} {x:Opd} {e:List α} (h:ev s x = some (.seq k (e.map f))):One T c n0 s H (.lenL x) (.lit (.int .i64 e.length)) H:=⟨0,by simp [core,prim,h]⟩
theorem D72 {r:Nat}:One T c (H0.length + k0) s (H0++l) (.mkmap r) (.mp (H0.length + (k0 + r))) (H0++l.set (k0 + r) (.map [])):=⟨0,by simp only [core,prim,Nat.add_assoc,I1]⟩
theorem A7w {k n:Nat} {z:List AV} {parts:List (Nat × Opd)} {ps:List (Nat × AV)} {rows:List (List AV)} (h1:N0 s parts = some ps) (h2:A6m k (List.replicate n z) ps = some rows):One T c n0 s H (.xlits k z n parts) (.xseq k rows) H :=
 ⟨0,by simp [core,prim,h1,h2]⟩
theorem D52 {k:Nat} {kk:IntKind} {x i:Opd} {rows:List (List AV)} {n:Int} {r:List AV} (h:ev s x = some (.xseq k rows)) (hi:ev s i = some (.lit (.int kk n))) (hr:(if 0≤n then rows[n.toNat]? else none) = some r):One T c n0 s H (.idxS k x i) (.cptr r) H:=⟨0,by
 split at hr
 ·next h0=>simp [core,prim,h,hi,h0,hr]
 ·cases hr⟩
theorem D9v {k:Nat} {x:Opd} {rows:List (List AV)} {n:Int} (h:ev s x = some (.xseq k rows)) (hn:(rows.length:Int) = n):One T c n0 s H (.lenL x) (.lit (.int .i64 n)) H:=⟨0,by simp [core,prim,h,hn]⟩
theorem C90 {α:Type} {f:α→List AV} {k j n:Nat} {p:Bool} {x:Opd} {e:List α} (h:ev s x = some (.asl (H0.length + j) n)) (hl:l[j]? = some (.arr k p (e.map f))) (hn:e.length = n):One T c n0 s (H0++l) (.lenL x) (.lit (.int .i64 e.length)) (H0++l):=⟨0,by
 simp [core,prim,h,A01 hl,hn]⟩
theorem C7z {mx:Bool} {xs:List Opd} {x v:AV} {vs:List AV} (h:evs s xs = some (x :: vs)) (hv:mmV mx x vs = some v):One T c n0 s H (.mm mx xs) v H:=⟨0,by simp [core,prim,h,hv]⟩
theorem B9r {α:Type} {b:Nat} {e m r:List α} (h:app b e m = some r):((e.length + m.length) * b≤1099511627776∧e.length + m.length≤1099511627776)∧r = e++m:= by
 unfold app at h; split at h
 ·next h1=>simp only [Option.some.injEq] at h; exact ⟨h1,h.symm⟩
 ·cases h
theorem E2 {α:Type} {f:α→List AV} (hf:∀a,(f a).all AV.frz = true) (e:List α):B9d (e.map f) = true:= by
 simp [B9d,List.all_map]
 intro a _ x hx
 have:=hf a
 rw [List.all_eq_true] at this
 exact this x hx
def rd (H:A7) (v:AV) (k:Nat) (rows:List (List AV)):Prop:=A4g H v = some rows∧kOf H v = some k
theorem R8 {H:A7} {k:Nat} {rows:List (List AV)}:rd H (.seq k rows) k rows:=⟨rfl,rfl⟩
theorem V6 {α:Type} {f:α→List AV} {k bytes j n:Nat} {p:Bool} {r:Option Nat} {x y:Opd} {e m d:List α} {v:AV} (hd:ev s x = some (.asl (H0.length + j) n)) (hx:ev s y = some v) (hl:l[j]? = some (.arr k p (d.map f))) (hn:d.length = n) (hr:rd (H0++l) v k (m.map f)) (hf:∀a,(f a).all AV.frz = true) (h:app bytes d m = some e) :
  One T c n0 s (H0++l) (.append k bytes x y r false) (.asl (H0.length + j) e.length) (H0++l.set j (.arr k p (e.map f))):=⟨0,by
 obtain ⟨h1,rfl⟩:=B9r h
 subst hn
 simp [core,prim,hd,hx,hr.1,hr.2,E2 hf,U0 hl,h1,I1]⟩
theorem B6j {α:Type} {f:α→List AV} {k bytes j n:Nat} {p:Bool} {r:Option Nat} {x y:Opd} {e m d:List α} {v:AV} (hd:ev s x = some (.asl (H0.length + j) n)) (hx:ev s y = some v) (hl:l[j]? = some (.arr k p (d.map f))) (hn:d.length = n) (hr:rd (H0++l) v k (m.map f)) (hf:∀a,(f a).all AV.frz = true) (h:app bytes d m = some e) :
  One T c n0 s (H0++l) (.append k bytes x y r true) (.seq k (e.map f)) (H0++l.set j .dead):=⟨0,by
 obtain ⟨h1,rfl⟩:=B9r h
 subst hn
 simp [core,prim,hd,hx,hr.1,hr.2,E2 hf,U0 hl,h1,I1]⟩
theorem D9t {α:Type} {f:α→List AV} {k j n:Nat} {x y:Opd} {m d:List α} {v:AV} (hd:ev s x = some (.asl (H0.length + j) n)) (hx:ev s y = some v) (hl:l[j]? = some (.arr k false (d.map f))) (hn:d.length = n) (hr:rd (H0++l) v k (m.map f)) (hf:∀a,(f a).all AV.frz = true) :
  One T c n0 s (H0++l) (.copy k x y) (.lit (.int .i64 (min m.length n:Nat))) (H0++l.set j (.arr k false ((m.take (min m.length n)++d.drop (min m.length n)).map f))):=⟨0,by
 subst hn
 simp [core,prim,hd,hx,hr.1,hr.2,E2 hf,U0 hl,I1]⟩
theorem D76 {x:Opd} {b:ByteArray} {r:Nat} (h:ev s x = some (.lit (.string b))):One T c (H0.length + k0) s (H0++l) (.range x r) (.itr (H0.length + (k0 + r))) (H0++l.set (k0 + r) (.iter b 0)):=⟨0,by simp only [core,prim,h,Nat.add_assoc,I1]⟩
theorem D74 {x:Opd} {b:ByteArray} {j pos:Nat} (h:ev s x = some (.itr (H0.length + j))) (hl:l[j]? = some (.iter b pos)) (hp:pos < b.size) :
  One T c n0 s (H0++l) (.next x) (.tup [.lit (.bool true),.lit (.int .i64 pos),.lit (.int .i32 (Utf8.decode b pos).1)]) (H0++l.set j (.iter b (pos + (Utf8.decode b pos).2))):=⟨0,by simp only [core,prim,h,A02,hl,hp,if_true,I1]⟩
theorem D73 {x:Opd} {b:ByteArray} {j pos:Nat} (h:ev s x = some (.itr (H0.length + j))) (hl:l[j]? = some (.iter b pos)) (hp:¬ pos < b.size) :
  One T c n0 s (H0++l) (.next x) (.tup [.lit (.bool false)]) (H0++l):=⟨0,by simp only [core,prim,h,A02,hl,hp,if_false]⟩
theorem C1l {x y:Opd} {a b r:Int} (hx:ev s x = some (.lit (.int .i64 a))) (hy:ev s y = some (.lit (.int .i64 b))) (h:C2e a b = some r):One T c n0 s H (.bin .rem x y) (.lit (.int .i64 r)) H:=F9 hx hy (by
 unfold C2e at h
 split at h
 ·cases h
 ·next hb=>simp only [Option.some.injEq] at h; subst h; simp [A9w,B2m,hb])
theorem B6k {k k':IntKind} {x y:Opd} {a b r:Int} (hx:ev s x = some (.lit (.int k a))) (hy:ev s y = some (.lit (.int k' b))) (h:B4g k a b = some r):One T c n0 s H (.bin .shl x y) (.lit (.int k r)) H:=F9 hx hy (by
 unfold B4g at h
 split at h
 ·cases h
 ·next hb=>simp only [Option.some.injEq] at h; subst h; simp only [A9w,hb,if_false])
theorem B19 {k k':IntKind} {x y:Opd} {a b r:Int} (hx:ev s x = some (.lit (.int k a))) (hy:ev s y = some (.lit (.int k' b))) (h:B4h k a b = some r):One T c n0 s H (.bin .shr x y) (.lit (.int k r)) H:=F9 hx hy (by
 unfold B4h at h
 split at h
 ·cases h
 ·next hb=>simp only [Option.some.injEq] at h; subst h; simp only [A9w,hb,if_false])
theorem B6g {α β:Type} {f:α→β} (l:List α) (i:Int) (x:α):(l.map f).set i.toNat (f x) = (A6l l i x).map f:= by
 unfold A6l; rw [List.map_set]
theorem A9s {α:Type} (l:List α) (i:Int) (x:α):(A6l l i x).length = l.length:=List.length_set ..
def fz1:AV→AV
 | .fresh k rows=>.seq k rows
 | v=>v
def fzA:AV→AV
 | .agg cs=>.agg (cs.map fz1)
 | v=>fz1 v
def F1 (T:Tab) (c:Sc) (H:A7) (f:AV) (aq rs:List AV):Prop:=V4 T c H f aq rs H∧bdL H.length rs = true
def A2d (T:Tab) (c:Sc) (H:A7) (f:AV) (aq rs:List AV):Prop:=∃ rs',F1 T c H f aq rs'∧rs'.map fzA = rs
theorem F1.frz {H:A7} {f:AV} {aq rs:List AV} (h:F1 T c H f aq rs):A2d T c H f aq (rs.map fzA):=⟨rs,h,rfl⟩
theorem C7p {n0:Nat} {H:A7}:∀(cs:List AV) (j:Nat),A6o n0 H [] j cs = (cs.map fz1,H)
 | [],_=>rfl
 | v :: cs,j=>by
  have:inC n0 H [] j v = (fz1 v,H):= by cases v <;> rfl
  simp only [A6o,this,C7p cs,List.map_cons]
theorem D1k {n0:Nat} {H:A7} (v:AV):inV n0 H [] v = (fzA v,H):= by
 cases v <;> simp [inV,fzA,C7p,inC,A1z,fz1]
theorem A4l {n0:Nat} {H:A7}:∀(rs:List AV),A1e n0 H rs [] = (rs.map fzA,H)
 | []=>rfl
 | v :: rs=>by simp only [A1e,List.headD_nil,D1k,List.tail_nil,A4l rs,List.map_cons]
theorem B4 {f:Opd} {args:List Opd} {d src:Nat} {fv:AV} {aq as' rs:List AV} {H1:A7} {hc:List (Option (List Nat))} {ops:List AOper} (hf:ev s f = some fv) (ha:evs s args = some aq) (hz:W4 H aq = some (as',H1)) (hcall:A2d T c H1 fv as' rs)
  (k:M9 T c n0 ops ((d,packed rs) :: s) H1 (some [] :: hc) R):M9 T c n0 (⟨some d,.call f args [] false,none,[],[],0,src⟩ :: ops) s H hc R:= by
 obtain ⟨rs',⟨⟨n,e⟩,hb⟩,rfl⟩:=hcall
 refine B36 (v:=packed (rs'.map fzA)) (H1:=H1) ⟨n,?_⟩ (by simp [writes]) k
 simp only [core,A0o,hf,ha,Bool.false_eq_true,if_false,hz,e,A4l]
theorem C4w {f:Opd} {args:List Opd} {fv:AV} {aq as' rs:List AV} {H1:A7} (hf:ev s f = some fv) (ha:evs s args = some aq) (hp:aq.all (X0 H) = true) (hz:W4 H aq = some (as',H1)) (hcall:A2d T c (H.map AO.toRo) fv as' rs):One T c n0 s H (.call f args [] true) (packed rs) H:= by
 obtain ⟨rs',⟨⟨n,e⟩,hb⟩,rfl⟩:=hcall
 refine ⟨n,?_⟩
 rw [List.length_map] at hb
 simp only [core,A0o,hf,ha,if_true,hp,hz,e,hb,A4l]
theorem J7:List.map fzA [] = []:=rfl
theorem D2 {v v':AV} {l l':List AV} (h:fzA v = v') (k:l.map fzA = l'):(v :: l).map fzA = v' :: l':= by rw [List.map_cons,h,k]
theorem Y0 {f:Opd} {args:List Opd} {d src:Nat} {fv:AV} {aq as' rs:List AV} {hc:List (Option (List Nat))} {ops:List AOper} {H1:A7} (hf:ev s f = some fv) (ha:evs s args = some aq) (hp:aq.all (X0 H) = true) (hz:W4 H aq = some (as',H1)) (hcall:A2d T c (H.map AO.toRo) fv as' rs)
  (k:M9 T c n0 ops ((d,packed rs) :: s) H hc R):M9 T c n0 (⟨some d,.call f args [] true,none,[],[],0,src⟩ :: ops) s H hc R:= by
 obtain ⟨rs',⟨⟨n,e⟩,hb⟩,rfl⟩:=hcall
 refine B36 (v:=packed (rs'.map fzA)) (H1:=H) ⟨n,?_⟩ (by simp [writes]) k
 rw [List.length_map] at hb
 simp only [core,A0o,hf,ha,if_true,hp,hz,e,hb,A4l]
theorem A26 {H:A7}:([]:List AV).all (X0 H) = true:=rfl
theorem K9 {H:A7} {v:AV} {l:List AV} (h:X0 H v = true) (k:l.all (X0 H) = true):(v :: l).all (X0 H) = true:= by rw [List.all_cons,h,k]; rfl
theorem B5 {H:A7}:W4 H [] = some ([],H):=rfl
theorem A1 {H H1 H2:A7} {v v':AV} {vs vs':List AV} (h:A0m H v = some (v',H1)) (k:W4 H1 vs = some (vs',H2)):W4 H (v :: vs) = some (v' :: vs',H2):= by
 simp only [W4,h,k]
theorem C8 {H:A7} {cs:List AV} (h:cs.all AV.plain = true):A0m H (.agg cs) = some (.agg cs,H):= by
 simp only [A0m,B44 h,Option.map_some]
theorem C0p {j n k:Nat} {p:Bool} {rows:List (List AV)} (hl:l[j]? = some (.arr k p rows)) (hn:rows.length = n):A0m (H0++l) (.asl (H0.length + j) n) = some (.seq k rows,H0++l.set j (.arr k true rows)):= by
 cases p with
 | false=>simp [A0m,frv,A01 hl,U0 hl,hn,I1]
 | true =>
  have:l.set j (.arr k true rows) = l:= by
   obtain ⟨hj,e1⟩:=List.getElem?_eq_some_iff.1 hl
   rw [← e1]; exact List.set_getElem_self hj
  simp [A0m,frv,A01 hl,hn,this]
theorem D58 {k:Option Nat} {a:Opd} {v:AV} {H':A7} (h:One T c n0 s H (.load k a) v H'):prim c n0 s H (.load k a) = some (v,H'):= by
 obtain ⟨n,e⟩:=h; exact e
theorem B9 {H:A7}:results s H [] = some []:=rfl
theorem B1 {H:A7} {t:Nat} {v:AV} {l:List ARes} {vs:List AV} (h:sget s t = some v) (k:results s H l = some vs):results s H (.tmp t :: l) = some (v :: vs):= by
 simp only [results,h,k,Option.bind_some,Option.map_some]
theorem G0 {H H':A7} {t:Nat} {q:Option Nat} {v:AV} {l:List ARes} {vs:List AV} (h:One (fun _=>none) ⟨0,[]⟩ 0 s H (.load q (.t t)) v H') (k:results s H l = some vs):results s H (.cell t q :: l) = some (v :: vs):= by
 simp only [results,D58 h,k,Option.bind_some,Option.map_some]
theorem C7m {j:Nat} {cs:List AV} (h:l[j]? = some (.cells cs)):hcells ((H0++l).map AO.toRo) (H0.length + j) = some cs:= by rw [B7y]; exact D9 h
theorem C52 {b:Nat} {cs:List AV} (h:hcells H0 b = some cs) (l:List AO):hcells ((H0++l).map AO.toRo) b = some cs:= by rw [B7y]; exact N3 h l
theorem A4f {j n k:Nat} {p:Bool} {rows:List (List AV)} (hl:l[j]? = some (.arr k p rows)) (hn:rows.length = n):frv (H0++l) (.asl (H0.length + j) n) = some (.seq k rows,H0++l.set j (.arr k true rows)):=C0p hl hn
structure RetQ (H0:A7) (rv:List ARes) (rs:List AV) (e:Ex) (s:C9) (H:A7):Prop where
 he:(match e with | .exit _=>False | _=>True)
 hr:∃rs0 H1,results s H rv = some rs0∧A0n H0.length H rs0 = some (rs,H1)∧bdL H0.length rs = true∧H1.take H0.length = H0
theorem D4w {i:Nat} {af:AFunc} {first cap args aq rs:List AV} (haf:T i = some af) (has:first++args++cap = aq) (hn:Nat.beq aq.length af.nargs = true)
  (h:WP T af.body (Q3 0 aq) H0 ⟨H0.length,c.cur :: c.outer⟩ (RetQ H0 af.results rs)):F1 T c H0 (.fn (.func i) first cap) args rs:= by
 obtain ⟨e,S',s',H',h1,h2,h3,rs0,H1,h4,h5,h6,h7⟩:=h _ (Sub.refl _)
 refine ⟨?_,h6⟩
 have ht:trunc H0.length rs H1 = H0:= by simp [trunc,h6,h7]
 have:=V4.fn (c:=c) (H:=H0) (f:=.fn (.func i) first cap) (args:=args) (rs:=rs) (rs1:=rs) (rs0:=rs0) rfl haf rfl has.symm hn rfl h1 (by cases e <;> first | rfl | exact h3.elim) (A2r h2 h4) h5 rfl rfl
 rw [ht] at this
 exact this
theorem B8 {B:Nat} {H:A7}:A0n B H [] = some ([],H):=rfl
theorem A4 {B:Nat} {H H1 H2:A7} {v v':AV} {vs vs':List AV} (h:A1k B H v = some (v',H1)) (k:A0n B H1 vs = some (vs',H2)):A0n B H (v :: vs) = some (v' :: vs',H2):= by
 simp only [A0n,h,k]
theorem I5 {B:Nat} {H:A7} {cs:List AV} (h:cs.all (fun v=>match v with | .lit _ | .seq _ _=>true | _=>false) = true):A1k B H (.agg cs) = some (.agg cs,H):= by
 have h1:A1r B H cs = some (cs,H):= by
  induction cs with
  | nil=>rfl
  | cons v cs ih =>
   simp only [List.all_cons,Bool.and_eq_true] at h
   have:=ih h.2
   cases v with
   | lit | seq=>simp only [A1r,A36,this]
   | _=>simp at h
 simp only [A1k,h1,Option.map_some]
theorem D56 {B:Nat} {H:A7}:A1r B H [] = some ([],H):=rfl
theorem A7x {B:Nat} {H H1 H2:A7} {v v':AV} {vs vs':List AV} (h:A36 B H v = some (v',H1)) (k:A1r B H1 vs = some (vs',H2)):A1r B H (v :: vs) = some (v' :: vs',H2):= by simp only [A1r,h,k]
theorem D12 {B:Nat} {H H1:A7} {cs cs':List AV} (h:A1r B H cs = some (cs',H1)):A1k B H (.agg cs) = some (.agg cs',H1):= by simp only [A1k,h,Option.map_some]
theorem D57 {j n k:Nat} {rows:List (List AV)} (hl:l[j]? = some (.arr k false rows)) (hn:rows.length = n):A36 H0.length (H0++l) (.asl (H0.length + j) n) = some (.fresh k rows,H0++l.set j .dead):= by
 have:Nat.ble H0.length (H0.length + j) = true:=Nat.ble_eq_true_of_le (Nat.le_add_right _ _)
 simp [A36,U0 hl,this,hn,I1]
theorem B1q {j n k:Nat} {rows:List (List AV)} (hl:l[j]? = some (.arr k false rows)) (hn:rows.length = n):A1k H0.length (H0++l) (.asl (H0.length + j) n) = some (.fresh k rows,H0++l.set j .dead):= by
 have:Nat.ble H0.length (H0.length + j) = true:=Nat.ble_eq_true_of_le (Nat.le_add_right _ _)
 simp [A1k,A36,U0 hl,this,hn,I1]
theorem B4a {o:AOper} (h:rbox s o.op = none) {hc:List (Option (List Nat))}:P9 s o hc = true:= by unfold P9; rw [h]
theorem B2s {H:A7}:A1d H [] = some ([],H):=rfl
theorem G3 {H H1 H2:A7} {v v':AV} {vs vs':List AV} (h:frv H v = some (v',H1)) (k:A1d H1 vs = some (vs',H2)):A1d H (v :: vs) = some (v' :: vs',H2):= by simp only [A1d,h,k]
theorem A9h {H H1:A7} {cs cs':List AV} (h:A1d H cs = some (cs',H1)):A0m H (.agg cs) = some (.agg cs',H1):= by simp only [A0m,h,Option.map_some]
theorem A3y {b:Nat}:(([]:List (Option (List Nat))).all fun e=>match e with | none=>true | some hs=>hs.contains b) = true:=rfl
theorem A0x {b:Nat} {hs:List Nat} {r:List (Option (List Nat))} (h:hs.contains b = true) (k:(r.all fun e=>match e with | none=>true | some hs=>hs.contains b) = true):((some hs :: r).all fun e=>match e with | none=>true | some hs=>hs.contains b) = true:= by
 rw [List.all_cons,k]; simp only [h,Bool.and_self]
theorem D4x {i:Nat} {af:AFunc} {first cap args aq rs:List AV} (haf:T i = some af) (has:first++args++cap = aq) (hn:Nat.beq aq.length af.nargs = true)
  (h:WP T af.body (Q3 0 aq) H0 ⟨H0.length,c.cur :: c.outer⟩ (fun e s H=>∃ rs',RetQ H0 af.results rs' e s H∧rs'.map fzA = rs)):A2d T c H0 (.fn (.func i) first cap) args rs:= by
 obtain ⟨e,S',s',H',h1,h2,rs',⟨h3,rs0,H1,h4,h5,h6,h7⟩,h8⟩:=h _ (Sub.refl _)
 refine ⟨rs',⟨?_,h6⟩,h8⟩
 have ht:trunc H0.length rs' H1 = H0:= by simp [trunc,h6,h7]
 have:=V4.fn (c:=c) (H:=H0) (f:=.fn (.func i) first cap) (args:=args) (rs:=rs') (rs1:=rs') (rs0:=rs0) rfl haf rfl has.symm hn rfl h1 (by cases e <;> first | rfl | exact h3.elim) (A2r h2 h4) h5 rfl rfl
 rw [ht] at this
 exact this
theorem C83 {ac:ACode} {Q:Ex→C9→A7→Prop} (h:WP T ac s (H0++[]) c Q):WP T ac s H0 c Q:= by rwa [List.append_nil] at h
theorem bdn {N:Nat}:A5v N [] = true:=rfl
theorem bdc {N:Nat} {t:Nat} {v:AV} {s:C9} (h:v.bd N = true) (k:A5v N s = true):A5v N ((t,v) :: s) = true:= by simp only [A5v,h,k,Bool.and_self]
theorem A5 {N:Nat} {v:Value}:(AV.lit v).bd N = true:= by simp only [AV.bd]
theorem G7 {N k:Nat} {rows:List (List AV)}:(AV.seq k rows).bd N = true:= by simp only [AV.bd]
theorem A5w {N k:Nat} {rows:List (List AV)}:(AV.fresh k rows).bd N = true:= by simp only [AV.bd]
theorem D4 {N j k o:Nat} (h:Nat.ble (j + 1) k = true):(AV.ptr (N + j) o).bd (N + k) = true:= by simp only [AV.bd]; exact Nat.ble_eq_true_of_le (by have:=Nat.le_of_ble_eq_true h; omega)
theorem D9a {N j k:Nat} (h:Nat.ble (j + 1) k = true):(AV.itr (N + j)).bd (N + k) = true:= by simp only [AV.bd]; exact Nat.ble_eq_true_of_le (by have:=Nat.le_of_ble_eq_true h; omega)
theorem A48 {N j k n:Nat} (h:Nat.ble (j + 1) k = true):(AV.asl (N + j) n).bd (N + k) = true:= by simp only [AV.bd]; exact Nat.ble_eq_true_of_le (by have:=Nat.le_of_ble_eq_true h; omega)
theorem A34 {H:A7} {b:Nat} {cs:List AV} (h:hcells H b = some cs):b < H.length:= by
 unfold hcells hget at h
 cases e:H[b]? with
 | none=>simp [e] at h
 | some o=>exact (List.getElem?_eq_some_iff.1 e).1
theorem B05 {H:A7} {b o k:Nat} {cs:List AV} (h:hcells H b = some cs):(AV.ptr b o).bd (H.length + k) = true:= by
 have:=A34 h
 simp only [AV.bd]; exact Nat.ble_eq_true_of_le (by omega)
mutual
theorem bd_more {N M:Nat} (h:N≤M):(v:AV)→v.bd N = true→v.bd M = true
 | .lit _,_ | .nils _,_ | .seq _ _,_ | .fresh _ _,_ | .undef,_=>by simp only [AV.bd]
 | .xseq _ rows,k=>by simp only [AV.bd] at k ⊢; exact bdR_more h rows k
 | .ptr b _,k | .itr b,k | .eptr b _ _ _,k | .asl b _,k | .csl b _ _ _,k | .mp b,k=>by
  simp only [AV.bd] at k ⊢
  exact Nat.ble_eq_true_of_le (Nat.le_trans (Nat.le_of_ble_eq_true k) h)
 | .cptr cs,k | .agg cs,k | .tup cs,k=>by simp only [AV.bd] at k ⊢; exact bdL_more h k
 | .fn f a c,k=>by
  cases f <;> simp only [AV.bd,Bool.and_eq_true] at k ⊢
  all_goals first | exact ⟨bdL_more h k.1,bdL_more h k.2⟩ | exact ⟨Nat.ble_eq_true_of_le (Nat.le_trans (Nat.le_of_ble_eq_true k.1) h),bdL_more h k.2.1,bdL_more h k.2.2⟩ | exact ⟨⟨Nat.ble_eq_true_of_le (Nat.le_trans (Nat.le_of_ble_eq_true k.1.1) h),bdL_more h k.1.2⟩,bdL_more h k.2⟩
theorem bdL_more {N M:Nat} (h:N≤M):{vs:List AV}→bdL N vs = true→bdL M vs = true
 | [],_=>rfl
 | v :: vs,k=>by
  simp only [bdL,Bool.and_eq_true] at k ⊢
  exact ⟨bd_more h v k.1,bdL_more h k.2⟩
theorem bdR_more {N M:Nat} (h:N≤M):(rows:List (List AV))→bdR N rows = true→bdR M rows = true
 | [],_=>rfl
 | r :: rows,k=>by
  simp only [bdR,Bool.and_eq_true] at k ⊢
  exact ⟨bdL_more h k.1,bdR_more h rows k.2⟩
end
theorem C0b {N k i:Nat} {a b:List AV} (h:bdL N a = true∧bdL N b = true):(AV.fn (.func i) a b).bd (N + k) = true:= by
 simp only [AV.bd,bdL_more (Nat.le_add_right N k) h.1,bdL_more (Nat.le_add_right N k) h.2,Bool.and_self]
theorem C5n {N i:Nat} {a b:List AV} (ha:bdL N a = true) (hb:bdL N b = true):(AV.fn (.func i) a b).bd N = true:= by simp only [AV.bd,ha,hb,Bool.and_self]
theorem H6 {N:Nat} {cs:List AV} (h:cs.all (fun v=>match v with | .lit _ | .seq _ _ | .nils _ | .fresh _ _=>true | _=>false) = true):(AV.agg cs).bd N = true:= by
 simp only [AV.bd]
 induction cs with
 | nil=>rfl
 | cons v cs ih =>
  simp only [List.all_cons,Bool.and_eq_true] at h
  simp only [bdL,ih h.2,Bool.and_true]
  cases v with
  | lit | seq | nils | fresh=>simp only [AV.bd]
  | _=>simp at h
theorem D8w {N j k:Nat} (h:Nat.ble (j + 1) k = true):(AV.mp (N + j)).bd (N + k) = true:= by simp only [AV.bd]; exact Nat.ble_eq_true_of_le (by have:=Nat.le_of_ble_eq_true h; omega)
theorem D03 {N:Nat}:bdR N [] = true:= by simp only [bdR]
theorem B5r {N:Nat} {r:List AV} {l:List (List AV)} (h:bdL N r = true) (k:bdR N l = true):bdR N (r :: l) = true:= by simp only [bdR,h,k,Bool.and_self]
theorem D8x {N k:Nat} {rows:List (List AV)} (h:bdR N rows = true):(AV.xseq k rows).bd N = true:= by simp only [AV.bd,h]
theorem A4h {H:A7} {l:List AO} {c:Sc} (h:A0j c H = true):A0j ⟨H.length,c.cur :: c.outer⟩ (H++l) = true:= by
 unfold A0j at h ⊢
 rw [List.all_cons,Nat.ble_eq_true_of_le (by simp),Bool.true_and]
 rw [List.all_eq_true] at h ⊢
 intro B hB
 have:=Nat.le_of_ble_eq_true (h B hB)
 exact Nat.ble_eq_true_of_le (by simp; omega)
theorem D6y {H:A7} {l l':List AO} {c:Sc} {k:Nat} (hk:Nat.ble k l'.length = true) (h:A0j c (H++l) = true) (hl:Nat.ble l.length l'.length = true):A0j ⟨H.length + k,c.cur :: c.outer⟩ (H++l') = true:= by
 have h1:=Nat.le_of_ble_eq_true hk
 have h2:=Nat.le_of_ble_eq_true hl
 unfold A0j at h ⊢
 rw [List.all_cons,Nat.ble_eq_true_of_le (by simp; omega),Bool.true_and]
 rw [List.all_eq_true] at h ⊢
 intro B hB
 have:=Nat.le_of_ble_eq_true (h B hB)
 simp at this
 exact Nat.ble_eq_true_of_le (by simp; omega)
theorem B3 {N:Nat}:bdL N [] = true:=rfl
theorem A3 {N:Nat} {v:AV} {vs:List AV} (h:v.bd N = true) (k:bdL N vs = true):bdL N (v :: vs) = true:= by simp only [bdL,h,k,Bool.and_self]
def Impl {α β:Type} (T:Tab) (H:A7) (i:Nat) (ff fc:List AV) (g:α→Option β) (ea:α→List AV) (er:β→List AV):Prop :=
 (bdL H.length ff = true∧bdL H.length fc = true)∧∀ (H':A7),H.length≤H'.length→(∀ b cs,hcells H b = some cs→hcells H' b = some cs)→∀ c x r,g x = some r→A2d T c H' (.fn (.func i) ff fc) (ea x) (er r)
theorem Impl.mono {α β:Type} {H H1:A7} {i:Nat} {ff fc:List AV} {g:α→Option β} {ea:α→List AV} {er:β→List AV} (h:Impl T H i ff fc g ea er) (hl:H.length≤H1.length) (hag:∀b cs,hcells H b = some cs→hcells H1 b = some cs):Impl T H1 i ff fc g ea er :=
 ⟨⟨bdL_more hl h.1.1,bdL_more hl h.1.2⟩,fun H' hl' k c x r e=>h.2 H' (Nat.le_trans hl hl') (fun b cs hb=>k b cs (hag b cs hb)) c x r e⟩
theorem Impl.app {α β:Type} {H:A7} {i:Nat} {ff fc:List AV} {g:α→Option β} {ea:α→List AV} {er:β→List AV} (h:Impl T H i ff fc g ea er) (l:List AO):Impl T (H++l) i ff fc g ea er :=
 h.mono (by simp) (fun b cs hb=>N3 hb l)
theorem Impl.call {α β:Type} {H:A7} {i:Nat} {ff fc:List AV} {g:α→Option β} {ea:α→List AV} {er:β→List AV} (h:Impl T H i ff fc g ea er) {x:α} {r:β} (e:g x = some r) (l:List AO):A2d T c (H++l) (.fn (.func i) ff fc) (ea x) (er r) :=
 h.2 _ (by simp) (fun b cs hb=>N3 hb l) c x r e
theorem B03 (H0:A7) (l g l1:List AO) {k:Nat} (h:l.length = k) (hl:l = l1):(H0++(l++g)).take (H0.length + k) = H0++l1:= by
 subst hl; rw [I2,List.take_append_of_le_length (by omega),List.take_of_length_le (by omega)]
theorem retq {rv:List ARes} {rs rs0:List AV} {H1:List AO} {e:Ex} (he:(match e with | .exit _=>False | _=>True)) (h1:results s (H0++l) rv = some rs0) (h2:A0n H0.length (H0++l) rs0 = some (rs,H0++H1)) (h3:bdL H0.length rs = true):RetQ H0 rv rs e s (H0++l) :=
 ⟨he,rs0,_,h1,h2,h3,by simp⟩
theorem A5k {i:Nat} {first cap args rs aq:List AV} {H:A7} (h:F1 T c H (.fn (.func i) [] []) aq rs) (has:aq = first++args++cap:= by rfl):F1 T c H (.fn (.func i) first cap) args rs:= by
 subst has
 obtain ⟨⟨n,e⟩,hb⟩:=h
 refine ⟨⟨n,?_⟩,hb⟩
 cases n with
 | zero=>simp [mach] at e
 | succ m =>
  rw [A0u] at e ⊢
  simpa [Q4] using e
theorem Y5 {N:Nat} {rs vs:List AV} {H3:A7} (hb:bdL N rs = false) (hv:rs.map fzA = vs):A1e n0 (trunc N rs H3) rs [] = (vs,H3):= by
 rw [A4l,hv]; simp [trunc,hb]
theorem R7 {N:Nat} {rs vs:List AV} {H3 H4:A7} (hb:bdL N rs = true) (hv:rs.map fzA = vs) (ht:H3.take N = H4):A1e n0 (trunc N rs H3) rs [] = (vs,H4):= by
 rw [A4l,hv]; simp [trunc,hb,ht]
theorem O0 {N:Nat} {v:AV} {vs:List AV} (h:v.bd N = false):bdL N (v :: vs) = false:= by simp only [bdL,h,Bool.false_and]
theorem Y3 {N B j o:Nat} (h:Nat.ble B j = true):(AV.ptr (N + j) o).bd (N + B) = false:= by
 simp only [AV.bd]
 cases e:Nat.blt (N + j) (N + B) with
 | false=>rfl
 | true=>have:=Nat.le_of_ble_eq_true e; have:=Nat.le_of_ble_eq_true h; omega
theorem C0c {N i:Nat} {a b:List AV} (h:bdL N b = false):(AV.fn (.func i) a b).bd N = false:= by simp only [AV.bd,h,Bool.and_false]
theorem W8 {k:Nat} (h:l.length = k):(H0++l).length = H0.length + k:= by rw [List.length_append,h]
end
section
variable {T:Tab} {s s' S:C9} {H0 H H':A7} {l l':List AO} {c:Sc} {n0 k0:Nat} {hc:List (Option (List Nat))} {ops:List AOper} {Q:Ex→C9→A7→Prop} {R:C9→A7→Prop}
inductive RL (s:C9):List Nat→C9→Prop
 | n:RL s [] []
 | k {t:Nat} {v:AV} {l:List Nat} {s':C9} (h:sget s t = some v) (r:RL s l s'):RL s (t :: l) ((t,v) :: s')
 | x {t:Nat} {l:List Nat} {s':C9} (r:RL s l s'):RL s (t :: l) s'
theorem RL.sub {l:List Nat} {s':C9} (h:RL s l s'):Sub s' s:= by
 induction h with
 | n=>exact Sub.nil _
 | k h _ ih=>exact Sub.cons h ih
 | x _ ih=>exact ih
theorem RL.ok {l:List Nat} {s':C9} (h:RL s l s'):(s'.all fun x=>l.contains x.1) = true:= by
 have:∀x ∈ s',x.1 ∈ l:= by
  induction h with
  | n=>intro x hx; simp at hx
  | k h _ ih =>
   intro x hx
   rcases List.mem_cons.1 hx with rfl | hx
   ·exact List.mem_cons_self
   ·exact List.mem_cons_of_mem _ (ih x hx)
  | x _ ih=>intro y hy; exact List.mem_cons_of_mem _ (ih y hy)
 rw [List.all_eq_true]
 intro x hx
 simpa using this x hx
theorem en {live:List Nat} (h:RL s live s') (k:Q .normal s' H):M9 T c n0 [] s H hc (RG live Q):=⟨0,s,H,rfl,s',h.sub,h.ok,k⟩
theorem es {live:List Nat} {b:ACode} (h:RL s live s') (k:WP T b s' H c Q):M9 T c n0 [] s H hc (RG live (D38 T b c Q)):=en h k
theorem rg {d:Bool} {nres:Nat} {live:List Nat} (k0:Nat) (hk:l.length = k0) (h:M9 T c (H0.length + k0) ops s (H0++(l++List.replicate nres .dead)) [] (RG live Q)):WP T (.region d nres [] ops live) s (H0++l) c Q:=C22 k0 hk h
theorem r0 {d:Bool} {live:List Nat} (h:M9 T c (H0.length + l.length) ops s (H0++l) [] (RG live Q)):WP T (.region d 0 [] ops live) s (H0++l) c Q :=
 C22 l.length rfl (by rw [List.replicate_zero,List.append_nil]; exact h)
theorem sg {d:Bool} {nres:Nat} {live:List Nat} {b:ACode} (k0:Nat) (hk:l.length = k0) (h:M9 T c (H0.length + k0) ops s (H0++(l++List.replicate nres .dead)) [] (RG live (D38 T b c Q))):WP T (.seq (.region d nres [] ops live) b) s (H0++l) c Q:=D0w (rg k0 hk h)
theorem s0 {d:Bool} {live:List Nat} {b:ACode} (h:M9 T c (H0.length + l.length) ops s (H0++l) [] (RG live (D38 T b c Q))):WP T (.seq (.region d 0 [] ops live) b) s (H0++l) c Q:=D0w (r0 h)
theorem B6 {a b:ACode} (h:WP T a s H c (D38 T b c Q)):WP T (.seq a b) s H c Q:=D0w h
theorem C1 (h:Q .normal s H):WP T .skip s H c Q:=D8v h
theorem E4 {id:Nat} (h:Q (.exit id) s H):WP T (.exit id) s H c Q:=D8t h
theorem C6 (h:Q .ret s H):WP T .ret s H c Q:=E0h h
theorem C5 {id:Nat} {a:ACode} (h:WP T a s H c (C5i id Q)):WP T (.block id a) s H c Q:=D62 h
theorem D8s {a:ACode} (h:WP T a s H c Q):WP T (.scope a) s H c Q:=D64 h
theorem H9 {x:Opd} {t:Bool} {a b:ACode} (h:ev s x = some (.lit (.bool t))) (ht:t = true) (k:WP T a s H c Q):WP T (.cond x a b) s H c Q:=C81 h ht k
theorem Q9 {x:Opd} {t:Bool} {a b:ACode} (h:ev s x = some (.lit (.bool t))) (ht:t = false) (k:WP T b s H c Q):WP T (.cond x a b) s H c Q:=C80 h ht k
theorem A1q {ac:ACode} {Q1:Ex→C9→A7→Prop} (h:WP T ac s H c (fun e s' H'=>∃ s0,Sub s0 s'∧Q1 e s0 H')) (k:∀e s' H',Q1 e s' H'→Q e s' H'):WP T ac s H c Q:=D8u h k
theorem A6k {tr:Bool} {live:List Nat} {bd:ACode} (k:Nat) (hk:l.length = k) (s':C9) (hr:∀S,Sub s S→restrict S live = s') (h:WP T bd s' (H0++l) (bif tr then ⟨H0.length + k,c.cur :: c.outer⟩ else c) (UnQ T tr live bd c (H0.length + k) Q)):WP T (.loop tr live bd) s (H0++l) c Q:=D31 k hk s' hr h
theorem wi {ρ:Type} {x:Opd} {e:Bool} {A B:Option ρ} {r:ρ} {a b:ACode} (h:(if e = true then A else B) = some r) (hx:ev s x = some (.lit (.bool e))) (k1:e = true→A = some r→WP T a s H c Q) (k2:e = false→B = some r→WP T b s H c Q):WP T (.cond x a b) s H c Q:= by
 cases e with
 | true=>exact C81 hx rfl (k1 rfl h)
 | false=>exact C80 hx rfl (k2 rfl h)
theorem oB {α β:Type} {o:Option α} {f:α→Option β} {r:β} {P:Prop} (h:o.bind f = some r) (k:∀x,o = some x→f x = some r→P):P:= by
 obtain ⟨x,h1,h2⟩:=D78 h
 exact k x h1 h2
theorem os {α:Type} {a b:α} (h:some a = some b):a = b:=Option.some.inj h
def GQ (d:Nat) (v:AV) (s:C9) (H:A7) (s1:C9) (H1:A7):Prop:=H1 = H∧Sub ((d,v) :: s) s1
theorem C8q:∀{s:C9} {t:Nat} {v:AV},sget s t = some v→∃ x ∈ s,x.1 = t
 | [],_,_,h=>by simp [O7,M3] at h
 | x :: s,t,v,h=>by
  simp only [O7,M3] at h
  cases hb:Nat.beq x.1 t with
  | true=>exact ⟨x,by simp,Nat.eq_of_beq_eq_true hb⟩
  | false=>rw [hb] at h; obtain ⟨y,h1,h2⟩:=C8q h; exact ⟨y,by simp [h1],h2⟩
theorem C8s:∀{n:Nat} {s s1:C9},s1.drop n = s→((s1.take n).all fun y=>s.all fun x=>!Nat.beq y.1 x.1) = true→Sub s s1
 | 0,s,s1,h,_=>by rw [List.drop_zero] at h; subst h; exact Sub.refl _
 | n + 1,s,[],h,_=>by simp at h; subst h; exact Sub.refl _
 | n + 1,s,y :: s1,h,k=>by
  simp only [List.drop_succ_cons] at h
  simp only [List.take_succ_cons,List.all_cons,Bool.and_eq_true] at k
  have ih:=C8s h k.2
  intro t v e
  obtain ⟨x,hx,rfl⟩:=C8q e
  have:=List.all_eq_true.1 k.1 x hx
  simp only [Bool.not_eq_true'] at this
  simp only [O7,M3,this,cond_false]
  exact ih _ _ e
theorem ge (n:Nat) {d:Nat} {v:AV} {s1:C9} (hv:sget s1 d = some v) (hd:s1.drop n = s) (hk:((s1.take n).all fun y=>s.all fun x=>!Nat.beq y.1 x.1) = true):M9 T c n0 [] s1 H hc (GQ d v s H):=⟨0,s1,H,rfl,rfl,Sub.cons hv (C8s hd hk)⟩
theorem gpR (n d:Nat) (v:AV) (t:Nat) {g:Bool} (_hg:sget s t = some (.lit (.bool g))) (hq:calm (ops.drop n) = true) (h1:g = true→M9 T c n0 (ops.take n) s H hc (GQ d v s H)) (h2:g = false→M9 T c n0 (ops.take n) s H hc (GQ d v s H))
  (hR:∀a b H,Sub a b→R a H→R b H) (k:M9 T c n0 (ops.drop n) ((d,v) :: s) H [] R):M9 T c n0 ops s H hc R:= by
 have:M9 T c n0 (ops.take n) s H hc (GQ d v s H):= by
  cases g
  ·exact h2 rfl
  ·exact h1 rfl
 exact B8a n ((d,v) :: s) H hq this hR k
theorem gp {live:List Nat} (n d:Nat) (v:AV) (t:Nat) {g:Bool} (hg:sget s t = some (.lit (.bool g))) (hq:calm (ops.drop n) = true) (h1:g = true→M9 T c n0 (ops.take n) s H hc (GQ d v s H)) (h2:g = false→M9 T c n0 (ops.take n) s H hc (GQ d v s H))
  (k:M9 T c n0 (ops.drop n) ((d,v) :: s) H [] (RG live Q)):M9 T c n0 ops s H hc (RG live Q) :=
 gpR n d v t hg hq h1 h2 (fun _ _ _ h ⟨s',a,b,d⟩=>⟨s',a.trans h,b,d⟩) k
theorem gq {d1:Nat} {v1:AV} {s1:C9} {H1:A7} (n d:Nat) (v:AV) (t:Nat) {g:Bool} (hg:sget s t = some (.lit (.bool g))) (hq:calm (ops.drop n) = true) (h1:g = true→M9 T c n0 (ops.take n) s H hc (GQ d v s H)) (h2:g = false→M9 T c n0 (ops.take n) s H hc (GQ d v s H))
  (k:M9 T c n0 (ops.drop n) ((d,v) :: s) H [] (GQ d1 v1 s1 H1)):M9 T c n0 ops s H hc (GQ d1 v1 s1 H1) :=
 gpR n d v t hg hq h1 h2 (fun _ _ _ h q=>⟨q.1,q.2.trans h⟩) k
theorem bt {e:Bool} {α:Type} {A B:Option α} {r:α} (h:(if e = true then A else B) = some r) (he:e = true):A = some r:= by rw [if_pos he] at h; exact h
theorem bf {e:Bool} {α:Type} {A B:Option α} {r:α} (h:(if e = true then A else B) = some r) (he:e = false):B = some r:= by rw [if_neg (by rw [he]; decide)] at h; exact h
def PX (i:Nat) (s0:C9) (H0:A7) (e:Ex) (s':C9) (H':A7):Prop:=e = .exit i∧s' = s0∧H' = H0
theorem wl {γ σ ρ:Type} {live:List Nat} {bd:ACode} {body:σ→Option (σ ⊕ ρ)} {x0:σ} {r:ρ} (st:σ→C9) (lh:γ→σ→List AO) (N:Nat) (P:ρ→Ex→C9→A7→Prop) (g0:γ) (h:loop body x0 = some r) (hs:st x0 = s) (hl:lh g0 x0 = l)
  (hN:∀g x,(lh g x).length = N) (hlive:∀x,(st x).map (·.1) = live) (hnd:B5a live = true) (hbd:∀x,A5v (H0.length + N) (st x) = true)
  (hbody:∀g x o,body x = some o→WP T bd (st x) (H0++lh g x) ⟨H0.length + N,c.cur :: c.outer⟩ (D36 true st (fun g x=>H0++lh g x) (H0.length + N) P o))
  (k:∀e s' H',e.out = true→P r e s' H'→Q e s' H'):WP T (.loop true live bd) s (H0++l) c Q:= by
 subst hs; subst hl
 exact A8f (B7h st (fun g x=>H0++lh g x) (H0.length + N) P (fun g x=>by rw [List.length_append,hN]) hlive (A8q hnd) (fun x _=>hbd x) hbody h g0) fun e s' H' q=>k e s' H' q.1 q.2
theorem lnT {γ:Type} {s0:C9} {L:γ→List AO} {N:Nat} (g:γ) (hl:l.take N = L g) (hs:Sub s0 s'):Ex.normal = Ex.normal∧Sub s0 s'∧∃ g',(bif true then (H0++l).take (H0.length + N) else H0++l) = H0++L g' :=
 ⟨rfl,hs,g,by rw [cond_true,I2,hl]⟩
theorem lx {R:C9→Prop} {o:Bool} {s0:C9} (ho:o = true) (hr:R s0) (hs:Sub s0 s'):o = true∧∃ s0,Sub s0 s'∧R s0:=⟨ho,s0,hs,hr⟩
theorem me {R:C9→Prop} {s0:C9} (hr:R s0) (hs:Sub s0 s'):∃s0,Sub s0 s'∧R s0:=⟨s0,hs,hr⟩
theorem px {i:Nat} {s0:C9} {H:A7}:PX i s0 H (.exit i) s0 H:=⟨rfl,rfl,rfl⟩
theorem D55 {a:Opd} {j o k r:Nat} {cs ds:List AV} (h:ev s a = some (.ptr (H0.length + j) o)) (hl:(l.set (k0 + r) (.arr k false []))[j]? = some (.cells cs)) (hk:Nat.ble (o + 1) cs.length = true) (hok:c.okL (H0.length + j) [.asl (H0.length + (k0 + r)) 0] = true) (hd:splice cs o [.asl (H0.length + (k0 + r)) 0] = ds) :
  One T c (H0.length + k0) s (H0++l) (.storeN a k r) (.tup []) (H0++(l.set (k0 + r) (.arr k false [])).set j (.cells ds)) :=
 ⟨0,by simp only [core,prim,h,Nat.add_assoc,I1,A9j hl,hk,hok,Bool.and_self,if_true,hd]⟩
theorem E1 {x y:Opd} {a b:Int} (hx:ev s x = some (.lit (.int .i64 a))) (hy:ev s y = some (.lit (.int .i64 b))):One T c n0 s H (.bin .add x y) (.lit (.int .i64 (w64 (a + b)))) H:=F9 hx hy rfl
theorem U8 {x y:Opd} {a b:Int} (hx:ev s x = some (.lit (.int .i64 a))) (hy:ev s y = some (.lit (.int .i64 b))):One T c n0 s H (.bin .sub x y) (.lit (.int .i64 (w64 (a - b)))) H:=F9 hx hy rfl
theorem C6y {x y:Opd} {a b:Int} (hx:ev s x = some (.lit (.int .i64 a))) (hy:ev s y = some (.lit (.int .i64 b))):One T c n0 s H (.bin .mul x y) (.lit (.int .i64 (w64 (a * b)))) H:=F9 hx hy rfl
section
variable {x y:Opd} {a b:Int} {kk:IntKind}
theorem B0e {op:BinOp} {v:Value} (h:B2m op kk a b = some v):A9w op (.lit (.int kk a)) (.lit (.int kk b)) = some (.lit v):= by
 cases op <;> first | (simp only [A9w,if_true,h,Option.map_some]; done) | (simp [B2m] at h)
theorem F7 (hx:ev s x = some (.lit (.int kk a))) (hy:ev s y = some (.lit (.int kk b))):One T c n0 s H (.bin .eql x y) (.lit (.bool (a == b))) H:=F9 hx hy (B0e rfl)
theorem G2 (hx:ev s x = some (.lit (.int kk a))) (hy:ev s y = some (.lit (.int kk b))):One T c n0 s H (.bin .neq x y) (.lit (.bool (a != b))) H:=F9 hx hy (B0e rfl)
theorem F8 (hx:ev s x = some (.lit (.int kk a))) (hy:ev s y = some (.lit (.int kk b))):One T c n0 s H (.bin .lss x y) (.lit (.bool (decide (a < b)))) H:=F9 hx hy (B0e rfl)
theorem B2k (hx:ev s x = some (.lit (.int kk a))) (hy:ev s y = some (.lit (.int kk b))):One T c n0 s H (.bin .leq x y) (.lit (.bool (decide (a≤b)))) H:=F9 hx hy (B0e rfl)
theorem A0a (hx:ev s x = some (.lit (.int kk a))) (hy:ev s y = some (.lit (.int kk b))):One T c n0 s H (.bin .gtr x y) (.lit (.bool (decide (a > b)))) H:=F9 hx hy (B0e rfl)
theorem B2j (hx:ev s x = some (.lit (.int kk a))) (hy:ev s y = some (.lit (.int kk b))):One T c n0 s H (.bin .geq x y) (.lit (.bool (decide (a ≥ b)))) H:=F9 hx hy (B0e rfl)
end
theorem C58 {ks:List Nat} {x y:Opd} {a b:List AV} {t:Bool} (hx:ev s x = some (.agg a)) (hy:ev s y = some (.agg b)) (ha:kinds ks a = true) (hb:kinds ks b = true) (ht:J0 a b = some t):One T c n0 s H (.cmp false ks x y) (.lit (.bool t)) H:=D50 hx hy ha hb ht
theorem D4j {x y:Opd} {a b:ByteArray} (hx:ev s x = some (.lit (.string a))) (hy:ev s y = some (.lit (.string b))):One T c n0 s H (.bin .eql x y) (.lit (.bool (eqS a b))) H:=F9 hx hy rfl
theorem E06 {x y:Opd} {a b:ByteArray} (hx:ev s x = some (.lit (.string a))) (hy:ev s y = some (.lit (.string b))):One T c n0 s H (.bin .neq x y) (.lit (.bool (!eqS a b))) H:=F9 hx hy rfl
theorem N5 {x:Opd} {b:Bool} (hx:ev s x = some (.lit (.bool b))):One T c n0 s H (.un .not x) (.lit (.bool (!b))) H:=D77 hx rfl
theorem C2 {a:Opd} {j k:Nat} {cs:List AV} (h:ev s a = some (.ptr (H0.length + j) 0)) (hl:l[j]? = some (.cells cs)) (hk:Nat.beq cs.length k = true):One T c n0 s (H0++l) (.load (some k) a) (.agg cs) (H0++l):= by
 have hk:=Nat.eq_of_beq_eq_true hk
 exact E3 h hl (by rw [List.drop_zero,hk]; exact Nat.ble_eq_true_of_le (Nat.le_refl _)) (by rw [List.drop_zero,List.take_of_length_le (by omega)])
theorem O2 {a:Opd} {k:Nat} {cs:List AV} (h:ev s a = some (.cptr cs)) (hk:Nat.beq cs.length k = true):One T c n0 s H (.load (some k) a) (.agg cs) H:= by
 have hk:=Nat.eq_of_beq_eq_true hk
 exact C1k h (by rw [hk]; exact Nat.ble_eq_true_of_le (Nat.le_refl _)) (List.take_of_length_le (by omega))
end
section
variable {T:Tab} {H0:A7} {c:Sc}
theorem cE {i:Nat} {af:AFunc} {args rs:List AV} (haf:T i = some af) (hn:Nat.beq args.length af.nargs = true)
  (h:WP T af.body (Q3 0 args) (H0++[]) ⟨H0.length,c.cur :: c.outer⟩ (RetQ H0 af.results rs)):F1 T c H0 (.fn (.func i) [] []) args rs :=
 D4w haf (List.append_nil _) hn (C83 h)
theorem cF {i:Nat} {af:AFunc} {args rs:List AV} (haf:T i = some af) (hn:Nat.beq args.length af.nargs = true)
  (h:WP T af.body (Q3 0 args) (H0++[]) ⟨H0.length,c.cur :: c.outer⟩ (fun e s H=>∃ rs',RetQ H0 af.results rs' e s H∧rs'.map fzA = rs)):A2d T c H0 (.fn (.func i) [] []) args rs :=
 D4x haf (List.append_nil _) hn (C83 h)
end
section
variable {S:C9} {t1 t2 t3 t4 t5 t6 t7 t8 t9 t10 t11 t12 t13 t14:Nat} {v1 v2 v3 v4 v5 v6 v7 v8 v9 v10 v11 v12 v13 v14:AV}
theorem ra1 (h1:sget S t1 = some v1):RL S [t1] [(t1,v1)]:=.k h1 .n
theorem su1 (h1:sget S t1 = some v1):Sub [(t1,v1)] S:=.cons h1 (.nil _)
theorem ra2 (h1:sget S t1 = some v1) (h2:sget S t2 = some v2):RL S [t1,t2] [(t1,v1),(t2,v2)]:=.k h1 (.k h2 .n)
theorem su2 (h1:sget S t1 = some v1) (h2:sget S t2 = some v2):Sub [(t1,v1),(t2,v2)] S:=.cons h1 (.cons h2 (.nil _))
theorem ra3 (h1:sget S t1 = some v1) (h2:sget S t2 = some v2) (h3:sget S t3 = some v3):RL S [t1,t2,t3] [(t1,v1),(t2,v2),(t3,v3)]:=.k h1 (.k h2 (.k h3 .n))
theorem su3 (h1:sget S t1 = some v1) (h2:sget S t2 = some v2) (h3:sget S t3 = some v3):Sub [(t1,v1),(t2,v2),(t3,v3)] S:=.cons h1 (.cons h2 (.cons h3 (.nil _)))
theorem ra4 (h1:sget S t1 = some v1) (h2:sget S t2 = some v2) (h3:sget S t3 = some v3) (h4:sget S t4 = some v4):RL S [t1,t2,t3,t4] [(t1,v1),(t2,v2),(t3,v3),(t4,v4)]:=.k h1 (.k h2 (.k h3 (.k h4 .n)))
theorem su4 (h1:sget S t1 = some v1) (h2:sget S t2 = some v2) (h3:sget S t3 = some v3) (h4:sget S t4 = some v4):Sub [(t1,v1),(t2,v2),(t3,v3),(t4,v4)] S:=.cons h1 (.cons h2 (.cons h3 (.cons h4 (.nil _))))
theorem ra5 (h1:sget S t1 = some v1) (h2:sget S t2 = some v2) (h3:sget S t3 = some v3) (h4:sget S t4 = some v4) (h5:sget S t5 = some v5):RL S [t1,t2,t3,t4,t5] [(t1,v1),(t2,v2),(t3,v3),(t4,v4),(t5,v5)]:=.k h1 (.k h2 (.k h3 (.k h4 (.k h5 .n))))
theorem su5 (h1:sget S t1 = some v1) (h2:sget S t2 = some v2) (h3:sget S t3 = some v3) (h4:sget S t4 = some v4) (h5:sget S t5 = some v5):Sub [(t1,v1),(t2,v2),(t3,v3),(t4,v4),(t5,v5)] S:=.cons h1 (.cons h2 (.cons h3 (.cons h4 (.cons h5 (.nil _)))))
theorem ra6 (h1:sget S t1 = some v1) (h2:sget S t2 = some v2) (h3:sget S t3 = some v3) (h4:sget S t4 = some v4) (h5:sget S t5 = some v5) (h6:sget S t6 = some v6):RL S [t1,t2,t3,t4,t5,t6] [(t1,v1),(t2,v2),(t3,v3),(t4,v4),(t5,v5),(t6,v6)]:=.k h1 (.k h2 (.k h3 (.k h4 (.k h5 (.k h6 .n)))))
theorem su6 (h1:sget S t1 = some v1) (h2:sget S t2 = some v2) (h3:sget S t3 = some v3) (h4:sget S t4 = some v4) (h5:sget S t5 = some v5) (h6:sget S t6 = some v6):Sub [(t1,v1),(t2,v2),(t3,v3),(t4,v4),(t5,v5),(t6,v6)] S:=.cons h1 (.cons h2 (.cons h3 (.cons h4 (.cons h5 (.cons h6 (.nil _))))))
theorem ra7 (h1:sget S t1 = some v1) (h2:sget S t2 = some v2) (h3:sget S t3 = some v3) (h4:sget S t4 = some v4) (h5:sget S t5 = some v5) (h6:sget S t6 = some v6) (h7:sget S t7 = some v7):RL S [t1,t2,t3,t4,t5,t6,t7] [(t1,v1),(t2,v2),(t3,v3),(t4,v4),(t5,v5),(t6,v6),(t7,v7)]:=.k h1 (.k h2 (.k h3 (.k h4 (.k h5 (.k h6 (.k h7 .n))))))
theorem su7 (h1:sget S t1 = some v1) (h2:sget S t2 = some v2) (h3:sget S t3 = some v3) (h4:sget S t4 = some v4) (h5:sget S t5 = some v5) (h6:sget S t6 = some v6) (h7:sget S t7 = some v7):Sub [(t1,v1),(t2,v2),(t3,v3),(t4,v4),(t5,v5),(t6,v6),(t7,v7)] S:=.cons h1 (.cons h2 (.cons h3 (.cons h4 (.cons h5 (.cons h6 (.cons h7 (.nil _)))))))
theorem ra8 (h1:sget S t1 = some v1) (h2:sget S t2 = some v2) (h3:sget S t3 = some v3) (h4:sget S t4 = some v4) (h5:sget S t5 = some v5) (h6:sget S t6 = some v6) (h7:sget S t7 = some v7) (h8:sget S t8 = some v8):RL S [t1,t2,t3,t4,t5,t6,t7,t8] [(t1,v1),(t2,v2),(t3,v3),(t4,v4),(t5,v5),(t6,v6),(t7,v7),(t8,v8)]:=.k h1 (.k h2 (.k h3 (.k h4 (.k h5 (.k h6 (.k h7 (.k h8 .n)))))))
theorem su8 (h1:sget S t1 = some v1) (h2:sget S t2 = some v2) (h3:sget S t3 = some v3) (h4:sget S t4 = some v4) (h5:sget S t5 = some v5) (h6:sget S t6 = some v6) (h7:sget S t7 = some v7) (h8:sget S t8 = some v8):Sub [(t1,v1),(t2,v2),(t3,v3),(t4,v4),(t5,v5),(t6,v6),(t7,v7),(t8,v8)] S:=.cons h1 (.cons h2 (.cons h3 (.cons h4 (.cons h5 (.cons h6 (.cons h7 (.cons h8 (.nil _))))))))
theorem ra9 (h1:sget S t1 = some v1) (h2:sget S t2 = some v2) (h3:sget S t3 = some v3) (h4:sget S t4 = some v4) (h5:sget S t5 = some v5) (h6:sget S t6 = some v6) (h7:sget S t7 = some v7) (h8:sget S t8 = some v8) (h9:sget S t9 = some v9):RL S [t1,t2,t3,t4,t5,t6,t7,t8,t9] [(t1,v1),(t2,v2),(t3,v3),(t4,v4),(t5,v5),(t6,v6),(t7,v7),(t8,v8),(t9,v9)]:=.k h1 (.k h2 (.k h3 (.k h4 (.k h5 (.k h6 (.k h7 (.k h8 (.k h9 .n))))))))
theorem su9 (h1:sget S t1 = some v1) (h2:sget S t2 = some v2) (h3:sget S t3 = some v3) (h4:sget S t4 = some v4) (h5:sget S t5 = some v5) (h6:sget S t6 = some v6) (h7:sget S t7 = some v7) (h8:sget S t8 = some v8) (h9:sget S t9 = some v9):Sub [(t1,v1),(t2,v2),(t3,v3),(t4,v4),(t5,v5),(t6,v6),(t7,v7),(t8,v8),(t9,v9)] S:=.cons h1 (.cons h2 (.cons h3 (.cons h4 (.cons h5 (.cons h6 (.cons h7 (.cons h8 (.cons h9 (.nil _)))))))))
theorem ra10 (h1:sget S t1 = some v1) (h2:sget S t2 = some v2) (h3:sget S t3 = some v3) (h4:sget S t4 = some v4) (h5:sget S t5 = some v5) (h6:sget S t6 = some v6) (h7:sget S t7 = some v7) (h8:sget S t8 = some v8) (h9:sget S t9 = some v9) (h10:sget S t10 = some v10):RL S [t1,t2,t3,t4,t5,t6,t7,t8,t9,t10] [(t1,v1),(t2,v2),(t3,v3),(t4,v4),(t5,v5),(t6,v6),(t7,v7),(t8,v8),(t9,v9),(t10,v10)]:=.k h1 (.k h2 (.k h3 (.k h4 (.k h5 (.k h6 (.k h7 (.k h8 (.k h9 (.k h10 .n)))))))))
theorem ra11 (h1:sget S t1 = some v1) (h2:sget S t2 = some v2) (h3:sget S t3 = some v3) (h4:sget S t4 = some v4) (h5:sget S t5 = some v5) (h6:sget S t6 = some v6) (h7:sget S t7 = some v7) (h8:sget S t8 = some v8) (h9:sget S t9 = some v9) (h10:sget S t10 = some v10) (h11:sget S t11 = some v11):RL S [t1,t2,t3,t4,t5,t6,t7,t8,t9,t10,t11] [(t1,v1),(t2,v2),(t3,v3),(t4,v4),(t5,v5),(t6,v6),(t7,v7),(t8,v8),(t9,v9),(t10,v10),(t11,v11)]:=.k h1 (.k h2 (.k h3 (.k h4 (.k h5 (.k h6 (.k h7 (.k h8 (.k h9 (.k h10 (.k h11 .n))))))))))
theorem su11 (h1:sget S t1 = some v1) (h2:sget S t2 = some v2) (h3:sget S t3 = some v3) (h4:sget S t4 = some v4) (h5:sget S t5 = some v5) (h6:sget S t6 = some v6) (h7:sget S t7 = some v7) (h8:sget S t8 = some v8) (h9:sget S t9 = some v9) (h10:sget S t10 = some v10) (h11:sget S t11 = some v11):Sub [(t1,v1),(t2,v2),(t3,v3),(t4,v4),(t5,v5),(t6,v6),(t7,v7),(t8,v8),(t9,v9),(t10,v10),(t11,v11)] S:=.cons h1 (.cons h2 (.cons h3 (.cons h4 (.cons h5 (.cons h6 (.cons h7 (.cons h8 (.cons h9 (.cons h10 (.cons h11 (.nil _)))))))))))
theorem ra12 (h1:sget S t1 = some v1) (h2:sget S t2 = some v2) (h3:sget S t3 = some v3) (h4:sget S t4 = some v4) (h5:sget S t5 = some v5) (h6:sget S t6 = some v6) (h7:sget S t7 = some v7) (h8:sget S t8 = some v8) (h9:sget S t9 = some v9) (h10:sget S t10 = some v10) (h11:sget S t11 = some v11) (h12:sget S t12 = some v12):RL S [t1,t2,t3,t4,t5,t6,t7,t8,t9,t10,t11,t12] [(t1,v1),(t2,v2),(t3,v3),(t4,v4),(t5,v5),(t6,v6),(t7,v7),(t8,v8),(t9,v9),(t10,v10),(t11,v11),(t12,v12)]:=.k h1 (.k h2 (.k h3 (.k h4 (.k h5 (.k h6 (.k h7 (.k h8 (.k h9 (.k h10 (.k h11 (.k h12 .n)))))))))))
theorem ra13 (h1:sget S t1 = some v1) (h2:sget S t2 = some v2) (h3:sget S t3 = some v3) (h4:sget S t4 = some v4) (h5:sget S t5 = some v5) (h6:sget S t6 = some v6) (h7:sget S t7 = some v7) (h8:sget S t8 = some v8) (h9:sget S t9 = some v9) (h10:sget S t10 = some v10) (h11:sget S t11 = some v11) (h12:sget S t12 = some v12) (h13:sget S t13 = some v13):RL S [t1,t2,t3,t4,t5,t6,t7,t8,t9,t10,t11,t12,t13] [(t1,v1),(t2,v2),(t3,v3),(t4,v4),(t5,v5),(t6,v6),(t7,v7),(t8,v8),(t9,v9),(t10,v10),(t11,v11),(t12,v12),(t13,v13)]:=.k h1 (.k h2 (.k h3 (.k h4 (.k h5 (.k h6 (.k h7 (.k h8 (.k h9 (.k h10 (.k h11 (.k h12 (.k h13 .n))))))))))))
theorem ra14 (h1:sget S t1 = some v1) (h2:sget S t2 = some v2) (h3:sget S t3 = some v3) (h4:sget S t4 = some v4) (h5:sget S t5 = some v5) (h6:sget S t6 = some v6) (h7:sget S t7 = some v7) (h8:sget S t8 = some v8) (h9:sget S t9 = some v9) (h10:sget S t10 = some v10) (h11:sget S t11 = some v11) (h12:sget S t12 = some v12) (h13:sget S t13 = some v13) (h14:sget S t14 = some v14):RL S [t1,t2,t3,t4,t5,t6,t7,t8,t9,t10,t11,t12,t13,t14] [(t1,v1),(t2,v2),(t3,v3),(t4,v4),(t5,v5),(t6,v6),(t7,v7),(t8,v8),(t9,v9),(t10,v10),(t11,v11),(t12,v12),(t13,v13),(t14,v14)]:=.k h1 (.k h2 (.k h3 (.k h4 (.k h5 (.k h6 (.k h7 (.k h8 (.k h9 (.k h10 (.k h11 (.k h12 (.k h13 (.k h14 .n)))))))))))))
end
end Am
end
section
namespace Am
open Go
mutual
def AV.cl (N:Nat):AV→Bool
 | .lit _ | .nils _ | .undef=>true
 | .seq _ rows | .fresh _ rows=>freeR rows
 | .xseq _ rows=>clR N rows
 | .ptr b _ | .itr b | .eptr b _ _ _ | .asl b _ | .csl b _ _ _ | .mp b=>Nat.blt b N
 | .cptr cs | .agg cs | .tup cs=>clL N cs
 | .fn (.yield l) a c=>Nat.blt l N && clL N a && clL N c
 | .fn _ a c=>clL N a && clL N c
def clL (N:Nat):List AV→Bool
 | []=>true
 | x :: l=>x.cl N && clL N l
def clR (N:Nat):List (List AV)→Bool
 | []=>true
 | x :: l=>clL N x && clR N l
end
section
variable {p g:Nat}
theorem D6n {b:Nat} (h:Nat.blt b p = true):rb p g b = b:=B0y (Nat.le_of_ble_eq_true h)
mutual
theorem ren_cl:(v:AV)→v.cl p = true→ren p g v = v
 | .lit _,_ | .nils _,_ | .undef,_=>by simp only [ren]
 | .seq _ rows,h | .fresh _ rows,h=>by simp only [AV.cl] at h; simp only [ren,renR_free rows h]
 | .xseq _ rows,h=>by simp only [AV.cl] at h; simp only [ren,renR_cl rows h]
 | .ptr _ _,h | .itr _,h | .eptr _ _ _ _,h | .asl _ _,h | .csl _ _ _ _,h | .mp _,h=>by simp only [AV.cl] at h; simp only [ren,D6n h]
 | .cptr cs,h | .agg cs,h | .tup cs,h=>by simp only [AV.cl] at h; simp only [ren,renL_cl cs h]
 | .fn f a c,h=>by
  cases f with
  | yield l=>simp only [AV.cl,Bool.and_eq_true] at h; simp only [ren,B62,D6n h.1.1,renL_cl a h.1.2,renL_cl c h.2]
  | _=>simp only [AV.cl,Bool.and_eq_true] at h; simp only [ren,B62,renL_cl a h.1,renL_cl c h.2]
theorem renL_cl:(l:List AV)→clL p l = true→renL p g l = l
 | [],_=>by simp only [renL]
 | v :: l,h=>by
  simp only [clL,Bool.and_eq_true] at h
  simp only [renL,ren_cl v h.1,renL_cl l h.2]
theorem renR_cl:(l:List (List AV))→clR p l = true→renR p g l = l
 | [],_=>by simp only [renR]
 | v :: l,h=>by
  simp only [clR,Bool.and_eq_true] at h
  simp only [renR,renL_cl v h.1,renR_cl l h.2]
end
end
def clS (N:Nat) (s:C9):Bool:=s.all fun x=>x.2.cl N
def clM (N:Nat) (es:List (AV × AV)):Bool:=es.all fun x=>x.1.cl N && x.2.cl N
def AO.cl (N:Nat):AO→Bool
 | .dead | .iter _ _=>true
 | .cells cs=>clL N cs
 | .arr _ _ rows=>clR N rows
 | .map es=>clM N es
 | .loop _ s _ a b _ _=>clS N s && a.free && b.free
 | .ro o=>o.cl N
def clH (N:Nat) (H:A7):Bool:=H.all (AO.cl N)
section
variable {p g:Nat}
theorem D15:∀s:C9,clS p s = true→U3 p g s = s
 | [],_=>rfl
 | x :: s,h=>by
  simp only [clS,List.all_cons,Bool.and_eq_true] at h
  have ih:=D15 s h.2
  unfold U3 at ih ⊢
  rw [List.map_cons,ih,ren_cl _ h.1]
theorem D14:∀o:AO,o.cl p = true→P7 p g o = o
 | .dead,_ | .iter _ _,_=>by simp only [P7]
 | .cells cs,h=>by simp only [AO.cl] at h; simp only [P7,renL_cl cs h]
 | .arr _ _ rows,h=>by simp only [AO.cl] at h; simp only [P7,renR_cl rows h]
 | .map es,h=>by
  simp only [AO.cl,clM] at h
  simp only [P7]
  congr 1
  induction es with
  | nil=>rfl
  | cons x es ih =>
   simp only [List.all_cons,Bool.and_eq_true] at h
   rw [List.map_cons,ren_cl _ h.1.1,ren_cl _ h.1.2,ih h.2]
 | .loop f s ps a b busy pend,h=>by
  simp only [AO.cl,Bool.and_eq_true] at h
  simp only [P7,D15 s h.1.1,P3 a h.1.2,P3 b h.2]
 | .ro o,h=>by simp only [AO.cl] at h; simp only [P7,D14 o h]
theorem D5l {H G:A7} (h:clH H.length H = true):G8 H.length g G H = H++G:= by
 unfold G8
 rw [List.take_of_length_le (Nat.le_refl _),List.drop_of_length_le (Nat.le_refl _),List.map_nil,List.append_nil]
 congr 1
 have:∀l:A7,(∀ o ∈ l,o.cl H.length = true)→l.map (P7 H.length g) = l:= by
  intro l
  induction l with
  | nil=>intro _; rfl
  | cons o l ih=>intro hl; rw [List.map_cons,D14 o (hl o (List.mem_cons_self)),ih fun x hx=>hl x (List.mem_cons_of_mem _ hx)]
 exact this H fun o ho=>List.all_eq_true.1 h o ho
theorem C8m {N:Nat}:∀{l:List Nat},(l.all fun B=>Nat.ble B (N + g)) = true→ScBs N g (l.map (min · N)) l
 | [],_=>.nil
 | B :: l,h=>by
  simp only [List.all_cons,Bool.and_eq_true] at h
  have hB:=Nat.le_of_ble_eq_true h.1
  rw [List.map_cons]
  refine .cons ?_ (C8m h.2)
  by_cases c:B≤N
  ·exact .inl ⟨Nat.min_le_right _ _,by omega⟩
  ·exact .inr (.inr ⟨by omega,by omega,hB⟩)
end
mutual
theorem cl_mono {M N:Nat} (hMN:M≤N):(v:AV)→v.cl M = true→v.cl N = true
 | .lit _,_ | .nils _,_ | .undef,_=>by simp only [AV.cl]
 | .seq _ rows,h | .fresh _ rows,h=>by simp only [AV.cl] at h ⊢; exact h
 | .xseq _ rows,h=>by simp only [AV.cl] at h ⊢; exact clR_mono hMN rows h
 | .ptr _ _,h | .itr _,h | .eptr _ _ _ _,h | .asl _ _,h | .csl _ _ _ _,h | .mp _,h=>by
  simp only [AV.cl] at h ⊢
  have:=Nat.le_of_ble_eq_true h
  exact Nat.ble_eq_true_of_le (by omega)
 | .cptr cs,h | .agg cs,h | .tup cs,h=>by simp only [AV.cl] at h ⊢; exact clL_mono hMN cs h
 | .fn f a c,h=>by
  cases f with
  | yield l =>
   simp only [AV.cl,Bool.and_eq_true] at h ⊢
   have:=Nat.le_of_ble_eq_true h.1.1
   exact ⟨⟨Nat.ble_eq_true_of_le (by omega),clL_mono hMN a h.1.2⟩,clL_mono hMN c h.2⟩
  | _=>simp only [AV.cl,Bool.and_eq_true] at h ⊢; exact ⟨clL_mono hMN a h.1,clL_mono hMN c h.2⟩
theorem clL_mono {M N:Nat} (hMN:M≤N):(l:List AV)→clL M l = true→clL N l = true
 | [],_=>rfl
 | v :: l,h=>by simp only [clL,Bool.and_eq_true] at h ⊢; exact ⟨cl_mono hMN v h.1,clL_mono hMN l h.2⟩
theorem clR_mono {M N:Nat} (hMN:M≤N):(l:List (List AV))→clR M l = true→clR N l = true
 | [],_=>rfl
 | v :: l,h=>by simp only [clR,Bool.and_eq_true] at h ⊢; exact ⟨clL_mono hMN v h.1,clR_mono hMN l h.2⟩
end
theorem D4z {M N:Nat} (hMN:M≤N) {s:C9} (h:clS M s = true):clS N s = true:= by
 unfold clS at h ⊢
 rw [List.all_eq_true] at h ⊢
 exact fun x hx=>cl_mono hMN _ (h x hx)
theorem C7c {M N:Nat} (hMN:M≤N):(o:AO)→o.cl M = true→o.cl N = true
 | .dead,_ | .iter _ _,_=>by simp only [AO.cl]
 | .cells cs,h=>by simp only [AO.cl] at h ⊢; exact clL_mono hMN cs h
 | .arr _ _ rows,h=>by simp only [AO.cl] at h ⊢; exact clR_mono hMN rows h
 | .map es,h=>by
  simp only [AO.cl,clM,List.all_eq_true,Bool.and_eq_true] at h ⊢
  exact fun x hx=>⟨cl_mono hMN _ (h x hx).1,cl_mono hMN _ (h x hx).2⟩
 | .loop _ s _ a b _ _,h=>by
  simp only [AO.cl,Bool.and_eq_true] at h ⊢
  exact ⟨⟨D4z hMN h.1.1,h.1.2⟩,h.2⟩
 | .ro o,h=>by simp only [AO.cl] at h ⊢; exact C7c hMN o h
theorem C7b {M N:Nat} (hMN:M≤N) {H:A7} (h:clH M H = true):clH N H = true:= by
 unfold clH at h ⊢
 rw [List.all_eq_true] at h ⊢
 exact fun x hx=>C7c hMN _ (h x hx)
theorem J8 {α:Type} {f:α→List AV} (h:∀x,freeL (f x) = true):∀l:List α,freeR (l.map f) = true
 | []=>rfl
 | x :: l=>by simp only [List.map_cons,freeR,h x,J8 h l,Bool.and_self]
theorem D7d {H:A7} {l:List AO} (h:clH H.length H = true) (hl:clH (H.length + l.length) l = true):clH (H++l).length (H++l) = true:= by
 rw [List.length_append]
 have:=C7b (Nat.le_add_right H.length l.length) h
 unfold clH at this hl ⊢
 rw [List.all_append,this,hl]; rfl
mutual
theorem bd_free {N:Nat}:(v:AV)→v.free = true→v.bd N = true
 | .lit _,_ | .nils _,_ | .undef,_ | .seq _ _,_ | .fresh _ _,_=>by simp only [AV.bd]
 | .xseq _ rows,h=>by simp only [AV.free] at h; simp only [AV.bd]; exact bdR_free rows h
 | .cptr cs,h | .agg cs,h | .tup cs,h=>by simp only [AV.free] at h; simp only [AV.bd]; exact bdL_free cs h
 | .fn _ _ _,h | .ptr _ _,h | .itr _,h | .eptr _ _ _ _,h | .asl _ _,h | .csl _ _ _ _,h | .mp _,h=>by simp [AV.free] at h
theorem bdL_free {N:Nat}:(l:List AV)→freeL l = true→bdL N l = true
 | [],_=>rfl
 | v :: l,h=>by simp only [freeL,Bool.and_eq_true] at h; simp only [bdL,bd_free v h.1,bdL_free l h.2,Bool.and_self]
theorem bdR_free {N:Nat}:(l:List (List AV))→freeR l = true→bdR N l = true
 | [],_=>rfl
 | v :: l,h=>by simp only [freeR,Bool.and_eq_true] at h; simp only [bdR,bdL_free v h.1,bdR_free l h.2,Bool.and_self]
end
mutual
theorem cl_free {N:Nat}:(v:AV)→v.free = true→v.cl N = true
 | .lit _,_ | .nils _,_ | .undef,_=>by simp only [AV.cl]
 | .seq _ _,h | .fresh _ _,h=>by simp only [AV.free] at h; simp only [AV.cl,h]
 | .xseq _ rows,h=>by simp only [AV.free] at h; simp only [AV.cl]; exact clR_free rows h
 | .cptr cs,h | .agg cs,h | .tup cs,h=>by simp only [AV.free] at h; simp only [AV.cl]; exact clL_free cs h
 | .fn _ _ _,h | .ptr _ _,h | .itr _,h | .eptr _ _ _ _,h | .asl _ _,h | .csl _ _ _ _,h | .mp _,h=>by simp [AV.free] at h
theorem clL_free {N:Nat}:(l:List AV)→freeL l = true→clL N l = true
 | [],_=>rfl
 | v :: l,h=>by simp only [freeL,Bool.and_eq_true] at h; simp only [clL,cl_free v h.1,clL_free l h.2,Bool.and_self]
theorem clR_free {N:Nat}:(l:List (List AV))→freeR l = true→clR N l = true
 | [],_=>rfl
 | v :: l,h=>by simp only [freeR,Bool.and_eq_true] at h; simp only [clR,clL_free v h.1,clR_free l h.2,Bool.and_self]
end
theorem A3z {α:Type} {N:Nat} {f:α→List AV} (h:∀x,freeL (f x) = true) (l:List α):clR N (l.map f) = true:=clR_free _ (J8 h l)
theorem E1x {B b:Nat} {l:List Nat} {v:AV} (h:B≤b) (r:(l.all fun B=>Nat.ble B b || v.bd B) = true):((B :: l).all fun B=>Nat.ble B b || v.bd B) = true:= by
 rw [List.all_cons,r,Nat.ble_eq_true_of_le h]; rfl
theorem D9w {c:Sc} {H:A7} {j:Nat} {v:AV} (h:A0j c H = true):((c.cur :: c.outer).all fun B=>Nat.ble B (H.length + j) || v.bd B) = true:= by
 unfold A0j at h
 rw [List.all_eq_true] at h ⊢
 intro B hB
 have:=Nat.le_of_ble_eq_true (h B hB)
 rw [Nat.ble_eq_true_of_le (by omega)]; rfl
theorem D8a {c:Sc} {b:Nat} {v:AV} (h1:v.bd c.cur = true) (h2:(c.outer.all fun B=>Nat.ble B b || v.bd B) = true):c.okL b [v] = true:= by
 simp only [Sc.okL,Sc.ok,h1,h2,Bool.or_true,Bool.and_self,Bool.and_true]
theorem E18 {T:Tab} {d:Bool} {nres:Nat} {pre live:List Nat} {ops:List AOper} {s:C9} {H H1:A7} {c:Sc} {Q:Ex→C9→A7→Prop} (hp:publish s H pre = some H1) (h:WP T (.region d nres [] ops live) s H1 c Q):WP T (.region d nres pre ops live) s H c Q:= by
 intro S hS
 obtain ⟨e,S',s',H',⟨n,hn⟩,h1,h2⟩:=h S hS
 refine ⟨e,S',s',H',⟨n,?_⟩,h1,h2⟩
 cases n with
 | zero=>simp [mach] at hn
 | succ n =>
  rw [A0v] at hn ⊢
  unfold G4 at hn ⊢
  simp only [publish] at hn
  simp only [B6w hS hp]
  exact hn
theorem D8i {s:C9} {H0:A7} {l l1:List AO} {t j o:Nat} {cs cs':List AV} (h:sget s t = some (.ptr (H0.length + j) o)) (hl:l[j]? = some (.cells cs)) (hf:A1d (H0++l) cs = some (cs',H0++l1)) (hl1:l1[j]? = some (.cells cs)):publish s (H0++l) [t] = some (H0++l1.set j (.cells cs')):= by
 simp only [publish,h,A2h,A9j hl,hf,A9j hl1,I1]
theorem B2n {T:Tab} (hT:B3p T) {i:Nat} {aq rs:List AV} (h:F1 T ⟨0,[]⟩ [] (.fn (.func i) [] []) aq rs) (ha:freeL aq = true) (hr:freeL rs = true) {c:Sc} {H:A7} (hc:A0j c H = true):F1 T c H (.fn (.func i) [] []) aq rs :=
 ⟨V4.shift hT h.1 ha hr hc,bdL_free rs hr⟩
theorem D49 (v:AV):(fz1 v).free = v.free:= by cases v <;> rfl
theorem C4c:∀cs:List AV,freeL (cs.map fz1) = freeL cs
 | []=>rfl
 | v :: cs=>by simp only [List.map_cons,freeL,D49,C4c cs]
theorem D5a (v:AV):(fzA v).free = v.free:= by
 cases v <;> first | rfl | (simp only [fzA,AV.free]; exact C4c _)
theorem C4d:∀cs:List AV,freeL (cs.map fzA) = freeL cs
 | []=>rfl
 | v :: cs=>by simp only [List.map_cons,freeL,D5a,C4d cs]
theorem C65 {T:Tab} (hT:B3p T) {i:Nat} {aq rs:List AV} (h:A2d T ⟨0,[]⟩ [] (.fn (.func i) [] []) aq rs) (ha:freeL aq = true) (hr:freeL rs = true) {c:Sc} {H:A7} (hc:A0j c H = true):A2d T c H (.fn (.func i) [] []) aq rs:= by
 obtain ⟨rs',h1,rfl⟩:=h
 exact ⟨rs',B2n hT h1 ha (by rw [← C4d]; exact hr) hc,rfl⟩
theorem V4.gap {T:Tab} (hT:B3p T) {H H':A7} {f:AV} {aq rs:List AV} (h:∀c,A0j c H = true→V4 T c H f aq rs H') (hf:f.cl H.length = true) (ha:freeL aq = true) (hr:freeL rs = true)
  (hH:clH H.length H = true) (hl:H'.length = H.length) (hH':clH H'.length H' = true) {L:A7} {c:Sc} (hc:A0j c (H++L) = true):V4 T c (H++L) f aq rs (H'++L):= by
 have hc0:A0j ⟨min c.cur H.length,c.outer.map (min · H.length)⟩ H = true:= by
  unfold A0j
  rw [List.all_cons,Nat.ble_eq_true_of_le (Nat.min_le_right _ _),Bool.true_and,List.all_map,List.all_eq_true]
  intro B _
  exact Nat.ble_eq_true_of_le (Nat.min_le_right _ _)
 obtain ⟨n,e⟩:=h _ hc0
 cases n with
 | zero=>simp [mach] at e
 | succ n =>
  rw [A0u] at e
  have hs:ScBs H.length L.length ((min c.cur H.length) :: c.outer.map (min · H.length)) (c.cur :: c.outer):= by
   have:=C8m (N:=H.length) (g:=L.length) (l:=c.cur :: c.outer) (by unfold A0j at hc; rw [List.length_append] at hc; exact hc)
   rwa [List.map_cons] at this
  have:=(B09 (p:=H.length) (g:=L.length) (G:=L) (c:=⟨min c.cur H.length,c.outer.map (min · H.length)⟩) (c':=c) (fun i af h=>P3 _ (hT i af h)) (C08 (fun i af h=>P3 _ (hT i af h)) n) rfl hs (Nat.le_refl _) e).1
  rw [D5l hH,renL_free _ ha,renL_free _ hr,ren_cl f hf] at this
  have e2:G8 H.length L.length L H' = H'++L:= by rw [← hl]; exact D5l hH'
  rw [e2] at this
  exact ⟨n + 1,by rw [A0u]; exact this⟩
def E02 {α:Type} (T:Tab) (i:Nat) (fc:List AV) (ea:α→AV) (pre:A7→Prop) (it:∀(σ ρ:Type),(α→σ→Option (σ ⊕ ρ))→σ→Option (σ ⊕ ρ)):Prop :=
 ∀ {σ ρ:Type} (Hm:σ ⊕ ρ→A7) (N:Nat),(∀ x,(Hm x).length = N)→(∀ x,pre (Hm x))→∀ (y:AV),y.bd N = true→y.cellsOf = [y]→∀ (body:α→σ→Option (σ ⊕ ρ)),
  (∀ {L:A7} {c:Sc} {x:α} {s:σ} {o:σ ⊕ ρ},A0j c (Hm (.inl s)++L) = true→body x s = some o→V4 T c (Hm (.inl s)++L) y [ea x] [.b o.isLeft] (Hm o++L)) →
  ∀ {s0:σ} {o:σ ⊕ ρ},it σ ρ body s0 = some o→∀ {c:Sc},A0j c (Hm (.inl s0)) = true→V4 T c (Hm (.inl s0)) (.fn (.func i) [] fc) [y] [] (Hm o)
section
variable {T:Tab} {s:C9} {H0:A7} {l:List AO} {c:Sc} {Q:Ex→C9→A7→Prop}
def BdQ {σ ρ:Type} (H0:A7) (k:Nat) (lh:σ→List AO) (lx:ρ→List AO) (ex:ρ→Ex) (b:AO) (o:σ ⊕ ρ) (e:Ex) (_s:C9) (H2:A7):Prop :=
 ∃ l2,H2 = H0++l2∧match o with
  | .inl s'=>e = .normal∧l2.take (k + 1) = lh s'++[b]
  | .inr r=>e = ex r∧l2.take (k + 1) = lx r++[b]
def AsQ (T:Tab) (H0:A7) (k:Nat) (b0 b1:AO) (bd:ACode) (c:Sc) (Q:Ex→C9→A7→Prop) (e:Ex) (s1:C9) (H1:A7):Prop :=
 ∃ l1,e = .normal∧H1 = H0++l1∧l1[k]? = some b0∧WP T bd s1 (H0++l1.set k b1) c Q
theorem C3n {l lh:List AO} {k:Nat} {b b':AO} (hk:lh.length = k) (h:l.take (k + 1) = lh++[b]):(l.set k b').take (k + 1) = lh++[b']:= by
 rw [List.take_set,h]
 rw [List.set_append_right _ _ (by omega),hk,Nat.sub_self]; rfl
def D6k {σ ρ:Type} (ex:ρ→Ex):σ ⊕ ρ→Option Ex
 | .inl _=>none
 | .inr r=>some (ex r)
def E24 {σ ρ:Type} (ex:ρ→Ex):σ ⊕ ρ→Ex
 | .inl _=>.normal
 | .inr r=>ex r
theorem C6o {σ ρ α:Type} {f:Opd} {p i k:Nat} {live:List Nat} {aq bd:ACode} {fc:List AV} {ea:α→AV} {pre:A7→Prop} {it:∀(σ ρ:Type),(α→σ→Option (σ ⊕ ρ))→σ→Option (σ ⊕ ρ)} {s0:σ} {o:σ ⊕ ρ} {body:α→σ→Option (σ ⊕ ρ)}
  (hit:E02 T i fc ea pre it) (hT:B3p T) (sl:C9) (lh:σ→List AO) (lx:ρ→List AO) (ex:ρ→Ex) (h:it σ ρ body s0 = some o) (hex:∀r,(ex r).out = true)
  (hf:ev s f = some (.fn (.func i) [] fc)) (hs:∀S,Sub s S→restrict S live = sl) (hl:lh s0 = l) (hk:∀x,(lh x).length = k) (hkx:∀x,(lx x).length = k) (hH0:clH H0.length H0 = true)
  (hfree:(aq.free && bd.free && clS (H0.length + (k + 1)) sl) = true) (hclh:∀x,clH (H0.length + (k + 1)) (lh x) = true) (hclx:∀x,clH (H0.length + (k + 1)) (lx x) = true) (hea:∀x,freeL [ea x] = true)
  (hpre:(∀ x b,pre (H0++(lh x++[b])))∧∀ x b,pre (H0++(lx x++[b]))) (hc:A0j c (H0++l) = true)
  (hb:∀c x s o,body x s = some o→∀ y0 y1:AO,WP T aq ((p,ea x) :: sl) (H0++(lh s++[y0])) ⟨H0.length + (k + 1),c⟩ (AsQ T H0 k y0 y1 bd ⟨H0.length + (k + 1),c⟩ (BdQ H0 k lh lx ex y1 o)))
  (kont:match o with | .inl s'=>Q .normal s (H0++(lh s'++[.dead])) | .inr r=>Q (ex r) s (H0++(lx r++[.dead]))):WP T (.rangeFunc f [p] live aq bd) s (H0++l) c Q:= by
 subst hl
 intro S hS
 let Hm:σ ⊕ ρ→A7:=fun o=>match o with
  | .inl x=>H0++(lh x++[.loop 0 sl [p] aq bd false none])
  | .inr r=>H0++(lx r++[.loop 0 sl [p] aq bd false (some (ex r))])
 simp only [Bool.and_eq_true] at hfree
 have hN:∀x,(Hm x).length = H0.length + (k + 1):= by
  intro x
  cases x with
  | inl x=>simp [Hm,hk]
  | inr x=>simp [Hm,hkx]
 have hlen:(H0++lh s0).length = H0.length + k:= by rw [List.length_append,hk]
 have hcl:∀x,clH (Hm x).length (Hm x) = true:= by
  intro x
  rw [hN]
  have hm:=C7b (Nat.le_add_right H0.length (k + 1)) hH0
  cases x with
  | inl x =>
   have:=hclh x
   simp only [Hm,clH,List.all_append,List.all_cons,List.all_nil,Bool.and_true,AO.cl,Bool.and_eq_true] at this hm ⊢
   exact ⟨hm,this,⟨hfree.2,hfree.1.1⟩,hfree.1.2⟩
  | inr x =>
   have:=hclx x
   simp only [Hm,clH,List.all_append,List.all_cons,List.all_nil,Bool.and_true,AO.cl,Bool.and_eq_true] at this hm ⊢
   exact ⟨hm,this,⟨hfree.2,hfree.1.1⟩,hfree.1.2⟩
 have hy:∀{L:A7} {c:Sc} {x:α} {s:σ} {o:σ ⊕ ρ},A0j c (Hm (.inl s)++L) = true→body x s = some o→V4 T c (Hm (.inl s)++L) (.fn (.yield (H0.length + k)) [] []) [ea x] [.b o.isLeft] (Hm o++L):= by
  intro L c x s o hsc hbo
  refine V4.gap (H:=Hm (.inl s)) (H':=Hm o) hT (f:=.fn (.yield (H0.length + k)) [] []) (fun c _=>?_) ?_ (hea x) rfl (hcl (.inl s)) ((hN o).trans (hN (.inl s)).symm) (hcl o) hsc
  ·obtain ⟨e1,S1,s1,H1,r1,q1,l1,rfl,rfl,hl1,hw⟩:=hb (c.cur :: c.outer) x s o hbo (.loop 0 sl [p] aq bd false none) (.loop 0 sl [p] aq bd true none) _ (Sub.refl _)
   obtain ⟨e2,S2,s2,H2,r2,q2,l2,rfl,hb2⟩:=hw S1 q1
   have hm:(Hm (.inl s)) = H0++(lh s++[.loop 0 sl [p] aq bd false none]):=rfl
   have hNs:=hN (.inl s)
   rw [hm] at hNs ⊢
   have g0:hget (H0++(lh s++[.loop 0 sl [p] aq bd false none])) (H0.length + k) = some (.loop 0 sl [p] aq bd false none):= by
    rw [A02,List.getElem?_append_right (by rw [hk]; exact Nat.le_refl _),hk,Nat.sub_self]; rfl
   have fin:∀(lb:List AO) (er:Ex),lb.length = k→l2.take (k + 1) = lb++[.loop 0 sl [p] aq bd true none]→e2 = er→V4 T c (H0++(lh s++[.loop 0 sl [p] aq bd false none])) (.fn (.yield (H0.length + k)) [] []) [ea x] [.b (!er.out)] (H0++(lb++[.loop 0 sl [p] aq bd false (match er with | .normal=>none | e=>some e)])):= by
    intro lb er hlb tk he
    subst he
    have g2:l2[k]? = some (.loop 0 sl [p] aq bd true none):= by
     have e:(l2.take (k + 1))[k]? = l2[k]?:=List.getElem?_take_of_lt (by omega)
     rw [← e,tk,List.getElem?_append_right (by omega),hlb,Nat.sub_self]; rfl
    refine V4.yield (ps:=[p]) (st0:=⟨(p,ea x) :: sl,H0++(lh s++[.loop 0 sl [p] aq bd false none]),⟨H0.length + (k + 1),c.cur :: c.outer⟩⟩) (st1:=⟨S1,H0++l1,⟨H0.length + (k + 1),c.cur :: c.outer⟩⟩)
     (st2:=⟨S2,H0++l2,⟨H0.length + (k + 1),c.cur :: c.outer⟩⟩) (e:=e2) rfl g0 rfl (by rw [hNs]; rfl) r1 (by rw [A02]; exact hl1) (by rw [I1]) r2 (by rw [A02]; exact g2) rfl ?_
    rw [hNs,I1]
    simp only [trunc,bdL,if_true]
    rw [I2,C3n hlb tk]
    cases e2 <;> rfl
   cases o with
   | inl s'=>exact fin (lh s') .normal (hk s') hb2.2 hb2.1
   | inr r =>
    have:=fin (lx r) (ex r) (hkx r) hb2.2 hb2.1
    have he:(match ex r with | .normal=>none | e=>some e) = some (ex r):= by
     have:=hex r
     cases hq:ex r <;> rw [hq] at this <;> first | rfl | cases this
    rw [he,hex r] at this
    exact this
  ·have hq:=hN (.inl s)
   simp only [AV.cl,clL,Bool.and_true]
   exact Nat.ble_eq_true_of_le (by omega)
 have hcall:=hit Hm (H0.length + (k + 1)) hN (by
  intro x
  cases x with
  | inl x=>exact hpre.1 x _
  | inr x=>exact hpre.2 x _) (.fn (.yield (H0.length + k)) [] []) (by simp only [AV.bd,bdL,Bool.and_true]; exact Nat.ble_eq_true_of_le (by omega)) rfl body hy h (c:=c) (by
  have hq:=hN (.inl s0)
  unfold A0j at hc ⊢
  rw [List.all_eq_true] at hc ⊢
  intro B hB
  have:=Nat.le_of_ble_eq_true (hc B hB)
  rw [hlen] at this
  exact Nat.ble_eq_true_of_le (by omega))
 have hres:=hs S hS
 have g:∀o:σ ⊕ ρ,hget (Hm o) (H0.length + k) = some (.loop 0 sl [p] aq bd false (D6k ex o)):= by
  intro o
  cases o with
  | inl x=>simp only [Hm]; rw [A02,List.getElem?_append_right (by rw [hk]; exact Nat.le_refl _),hk,Nat.sub_self]; rfl
  | inr x=>simp only [Hm]; rw [A02,List.getElem?_append_right (by rw [hkx]; exact Nat.le_refl _),hkx,Nat.sub_self]; rfl
 have hr:=L4.rangeFunc (T:=T) (ac:=.rangeFunc f [p] live aq bd) (st:=⟨S,H0++lh s0,c⟩) (l:=H0.length + k) (H0:=Hm (.inl s0)) (H':=Hm o) (pend:=D6k ex o) (e:=E24 ex o)
  (st':=⟨S,hset (Hm o) (H0.length + k) .dead,c⟩) rfl (A60 hS hf) hlen.symm (by simp only [hres,Hm,List.append_assoc]) hcall (g o) (by cases o <;> rfl) rfl
 refine ⟨_,S,s,_,hr,hS,?_⟩
 cases o with
 | inl x =>
  have:hset (Hm (.inl x)) (H0.length + k) .dead = H0++(lh x++[.dead]):= by
   simp only [Hm]; rw [I1,List.set_append_right _ _ (by rw [hk]; exact Nat.le_refl _),hk,Nat.sub_self]; rfl
  show Q .normal s (hset (Hm (.inl x)) (H0.length + k) .dead)
  rw [this]; exact kont
 | inr r =>
  have:hset (Hm (.inr r)) (H0.length + k) .dead = H0++(lx r++[.dead]):= by
   simp only [Hm]; rw [I1,List.set_append_right _ _ (by rw [hkx]; exact Nat.le_refl _),hkx,Nat.sub_self]; rfl
  show Q (ex r) s (hset (Hm (.inr r)) (H0.length + k) .dead)
  rw [this]; exact kont
end
end Am
namespace Am
open Go
section
variable {T:Tab} {s:C9} {H0 H:A7} {l:List AO} {c:Sc} {n0 N:Nat}
theorem B34 {a:Opd} {j o:Nat} {cs:List AV} {x:AV} (hN:H0.length = N) (h:ev s a = some (.ptr (N + j) o)) (hl:l[j]? = some (.cells cs)) (hd:(cs.drop o).head? = some x):One T c n0 s (H0++l) (.load none a) x (H0++l):= by subst hN; exact C3 h hl hd
theorem B35 {f:Opd} {args:List Opd} {fv:AV} {aq as' rs rs':List AV} {H1 H2:A7} (hf:ev s f = some fv) (ha:evs s args = some aq) (hz:W4 H aq = some (as',H1)) (hcall:V4 T c H1 fv as' rs H2) (hr:rs.map fzA = rs'):One T c n0 s H (.call f args [] false) (packed rs') H2:= by
 obtain ⟨n,e⟩:=hcall
 exact ⟨n,by simp only [core,A0o,hf,ha,Bool.false_eq_true,if_false,hz,e,A4l,hr]⟩
def C5k (H0 H':A7) (rv:List ARes) (rs:List AV) (e:Ex) (s:C9) (H:A7):Prop :=
 (match e with | .exit _=>False | _=>True)∧∃ rs0 H1,results s H rv = some rs0∧A0n H0.length H rs0 = some (rs,H1)∧bdL H0.length rs = true∧H1.take H0.length = H'
theorem C68 {i:Nat} {af:AFunc} {first cap args aq rs:List AV} {H':A7} (haf:T i = some af) (has:first++args++cap = aq) (hn:Nat.beq aq.length af.nargs = true)
  (h:WP T af.body (Q3 0 aq) H ⟨H.length,c.cur :: c.outer⟩ (C5k H H' af.results rs)):V4 T c H (.fn (.func i) first cap) args rs H':= by
 obtain ⟨e,S',s',H2,h1,h2,h3,rs0,H1,h4,h5,h6,h7⟩:=h _ (Sub.refl _)
 refine V4.fn (af:=af) (bd:=af.body) (aq:=aq) (rs0:=rs0) (rs1:=rs) (H1:=H1) (e:=e) (st':=⟨S',H2,⟨H.length,c.cur :: c.outer⟩⟩) rfl haf rfl has.symm hn rfl h1 (by cases e <;> first | rfl | exact h3.elim) (A2r h2 h4) h5 rfl ?_
 unfold trunc
 rw [h6,if_pos rfl,h7]
theorem D0l {H H':A7} {n:Nat} (h:A0j c H = true) (hl:H.length≤H'.length) (hn:n≤H'.length):A0j ⟨n,c.cur :: c.outer⟩ H' = true:= by
 unfold A0j at h ⊢
 rw [List.all_cons,Nat.ble_eq_true_of_le hn,Bool.true_and]
 rw [List.all_eq_true] at h ⊢
 intro B hB
 have:=Nat.le_of_ble_eq_true (h B hB)
 exact Nat.ble_eq_true_of_le (by omega)
theorem D3l {H0 H1 H':A7} {rv:List ARes} {rs rs0:List AV} {e:Ex} (he:(match e with | .exit _=>False | _=>True)) (h1:results s H1 rv = some rs0) (h2:A0n H0.length H1 rs0 = some (rs,H1)) (h3:bdL H0.length rs = true) (h4:H1.take H0.length = H'):C5k H0 H' rv rs e s H1 :=
 ⟨he,rs0,H1,h1,h2,h3,h4⟩
end
end Am
end
section
namespace Am
open Go
section
variable {β:Type} {n:Nat}
end
section
variable {T:Tab} {s:C9} {H0 H:A7} {l:List AO} {c:Sc} {n0 k0:Nat} {β:Type} {n:Nat} {kk:IntKind} {g:β→List AV} {es:List (IArr n × β)} {k:IArr n} {ks:List Nat}
theorem C4l {b:Nat} {o:AO} (h:b < H0.length):hset (H0++l) b o = hset H0 b o++l:= by
 unfold hset
 exact List.set_append_left _ _ h
theorem C4j (H0:A7) (l:List AO) {b:Nat} (hb:b < H0.length):∀js:List Nat,hide (H0++l) (js.map (H0.length + ·)++[b]) = hset H0 b .dead++A4k l js
 | []=>by simp only [List.map_nil,List.nil_append,hide,A4k]; exact C4l hb
 | j :: js=>by
  simp only [List.map_cons,List.cons_append,hide,C4j H0 l hb js,A4k]
  have:=I1 (hset H0 b .dead) (A4k l js) j .dead
  rw [L8] at this
  exact this
theorem B9a (H0:A7) (l m:List AO) {b:Nat} (hb:b < H0.length):∀js:List Nat,unhide (H0++l) (hset H0 b .dead++m) (js.map (H0.length + ·)++[b]) = H0++Z2 l m js
 | []=>by
  have h1:hget (H0++l) b = some H0[b]:= by
   unfold hget; rw [List.getElem?_append_left hb]; simp [hb]
  simp only [List.map_nil,List.nil_append,unhide,Z2,h1]
  rw [C4l (by rw [L8]; exact hb)]
  congr 1
  unfold hset
  rw [List.set_set]
  exact List.set_getElem_self hb
 | j :: js=>by
  have h1:hget (H0++l) (H0.length + j) = l[j]?:= by rw [A02]
  simp only [List.map_cons,List.cons_append,unhide,Z2,h1,B9a H0 l m hb js]
  cases l[j]? with
  | none=>rfl
  | some o=>exact I1 _ _ _ _
theorem C27 (N b:Nat) {js:List Nat}:(js.map (N + ·)++[b]).contains b = true:= by
 simp only [List.contains_iff_mem,List.mem_append,List.mem_singleton,or_true]
theorem D9g {op:AOp} {d:Option Nat} {gd:Option (Nat × Bool)} {hid:List Nat} {hida:List (Nat × List Nat)} {inc src:Nat} {bs js:List Nat} {k0 b:Nat} (jh:List Nat) (ejh:hid.map (H0.length + k0 + ·) = jh.map (H0.length + ·)) (hw:ways s (H0++A4k l jh) hida = some bs) (e:jh.map (H0.length + ·)++bs = js.map (H0.length + ·)++[b]) (hall:(js.all fun j=>Nat.blt j l.length) = true) (hb:b < H0.length) :
  A5t (H0.length + k0) s (H0++l) ⟨d,op,gd,hid,hida,inc,src⟩ = some (js.map (H0.length + ·)++[b]):= by
 have h1:((js.map (H0.length + ·)++[b]).all fun b=>Nat.blt b (H0++l).length) = true:= by
  rw [List.all_append,D01 H0 l hall]
  simp only [List.all_cons,List.all_nil,Bool.and_true,Bool.true_and]
  exact Nat.ble_eq_true_of_le (by rw [List.length_append]; omega)
 unfold A5t
 simp only [ejh,B58,hw,e,h1,Bool.or_true,if_true]
theorem D6d {R:C9→A7→Prop} {hc:List (Option (List Nat))} {ops:List AOper} {op:AOp} {d:Option Nat} {hid:List Nat} {hida:List (Nat × List Nat)} {inc src b:Nat} {v:AV} {l1:List AO} (js:List Nat) (l2:List AO) (hb:b < H0.length) (hhs:A5t n0 s (H0++l) ⟨d,op,none,hid,hida,inc,src⟩ = some (js.map (H0.length + ·)++[b])) (hseen:P9 s ⟨d,op,none,hid,hida,inc,src⟩ hc = true)
  (h:One T c n0 s (hset H0 b .dead++A4k l js) op v (hset H0 b .dead++l1)) (hle:Nat.ble l.length l1.length = true) (hw:writes op = true) (e:Z2 l l1 js = l2) (k:M9 T c n0 ops (sput s d v) (H0++l2) (some (js.map (H0.length + ·)++[b]) :: hc) R) :
  M9 T c n0 (⟨d,op,none,hid,hida,inc,src⟩ :: ops) s (H0++l) hc R:= by
 subst e
 obtain ⟨n1,e1⟩:=h
 obtain ⟨n2,s1,Hf,e2,h2⟩:=k
 refine ⟨max n1 n2,s1,Hf,?_,h2⟩
 have e1':=C5u (M6 T (Nat.le_max_left n1 n2)) e1
 have hle':Nat.ble (H0++l).length (hset H0 b .dead++l1).length = true:=Nat.ble_eq_true_of_le (by have:=Nat.le_of_ble_eq_true hle; rw [List.length_append,List.length_append,L8]; omega)
 simp only [opers,oper,wanted,hhs,hseen,C4j H0 l hb,e1',hle',Bool.or_true,if_true,B9a H0 l l1 hb,hw]
 exact A2o (M6 T (Nat.le_max_right n1 n2)) e2
def cpy {α:Type} (d m:List α):List α:=m.take (min m.length d.length)++d.drop (min m.length d.length)
theorem C9g {α:Type} (d m:List α):(cpy d m).length = d.length:= by
 unfold cpy
 simp only [List.length_append,List.length_take,List.length_drop]
 omega
theorem D7z {α:Type} {f:α→List AV} {k j n:Nat} {x y:Opd} {m d:List α} {v:AV} (hd:ev s x = some (.asl (H0.length + j) n)) (hx:ev s y = some v) (hl:l[j]? = some (.arr k false (d.map f))) (hn:d.length = n) (hr:rd (H0++l) v k (m.map f)) (hf:∀a,(f a).all AV.frz = true) :
  One T c n0 s (H0++l) (.copy k x y) (.lit (.int .i64 (min m.length n:Nat))) (H0++l.set j (.arr k false ((cpy d m).map f))):= by
 have:=D9t (T:=T) (c:=c) (n0:=n0) hd hx hl hn hr hf
 subst hn
 exact this
theorem B0o {a:Opd} {j k N:Nat} {cs:List AV} (hN:H0.length = N) (h:ev s a = some (.ptr (N + j) 0)) (hl:l[j]? = some (.cells cs)) (hk:Nat.beq cs.length k = true):One T c n0 s (H0++l) (.load (some k) a) (.agg cs) (H0++l):= by subst hN; exact C2 h hl hk
theorem D5z {a x:Opd} {j o k N:Nat} {cs ds:List AV} {v:AV} (hN:H0.length = N) (h:ev s a = some (.ptr (N + j) o)) (hv:ev s x = some v) (hl:l[j]? = some (.cells cs)) (hk:(Nat.beq v.cellsOf.length k && Nat.ble (o + k) cs.length) = true) (hok:v.cellsOf.all AV.plain = true) (hd:splice cs o v.cellsOf = ds) :
  One T c n0 s (H0++l) (.store k a x) (.tup []) (H0++l.set j (.cells ds)):= by subst hN; exact C7 h hv hl hk (C0 hok) hd
theorem C67 {H':A7} {i:Nat} {a aq rs cap:List AV} (h:V4 T c H (.fn (.func i) [] cap) (a++aq) rs H'):V4 T c H (.fn (.func i) a cap) aq rs H':= by
 obtain ⟨n,e⟩:=h
 cases n with
 | zero=>simp [mach] at e
 | succ n =>
  refine ⟨n + 1,?_⟩
  rw [A0u] at e ⊢
  exact e
theorem C64 {i:Nat} {a aq rs cap:List AV} (h:F1 T c H (.fn (.func i) [] cap) (a++aq) rs):F1 T c H (.fn (.func i) a cap) aq rs:=⟨C67 h.1,h.2⟩
end
theorem A9y {α:Type} {l:List α} {i:Int} {w:α} (h:idx l i = some w):0≤i∧i < l.length:= by
 unfold idx at h
 split at h
 ·have:=(List.getElem?_eq_some_iff.1 h).1
  exact ⟨by assumption,by omega⟩
 ·cases h
theorem B2x {α:Type} {l:List α} {i:Int} {w:α} (h:idx l i = some w):l[i.toNat]? = some w:= by
 unfold idx at h
 split at h
 ·exact h
 ·cases h
theorem C0t {α:Type} {f:α→List AV} {k:Nat} (hk:∀a,(f a).length = k):∀e:List α,((e.map f).flatten).length = e.length * k
 | []=>by simp
 | a :: e=>by rw [List.map_cons,List.flatten_cons,List.length_append,hk a,C0t hk e,List.length_cons,Nat.succ_mul,Nat.add_comm]
theorem A6n {α:Type} {f:α→List AV} {k:Nat} (hk:∀a,(f a).length = k) (post:List AV):∀{e:List α} {i:Nat} {y:α},e[i]? = some y→((e.map f).flatten++post).drop (i * k) = f y++(((e.drop (i + 1)).map f).flatten++post)
 | [],_,_,h=>by simp at h
 | a :: e,0,y,h=>by
  simp only [List.getElem?_cons_zero,Option.some.injEq] at h
  subst h
  simp
 | a :: e,i + 1,y,h=>by
  simp only [List.getElem?_cons_succ] at h
  have ih:=A6n hk post h
  rw [List.map_cons,List.flatten_cons,List.append_assoc,Nat.succ_mul,Nat.add_comm,← List.drop_drop,List.drop_left' (hk a),ih]
  rfl
theorem C7h {α:Type} {f:α→List AV} {k:Nat} (hk:∀a,(f a).length = k) (post:List AV) (z:α):∀{e:List α} {i:Nat} {y:α},e[i]? = some y→splice ((e.map f).flatten++post) (i * k) (f z) = ((e.set i z).map f).flatten++post
 | [],_,_,h=>by simp at h
 | a :: e,0,y,h=>by
  unfold splice
  simp only [Nat.zero_mul,List.take_zero,List.nil_append,Nat.zero_add,List.map_cons,List.flatten_cons,List.set_cons_zero,List.append_assoc]
  rw [hk z,List.drop_left' (hk a)]
 | a :: e,i + 1,y,h=>by
  simp only [List.getElem?_cons_succ] at h
  have ih:=C7h hk post z h
  unfold splice at ih ⊢
  simp only [List.map_cons,List.flatten_cons,List.set_cons_succ,List.append_assoc] at ih ⊢
  rw [← ih,Nat.succ_mul,Nat.add_comm (i * k) k,← hk a,List.take_append,List.take_of_length_le (Nat.le_add_right _ _),Nat.add_sub_cancel_left,Nat.add_assoc,← List.drop_drop,List.drop_left,List.append_assoc]
theorem slc0 {α:Type} {e m:List α} {h:Int} (hm:slc e 0 h = some m):m = e.take h.toNat:= by
 obtain ⟨_,rfl⟩:=B4b hm
 rfl
section
variable {T:Tab} {s:C9} {H0 H:A7} {l:List AO} {c:Sc} {n0 k0:Nat} {α:Type} {f:α→List AV} {k o n:Nat} {kk:IntKind} {x i a:Opd} {m:Int} {y z:α} {e e2:List α} {cs ds post:List AV}
theorem Y7 {b:Nat} (h:ev s x = some (.ptr b o)) (hi:ev s i = some (.lit (.int kk m))) (hn:e.length = n) (hy:idx e m = some y):One T c n0 s H (.idxA k n x i) (.ptr b (o + m.toNat * k)) H :=
 ⟨0,by
  have hb:=A9y hy
  rw [hn] at hb
  simp only [core,prim,h,hi,if_pos hb]⟩
theorem D1o {b:Nat} (h:ev s a = some (.ptr b (o + m.toNat * k))) (hc:hcells H b = some cs) (hcs:cs.drop o = (e.map f).flatten++post) (hk:∀a,(f a).length = k) (hy:idx e m = some y):∃r,cs.drop (o + m.toNat * k) = f y++r :=
 ⟨_,by rw [← List.drop_drop,hcs,A6n hk post (B2x hy)]⟩
theorem V7 {b:Nat} {g:α→AV} (hf:∀a,f a = [g a]) (h:ev s a = some (.ptr b (o + m.toNat * 1))) (hc:hcells H b = some cs) (hcs:cs.drop o = (e.map f).flatten++post) (hy:idx e m = some y):One T c n0 s H (.load none a) (g y) H :=
 ⟨0,by
  obtain ⟨r,hr⟩:=D1o h hc hcs (fun a=>by rw [hf]; rfl) hy
  rw [hf] at hr
  simp only [core,prim,h,I9,hc,hr,List.singleton_append]⟩
theorem B0q {j:Nat} {v:AV} (h:ev s a = some (.ptr (H0.length + j) (o + m.toNat * k))) (hv:ev s x = some v) (hvc:v.cellsOf = f z) (hl:l[j]? = some (.cells cs)) (ho:Nat.ble o cs.length = true) (hcs:cs.drop o = (e.map f).flatten++post) (hk:∀a,(f a).length = k) (hy:idx e m = some y) (he2:e2 = A6l e m z) (hds:cs.take o++((e2.map f).flatten++post) = ds) (hok:c.okL (H0.length + j) v.cellsOf = true) :
  One T c n0 s (H0++l) (.store k a x) (.tup []) (H0++l.set j (.cells ds)):= by
 have hb:=B2x hy
 have hlt:=(List.getElem?_eq_some_iff.1 hb).1
 have ho:=Nat.le_of_ble_eq_true ho
 have hzk:=hk z
 have hmul:m.toNat * k + k≤e.length * k:= by
  have:=Nat.mul_le_mul_right k (show m.toNat + 1≤e.length by omega)
  rw [Nat.succ_mul] at this; exact this
 have hle:o + m.toNat * k + k≤cs.length:= by
  have:=congrArg List.length hcs
  rw [List.length_drop,List.length_append,C0t hk] at this
  omega
 refine C7 h hv hl ?_ hok ?_
 ·rw [hvc,hzk,Nat.beq_refl,Bool.true_and]
  exact Nat.ble_eq_true_of_le (by omega)
 ·rw [← hds,hvc,he2]
  have h1:=C7h hk post z hb
  have e1:splice cs (o + m.toNat * k) (f z) = cs.take o++splice (cs.drop o) (m.toNat * k) (f z):= by
   unfold splice
   rw [List.take_add,Nat.add_assoc,← List.drop_drop]
   simp only [List.append_assoc]
  rw [e1,hcs,h1]; rfl
theorem A7a {g:α→AV} (hf:∀a,f a = [g a]) (h:ev s x = some (.agg cs)) (hi:ev s i = some (.lit (.int kk m))) (hn:e.length = n) (hcs:cs = (e.map f).flatten) (hy:idx e m = some y):One T c n0 s H (.idxAgg none 1 n x i) (g y) H :=
 ⟨0,by
  have hb:=A9y hy
  rw [hn] at hb
  have hr:=A6n (f:=f) (k:=1) (fun a=>by rw [hf]; rfl) [] (B2x hy)
  rw [List.append_nil,← hcs,hf] at hr
  have h1:cs[m.toNat * 1]? = some (g y):= by
   have h2:=congrArg List.head? hr
   rw [List.head?_drop] at h2
   rw [h2]; rfl
  simp only [core,prim,h,hi,if_pos hb,h1,Option.map_some]⟩
theorem D54 {b:Nat} {hi:Option Opd} {h':Int} {m':List α} (h:ev s x = some (.ptr b o)) (hc:hcells H b = some cs) (hb:bnd s n hi = some h') (hle:Nat.ble (o + n * k) cs.length = true) (hn:e.length = n) (hm:slc e 0 h' = some m'):One T c n0 s H (.sliceA k n x hi) (.csl b o k m'.length) H :=
 ⟨0,by
  obtain ⟨h3,rfl⟩:=B4b hm
  have h4:(((e.take h'.toNat).drop 0)).length = h'.toNat:= by rw [List.drop_zero,List.length_take]; omega
  rw [hn] at h3
  have h5:(Nat.ble (o + n * k) cs.length && decide (0≤h'∧h'≤(n:Int))) = true:= by rw [hle,decide_eq_true ⟨h3.2.1,h3.2.2⟩]; rfl
  simp only [core,prim,h,hc,hb,h5,if_true,Int.toNat_zero,h4]⟩
theorem D27 {b:Nat} (h:ev s x = some (.ptr b o)) (hc:hcells H b = some cs) (hle:Nat.ble (o + n * k) cs.length = true):One T c n0 s H (.sliceA k n x none) (.csl b o k n) H :=
 ⟨0,by
  have h5:(Nat.ble (o + n * k) cs.length && decide ((0:Int)≤(n:Int)∧(n:Int)≤(n:Int))) = true:= by rw [hle,decide_eq_true (by omega)]; rfl
  simp only [core,prim,h,hc,bnd,h5,if_true,Int.toNat_natCast]⟩
theorem D86 {b p:Nat} {e':List α} (hc:hcells H b = some cs) (hle:Nat.ble (o + e.length * k) cs.length = true) (hcs:cs.drop o = (e.map f).flatten++post) (hk:∀a,(f a).length = k) (he:e' = e.take p) (hp:e'.length = n):rd H (.csl b o k n) k (e'.map f):= by
 subst he; subst hp
 have hle:=Nat.le_of_ble_eq_true hle
 have h0:((e.take p)).length≤e.length:= by rw [List.length_take]; omega
 have h1:Nat.ble (o + (e.take p).length * k) cs.length = true:=Nat.ble_eq_true_of_le (by have:=Nat.mul_le_mul_right k h0; omega)
 refine ⟨?_,rfl⟩
 simp only [A4g,hc,h1,if_true,Option.some.injEq]
 apply List.ext_getElem?
 intro i
 rw [List.getElem?_map,List.getElem?_map]
 by_cases hi:i < (e.take p).length
 ·have hie:i < e.length:= by omega
  rw [List.getElem?_range hi,List.getElem?_eq_getElem hi]
  simp only [Option.map_some,Option.some.injEq]
  rw [← List.drop_drop,hcs,A6n hk post (List.getElem?_eq_getElem hie),List.take_left' (hk _),List.getElem_take]
 ·rw [List.getElem?_eq_none (by simpa using hi),List.getElem?_eq_none (by omega)]; rfl
theorem D75 {neg:Bool} {b:Nat} (h:ev s x = some (.csl b o k n)):One T c n0 s H (.nilq neg x) (.lit (.bool neg)) H:=⟨0,by simp only [core,prim,h]⟩
theorem D70 {g:α→AV} (h:ev s x = some (.cptr (e.map g))) (hi:ev s i = some (.lit (.int kk m))) (hn:e.length = n) (hy:idx e m = some y):One T c n0 s H (.idxA 1 n x i) (.cptr ((e.drop m.toNat).map g)) H :=
 ⟨0,by
  have hb:=A9y hy
  rw [hn] at hb
  simp only [core,prim,h,hi,if_pos hb,Nat.mul_one,List.map_drop]⟩
theorem D53 {g:α→AV} (h:ev s a = some (.cptr ((e.drop m.toNat).map g))) (hy:idx e m = some y):One T c n0 s H (.load none a) (g y) H :=
 ⟨0,by
  have h1:=B2x hy
  have h2:=(List.getElem?_eq_some_iff.1 h1).1
  rw [List.drop_eq_getElem_cons h2,(List.getElem?_eq_some_iff.1 h1).2] at h
  simp only [core,prim,h,I9,List.map_cons]⟩
end
structure Ar2 (α:Type) where
 mk ::
 (x0 x1:α)
 deriving DecidableEq
def Ar2.l {α:Type} (a:Ar2 α):List α:=[a.x0,a.x1]
def Ar2.set {α:Type} (a:Ar2 α) (i:Int) (v:α):Ar2 α:=⟨if i = 0 then v else a.x0,if i = 1 then v else a.x1⟩
def A8g {α:Type} (f:α→List AV) (a:Ar2 α):List AV:=f a.x0++(f a.x1++[])
theorem Ar2.set_l {α:Type} {a:Ar2 α} {i:Int} {v w:α} (h:idx a.l i = some w):(a.set i v).l = A6l a.l i v:= by
 obtain ⟨h0,h1⟩:=A9y h
 have h1:i < 2:=h1
 rcases (by omega:i = 0∨i = 1) with rfl | rfl
 all_goals rfl
structure Ar3 (α:Type) where
 mk ::
 (x0 x1 x2:α)
 deriving DecidableEq
def Ar3.l {α:Type} (a:Ar3 α):List α:=[a.x0,a.x1,a.x2]
def Ar3.set {α:Type} (a:Ar3 α) (i:Int) (v:α):Ar3 α:=⟨if i = 0 then v else a.x0,if i = 1 then v else a.x1,if i = 2 then v else a.x2⟩
def A4d {α:Type} (f:α→List AV) (a:Ar3 α):List AV:=f a.x0++(f a.x1++(f a.x2++[]))
theorem Ar3.set_l {α:Type} {a:Ar3 α} {i:Int} {v w:α} (h:idx a.l i = some w):(a.set i v).l = A6l a.l i v:= by
 obtain ⟨h0,h1⟩:=A9y h
 have h1:i < 3:=h1
 rcases (by omega:i = 0∨i = 1∨i = 2) with rfl | rfl | rfl
 all_goals rfl
structure Ar4 (α:Type) where
 mk ::
 (x0 x1 x2 x3:α)
 deriving DecidableEq
def Ar4.l {α:Type} (a:Ar4 α):List α:=[a.x0,a.x1,a.x2,a.x3]
def Ar4.set {α:Type} (a:Ar4 α) (i:Int) (v:α):Ar4 α:=⟨if i = 0 then v else a.x0,if i = 1 then v else a.x1,if i = 2 then v else a.x2,if i = 3 then v else a.x3⟩
def A5y {α:Type} (f:α→List AV) (a:Ar4 α):List AV:=f a.x0++(f a.x1++(f a.x2++(f a.x3++[])))
theorem Ar4.set_l {α:Type} {a:Ar4 α} {i:Int} {v w:α} (h:idx a.l i = some w):(a.set i v).l = A6l a.l i v:= by
 obtain ⟨h0,h1⟩:=A9y h
 have h1:i < 4:=h1
 rcases (by omega:i = 0∨i = 1∨i = 2∨i = 3) with rfl | rfl | rfl | rfl
 all_goals rfl
structure Ar5 (α:Type) where
 mk ::
 (x0 x1 x2 x3 x4:α)
 deriving DecidableEq
def Ar5.l {α:Type} (a:Ar5 α):List α:=[a.x0,a.x1,a.x2,a.x3,a.x4]
def Ar5.set {α:Type} (a:Ar5 α) (i:Int) (v:α):Ar5 α:=⟨if i = 0 then v else a.x0,if i = 1 then v else a.x1,if i = 2 then v else a.x2,if i = 3 then v else a.x3,if i = 4 then v else a.x4⟩
def N6 {α:Type} (f:α→List AV) (a:Ar5 α):List AV:=f a.x0++(f a.x1++(f a.x2++(f a.x3++(f a.x4++[]))))
theorem Ar5.set_l {α:Type} {a:Ar5 α} {i:Int} {v w:α} (h:idx a.l i = some w):(a.set i v).l = A6l a.l i v:= by
 obtain ⟨h0,h1⟩:=A9y h
 have h1:i < 5:=h1
 rcases (by omega:i = 0∨i = 1∨i = 2∨i = 3∨i = 4) with rfl | rfl | rfl | rfl | rfl
 all_goals rfl
structure Ar6 (α:Type) where
 mk ::
 (x0 x1 x2 x3 x4 x5:α)
 deriving DecidableEq
def Ar6.l {α:Type} (a:Ar6 α):List α:=[a.x0,a.x1,a.x2,a.x3,a.x4,a.x5]
def Ar6.set {α:Type} (a:Ar6 α) (i:Int) (v:α):Ar6 α:=⟨if i = 0 then v else a.x0,if i = 1 then v else a.x1,if i = 2 then v else a.x2,if i = 3 then v else a.x3,if i = 4 then v else a.x4,if i = 5 then v else a.x5⟩
theorem Ar6.set_l {α:Type} {a:Ar6 α} {i:Int} {v w:α} (h:idx a.l i = some w):(a.set i v).l = A6l a.l i v:= by
 obtain ⟨h0,h1⟩:=A9y h
 have h1:i < 6:=h1
 rcases (by omega:i = 0∨i = 1∨i = 2∨i = 3∨i = 4∨i = 5) with rfl | rfl | rfl | rfl | rfl | rfl
 all_goals rfl
structure Ar10 (α:Type) where
 mk ::
 (x0 x1 x2 x3 x4 x5 x6 x7 x8 x9:α)
 deriving DecidableEq
def Ar10.l {α:Type} (a:Ar10 α):List α:=[a.x0,a.x1,a.x2,a.x3,a.x4,a.x5,a.x6,a.x7,a.x8,a.x9]
def Ar10.set {α:Type} (a:Ar10 α) (i:Int) (v:α):Ar10 α:=⟨if i = 0 then v else a.x0,if i = 1 then v else a.x1,if i = 2 then v else a.x2,if i = 3 then v else a.x3,if i = 4 then v else a.x4,if i = 5 then v else a.x5,if i = 6 then v else a.x6,if i = 7 then v else a.x7,if i = 8 then v else a.x8,if i = 9 then v else a.x9⟩
theorem Ar10.set_l {α:Type} {a:Ar10 α} {i:Int} {v w:α} (h:idx a.l i = some w):(a.set i v).l = A6l a.l i v:= by
 obtain ⟨h0,h1⟩:=A9y h
 have h1:i < 10:=h1
 rcases (by omega:i = 0∨i = 1∨i = 2∨i = 3∨i = 4∨i = 5∨i = 6∨i = 7∨i = 8∨i = 9) with rfl | rfl | rfl | rfl | rfl | rfl | rfl | rfl | rfl | rfl
 all_goals rfl
structure KeyOk {κ:Type} [DecidableEq κ] (ag:Bool) (ks:List Nat) (av:κ→AV) (kc:κ→List AV):Prop where
 cells:∀a,J4 ag (av a) = some (kc a)
 kinds:∀a,kinds ks (kc a) = true
 eql:∀a b,J0 (kc a) (kc b) = some (decide (a = b))
theorem D47 (a b:Int):J0 [.lit (.int .i64 a)] [.lit (.int .i64 b)] = some (decide (a = b)):= by
 simp only [J0,A5z,if_true]
 by_cases h:a = b
 ·subst h; simp
 ·rw [show (a == b) = false from beq_eq_false_iff_ne.mpr h,decide_eq_false h]
theorem B6e:KeyOk (κ:=Int) false [0] (fun n=>.lit (.int .i64 n)) (fun n=>[.lit (.int .i64 n)]):=⟨fun _=>rfl,fun _=>rfl,D47⟩
section
variable {κ β:Type} [DecidableEq κ]
def kfind (k:κ):List (κ × β)→Nat→Option (Nat × β)
 | [],_=>none
 | e :: es,i=>if k = e.1 then some (i,e.2) else kfind k es (i + 1)
def kget (es:List (κ × β)) (k:κ):Option β:=(kfind k es 0).map (·.2)
def kset (es:List (κ × β)) (k:κ) (v:β):List (κ × β):=match kfind k es 0 with
 | some (i,_)=>es.set i (k,v)
 | none=>es++[(k,v)]
def kE (av:κ→AV) (gv:β→AV) (e:κ × β):AV × AV:=(av e.1,gv e.2)
theorem B3x {ag:Bool} {ks:List Nat} {av:κ→AV} {kc:κ→List AV} (hK:KeyOk ag ks av kc) (gv:β→AV) (k:κ):∀(es:List (κ × β)) (i:Nat),findKey ag ks (kc k) (es.map (kE av gv)) i = some ((kfind k es i).map fun x=>(x.1,gv x.2))
 | [],_=>rfl
 | e :: es,i=>by
  simp only [List.map_cons,kE,findKey,hK.cells,hK.kinds,if_true,hK.eql]
  by_cases h:k = e.1
  ·simp only [kfind,h,decide_true,if_true,Option.map_some]
  ·simp only [kfind,h,decide_false,if_false]
   exact B3x hK gv k es (i + 1)
end
section
variable {T:Tab} {s:C9} {H0 H:A7} {l:List AO} {c:Sc} {n0 k0:Nat} {κ β:Type} [DecidableEq κ] {ag:Bool} {ks:List Nat} {av:κ→AV} {kc:κ→List AV} {gv:β→AV} {es:List (κ × β)} {k:κ} {x i:Opd} {b:Nat} {z:β}
theorem C9z {zz:AV} (hK:KeyOk ag ks av kc) (hx:ev s x = some (.mp b)) (hm:hmap H b = some (es.map (kE av gv))) (hi:ev s i = some (av k)) (hz:zz = gv z):One T c n0 s H (.lookup zz ag ks x i false) (gv ((kget es k).getD z)) H:= by
 subst hz
 refine ⟨0,?_⟩
 simp only [core,prim,hx,hm,hi,hK.cells,hK.kinds,if_true,B3x hK]
 unfold kget
 cases kfind k es 0 with
 | none=>rfl
 | some y=>rfl
theorem D9u {m:Opd} {v:β} (hK:KeyOk ag ks av kc) (hx:ev s m = some (.mp b)) (hm:B2w H b = some (es.map (kE av gv))) (hi:ev s i = some (av k)) (hv:ev s x = some (gv v)) (hg:((gv v).cellsOf.all AV.frz && !(gv v).cellsOf.isEmpty) = true):One T c n0 s H (.mupd ag ks m i x) (.tup []) (hset H b (.map ((kset es k v).map (kE av gv)))):= by
 refine ⟨0,?_⟩
 have h3:(Am.kinds ks (kc k) && (gv v).cellsOf.all AV.frz && !(gv v).cellsOf.isEmpty) = true:= by
  rw [hK.kinds,Bool.true_and]; exact hg
 simp only [core,prim,hx,hi,hv,hm,hK.cells,h3,if_true,B3x hK]
 unfold kset
 cases kfind k es 0 with
 | none=>simp [kE]
 | some y=>simp [kE,List.map_set]
omit [DecidableEq κ] in
theorem C00 {j:Nat} {es:List (AV × AV)} (h:l[j]? = some (.map es)):hmap (H0++l) (H0.length + j) = some es:= by
 unfold hmap; rw [A02,h]
theorem D2v {j:Nat} {es:List (AV × AV)} (h:l[j]? = some (.map es)):B2w (H0++l) (H0.length + j) = some es:= by
 unfold B2w; rw [A02,h]
theorem D1y {m:Opd} {v:β} {j:Nat} (hK:KeyOk ag ks av kc) (hx:ev s m = some (.mp (H0.length + j))) (hm:l[j]? = some (.map (es.map (kE av gv)))) (hi:ev s i = some (av k)) (hv:ev s x = some (gv v)) (hg:((gv v).cellsOf.all AV.frz && !(gv v).cellsOf.isEmpty) = true):One T c n0 s (H0++l) (.mupd ag ks m i x) (.tup []) (H0++l.set j (.map ((kset es k v).map (kE av gv)))):= by
 have:=D9u (T:=T) (c:=c) (n0:=n0) hK hx (D2v hm) hi hv hg
 rwa [I1] at this
end
def first {ρ:Type} (f:Nat→Option ρ):Nat→Option ρ
 | 0=>none
 | n + 1=>match first f n with
  | some r=>some r
  | none=>f n
def iter {τ:Type} (g:Nat→τ→τ):Nat→τ→τ
 | 0,t=>t
 | n + 1,t=>g n (iter g n t)
theorem L2 {ρ:Type} {f:Nat→Option ρ}:∀{n:Nat},first f n = none↔∀ i,i < n→f i = none
 | 0=>⟨fun _ i hi=>absurd hi (Nat.not_lt_zero i),fun _=>rfl⟩
 | n + 1=>by
  unfold first
  cases hf:first f n with
  | none =>
   have h0:=L2.mp hf
   constructor
   ·intro h i hi
    by_cases e:i = n
    ·rw [e]; exact h
    ·exact h0 i (by omega)
   ·intro h; exact h n (Nat.lt_succ_self n)
  | some r =>
   constructor
   ·intro h; exact absurd h (by simp)
   ·intro h
    rw [L2.mpr fun i hi=>h i (Nat.lt_succ_of_lt hi)] at hf
    exact absurd hf (by simp)
theorem A0b {ρ:Type} {f:Nat→Option ρ} {r:ρ}:∀{n:Nat},first f n = some r→∃ i,i < n∧f i = some r∧∀ j,j < i→f j = none
 | 0,h=>absurd h (by simp [first])
 | n + 1,h=>by
  unfold first at h
  cases hf:first f n with
  | none =>
   rw [hf] at h
   exact ⟨n,Nat.lt_succ_self n,h,L2.mp hf⟩
  | some q =>
   rw [hf] at h
   obtain ⟨i,hi,h1,h2⟩:=A0b (hf.trans (by simpa using h))
   exact ⟨i,Nat.lt_succ_of_lt hi,h1,h2⟩
theorem B2r {ρ:Type} {f:Nat→Option ρ} {r:ρ} {n i:Nat} (hi:i < n) (h:f i = some r) (hj:∀j,j < i→f j = none):first f n = some r:= by
 cases hf:first f n with
 | none=>rw [L2.mp hf i hi] at h; exact absurd h (by simp)
 | some q =>
  obtain ⟨k,hk,h1,h2⟩:=A0b hf
  have e:k = i:= by
   rcases Nat.lt_trichotomy k i with l | l | l
   ·rw [hj k l] at h1; exact absurd h1 (by simp)
   ·exact l
   ·rw [h2 i l] at h; exact absurd h (by simp)
  rw [e,h] at h1; exact h1.symm
theorem C4r {σ ρ:Type} {b:σ→Option (σ ⊕ ρ)} {u:Nat→σ} {n:Nat} {r:ρ} (hs:∀i,i < n→b (u i) = some (.inl (u (i + 1)))) (he:b (u n) = some (.inr r)) :
  ∀ k j m,j + k = n→k < m→B4k b m (u j) = some r
 | 0,j,0,_,h=>absurd h (Nat.not_lt_zero _)
 | 0,j,m + 1,hj,_=>by
  rw [A0c]
  have:j = n:= by omega
  rw [this,he]
 | k + 1,j,0,_,h=>absurd h (Nat.not_lt_zero _)
 | k + 1,j,m + 1,hj,hm=>by
  rw [A0c,hs j (by omega)]
  exact C4r hs he k (j + 1) m (by omega) (by omega)
theorem I8 {σ ρ:Type} {b:σ→Option (σ ⊕ ρ)} (u:Nat→σ) (n:Nat) {r:ρ} (hn:n < 9223372036854775808) (hs:∀i,i < n→b (u i) = some (.inl (u (i + 1)))) (he:b (u n) = some (.inr r)) :
  loop b (u 0) = some r:=C4r hs he n 0 _ (by omega) (by omega)
theorem B0n {σ ρ:Type} {b:σ→Option (σ ⊕ ρ)} (u:Nat→σ) (n:Nat) (f:Nat→Option ρ) (z:ρ) (hn:n < 9223372036854775808)
  (hs:∀i,i < n→(∀ j,j < i→f j = none)→b (u i) = some (match f i with | some r=>.inr r | none=>.inl (u (i + 1))))
  (he:(∀ j,j < n→f j = none)→b (u n) = some (.inr z)) :
  loop b (u 0) = some ((first f n).getD z):= by
 cases hf:first f n with
 | none =>
  have h0:=L2.mp hf
  refine I8 u n hn ?_ (he h0)
  intro i hi
  rw [hs i hi fun j hj=>h0 j (by omega),h0 i hi]
 | some r =>
  obtain ⟨i,hi,h1,h2⟩:=A0b hf
  refine I8 u i (by omega) ?_ ?_
  ·intro j hj
   rw [hs j (by omega) fun k hk=>h2 k (by omega),h2 j hj]
  ·rw [hs i hi h2,h1]; rfl
theorem E0 {n:Int} (h:-9223372036854775808≤n∧n≤9223372036854775807):w64 n = n :=
 Go.IntWalk.i64_in n h
theorem F5 {α:Type} [Inhabited α] {l:List α} {i:Nat} (h:i < l.length):idx l (i:Int) = some l[i]!:= by
 unfold idx
 rw [if_pos (Int.natCast_nonneg i),Int.toNat_natCast,List.getElem?_eq_getElem h,getElem!_pos l i h]
theorem A3b {α:Type} {k:Nat} {l m:List α} (hk:k≤64) (h:l.length + m.length≤1073741824):app k l m = some (l++m):= by
 unfold app
 rw [if_pos]
 refine ⟨Nat.le_trans (Nat.mul_le_mul h hk) (by decide),by omega⟩
theorem B69 {α:Type} {l:List α} {i:Nat} (h:i≤l.length):slc l 0 (i:Int) = some (l.take i):= by
 unfold slc
 rw [if_pos ⟨Int.le_refl 0,Int.natCast_nonneg i,by omega⟩,Int.toNat_natCast]; rfl
theorem B1j {ρ:Type} {b:Int→Option (Int ⊕ ρ)} (n:Nat) (f:Nat→Option ρ) (z:ρ) (hn:n < 9223372036854775808)
  (hs:∀i:Nat,i < n→(∀ j,j < i→f j = none)→b (i:Int) = some (match f i with | some r=>.inr r | none=>.inl (w64 ((i:Int) + 1))))
  (he:b (n:Int) = some (.inr z)) :
  loop b 0 = some ((first f n).getD z):= by
 refine B0n (fun i=>(i:Int)) n f z hn ?_ (fun _=>he)
 intro i hi hj
 rw [hs i hi hj,E0 (by omega)]
 rfl
theorem C07 {α ρ:Type} [Inhabited α] (f:α→α) (l:List α) {b:Int × List α→Option ((Int × List α) ⊕ ρ)} {r:ρ} (hl:l.length < 9223372036854775808)
  (hb:∀(i:Nat) (m:List α),i < l.length→m.length = l.length→m[i]? = some l[i]!→b ((i:Int),m) = some (.inl (((i + 1:Nat):Int),A6l m (i:Int) (f l[i]!))))
  (he:b ((l.length:Int),l.map f) = some (.inr r)):loop b (0,l) = some r:= by
 have e2:∀i,i≤l.length→((l.take i).map f++l.drop i).length = l.length:=fun i hi=>by rw [List.length_append,List.length_map,List.length_take,List.length_drop]; omega
 have hq:=I8 (b:=b) (fun i=>((i:Int),(l.take i).map f++l.drop i)) l.length (r:=r) hl (fun i hi=>by
  have hge:((l.take i).map f++l.drop i)[i]? = some l[i]!:= by
   rw [List.getElem?_append_right (by rw [List.length_map,List.length_take]; omega),List.length_map,List.length_take,Nat.min_eq_left (by omega),Nat.sub_self,List.getElem?_drop,Nat.add_zero,List.getElem?_eq_getElem hi,getElem!_pos l i hi]
  rw [hb i _ hi (e2 i (by omega)) hge]
  congr 2
  refine Prod.ext rfl ?_
  show ((l.take i).map f++l.drop i).set (i:Int).toNat (f l[i]!) = _
  rw [Int.toNat_natCast,List.drop_eq_getElem_cons hi,List.set_append_right _ _ (by rw [List.length_map,List.length_take]; omega),List.length_map,List.length_take,Nat.min_eq_left (by omega),Nat.sub_self,List.set_cons_zero,List.take_add_one,List.getElem?_eq_getElem hi,List.map_append,List.append_assoc,getElem!_pos l i hi]
  rfl) (by
  rw [List.take_length,List.drop_of_length_le (Nat.le_refl _),List.append_nil]; exact he)
 exact hq
theorem B59 {α:Type} {m:List α} {i:Nat} {x:α} (h:m[i]? = some x):idx m (i:Int) = some x:= by
 unfold idx
 rw [if_pos (Int.natCast_nonneg i),Int.toNat_natCast,h]
inductive Sh where
 | int (k:IntKind)
 | bool
 | str
 | seq (k:Nat) (l:List Sh)
mutual
def Sat:Sh→AV→Prop
 | .int k,x=>∃ n,x = .lit (.int k n)∧(Lit.int k n).wf = true
 | .bool,x=>∃ b,x = .lit (.bool b)
 | .str,x=>∃ s:ByteArray,x = .lit (.string s)∧s.size≤maxLen
 | .seq k l,x=>∃ rows:List (List AV),x = .seq k rows∧rows.length≤maxLen∧∀ r ∈ rows,SatL l r
def SatL:List Sh→List AV→Prop
 | [],r=>r = []
 | s :: l,r=>∃ x q,r = x :: q∧Sat s x∧SatL l q
end
theorem SatL.len:∀{l:List Sh} {r:List AV},SatL l r→r.length = l.length
 | [],r,h=>by simp only [SatL] at h; rw [h]; rfl
 | s :: l,r,h=>by
  simp only [SatL] at h
  obtain ⟨x,q,rfl,_,hq⟩:=h
  rw [List.length_cons,List.length_cons,hq.len]
theorem SatL.app:∀{l m:List Sh} {r q:List AV},SatL l r→SatL m q→SatL (l++m) (r++q)
 | [],m,r,q,h,hq=>by simp only [SatL] at h; rw [h]; exact hq
 | s :: l,m,r,q,h,hq=>by
  simp only [SatL] at h
  obtain ⟨x,u,rfl,hx,hu⟩:=h
  show SatL (s :: (l++m)) (x :: (u++q))
  simp only [SatL]
  exact ⟨x,u++q,rfl,hx,hu.app hq⟩
def lay (P:Program):List (Field × List Sh)→Nat→Option (List Sh)
 | [],_=>some []
 | (f,l) :: r,off=>if f.offset = off∧l.length = P.cellsOf f.type then (lay P r (off + l.length)).map (l++·) else none
def D0n (P:Program):Nat→TypeId→Option (List Sh)
 | 0,_=>none
 | n + 1,t=>match P.underlying t with
  | some (.int k)=>some [.int k]
  | some .bool=>some [.bool]
  | some .string=>some [.str]
  | some (.slice e)=>(D0n P n e).bind fun l=>if l.length = P.cellsOf e∧0 < l.length then some [.seq l.length l] else none
  | some (.struct fs)=>(fs.toList.mapM fun f=>(D0n P n f.type).map fun l=>(f,l)).bind fun xs=>(lay P xs 0).bind fun l=>if l.length = P.cellsOf t then some l else none
  | _=>none
def Cells (Φ:Nat→Nat→Option Value) (l:List Sh) (cs:List Value):Prop :=
 ∃ r:List AV,SatL l r∧r.length = cs.length∧∀ (j:Nat) (x:AV),r[j]? = some x→∃ v,cs[j]? = some v∧Den Φ x v∧v.oneCell' = true
theorem Cells.app {Φ:Nat→Nat→Option Value} {l m:List Sh} {cs ds:List Value} (h:Cells Φ l cs) (k:Cells Φ m ds):Cells Φ (l++m) (cs++ds):= by
 obtain ⟨r,h1,h2,h3⟩:=h
 obtain ⟨q,k1,k2,k3⟩:=k
 refine ⟨r++q,h1.app k1,by rw [List.length_append,List.length_append,h2,k2],?_⟩
 intro j x hx
 by_cases c:j < r.length
 ·rw [List.getElem?_append_left c] at hx
  obtain ⟨v,e,hv⟩:=h3 j x hx
  exact ⟨v,by rw [List.getElem?_append_left (by omega)]; exact e,hv⟩
 ·rw [List.getElem?_append_right (by omega)] at hx
  obtain ⟨v,e,hv⟩:=k3 _ x hx
  exact ⟨v,by rw [List.getElem?_append_right (by omega),← h2]; exact e,hv⟩
theorem Cells.one {Φ:Nat→Nat→Option Value} {s:Sh} {x:AV} {v:Value} (h:Sat s x) (hd:Den Φ x v) (h1:v.oneCell' = true):Cells Φ [s] [v]:= by
 refine ⟨[x],by simp only [SatL]; exact ⟨x,[],rfl,h,rfl⟩,rfl,?_⟩
 intro j y hy
 match j with
 | 0=>exact ⟨v,rfl,by have:x = y:= by simpa using hy
                      subst this; exact ⟨hd,h1⟩⟩
 | j + 1=>simp at hy
theorem B7m {P:Program} {Φ:Nat→Nat→Option Value}:∀(xs:List (Field × List Sh)) (off:Nat) (l:List Sh) (cs:List Value),
  lay P xs off = some l→(∀ x ∈ xs,Cells Φ x.2 ((cs.drop x.1.offset).take (P.cellsOf x.1.type)))→off≤cs.length→Cells Φ l ((cs.drop off).take l.length)
 | [],off,l,cs,h,_,_=>by
  obtain rfl:=Option.some.inj h
  exact ⟨[],rfl,by simp,by simp⟩
 | (f,m) :: xs,off,l,cs,h,hx,ho=>by
  unfold lay at h
  split at h
  ·rename_i hc
   obtain ⟨q,hq,rfl⟩:=Option.map_eq_some_iff.mp h
   have h1:=hx (f,m) (List.mem_cons_self ..)
   simp only [] at h1
   rw [hc.1,← hc.2] at h1
   have hlen:((cs.drop off).take m.length).length = m.length:= by
    obtain ⟨r,h2,h3,_⟩:=h1
    rw [← h3,h2.len]
   rw [List.length_take,List.length_drop] at hlen
   have h2:=B7m xs (off + m.length) q cs hq (fun x hx'=>hx x (List.mem_cons_of_mem _ hx')) (by omega)
   have e:(cs.drop off).take (m++q).length = (cs.drop off).take m.length++(cs.drop (off + m.length)).take q.length:= by
    rw [List.length_append,List.take_add,List.drop_drop]
   rw [e]
   exact h1.app h2
  ·exact absurd h (by simp)
theorem C09 {α β:Type} {f:α→Option β}:∀{l:List α} {r:List β},l.mapM f = some r→∀ (i:Nat) y,r[i]? = some y→∃ x,l[i]? = some x∧f x = some y
 | [],r,h,i,y,hy=>by
  have:r = []:= by simpa using h.symm
  subst this; simp at hy
 | a :: l,r,h,i,y,hy=>by
  rw [List.mapM_cons] at h
  obtain ⟨b,hb,h⟩:=Option.bind_eq_some_iff.mp h
  obtain ⟨q,hq,h⟩:=Option.bind_eq_some_iff.mp h
  obtain rfl:=Option.some.inj h
  match i with
  | 0=>exact ⟨a,rfl,by rw [hb]; simpa using hy⟩
  | i + 1=>exact C09 hq i y (by simpa using hy)
theorem D3w {W:World} {a:Addr} {v:Value} (h:W.cell? a = some v):a.spot = none:= by
 unfold World.cell? at h
 split at h
 ·split at h
  ·exact absurd h (by simp)
  ·rename_i hn
   cases hs:a.spot with
   | none=>rfl
   | some x=>rw [hs] at hn; exact absurd rfl hn
 ·exact absurd h (by simp)
theorem D4d {a:Addr} (h:a.spot = none) (n:Nat):a.add n = ⟨a.block,a.off + n,none⟩:= by
 unfold Addr.add
 split
 ·rename_i e
  subst e
  cases a; simp only at h; subst h; rfl
 ·rfl
theorem B5u {H:Type} {enc:TypeId × Value→H} {P:Program} {W:World} {base:Nat} {sp:Nat→Bool} {held:Bool}:∀(n:Nat) (t:TypeId) (l:List Sh) (cs:List Value) (fuel:Nat) (x:DataW H × List MemPlace),
  D0n P n t = some l→DataW.trod enc P W base sp held fuel t cs = some x→Cells (fun β o=>W.cell? ⟨β,o,none⟩) l cs∧cs.length = l.length
 | 0,_,_,_,_,_,h,_=>absurd h (by simp [D0n])
 | n + 1,t,l,cs,fuel,x,h,hx=>by
  unfold D0n at h
  split at h
  ·rename_i k hu
   obtain rfl:=Option.some.inj h
   obtain ⟨m,rfl,_,hw⟩:=DataW.trod_int hu hx
   exact ⟨Cells.one (x:=.lit (.int k m)) (by simp only [Sat]; exact ⟨m,rfl,hw⟩) (.lit _ rfl) rfl,rfl⟩
  ·rename_i hu
   obtain rfl:=Option.some.inj h
   obtain ⟨m,rfl,_⟩:=DataW.trod_bool hu hx
   exact ⟨Cells.one (x:=.lit (.bool m)) (by simp only [Sat]; exact ⟨m,rfl⟩) (.lit _ rfl) rfl,rfl⟩
  ·rename_i hu
   obtain rfl:=Option.some.inj h
   obtain ⟨m,rfl,_,hw⟩:=DataW.trod_string hu hx
   exact ⟨Cells.one (x:=.lit (.string m)) (by simp only [Sat]; exact ⟨m,rfl,hw⟩) (.lit _ rfl) rfl,rfl⟩
  ·rename_i e hu
   obtain ⟨m,hm,h⟩:=Option.bind_eq_some_iff.mp h
   split at h
   ·rename_i hc
    obtain rfl:=Option.some.inj h
    rcases DataW.trod_slice hu hx with ⟨rfl,_⟩ | ⟨a,len,cap,elems,rest,n',_,rfl,_,hb,hlc,hcm,hel,hcell,_,_⟩
    ·exact ⟨Cells.one (x:=.seq m.length []) (by simp only [Sat]; exact ⟨[],rfl,Nat.zero_le _,by simp⟩) (.seq0 _ _ _) rfl,rfl⟩
    ·cases len with
     | zero=>exact ⟨Cells.one (x:=.seq m.length []) (by simp only [Sat]; exact ⟨[],rfl,Nat.zero_le _,by simp⟩) (.seq0 _ _ _) rfl,rfl⟩
     | succ len0 =>
     have each0:∀i,i < len0 + 1→∃ ci:List Value,W.cells? base (a.add (i * P.cellsOf e)) (P.cellsOf e) = some ci∧Cells (fun β o=>W.cell? ⟨β,o,none⟩) m ci∧ci.length = m.length:= by
      intro i hi
      have h1:=hcell i hi
      rw [List.getElem?_eq_getElem (by omega)] at h1
      obtain ⟨ci,hci,h2⟩:=Option.bind_eq_some_iff.mp h1
      have:=B5u n e m ci _ _ hm h2
      exact ⟨ci,hci,this.1,this.2⟩
     have hs:a.spot = none:= by
      obtain ⟨ci,hci,_,hl⟩:=each0 0 (by omega)
      obtain ⟨_,_,hk⟩:=World.cells?_some hci
      have h0:=hk 0 (by omega)
      rw [List.getElem?_eq_getElem (by omega)] at h0
      have e0:(a.add (0 * P.cellsOf e)).add 0 = a:= by simp [Addr.add]
      rw [e0] at h0
      exact D3w h0
     have each:∀i,i < len0 + 1→∃ r:List AV,SatL m r∧r.length = m.length∧∀ (j:Nat) (x:AV),r[j]? = some x→∃ v,W.cell? ⟨a.block,a.off + (i * m.length + j),none⟩ = some v∧Den (fun β o=>W.cell? ⟨β,o,none⟩) x v:= by
      intro i hi
      obtain ⟨ci,hci,⟨r,hr1,hr2,hr3⟩,hl⟩:=each0 i hi
      obtain ⟨_,hlen,hk⟩:=World.cells?_some hci
      refine ⟨r,hr1,hr1.len,?_⟩
      intro j x hx
      obtain ⟨v,hv,hd,_⟩:=hr3 j x hx
      refine ⟨v,?_,hd⟩
      have hj:j < ci.length:=(List.getElem?_eq_some_iff.mp hv).1
      have:=hk j (by omega)
      rw [D4d hs,D4d rfl,hv] at this
      rw [← this,← hc.1]
      congr 2
      show a.off + (i * m.length + j) = a.off + i * m.length + j
      omega
     let R:Nat→List AV:=fun i=>if hi:i < len0 + 1 then Classical.choose (each i hi) else []
     have hR:∀i,i < len0 + 1→SatL m (R i)∧(R i).length = m.length∧∀ (j:Nat) (x:AV),(R i)[j]? = some x→∃ v,W.cell? ⟨a.block,a.off + (i * m.length + j),none⟩ = some v∧Den (fun β o=>W.cell? ⟨β,o,none⟩) x v:= by
      intro i hi
      have:R i = Classical.choose (each i hi):=dif_pos hi
      rw [this]
      exact Classical.choose_spec (each i hi)
     have hget:∀(i:Nat) (r:List AV),((List.range (len0 + 1)).map R)[i]? = some r→i < len0 + 1∧r = R i:= by
      intro i r hr
      rw [List.getElem?_map] at hr
      obtain ⟨y,hy,e⟩:=Option.map_eq_some_iff.mp hr
      obtain ⟨hi,e2⟩:=List.getElem?_eq_some_iff.mp hy
      rw [List.getElem_range] at e2
      rw [List.length_range] at hi
      subst e2
      exact ⟨hi,e.symm⟩
     have hmem:∀r ∈ (List.range (len0 + 1)).map R,∃ i,i < len0 + 1∧r = R i:= by
      intro r hr
      obtain ⟨i,hi,e⟩:=List.mem_map.mp hr
      exact ⟨i,List.mem_range.mp hi,e.symm⟩
     have hd:Den (fun β o=>W.cell? ⟨β,o,none⟩) (.seq m.length ((List.range (len0 + 1)).map R)) (.slice (some a) ((List.range (len0 + 1)).map R).length cap):= by
      refine .seq m.length _ a cap (fun i j=>(W.cell? ⟨a.block,a.off + (i * m.length + j),none⟩).getD undef) hs (by simpa using hlc) ?_ ?_ ?_
      ·intro r hr
       obtain ⟨i,hi,rfl⟩:=hmem r hr
       exact (hR i hi).2.1
      ·intro i r j x hr hx
       obtain ⟨hi,rfl⟩:=hget i r hr
       obtain ⟨v,hv,_⟩:=(hR i hi).2.2 j x hx
       show W.cell? _ = some ((W.cell? _).getD undef)
       rw [hv]; rfl
      ·intro i r j x hr hx
       obtain ⟨hi,rfl⟩:=hget i r hr
       obtain ⟨v,hv,hdv⟩:=(hR i hi).2.2 j x hx
       show Den _ x ((W.cell? _).getD undef)
       rw [hv]; exact hdv
     rw [List.length_map,List.length_range] at hd
     refine ⟨Cells.one (x:=.seq m.length ((List.range (len0 + 1)).map R)) ?_ hd rfl,rfl⟩
     simp only [Sat]
     refine ⟨_,rfl,by rw [List.length_map,List.length_range]; omega,?_⟩
     intro r hr
     obtain ⟨i,hi,rfl⟩:=hmem r hr
     exact (hR i hi).1
   ·exact absurd h (by simp)
  ·rename_i fs hu
   obtain ⟨xs,hxs,h⟩:=Option.bind_eq_some_iff.mp h
   obtain ⟨m,hm,h⟩:=Option.bind_eq_some_iff.mp h
   split at h
   ·rename_i hc
    obtain rfl:=Option.some.inj h
    obtain ⟨ys,n',_,_,hl,hlen,hf⟩:=DataW.trod_struct hu hx
    have key:=B7m (Φ:=fun β o=>W.cell? ⟨β,o,none⟩) xs 0 m cs hm (fun y hy=>by
     obtain ⟨i,hi,e⟩:=List.mem_iff_getElem.mp hy
     obtain ⟨f,hf1,hf2⟩:=C09 hxs i y (by rw [List.getElem?_eq_getElem hi,e])
     obtain ⟨l',hl',rfl⟩:=Option.map_eq_some_iff.mp hf2
     have hfi:fs[i]? = some f:= by rw [← Array.getElem?_toList]; exact hf1
     have h2:=hf i f hfi
     have hib:i < fs.size:= by
      obtain ⟨q,_⟩:=Array.getElem?_eq_some_iff.mp hfi
      exact q
     rw [List.getElem?_eq_getElem (by omega)] at h2
     exact (B5u n f.type l' _ _ _ hl' h2).1) (Nat.zero_le _)
    have e:(cs.drop 0).take m.length = cs:= by rw [List.drop_zero,List.take_of_length_le (by omega)]
    rw [e] at key
    exact ⟨key,by omega⟩
   ·exact absurd h (by simp)
  ·exact absurd h (by simp)
theorem C48 {k:IntKind}:∀{cs:List Value},(∀ i,i < cs.length→∃ m,cs[i]? = some (.int k m)∧(Lit.int k m).wf = true)→SatL (List.replicate cs.length (.int k)) (cs.map AV.lit)∧∀ v ∈ cs,∃ m,v = .int k m
 | [],_=>⟨by simp only [List.length_nil,List.replicate_zero,List.map_nil,SatL],by simp⟩
 | v :: cs,h=>by
  obtain ⟨m,h1,h2⟩:=h 0 (by simp)
  obtain rfl:v = .int k m:= by simpa using h1
  obtain ⟨i1,i2⟩:=C48 (k:=k) (cs:=cs) fun i hi=>h (i + 1) (by simpa using hi)
  refine ⟨?_,?_⟩
  ·simp only [List.length_cons,List.replicate_succ,List.map_cons,SatL]
   exact ⟨_,_,rfl,by simp only [Sat]; exact ⟨m,rfl,h2⟩,i1⟩
  ·intro u hu
   rcases List.mem_cons.mp hu with rfl | hu
   ·exact ⟨m,rfl⟩
   ·exact i2 u hu
theorem D2l {H:Type} {enc:TypeId × Value→H} {P:Program} {W:World} {base:Nat} {sp:Nat→Bool} {held:Bool} {n:Nat} {t e:TypeId} {k:IntKind} {cs:List Value} {fuel:Nat} {x:DataW H × List MemPlace}
  (hu:P.underlying t = some (.array n e)) (he:P.underlying e = some (.int k)) (h1:P.cellsOf e = 1) (h2:P.cellsOf t = n) (hx:DataW.trod enc P W base sp held fuel t cs = some x) :
  Cells (fun β o=>W.cell? ⟨β,o,none⟩) (List.replicate n (.int k)) cs∧cs.length = (List.replicate n (Sh.int k)).length:= by
 obtain ⟨xs,m,_,_,hl,hlen,hf⟩:=DataW.trod_array hu hx
 have hn:cs.length = n:= by rw [hl,h2]
 have key:∀i,i < cs.length→∃ m,cs[i]? = some (.int k m)∧(Lit.int k m).wf = true:= by
  intro i hi
  have h:=hf i (by omega)
  rw [List.getElem?_eq_getElem (by omega),h1,Nat.mul_one] at h
  obtain ⟨z,e1,_,e2⟩:=DataW.trod_int he h
  refine ⟨z,?_,e2⟩
  have:((cs.drop i).take 1)[0]? = some (.int k z):= by rw [e1]; rfl
  rw [List.getElem?_take_of_lt (by omega),List.getElem?_drop,Nat.add_zero] at this
  exact this
 obtain ⟨s1,s2⟩:=C48 key
 rw [hn] at s1
 refine ⟨⟨cs.map AV.lit,s1,by simp,?_⟩,by simp [hn]⟩
 intro j y hy
 rw [List.getElem?_map] at hy
 obtain ⟨v,hv,rfl⟩:=Option.map_eq_some_iff.mp hy
 obtain ⟨m,rfl⟩:=s2 v (List.mem_of_getElem? hv)
 exact ⟨_,hv,.lit _ rfl,rfl⟩
section
variable {T:Tab} {s:C9} {H0:A7} {l:List AO} {c:Sc} {Q:Ex→C9→A7→Prop}
def E03 {γ σ ρ:Type} (st:σ→C9) (hp:γ→σ→A7) (P:ρ→Ex→C9→A7→Prop):σ ⊕ ρ→Ex→C9→A7→Prop
 | .inl x,e,s',H'=>e = .normal∧Sub (st x) s'∧∃ g',H' = hp g' x
 | .inr r,e,s',H'=>e.out = true∧∃ s0,Sub s0 s'∧P r e s0 H'
theorem D63 {γ σ ρ:Type} {live:List Nat} {bd:ACode} {body:σ→Option (σ ⊕ ρ)} (st:σ→C9) (hp:γ→σ→A7) (P:ρ→Ex→C9→A7→Prop)
  (hlive:∀x,(st x).map (·.1) = live) (hnd:live.Nodup)
  (hbody:∀g x o,body x = some o→WP T bd (st x) (hp g x) c (E03 st hp P o))
  {x0:σ} {r:ρ} (h:loop body x0 = some r) (g0:γ):WP T (.loop false live bd) (st x0) (hp g0 x0) c (fun e s' H'=>e.out = true∧P r e s' H'):= by
 have key:∀n g0 x0,B4k body n x0 = some r→WP T (.loop false live bd) (st x0) (hp g0 x0) c (fun e s' H'=>e.out = true∧P r e s' H'):= by
  intro n
  induction n with
  | zero=>intro g0 x0 h; cases h
  | succ n ih =>
   intro g0 x0 h S hS
   rw [A0c] at h
   have hr:restrict S live = st x0:=K5 (hlive x0) hnd hS
   have hin:A9z false live ⟨S,hp g0 x0,c⟩ = ⟨st x0,hp g0 x0,c⟩:= by
    unfold A9z; simp [hr]
   split at h
   ·next x' hb =>
    obtain ⟨e,S1,s1,H1,h1,h2,rfl,h4,g',h5⟩:=hbody g0 x0 _ hb _ (Sub.refl _)
    have hr1:restrict S1 live = st x':=K5 (hlive x') hnd (h4.trans h2)
    obtain ⟨e2,S2,s2,H2,g1,g2,g3⟩:=ih g' x' h _ (Sub.refl _)
    refine ⟨e2,S2,s2,H2,L4.loop (st1:=⟨S1,H1,c⟩) rfl hin.symm h1 ?_ g1,g2,g3⟩
    unfold B2z
    simp only [Bool.false_eq_true,if_false,hr1,h5]
   ·next r' hb =>
    simp only [Option.some.injEq] at h
    subst h
    obtain ⟨e,S1,s1,H1,h1,h2,h3,s2,h4,h5⟩:=hbody g0 x0 _ hb _ (Sub.refl _)
    exact ⟨e,S1,s2,H1,L4.loopOut (st1:=⟨S1,H1,c⟩) rfl hin.symm h3 h1 rfl,h4.trans h2,h3,h5⟩
   ·cases h
 exact key _ _ _ h
theorem D5n {α:Type} (l:List α) (x:α) {n:Nat} (h:n = l.length):(l++[x])[n]? = some x:= by subst h; simp
theorem C7t {α:Type} (l:List α) (x y:α) {n:Nat} (h:n = l.length):(l++[x]).set n y = l++[y]:= by subst h; simp
end
theorem C06 {σ ρ:Type} {b:σ→Option (σ ⊕ ρ)} (I:Nat→σ→Prop) (n:Nat) (J:ρ→Prop) (hn:n < 9223372036854775808)
  (hs:∀i s,i < n→I i s→∃ s',b s = some (.inl s')∧I (i + 1) s') (he:∀s,I n s→∃ r,b s = some (.inr r)∧J r) (s:σ) (h0:I 0 s):∃r,loop b s = some r∧J r:= by
 have key:∀k i s m,i + k = n→k < m→I i s→∃ r,B4k b m s = some r∧J r:= by
  intro k
  induction k with
  | zero =>
   intro i s m hi hm hI
   obtain ⟨m',rfl⟩:∃m',m = m' + 1:=⟨m - 1,by omega⟩
   have:i = n:= by omega
   subst this
   obtain ⟨r,h1,h2⟩:=he s hI
   exact ⟨r,by rw [A0c,h1],h2⟩
  | succ k ih =>
   intro i s m hi hm hI
   obtain ⟨m',rfl⟩:∃m',m = m' + 1:=⟨m - 1,by omega⟩
   obtain ⟨s',h1,h2⟩:=hs i s (by omega) hI
   obtain ⟨r,h3,h4⟩:=ih (i + 1) s' m' (by omega) (by omega) h2
   exact ⟨r,by rw [A0c,h1]; exact h3,h4⟩
 exact key n 0 s _ (by omega) hn h0
section
variable {σ ρ:Type}
theorem B74 {b:σ→Option (σ ⊕ ρ)} (I:Nat→σ→Prop) (n:Nat) (J:ρ→Prop) (hn:n < 9223372036854775808)
  (hs:∀i s,i < n→I i s→(∃ s',b s = some (.inl s')∧I (i + 1) s')∨∃ r,b s = some (.inr r)∧J r) (he:∀s,I n s→∃ r,b s = some (.inr r)∧J r) (s:σ) (h0:I 0 s):∃r,loop b s = some r∧J r:= by
 have key:∀k i s m,i + k = n→k < m→I i s→∃ r,B4k b m s = some r∧J r:= by
  intro k
  induction k with
  | zero =>
   intro i s m hi hm hI
   obtain ⟨m',rfl⟩:∃m',m = m' + 1:=⟨m - 1,by omega⟩
   have:i = n:= by omega
   subst this
   obtain ⟨r,h1,h2⟩:=he s hI
   exact ⟨r,by rw [A0c,h1],h2⟩
  | succ k ih =>
   intro i s m hi hm hI
   obtain ⟨m',rfl⟩:∃m',m = m' + 1:=⟨m - 1,by omega⟩
   rcases hs i s (by omega) hI with ⟨s',h1,h2⟩ | ⟨r,h1,h2⟩
   ·obtain ⟨r,h3,h4⟩:=ih (i + 1) s' m' (by omega) (by omega) h2
    exact ⟨r,by rw [A0c,h1]; exact h3,h4⟩
   ·exact ⟨r,by rw [A0c,h1],h2⟩
 exact key n 0 s _ (by omega) hn h0
end
section
variable {κ β:Type} [DecidableEq κ]
theorem A9l (k:κ):∀(es:List (κ × β)) (i:Nat),kfind k es i = (kfind k es 0).map fun x=>(x.1 + i,x.2)
 | [],_=>rfl
 | e :: es,i=>by
  unfold kfind
  by_cases h:k = e.1
  ·rw [if_pos h,if_pos h]; simp
  ·rw [if_neg h,if_neg h,A9l k es (i + 1),A9l k es (0 + 1),Option.map_map]
   congr 1
   funext x
   simp only [Function.comp,Prod.mk.injEq,and_true]
   omega
theorem B0j (x:κ × β) (es:List (κ × β)) (k:κ):kget (x :: es) k = if k = x.1 then some x.2 else kget es k:= by
 have e1:kfind k (x :: es) 0 = if k = x.1 then some (0,x.2) else kfind k es (0 + 1):=rfl
 unfold kget
 rw [e1]
 by_cases h:k = x.1
 ·rw [if_pos h,if_pos h]; rfl
 ·rw [if_neg h,if_neg h,A9l,Option.map_map]; rfl
theorem D20 (x:κ × β) (es:List (κ × β)) (k:κ) (v:β):kset (x :: es) k v = if k = x.1 then (k,v) :: es else x :: kset es k v:= by
 unfold kset
 by_cases h:k = x.1
 ·rw [if_pos h]
  simp only [kfind,if_pos h,List.set_cons_zero]
 ·rw [if_neg h]
  simp only [kfind,if_neg h]
  rw [A9l]
  cases kfind k es 0 with
  | none=>rfl
  | some y=>rfl
theorem C4o (k:κ) (v:β):∀(es:List (κ × β)) (k':κ),kget (kset es k v) k' = if k' = k then some v else kget es k'
 | [],k'=>by
  have:kset ([]:List (κ × β)) k v = [(k,v)]:=rfl
  rw [this,B0j]
 | x :: es,k'=>by
  rw [D20]
  by_cases h:k = x.1
  ·rw [if_pos h,B0j,B0j]
   by_cases h2:k' = k
   ·rw [if_pos h2,if_pos h2]
   ·rw [if_neg h2,if_neg h2,if_neg (fun q=>h2 (q.trans h.symm))]
  ·rw [if_neg h,B0j,B0j,C4o k v es k']
   by_cases h2:k' = x.1
   ·rw [if_pos h2,if_pos h2,if_neg (fun q=>h (q.symm.trans h2))]
   ·rw [if_neg h2,if_neg h2]
end
def C8r (P:Program):Nat→TypeId→Option (List Sh)
 | 0,_=>none
 | n + 1,t=>match P.underlying t with
  | some (.array k e)=>match P.underlying e with
   | some (.int q)=>if P.cellsOf e = 1∧P.cellsOf t = k then some (List.replicate k (.int q)) else none
   | _=>none
  | some (.struct fs)=>(fs.toList.mapM fun f=>(C8r P n f.type).map fun l=>(f,l)).bind fun xs=>(lay P xs 0).bind fun l=>if l.length = P.cellsOf t then some l else none
  | _=>D0n P (n + 1) t
theorem C33 {H:Type} {enc:TypeId × Value→H} {P:Program} {W:World} {base:Nat} {sp:Nat→Bool} {held:Bool}:∀(n:Nat) (t:TypeId) (l:List Sh) (cs:List Value) (fuel:Nat) (x:DataW H × List MemPlace),
  C8r P n t = some l→DataW.trod enc P W base sp held fuel t cs = some x→Cells (fun β o=>W.cell? ⟨β,o,none⟩) l cs∧cs.length = l.length
 | 0,_,_,_,_,_,h,_=>absurd h (by simp [C8r])
 | n + 1,t,l,cs,fuel,x,h,hx=>by
  unfold C8r at h
  split at h
  ·rename_i k e hu
   split at h
   ·rename_i q he
    split at h
    ·rename_i hc
     obtain rfl:=Option.some.inj h
     exact D2l hu he hc.1 hc.2 hx
    ·exact absurd h (by simp)
   ·exact absurd h (by simp)
  ·rename_i fs hu
   obtain ⟨xs,hxs,h⟩:=Option.bind_eq_some_iff.mp h
   obtain ⟨m,hm,h⟩:=Option.bind_eq_some_iff.mp h
   split at h
   ·rename_i hc
    obtain rfl:=Option.some.inj h
    obtain ⟨ys,n',_,_,hl,hlen,hf⟩:=DataW.trod_struct hu hx
    have key:=B7m (Φ:=fun β o=>W.cell? ⟨β,o,none⟩) xs 0 m cs hm (fun y hy=>by
     obtain ⟨i,hi,e⟩:=List.mem_iff_getElem.mp hy
     obtain ⟨f,hf1,hf2⟩:=C09 hxs i y (by rw [List.getElem?_eq_getElem hi,e])
     obtain ⟨l',hl',rfl⟩:=Option.map_eq_some_iff.mp hf2
     have hfi:fs[i]? = some f:= by rw [← Array.getElem?_toList]; exact hf1
     have h2:=hf i f hfi
     have hib:i < fs.size:= by
      obtain ⟨q,_⟩:=Array.getElem?_eq_some_iff.mp hfi
      exact q
     rw [List.getElem?_eq_getElem (by omega)] at h2
     exact (C33 n f.type l' _ _ _ hl' h2).1) (Nat.zero_le _)
    have e:(cs.drop 0).take m.length = cs:= by rw [List.drop_zero,List.take_of_length_le (by omega)]
    rw [e] at key
    exact ⟨key,by omega⟩
   ·exact absurd h (by simp)
  ·exact B5u (n + 1) t l cs fuel x h hx
end Am
end
