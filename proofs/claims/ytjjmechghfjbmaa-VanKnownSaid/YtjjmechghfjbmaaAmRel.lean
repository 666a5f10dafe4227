/- What an abstract state says of a world. -/
import Derived.Test.YtjjmechghfjbmaaAmBase
import Derived.Calls
import Derived.Laws.AppendOwn
set_option linter.unusedVariables false
set_option linter.unusedSimpArgs false
set_option linter.unnecessarySimpa false
namespace Am
open Go

/-- What stands behind a box. -/
inductive GB where
  | none
  | cells (β : Nat) (e : TypeId)
  | arr (k : Nat) (v : Value)
  | map (β : Nat)
  | iter (β : Nat)
  | loop (β : Nat)

def GB.blk : GB → Option Nat
  | .cells β _ | .map β | .iter β | .loop β => some β
  | .arr _ (.slice (some a) _ _) => some a.block
  | _ => .none

def slen : Value → Nat
  | .slice _ n _ => n
  | _ => 0

/-- An array grows; nothing else turns. -/
def GB.le : GB → GB → Prop
  | .none, _ => True
  | .arr k v, g => g = .arr k v ∨ ∃ v', g = .arr k v' ∧ slen v < slen v'
  | a, g => g = a

structure Ghost where
  L : Nat → GB
  Φ : Nat → Nat → Option Value

/-- An abstract cell of memory that never changes. -/
inductive Den (Φ : Nat → Nat → Option Value) : AV → Value → Prop
  | lit (v : Value) (h : v.oneCell' = true) : Den Φ (.lit v) v
  | nils (k : Nat) : Den Φ (.nils k) (.slice none 0 0)
  | seq0 (k : Nat) (a : Option Addr) (c : Nat) : Den Φ (.seq k []) (.slice a 0 c)
  | seq (k : Nat) (rows : List (List AV)) (a : Addr) (c : Nat) (vs : Nat → Nat → Value) (hs : a.spot = none) (hcap : rows.length ≤ c)
      (hlen : ∀ r ∈ rows, r.length = k)
      (h1 : ∀ i r j x, rows[i]? = some r → r[j]? = some x → Φ a.block (a.off + (i * k + j)) = some (vs i j))
      (h2 : ∀ i r j x, rows[i]? = some r → r[j]? = some x → Den Φ x (vs i j)) : Den Φ (.seq k rows) (.slice (some a) rows.length c)

def FnRel (g : Ghost) : Fn → Fn → Prop
  | .func i, f => f = .func i
  | .yield l, f => ∃ β, g.L l = .loop β ∧ f = .yield β
  | _, _ => False

/-- A value and its abstract value. -/
inductive V (g : Ghost) : AV → Value → Prop
  | den (x : AV) (v : Value) (h : Den g.Φ x v) : V g x v
  | ptr (b o β : Nat) (e : TypeId) (h : g.L b = .cells β e) : V g (.ptr b o) (.pointer (some ⟨β, o, none⟩))
  | itr (b β : Nat) (h : g.L b = .iter β) : V g (.itr b) (.pointer (some ⟨β, 0, none⟩))
  | eptr (b n i o : Nat) (k : Nat) (v : Value) (p : Addr) (h : g.L b = .arr k v) (hle : n ≤ slen v)
      (hp : slen v = n → ∃ β c, v = .slice (some ⟨β, 0, none⟩) n c ∧ p = ⟨β, i * k + o, none⟩) : V g (.eptr b n i o) (.pointer (some p))
  | cptr (cs : List AV) (a : Addr) (vs : Nat → Value) (hs : a.spot = none)
      (h1 : ∀ j x, cs[j]? = some x → g.Φ a.block (a.off + j) = some (vs j)) (h2 : ∀ j x, cs[j]? = some x → V g x (vs j))
      (h3 : ∀ j x, cs[j]? = some x → (vs j).oneCell' = true) : V g (.cptr cs) (.pointer (some a))
  | asl (b n : Nat) (k : Nat) (v0 v : Value) (h : g.L b = .arr k v0) (hle : n ≤ slen v0) (h1 : v.oneCell' = true) (hn : slen v0 = n → v = v0) : V g (.asl b n) v
  | csl (b o k n β : Nat) (e : TypeId) (h : g.L b = .cells β e) : V g (.csl b o k n) (.slice (some ⟨β, o, none⟩) n n)
  | mp (b β : Nat) (h : g.L b = .map β) : V g (.mp b) (.map (some β))
  | fn (f f' : Fn) (a c : List AV) (a' c' : Array Value) (hf : FnRel g f f') (l1 : a'.size = a.length) (l2 : c'.size = c.length)
      (h1 : ∀ (j : Nat) x, a[j]? = some x → V g x (a'[j]?.getD undef)) (h2 : ∀ (j : Nat) x, c[j]? = some x → V g x (c'[j]?.getD undef)) : V g (.fn f a c) (.func f' a' c')
  | xseq (k : Nat) (rows : List (List AV)) (a : Addr) (c : Nat) (vs : Nat → Nat → Value) (hs : a.spot = none) (hcap : rows.length ≤ c)
      (hlen : ∀ r ∈ rows, r.length = k)
      (h1 : ∀ i r j x, rows[i]? = some r → r[j]? = some x → g.Φ a.block (a.off + (i * k + j)) = some (vs i j))
      (h2 : ∀ i r j x, rows[i]? = some r → r[j]? = some x → V g x (vs i j))
      (h3 : ∀ i r j x, rows[i]? = some r → r[j]? = some x → (vs i j).oneCell' = true) : V g (.xseq k rows) (.slice (some a) rows.length c)
  | agg (cs : List AV) (vs : Array Value) (hl : vs.size = cs.length) (h : ∀ (j : Nat) x, cs[j]? = some x → V g x (vs[j]?.getD undef))
      (h1 : ∀ (j : Nat) x, cs[j]? = some x → (vs[j]?.getD undef).oneCell' = true) : V g (.agg cs) (.agg vs)
  | tup (cs : List AV) (vs : Array Value) (hl : vs.size = cs.length) (h : ∀ (j : Nat) x, cs[j]? = some x → V g x (vs[j]?.getD undef)) : V g (.tup cs) (.tuple vs)

structure Ghost.le (g g' : Ghost) : Prop where
  L : ∀ i, (g.L i).le (g'.L i)
  Φ : ∀ β o v, g.Φ β o = some v → g'.Φ β o = some v

theorem GB.le_refl (a : GB) : a.le a := by cases a <;> simp [GB.le]
theorem GB.le_trans {a b c : GB} (h : a.le b) (k : b.le c) : a.le c := by
  cases a <;> simp only [GB.le] at h ⊢
  case arr q v =>
    rcases h with rfl | ⟨v', rfl, hv⟩
    · exact k
    · rcases k with rfl | ⟨v'', rfl, hw⟩
      · exact .inr ⟨_, rfl, hv⟩
      · exact .inr ⟨_, rfl, by omega⟩
  all_goals (subst h; exact k)
theorem Ghost.le_refl (g : Ghost) : g.le g := ⟨fun _ => GB.le_refl _, fun _ _ _ h => h⟩
theorem Ghost.le.trans {a b c : Ghost} (h : a.le b) (k : b.le c) : a.le c :=
  ⟨fun i => GB.le_trans (h.L i) (k.L i), fun β o v hv => k.Φ β o v (h.Φ β o v hv)⟩

theorem Den.mono {Φ Φ' : Nat → Nat → Option Value} (hΦ : ∀ β o v, Φ β o = some v → Φ' β o = some v) {x : AV} {v : Value} (h : Den Φ x v) : Den Φ' x v := by
  induction h with
  | lit v h => exact .lit v h
  | nils k => exact .nils k
  | seq0 k a c => exact .seq0 k a c
  | seq k rows a c vs hs hcap hlen h1 h2 ih =>
    exact .seq k rows a c vs hs hcap hlen (fun i r j x hi hj => hΦ _ _ _ (h1 i r j x hi hj)) (fun i r j x hi hj => ih i r j x hi hj)

theorem le_cells {g g' : Ghost} (h : g.le g') {b β : Nat} {e : TypeId} (hb : g.L b = .cells β e) : g'.L b = .cells β e := by
  have := h.L b; rw [hb] at this; exact this
theorem le_iter {g g' : Ghost} (h : g.le g') {b β : Nat} (hb : g.L b = .iter β) : g'.L b = .iter β := by
  have := h.L b; rw [hb] at this; exact this
theorem le_map {g g' : Ghost} (h : g.le g') {b β : Nat} (hb : g.L b = .map β) : g'.L b = .map β := by
  have := h.L b; rw [hb] at this; exact this
theorem le_loop {g g' : Ghost} (h : g.le g') {b β : Nat} (hb : g.L b = .loop β) : g'.L b = .loop β := by
  have := h.L b; rw [hb] at this; exact this
theorem FnRel.mono {g g' : Ghost} (h : g.le g') {f f' : Fn} (hf : FnRel g f f') : FnRel g' f f' := by
  cases f <;> simp only [FnRel] at hf ⊢
  · exact hf
  · obtain ⟨β, hl, rfl⟩ := hf
    exact ⟨β, le_loop h hl, rfl⟩

theorem V.mono {g g' : Ghost} (hg : g.le g') {x : AV} {v : Value} (h : V g x v) : V g' x v := by
  induction h with
  | den x v h => exact .den _ _ (h.mono hg.Φ)
  | ptr b o β e h => exact .ptr b o β e (le_cells hg h)
  | itr b β h => exact .itr b β (le_iter hg h)
  | eptr b n i o k v p h hle hp =>
    have := hg.L b; rw [h] at this
    rcases this with h' | ⟨v', h', hlt⟩
    · exact .eptr b n i o k v p h' hle hp
    · exact .eptr b n i o k v' p h' (by omega) (fun hn => by omega)
  | cptr cs a vs hs h1 h2 h3 ih => exact .cptr cs a vs hs (fun j x hj => hg.Φ _ _ _ (h1 j x hj)) ih h3
  | asl b n k v0 v h hle h1 hn =>
    have := hg.L b; rw [h] at this
    rcases this with h' | ⟨v', h', hlt⟩
    · exact .asl b n k v0 v h' hle h1 hn
    · exact .asl b n k v' v h' (by omega) h1 (fun hn => by omega)
  | csl b o k n β e h => exact .csl b o k n β e (le_cells hg h)
  | mp b β h => exact .mp b β (le_map hg h)
  | fn f f' a c a' c' hf l1 l2 h1 h2 ih1 ih2 => exact .fn f f' a c a' c' (hf.mono hg) l1 l2 ih1 ih2
  | xseq k rows a c vs hs hcap hlen h1 h2 h3 ih => exact .xseq k rows a c vs hs hcap hlen (fun i r j x hi hj => hg.Φ _ _ _ (h1 i r j x hi hj)) ih h3
  | agg cs vs hl h h1 ih => exact .agg cs vs hl ih h1
  | tup cs vs hl h ih => exact .tup cs vs hl ih

/-! ### the heap -/
def bdE (N : Nat) : List (AV × AV) → Bool
  | [] => true
  | e :: l => e.1.bd N && e.2.bd N && bdE N l
/-- All boxes named in an object are below N. -/
def AO.bd (N : Nat) : AO → Bool
  | .dead | .iter _ _ => true
  | .cells cs => bdL N cs
  | .arr _ _ _ => true
  | .map es => bdE N es
  | .loop _ s _ _ _ _ _ => bdAll N s
  | .ro o => o.bd N

def SlotsOk (g : Ghost) (s : Slots) (tmps : Array Value) : Prop :=
  ∀ t v, sget s t = some v → ∃ x, tmps[t]? = some x ∧ V g v x

def jumpCode : Ex → Option Code
  | .normal => none
  | .exit id => some (.exit id)
  | .ret => some .ret

/-- What a box's block holds. 'MC': the code that an abstract code stands for. -/
def BoxOk (MC : Nat → Code → ACode → Prop) (P : Program) (g : Ghost) (w : World) : AO → GB → Prop
  | .dead, _ => True
  | .cells cs, .cells β e => ∃ c : Array Value, w.heap[β]? = some (.cells c e (0, 0)) ∧ c.size = cs.length ∧
      (∀ (j : Nat) (x : AV), cs[j]? = some x → ∃ v, c[j]? = some v ∧ V g x v ∧ v.oneCell' = true) ∧ ∀ o, g.Φ β o = none
  | .arr k pub rows, .arr k' v => k' = k ∧ 0 < k ∧ (∀ r ∈ rows, r.length = k) ∧
      ((rows = [] ∧ v = .slice none 0 0) ∨ ∃ (β c : Nat) (e : TypeId) (cur : Array Value), v = .slice (some ⟨β, 0, none⟩) rows.length c ∧ rows.length ≤ c ∧ c ≤ maxLen ∧
        w.heap[β]? = some (.cells cur e (0, 0)) ∧ cur.size = c * k ∧
        (∀ (i : Nat) (r : List AV) (j : Nat) (x : AV), rows[i]? = some r → r[j]? = some x → ∃ u, cur[i * k + j]? = some u ∧ Den g.Φ x u) ∧
        (pub = false → ∀ o, g.Φ β o = none) ∧
        (pub = true → (∀ o, o < rows.length * k → g.Φ β o = cur[o]?) ∧ ∀ o, rows.length * k ≤ o → g.Φ β o = none))
  | .map es, .map β => ∃ (en : Array MapEntry) (clock : Nat), w.heap[β]? = some (.map en clock) ∧ en.size = es.length ∧
      ∀ (i : Nat) (e : AV × AV), es[i]? = some e → ∃ m : MapEntry, en[i]? = some m ∧ V g e.1 m.key ∧ V g e.2 m.val
  | .iter s pos, .iter β => w.heap[β]? = some (.stringIter s pos)
  | .loop _ s ps assign body busy pend, .loop β => ∃ r : Loop, w.heap[β]? = some (.loop r) ∧
      r.state = (if busy then .busy else if pend.isNone then .ready else .done) ∧ r.pending = pend.bind jumpCode ∧ r.params = ps.toArray ∧
      SlotsOk g s r.tmps ∧ MC r.tmps.size r.assign assign ∧ MC r.tmps.size r.body body ∧ ∀ t ∈ ps, t < r.tmps.size
  | _, _ => False

structure Rel (MC : Nat → Code → ACode → Prop) (P : Program) (B0 : Nat) (H : AHeap) (g : Ghost) (w : World) : Prop where
  phi : ∀ β o v, g.Φ β o = some v → w.cell? ⟨β, o, none⟩ = some v
  base : ∀ i β, (g.L i).blk = some β → B0 ≤ β ∧ β < w.heap.size
  inj : ∀ i j β, (g.L i).blk = some β → (g.L j).blk = some β → i = j
  box : ∀ (i : Nat) (o : AO), H[i]? = some o → BoxOk MC P g w o.rd (g.L i)
  nolive : ∀ i, H.length ≤ i → g.L i = .none
  b0 : B0 ≤ w.heap.size

/-- A block that somebody may write to. -/
def Held (H : AHeap) (g : Ghost) (β : Nat) : Prop := ∃ (j : Nat) (o : AO), H[j]? = some o ∧ o.isW = true ∧ (g.L j).blk = some β

/-- What a step (or a call) may turn: the boxes that may be written, and what is new. -/
structure Ext (H : AHeap) (g : Ghost) (w : World) (H' : AHeap) (g' : Ghost) (w' : World) : Prop where
  len : H.length ≤ H'.length
  os : w'.os = w.os
  tape : w'.tape = w.tape
  output : w'.output = w.output
  size : w.heap.size ≤ w'.heap.size
  le : g.le g'
  blk : ∀ i β, (g'.L i).blk = some β → (g.L i).blk = some β ∨ w.heap.size ≤ β ∨ Held H g β
  keep : ∀ (i : Nat) (o : AO), H[i]? = some o → o.isW = false → g.L i ≠ .none → g'.L i = g.L i
  wit : ∀ (i : Nat) (o' : AO), H'[i]? = some o' → o'.isW = true → g.L i = .none ∨ ∃ o, H[i]? = some o ∧ o.isW = true
  frame : ∀ β, β < w.heap.size → (∀ (i : Nat) (o : AO), H[i]? = some o → o.isW = true → (g.L i).blk ≠ some β) → w'.heap[β]? = w.heap[β]? ∧ ∀ o, g'.Φ β o = g.Φ β o

theorem Ext.refl (H : AHeap) (g : Ghost) (w : World) : Ext H g w H g w :=
  ⟨Nat.le_refl _, rfl, rfl, rfl, Nat.le_refl _, Ghost.le_refl g, fun _ _ h => .inl h, fun _ _ _ _ _ => rfl, fun i o h k => .inr ⟨o, h, k⟩, fun _ _ _ => ⟨rfl, fun _ => rfl⟩⟩

theorem Ext.trans {H H1 H2 : AHeap} {g g1 g2 : Ghost} {w w1 w2 : World} (h : Ext H g w H1 g1 w1) (k : Ext H1 g1 w1 H2 g2 w2) : Ext H g w H2 g2 w2 where
  len := Nat.le_trans h.len k.len
  os := k.os.trans h.os
  tape := k.tape.trans h.tape
  output := k.output.trans h.output
  size := Nat.le_trans h.size k.size
  le := h.le.trans k.le
  blk := fun i β hb => by
    rcases k.blk i β hb with h1 | h1 | ⟨j, o, hj, hw, hbj⟩
    · exact h.blk i β h1
    · exact .inr (.inl (Nat.le_trans h.size h1))
    · rcases h.blk j β hbj with h2 | h2 | h2
      · rcases h.wit j o hj hw with h3 | ⟨o2, h3, h4⟩
        · rw [h3] at h2; simp [GB.blk] at h2
        · exact .inr (.inr ⟨j, o2, h3, h4, h2⟩)
      · exact .inr (.inl h2)
      · exact .inr (.inr h2)
  keep := fun i o ho hw hn => by
    have e1 := h.keep i o ho hw hn
    obtain ⟨o1, ho1⟩ : ∃ o1, H1[i]? = some o1 := by
      have h1 := (List.getElem?_eq_some_iff.1 ho).1
      have h2 := h.len
      exact ⟨H1[i]'(by omega), List.getElem?_eq_getElem (by omega)⟩
    have hw1 : o1.isW = false := by
      cases hc : o1.isW with
      | false => rfl
      | true =>
        rcases h.wit i o1 ho1 hc with h2 | ⟨o2, h2, h3⟩
        · exact absurd h2 hn
        · rw [ho] at h2; cases h2; rw [hw] at h3; cases h3
    rw [← e1]
    exact k.keep i o1 ho1 hw1 (by rw [e1]; exact hn)
  wit := fun i o' ho' hw' => by
    rcases k.wit i o' ho' hw' with h1 | ⟨o1, ho1, hw1⟩
    · left
      have := h.le.L i; rw [h1] at this
      cases hg : g.L i <;> rw [hg] at this <;> simp [GB.le] at this ⊢
    · exact h.wit i o1 ho1 hw1
  frame := fun β hβ hn => by
    obtain ⟨e1, p1⟩ := h.frame β hβ hn
    have := k.frame β (Nat.lt_of_lt_of_le hβ h.size) (fun i o ho hw hb => by
      rcases h.blk i β hb with h1 | h1 | ⟨j, o2, h2, h3, h4⟩
      · rcases h.wit i o ho hw with h2 | ⟨o2, h2, h3⟩
        · rw [h2] at h1; simp [GB.blk] at h1
        · exact hn i o2 h2 h3 h1
      · omega
      · exact hn j o2 h2 h3 h4)
    exact ⟨this.1.trans e1, fun o => (this.2 o).trans (p1 o)⟩

section
variable {MC : Nat → Code → ACode → Prop} {P : Program} {B0 : Nat}

theorem SlotsOk.mono {g g' : Ghost} (hg : g.le g') {s : Slots} {tmps : Array Value} (h : SlotsOk g s tmps) : SlotsOk g' s tmps :=
  fun t v hv => let ⟨x, hx, hV⟩ := h t v hv; ⟨x, hx, hV.mono hg⟩

theorem BoxOk.mono {g g' : Ghost} {w w' : World} (hg : g.le g') {o : AO} {gb : GB}
    (hb : ∀ β, gb.blk = some β → w'.heap[β]? = w.heap[β]? ∧ ∀ o, g'.Φ β o = g.Φ β o) (h : BoxOk MC P g w o gb) : BoxOk MC P g' w' o gb := by
  cases o with
  | dead => exact trivial
  | cells cs =>
    cases gb <;> try exact h.elim
    rename_i β e
    obtain ⟨c, h1, h2, h3, h4⟩ := h
    obtain ⟨e1, e2⟩ := hb β rfl
    exact ⟨c, e1.trans h1, h2, fun j x hj => let ⟨v, hv, hV, ho⟩ := h3 j x hj; ⟨v, hv, hV.mono hg, ho⟩, fun o => (e2 o).trans (h4 o)⟩
  | arr k pub rows =>
    cases gb <;> try exact h.elim
    rename_i k' v
    obtain ⟨h0, h2, h3, h4⟩ := h
    refine ⟨h0, h2, h3, ?_⟩
    rcases h4 with h4 | ⟨β, c, e, cur, rfl, h5, h6, h7, h8, h9, h10, h11⟩
    · exact .inl h4
    · obtain ⟨e1, e2⟩ := hb β rfl
      refine .inr ⟨β, c, e, cur, rfl, h5, h6, e1.trans h7, h8, fun i r j x hi hj => let ⟨u, hu, hd⟩ := h9 i r j x hi hj; ⟨u, hu, hd.mono hg.Φ⟩, ?_, ?_⟩
      · exact fun hp o => (e2 o).trans (h10 hp o)
      · exact fun hp => ⟨fun o ho => (e2 o).trans ((h11 hp).1 o ho), fun o ho => (e2 o).trans ((h11 hp).2 o ho)⟩
  | map es =>
    cases gb <;> try exact h.elim
    rename_i β
    obtain ⟨en, clock, h1, h2, h3⟩ := h
    exact ⟨en, clock, (hb β rfl).1.trans h1, h2, fun i e hi => let ⟨m, hm, a, b⟩ := h3 i e hi; ⟨m, hm, a.mono hg, b.mono hg⟩⟩
  | iter s pos =>
    cases gb <;> try exact h.elim
    rename_i β
    exact (hb β rfl).1.trans h
  | loop f s ps assign body busy pend =>
    cases gb <;> try exact h.elim
    rename_i β
    obtain ⟨r, h1, h2, h3, h4, h5, h6⟩ := h
    exact ⟨r, (hb β rfl).1.trans h1, h2, h3, h4, h5.mono hg, h6⟩
  | ro o => cases gb <;> exact h.elim

def updL (L : Nat → GB) (i : Nat) (b : GB) : Nat → GB := fun j => if j = i then b else L j

/-- One box turns. -/
theorem Rel.upd {H : AHeap} {g : Ghost} {w w' : World} (h : Rel MC P B0 H g w) {i : Nat} (hi : i < H.length) {o' : AO} {gb' : GB} {Φ' : Nat → Nat → Option Value}
    (hW : (∃ o, H[i]? = some o ∧ o.isW = true) ∨ g.L i = .none)
    (hos : w'.os = w.os) (htape : w'.tape = w.tape) (hout : w'.output = w.output) (hsize : w.heap.size ≤ w'.heap.size)
    (hheap : ∀ β, β < w.heap.size → (g.L i).blk ≠ some β → w'.heap[β]? = w.heap[β]?)
    (hle : (g.L i).le gb') (hblk : ∀ β, gb'.blk = some β → ((g.L i).blk = some β ∨ w.heap.size ≤ β) ∧ β < w'.heap.size)
    (hΦ : ∀ β o v, g.Φ β o = some v → Φ' β o = some v) (hΦ2 : ∀ β, β < w.heap.size → (g.L i).blk ≠ some β → ∀ o, Φ' β o = g.Φ β o)
    (hΦ3 : ∀ β o v, Φ' β o = some v → w'.cell? ⟨β, o, none⟩ = some v)
    (hbox : BoxOk MC P ⟨updL g.L i gb', Φ'⟩ w' o'.rd gb') :
    Rel MC P B0 (H.set i o') ⟨updL g.L i gb', Φ'⟩ w' ∧ Ext H g w (H.set i o') ⟨updL g.L i gb', Φ'⟩ w' := by
  have hg : g.le ⟨updL g.L i gb', Φ'⟩ := by
    refine ⟨fun j => ?_, hΦ⟩
    simp only [updL]
    split
    · next e => subst e; exact hle
    · exact GB.le_refl _
  have hother : ∀ j β, j ≠ i → (g.L j).blk = some β → w'.heap[β]? = w.heap[β]? ∧ ∀ o, Φ' β o = g.Φ β o := by
    intro j β hj hb
    have hlt := (h.base j β hb).2
    have hne : (g.L i).blk ≠ some β := fun e => hj (h.inj j i β hb e)
    exact ⟨hheap β hlt hne, hΦ2 β hlt hne⟩
  refine ⟨⟨hΦ3, ?_, ?_, ?_, ?_, Nat.le_trans h.b0 hsize⟩, ⟨by simp, hos, htape, hout, hsize, hg, ?_, ?_, ?_, ?_⟩⟩
  · intro j β hb
    simp only [updL] at hb
    split at hb
    · obtain ⟨h1, h2⟩ := hblk β hb
      rcases h1 with h1 | h1
      · exact ⟨(h.base i β h1).1, h2⟩
      · exact ⟨Nat.le_trans h.b0 h1, h2⟩
    · obtain ⟨h1, h2⟩ := h.base j β hb
      exact ⟨h1, Nat.lt_of_lt_of_le h2 hsize⟩
  · intro j k β hj hk
    simp only [updL] at hj hk
    have key : ∀ m, m ≠ i → gb'.blk = some β → (g.L m).blk = some β → False := by
      intro m hm h1 h2
      rcases (hblk β h1).1 with h3 | h3
      · exact hm (h.inj m i β h2 h3)
      · have := (h.base m β h2).2; omega
    split at hj <;> split at hk
    · omega
    · next e1 e2 => exact (key k e2 hj hk).elim
    · next e1 e2 => exact (key j e1 hk hj).elim
    · exact h.inj j k β hj hk
  · intro j o hj
    rw [List.getElem?_set] at hj
    by_cases e : i = j
    · subst e
      rw [if_pos rfl, if_pos hi] at hj
      cases hj
      simpa [updL] using hbox
    · rw [if_neg e] at hj
      have hne : j ≠ i := fun h => e h.symm
      simp only [updL, if_neg hne]
      exact (h.box j o hj).mono hg (fun β hb => hother j β hne hb)
  · intro j hj
    have hne : j ≠ i := by have : H.length ≤ j := by simpa using hj
                           omega
    simp only [updL, if_neg hne]
    exact h.nolive j (by simpa using hj)
  · intro j β hb
    simp only [updL] at hb
    split at hb
    · next e => subst e; exact (hblk β hb).1.imp id .inl
    · exact .inl hb
  · intro j o hj hw hn
    simp only [updL]
    split
    · next e =>
      subst e
      rcases hW with ⟨o2, h2, h3⟩ | h2
      · rw [hj] at h2; cases h2; rw [hw] at h3; cases h3
      · exact absurd h2 hn
    · rfl
  · intro j o' hj hw
    rw [List.getElem?_set] at hj
    by_cases e : i = j
    · subst e
      rcases hW with h2 | h2
      · exact .inr h2
      · exact .inl h2
    · rw [if_neg e] at hj
      exact .inr ⟨_, hj, hw⟩
  · intro β hβ hn
    have hne : (g.L i).blk ≠ some β := by
      rcases hW with ⟨o2, h2, h3⟩ | h2
      · exact hn i o2 h2 h3
      · rw [h2]; simp [GB.blk]
    exact ⟨hheap β hβ hne, hΦ2 β hβ hne⟩
end
end Am
