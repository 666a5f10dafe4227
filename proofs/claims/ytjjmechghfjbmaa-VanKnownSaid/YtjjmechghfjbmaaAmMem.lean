/- Operations that turn memory. -/
import Derived.Test.YtjjmechghfjbmaaAmOps5
import Derived.Laws.MakeOwn
set_option linter.unusedVariables false
set_option linter.unusedSimpArgs false
set_option linter.unnecessarySimpa false
namespace Am
open Go

theorem V_one {g : Ghost} {x : AV} {u : Value} (h : V g x u) (h1 : ∀ cs, x ≠ .agg cs) (h2 : ∀ cs, x ≠ .tup cs) : u.oneCell' = true := by
  cases h with
  | den _ _ hd => exact hd.one
  | agg => exact absurd rfl (h1 _)
  | tup => exact absurd rfl (h2 _)
  | asl => assumption
  | _ => rfl

theorem cells_one {u : Value} (h : u.oneCell' = true) : u.cells = #[u] := by
  cases u <;> simp [Value.oneCell'] at h <;> rfl

/-- Cells and their abstract values. -/
def CellsV (g : Ghost) (cs : List AV) (vs : Array Value) : Prop :=
  vs.size = cs.length ∧ ∀ (j : Nat) (x : AV), cs[j]? = some x → ∃ u, vs[j]? = some u ∧ V g x u ∧ u.oneCell' = true

theorem cellsV {g : Ghost} {v : AV} {u : Value} (h : V g v u) (hne : v.cellsOf ≠ []) : CellsV g v.cellsOf u.cells := by
  have other : (∀ cs, v ≠ .agg cs) → (∀ cs, v ≠ .tup cs) → v.cellsOf = [v] → CellsV g v.cellsOf u.cells := by
    intro h1 h2 h3
    have ho := V_one h h1 h2
    rw [h3, cells_one ho]
    refine ⟨rfl, fun j x hj => ?_⟩
    rcases j with _ | j <;> simp at hj
    subst hj
    exact ⟨u, rfl, h, ho⟩
  cases v <;> first
    | exact other (by simp) (by simp) rfl
    | skip
  · rename_i cs
    obtain ⟨vs, rfl, hl, hx⟩ := V_agg h
    refine ⟨hl, fun j x hj => ?_⟩
    obtain ⟨q1, q2, q3⟩ := hx j x hj
    refine ⟨vs[j], by simp [q1, Value.cells], ?_, ?_⟩
    · simpa [q1] using q2
    · simpa [q1] using q3
  all_goals exact absurd rfl hne

theorem CellsV.mono {g g' : Ghost} (hg : g.le g') {cs : List AV} {vs : Array Value} (h : CellsV g cs vs) : CellsV g' cs vs :=
  ⟨h.1, fun j x hj => let ⟨u, a, b, c⟩ := h.2 j x hj; ⟨u, a, b.mono hg, c⟩⟩

theorem matchVs_cells (g : Ghost) {zs : List AV} {z : Value} (h : matchVs zs z.cells.toList = true) (ho : z.cells.toList.all Value.oneCell' = true) : CellsV g zs z.cells := by
  obtain ⟨h1, h2⟩ := matchVs_V g zs z.cells.toList h
  refine ⟨by simpa using h1, fun j x hj => ?_⟩
  have hlt : j < z.cells.size := by have h3 := (List.getElem?_eq_some_iff.1 hj).1; have h4 : z.cells.toList.length = zs.length := h1; simp at h4; omega
  refine ⟨z.cells[j], by simp [hlt], ?_, ?_⟩
  · have := h2 j x hj; simpa [List.getD, hlt] using this
  · have := List.all_eq_true.1 ho z.cells[j] (by simp)
    exact this

section
variable {MC : Nat → Code → ACode → Prop} {P : Program} {B0 : Nat} {c : Sc} {n0 : Nat} {H H' : AHeap} {g : Ghost} {w : World} {s : Slots} {a : Act} {o : Oper} {v : AV}

/-- What an operation comes to. X: the boxes that may be born. -/
def Does (MC : Nat → Code → ACode → Prop) (P : Program) (B0 : Nat) (a : Act) (o : Oper) (X : List Nat) (H : AHeap) (g : Ghost) (w : World) (v : AV) (H' : AHeap) : Prop :=
  ∃ x w' g', Gives ((execOp a.eval o).run P w) x w' ∧ V g' v x ∧ Rel MC P B0 H' g' w' ∧ Ext H g w H' g' w' ∧ H'.length = H.length ∧
    ∀ i, i ∉ X → g.L i = .none → g'.L i = .none

theorem Still.does (h : Still P a o w g v H H') (hR : Rel MC P B0 H g w) (X : List Nat) : Does MC P B0 a o X H g w v H' := by
  obtain ⟨rfl, x, hx, hV⟩ := h
  exact ⟨x, w, g, .inl hx, hV, hR, Ext.refl _ _ _, rfl, fun i _ h => h⟩

theorem Rel.phi_lt (hR : Rel MC P B0 H g w) {β off : Nat} {u : Value} (h : g.Φ β off = some u) : β < w.heap.size := by
  have := hR.phi β off u h
  exact World.block_lt_of_cell? w _ this
theorem Rel.phi_none (hR : Rel MC P B0 H g w) {β off : Nat} (h : w.heap.size ≤ β) : g.Φ β off = none := by
  cases hp : g.Φ β off with
  | none => rfl
  | some u => have := hR.phi_lt hp; omega

/-- A reserved box is born over a new block. -/
theorem Rel.alloc (hR : Rel MC P B0 H g w) {i : Nat} (hi : i < H.length) (hn : g.L i = .none) (ob : Obj) {o' : AO} {gb' : GB} (hb : gb'.blk = some w.heap.size)
    (hbox : BoxOk MC P ⟨updL g.L i gb', g.Φ⟩ (w.alloc ob) o'.rd gb') :
    Rel MC P B0 (H.set i o') ⟨updL g.L i gb', g.Φ⟩ (w.alloc ob) ∧ Ext H g w (H.set i o') ⟨updL g.L i gb', g.Φ⟩ (w.alloc ob) := by
  refine hR.upd hi (.inr hn) rfl rfl rfl (by simp) (fun β hβ _ => ?_) (by rw [hn]; trivial) (fun β hβ => ?_) (fun _ _ _ h => h) (fun _ _ _ _ => rfl) (fun β off u h => ?_) hbox
  · exact heap_alloc_old w ob β hβ
  · rw [hb] at hβ; cases hβ
    exact ⟨.inr (Nat.le_refl _), by simp⟩
  · rw [World.cell?_alloc_lt _ _ _ (hR.phi_lt h)]
    exact hR.phi β off u h

/-- A reserved box is born over no block (a nil slice). -/
theorem Rel.bare (hR : Rel MC P B0 H g w) {i : Nat} (hi : i < H.length) (hn : g.L i = .none) {o' : AO} {gb' : GB} (hb : gb'.blk = none)
    (hbox : BoxOk MC P ⟨updL g.L i gb', g.Φ⟩ w o'.rd gb') :
    Rel MC P B0 (H.set i o') ⟨updL g.L i gb', g.Φ⟩ w ∧ Ext H g w (H.set i o') ⟨updL g.L i gb', g.Φ⟩ w := by
  refine hR.upd hi (.inr hn) rfl rfl rfl (Nat.le_refl _) (fun β hβ _ => rfl) (by rw [hn]; trivial) (fun β hβ => ?_) (fun _ _ _ h => h) (fun _ _ _ _ => rfl) (fun β off u h => hR.phi β off u h) hbox
  rw [hb] at hβ; cases hβ

theorem updL_other {L : Nat → GB} {i j : Nat} {b : GB} (h : j ≠ i) : updL L i b j = L j := by simp [updL, h]
theorem updL_same {L : Nat → GB} {i : Nat} {b : GB} : updL L i b i = b := by simp [updL]

theorem nn_upd {i : Nat} {X : List Nat} (hi : i ∈ X) (b : GB) (Φ : Nat → Nat → Option Value) : ∀ j, j ∉ X → g.L j = .none → (⟨updL g.L i b, Φ⟩ : Ghost).L j = .none := by
  intro j hj hn
  have : j ≠ i := fun e => hj (e ▸ hi)
  simpa [updL, this] using hn

/-- What the region's own boxes of an operation are before it: not born. -/
def Free (H : AHeap) (g : Ghost) (n0 : Nat) (rs : List Nat) : Prop := ∀ r ∈ rs, n0 + r < H.length ∧ g.L (n0 + r) = .none

theorem m_nil {k r : Nat} (hm : matchOp P o.op (.nil k r) = true) (hR : Rel MC P B0 H g w) (hF : Free H g n0 [r]) (h : prim c n0 s H (.nil k r) = some (v, H')) : Does MC P B0 a o [n0 + r] H g w v H' := by
  simp only [prim, Option.some.injEq, Prod.mk.injEq] at h
  obtain ⟨rfl, rfl⟩ := h
  obtain ⟨hi, hn⟩ := hF r (by simp)
  simp only [matchOp] at hm
  have hk : 0 < k := by
    split at hm <;> simp at hm
    · exact hm.2
    · exact hm.2
  have hx : ∃ x, o.op = .move x ∨ o.op = .assign x := by
    split at hm
    · exact ⟨_, .inl ‹_›⟩
    · exact ⟨_, .inr ‹_›⟩
    · cases hm
  have hrun : (execOp a.eval o).run P w = .ok (.value (.slice none 0 0)) w := by
    split at hm
    · next x hop =>
      simp at hm
      split at hm
      · simp [execOp, hop, Act.eval]
      · simp at hm
    · next x hop =>
      simp at hm
      split at hm
      · simp [execOp, hop, Act.eval]
      · simp at hm
    · cases hm
  have := hR.bare hi hn (o' := .arr k false []) (gb' := .arr k (.slice none 0 0)) rfl ⟨rfl, hk, by simp, .inl ⟨rfl, rfl⟩⟩
  refine ⟨_, _, _, .inl hrun, ?_, this.1, this.2, by simp [hset], nn_upd (by simp) _ _⟩
  exact .asl _ _ k (.slice none 0 0) _ (by simp [updL]) (by simp [slen]) rfl (fun _ => rfl)

theorem m_box {n r : Nat} {y : Opd} (hm : matchOp P o.op (.box n y r) = true) (hR : Rel MC P B0 H g w) (hS : SlotsOk g s a.tmps) (hF : Free H g n0 [r]) (h : prim c n0 s H (.box n y r) = some (v, H')) : Does MC P B0 a o [n0 + r] H g w v H' := by
  simp only [matchOp] at hm
  split at hm
  · next e x hop =>
    simp at hm
    simp only [prim] at h
    split at h
    · next p hp =>
      split at h
      · next hn =>
        simp at h; obtain ⟨rfl, rfl⟩ := h
        obtain ⟨hi, hnn⟩ := hF r (by simp)
        have hlen : p.cellsOf.length = n := Nat.eq_of_beq_eq_true hn
        have hne : p.cellsOf ≠ [] := by intro e; rw [e] at hlen; simp at hlen; omega
        have hV := ev_V hS hm.1 hp
        obtain ⟨q1, q2⟩ := cellsV hV hne
        have hle : g.le ⟨updL g.L (n0 + r) (.cells w.heap.size e), g.Φ⟩ := ⟨fun j => by simp only [updL]; split; (next e => subst e; rw [hnn]; trivial); exact GB.le_refl _, fun _ _ _ h => h⟩
        have := hR.alloc hi hnn (.cells (a.eval x).cells e) (o' := .cells p.cellsOf) (gb' := .cells w.heap.size e) rfl
          ⟨_, heap_alloc_new w _, q1, fun j x hj => let ⟨u, b1, b2, b3⟩ := q2 j x hj; ⟨u, b1, b2.mono hle, b3⟩, fun off => hR.phi_none (Nat.le_refl _)⟩
        refine ⟨_, _, _, .inl ?_, .ptr _ _ w.heap.size e (by simp [updL]), this.1, this.2, by simp [hset], nn_upd (by simp) _ _⟩
        simp [execOp, hop, Instr.box, newVar, newRow]
      · cases h
    · cases h
  · cases hm

theorem m_mkmap {r : Nat} (hm : matchOp P o.op (.mkmap r) = true) (hR : Rel MC P B0 H g w) (hF : Free H g n0 [r]) (h : prim c n0 s H (.mkmap r) = some (v, H')) : Does MC P B0 a o [n0 + r] H g w v H' := by
  simp only [matchOp] at hm
  split at hm
  · next t hop =>
    simp only [prim, Option.some.injEq, Prod.mk.injEq] at h
    obtain ⟨rfl, rfl⟩ := h
    obtain ⟨hi, hnn⟩ := hF r (by simp)
    have := hR.alloc hi hnn (.map #[] 0) (o' := .map []) (gb' := .map w.heap.size) rfl ⟨#[], 0, heap_alloc_new w _, rfl, fun i e hi => by simp at hi⟩
    refine ⟨_, _, _, .inl ?_, .mp _ w.heap.size (by simp [updL]), this.1, this.2, by simp [hset], nn_upd (by simp) _ _⟩
    simp [execOp, hop, Instr.makeMap]
  · cases hm

theorem m_range {x : Opd} {r : Nat} (hm : matchOp P o.op (.range x r) = true) (hR : Rel MC P B0 H g w) (hS : SlotsOk g s a.tmps) (hF : Free H g n0 [r]) (h : prim c n0 s H (.range x r) = some (v, H')) : Does MC P B0 a o [n0 + r] H g w v H' := by
  simp only [matchOp] at hm
  split at hm
  · next t x' hop =>
    simp only [Bool.and_eq_true] at hm
    obtain ⟨h1, h2⟩ := hm
    split at h1
    · next hu =>
      simp only [prim] at h
      split at h
      · next b hp =>
        simp at h; obtain ⟨rfl, rfl⟩ := h
        obtain ⟨hi, hnn⟩ := hF r (by simp)
        have ex := V_lit (ev_V hS h2 hp)
        have := hR.alloc hi hnn (.stringIter b 0) (o' := .iter b 0) (gb' := .iter w.heap.size) rfl (heap_alloc_new w _)
        refine ⟨_, _, _, .inl ?_, .itr _ w.heap.size (by simp [updL]), this.1, this.2, by simp [hset], nn_upd (by simp) _ _⟩
        simp [execOp, hop, Instr.range, run_underlying hu, ex]
      · cases h
    · cases h1
  · cases hm
end
end Am
