/- Structs, arrays and slices that are built. -/
import Derived.Test.YtjjmechghfjbmaaAmMem
set_option linter.unusedVariables false
set_option linter.unusedSimpArgs false
set_option linter.unnecessarySimpa false
namespace Am
open Go

theorem splice_get (cs : List AV) (o : Nat) (new : List AV) (h : o + new.length ≤ cs.length) (k : Nat) :
    (splice cs o new)[k]? = if k < o then cs[k]? else if k < o + new.length then new[k - o]? else cs[k]? := by
  unfold splice
  rw [List.append_assoc, List.getElem?_append]
  simp only [List.length_take, Nat.min_eq_left (show o ≤ cs.length by omega)]
  split
  · next h1 => rw [List.getElem?_take_of_lt h1]
  · next h1 =>
    rw [List.getElem?_append]
    split
    · next h2 => rw [if_pos (by omega)]
    · next h2 =>
      rw [if_neg (by omega), List.getElem?_drop]
      congr 1; omega
theorem splice_len (cs : List AV) (o : Nat) (new : List AV) (h : o + new.length ≤ cs.length) : (splice cs o new).length = cs.length := by
  simp [splice]; omega

theorem foldl_set (off : Nat) : ∀ (l : List Value) (st : Nat) (cells : Array Value),
    ((l.zipIdx st).foldl (fun cs (x : Value × Nat) => cs.setIfInBounds (off + x.2) x.1) cells).size = cells.size ∧
    ∀ k, ((l.zipIdx st).foldl (fun cs (x : Value × Nat) => cs.setIfInBounds (off + x.2) x.1) cells)[k]? = if off + st ≤ k ∧ k < off + st + l.length ∧ k < cells.size then l[k - (off + st)]? else cells[k]?
  | [], st, cells => by
    refine ⟨rfl, fun k => ?_⟩
    simp
    intro h1 h2; omega
  | v :: l, st, cells => by
    obtain ⟨h1, h2⟩ := foldl_set off l (st + 1) (cells.setIfInBounds (off + st) v)
    simp only [List.zipIdx_cons, List.foldl_cons]
    refine ⟨by rw [h1]; simp, fun k => ?_⟩
    rw [h2 k]
    simp only [Array.size_setIfInBounds, List.length_cons]
    by_cases e : k = off + st
    · subst e
      rw [if_neg (by omega)]
      rw [Array.getElem?_setIfInBounds]
      simp only [if_true]
      by_cases hk : off + st < cells.size
      · rw [if_pos hk, if_pos ⟨by omega, by omega, hk⟩]; simp
      · rw [if_neg hk, if_neg (by omega)]; simp [hk]
    · rw [Array.getElem?_setIfInBounds_ne (by omega)]
      by_cases h3 : off + (st + 1) ≤ k ∧ k < off + (st + 1) + l.length ∧ k < cells.size
      · rw [if_pos h3, if_pos (by omega)]
        rw [show k - (off + st) = (k - (off + (st + 1))) + 1 by omega, List.getElem?_cons_succ]
      · rw [if_neg h3, if_neg (by omega)]

section
variable {g : Ghost}

theorem putCells (cells : Array Value) (off : Nat) (vs : Array Value) (h : off + vs.size ≤ cells.size) :
    ∀ r, r = vs.zipIdx.foldl (fun cs (x : Value × Nat) => cs.setIfInBounds (off + x.2) x.1) cells →
    r.size = cells.size ∧ ∀ k, r[k]? = if k < off then cells[k]? else if k < off + vs.size then vs[k - off]? else cells[k]? := by
  intro r hr
  rw [← Array.foldl_toList, Array.toList_zipIdx] at hr
  have := foldl_set off vs.toList 0 cells
  rw [← hr] at this
  refine ⟨this.1, fun k => ?_⟩
  rw [this.2 k]
  simp only [Nat.add_zero, Array.length_toList]
  by_cases h1 : k < off
  · rw [if_neg (by omega), if_pos h1]
  · rw [if_neg h1]
    by_cases h2 : k < off + vs.size
    · rw [if_pos (by omega), if_pos h2]; simp
    · rw [if_neg (by omega), if_neg h2]

theorem fill_spec (place : Nat → Option (Nat × Nat)) : ∀ (ps : List (Nat × Value)) (qs : List (Nat × Nat × AV)) (cells : Array Value) (cs cs' : List AV), CellsV g cs cells → fillC cs qs = some cs' →
    ps.length = qs.length → (∀ (j : Nat) (q : Nat × Nat × AV), qs[j]? = some q → ∃ p, ps[j]? = some p ∧ place p.1 = some (q.1, q.2.1) ∧ V g q.2.2 p.2) →
    ∃ cells', Instr.fill place cells ps = some cells' ∧ CellsV g cs' cells'
  | [], [], cells, cs, cs', hC, h, _, _ => by simp [fillC] at h; subst h; exact ⟨cells, rfl, hC⟩
  | [], _ :: _, _, _, _, _, _, hl, _ => by simp at hl
  | _ :: _, [], _, _, _, _, _, hl, _ => by simp at hl
  | p :: ps, q :: qs, cells, cs, cs', hC, h, hl, hq => by
    obtain ⟨off, n, x⟩ := q
    obtain ⟨p', h0, h1, h2⟩ := hq 0 _ rfl
    simp at h0; subst h0
    obtain ⟨i, v⟩ := p
    simp only at h1 h2
    simp only [fillC] at h
    split at h
    · next hc =>
      simp only [Bool.and_eq_true] at hc
      obtain ⟨⟨c1, c2⟩, c3⟩ := hc
      have c1' : x.cellsOf.length = n := Nat.eq_of_beq_eq_true c1
      have c2' : off + n ≤ cs.length := Nat.le_of_ble_eq_true c2
      have c3' : 0 < n := Nat.le_of_ble_eq_true c3
      have hne : x.cellsOf ≠ [] := by intro e; rw [e] at c1'; simp at c1'; omega
      obtain ⟨q1, q2⟩ := cellsV h2 hne
      obtain ⟨r1, r2⟩ := putCells cells off v.cells (by rw [q1, hC.1]; omega) _ rfl
      have hC' : CellsV g (splice cs off x.cellsOf) (v.cells.zipIdx.foldl (fun cs (x : Value × Nat) => cs.setIfInBounds (off + x.2) x.1) cells) := by
        refine ⟨by rw [r1, splice_len _ _ _ (by omega), hC.1], fun j y hj => ?_⟩
        rw [splice_get _ _ _ (by omega)] at hj
        rw [r2 j]
        split at hj
        · next h3 => rw [if_pos h3]; exact hC.2 j y hj
        · next h3 =>
          rw [if_neg h3]
          split at hj
          · next h4 => rw [if_pos (by omega)]; exact q2 _ y hj
          · next h4 => rw [if_neg (by omega)]; exact hC.2 j y hj
      obtain ⟨cells', e1, e2⟩ := fill_spec place ps qs _ _ cs' hC' h (by simpa using hl) (fun j q hj => by simpa using hq (j + 1) q (by simpa using hj))
      refine ⟨cells', ?_, e2⟩
      unfold Instr.fill
      rw [h1]
      simp only
      have hg : ¬ ((v.cells.size ≠ n || off + v.cells.size > cells.size) = true) := by
        have := hC.1
        simp; omega
      rw [if_neg hg]
      exact e1
    · cases h

/-- Rows of k cells, laid one behind the other. -/
def RowsV (g : Ghost) (k : Nat) (rows : List (List AV)) (vs : Array Value) : Prop :=
  vs.size = rows.length * k ∧ (∀ r ∈ rows, r.length = k) ∧
  ∀ (i : Nat) (r : List AV) (j : Nat) (x : AV), rows[i]? = some r → r[j]? = some x → ∃ u, vs[i * k + j]? = some u ∧ V g x u ∧ u.oneCell' = true

theorem mul_lt_of {i n k : Nat} (h : i < n) : i * k + k ≤ n * k := by
  have : (i + 1) * k ≤ n * k := Nat.mul_le_mul_right k h
  rwa [Nat.add_mul, Nat.one_mul] at this

theorem divide {i j i' j' k : Nat} (hj : j < k) (hj' : j' < k) (h : i * k + j = i' * k + j') : i = i' ∧ j = j' := by
  rcases Nat.lt_trichotomy i i' with h1 | h1 | h1
  · have := mul_lt_of (k := k) h1; omega
  · subst h1; exact ⟨rfl, by omega⟩
  · have := mul_lt_of (k := k) h1; omega

theorem fillR_spec (k : Nat) (hk : 0 < k) : ∀ (ps : List (Nat × Value)) (qs : List (Nat × AV)) (cells : Array Value) (rows rows' : List (List AV)), RowsV g k rows cells → fillR k rows qs = some rows' →
    ps.length = qs.length → (∀ (j : Nat) (q : Nat × AV), qs[j]? = some q → ∃ p, ps[j]? = some p ∧ p.1 = q.1 ∧ V g q.2 p.2) →
    ∃ cells', Instr.fill (fun i => some (i * k, k)) cells ps = some cells' ∧ RowsV g k rows' cells' ∧ rows'.length = rows.length
  | [], [], cells, cs, cs', hC, h, _, _ => by simp [fillR] at h; subst h; exact ⟨cells, rfl, hC, rfl⟩
  | [], _ :: _, _, _, _, _, _, hl, _ => by simp at hl
  | _ :: _, [], _, _, _, _, _, hl, _ => by simp at hl
  | p :: ps, q :: qs, cells, rows, rows', hC, h, hl, hq => by
    obtain ⟨i, x⟩ := q
    obtain ⟨p', h0, h1, h2⟩ := hq 0 _ rfl
    simp at h0; subst h0
    obtain ⟨i', v⟩ := p
    simp only at h1 h2
    subst h1
    simp only [fillR] at h
    split at h
    · next hc =>
      simp only [Bool.and_eq_true] at hc
      obtain ⟨c1, c2⟩ := hc
      have c1' : x.cellsOf.length = k := Nat.eq_of_beq_eq_true c1
      have c2' : i' < rows.length := Nat.le_of_ble_eq_true c2
      have hne : x.cellsOf ≠ [] := by intro e; rw [e] at c1'; simp at c1'; omega
      obtain ⟨q1, q2⟩ := cellsV h2 hne
      obtain ⟨hC1, hC2, hC3⟩ := hC
      have hb := mul_lt_of (k := k) c2'
      obtain ⟨r1, r2⟩ := putCells cells (i' * k) v.cells (by omega) _ rfl
      have hC' : RowsV g k (rows.set i' x.cellsOf) (v.cells.zipIdx.foldl (fun cs (x : Value × Nat) => cs.setIfInBounds (i' * k + x.2) x.1) cells) := by
        refine ⟨by rw [r1, hC1]; simp, fun r hr => ?_, fun m r j y hm hj => ?_⟩
        · rcases List.mem_or_eq_of_mem_set hr with h3 | h3
          · exact hC2 r h3
          · rw [h3]; exact c1'
        · rw [r2]
          rw [List.getElem?_set] at hm
          by_cases e : i' = m
          · subst e
            rw [if_pos rfl, if_pos c2'] at hm
            cases hm
            have hjk : j < k := by have := (List.getElem?_eq_some_iff.1 hj).1; omega
            rw [if_neg (by omega), if_pos (by omega), show i' * k + j - i' * k = j by omega]
            exact q2 j y hj
          · rw [if_neg e] at hm
            have hrk := hC2 r (List.mem_of_getElem? hm)
            have hjk : j < k := by have := (List.getElem?_eq_some_iff.1 hj).1; omega
            have := hC3 m r j y hm hj
            by_cases h4 : m * k + j < i' * k
            · rw [if_pos h4]; exact this
            · rw [if_neg h4, if_neg]
              · exact this
              · intro h5
                have := divide (k := k) hjk (show m * k + j - i' * k < k by omega) (show m * k + j = i' * k + (m * k + j - i' * k) by omega)
                omega
      obtain ⟨cells', e1, e2, e3⟩ := fillR_spec k hk ps qs _ _ rows' hC' h (by simpa using hl) (fun j q hj => by simpa using hq (j + 1) q (by simpa using hj))
      refine ⟨cells', ?_, e2, by rw [e3]; simp⟩
      unfold Instr.fill
      simp only
      have hg : ¬ ((v.cells.size ≠ k || i' * k + v.cells.size > cells.size) = true) := by
        simp; omega
      rw [if_neg hg]
      exact e1
    · cases h

theorem rows_zero {k n : Nat} {z : Array Value} {zs : List AV} (hz : CellsV g zs z) (hk : zs.length = k) (hpos : 0 < k) :
    RowsV g k (List.replicate n zs) ((Array.range (n * k)).map (z[· % z.size]!)) := by
  refine ⟨by simp, fun r hr => by rw [(List.mem_replicate.1 hr).2, hk], fun i r j x hi hj => ?_⟩
  have hr : r = zs := (List.mem_replicate.1 (List.mem_of_getElem? hi)).2
  subst hr
  have hin : i < n := by have := (List.getElem?_eq_some_iff.1 hi).1; simpa using this
  have hjk : j < k := by have := (List.getElem?_eq_some_iff.1 hj).1; omega
  obtain ⟨u, hu, r⟩ := hz.2 j x hj
  refine ⟨u, ?_, r⟩
  have hb := mul_lt_of (k := k) hin
  have hlt : i * k + j < n * k := by omega
  have hsz : z.size = k := by rw [hz.1, hk]
  have hmod : (i * k + j) % z.size = j := by rw [hsz, Nat.add_comm, Nat.add_mul_mod_self_right, Nat.mod_eq_of_lt hjk]
  rw [Array.getElem?_map, Array.getElem?_range, if_pos hlt]
  simp only [Option.map_some, hmod]
  rw [Array.getElem!_eq_getD, Array.getD_eq_getD_getElem?, hu]
  rfl
end
end Am
