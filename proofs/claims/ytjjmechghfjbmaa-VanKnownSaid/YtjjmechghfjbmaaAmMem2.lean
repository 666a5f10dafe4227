/- Structs and slices that are built; variables that are made. -/
import Derived.Test.YtjjmechghfjbmaaAmFill
set_option linter.unusedVariables false
set_option linter.unusedSimpArgs false
set_option linter.unnecessarySimpa false
namespace Am
open Go
section
variable {MC : Nat → Code → ACode → Prop} {P : Program} {B0 : Nat} {c : Sc} {n0 : Nat} {H H' : AHeap} {g : Ghost} {w : World} {s : Slots} {a : Act} {o : Oper} {v : AV}

theorem zeroIs_spec {t : TypeId} {zs : List AV} (h : zeroIs P t zs = true) (g : Ghost) : ∃ i z, P.info? t = some i ∧ i.zero = some z ∧ CellsV g zs z.cells ∧ P.cellsOf t = zs.length := by
  unfold zeroIs at h
  split at h
  · next z hz =>
    simp only [Bool.and_eq_true] at h
    obtain ⟨⟨h1, h2⟩, h3⟩ := h
    cases hi : P.info? t with
    | none => simp [hi] at hz
    | some i => exact ⟨i, z, rfl, by simpa [hi] using hz, matchVs_cells g h1 h3, by simpa using h2⟩
  · cases h

theorem evParts_V (hS : SlotsOk g s a.tmps) (place : Nat → Option (Nat × Nat)) : ∀ (ps : List (Nat × Operand)) (qs : List (Nat × Nat × Opd)) (rs : List (Nat × Nat × AV)), evParts s qs = some rs → ps.length = qs.length →
    (∀ (j : Nat) (q : Nat × Nat × Opd), qs[j]? = some q → ∃ p, ps[j]? = some p ∧ place p.1 = some (q.1, q.2.1) ∧ matchOpd p.2 q.2.2 = true) →
    ps.length = rs.length ∧ ∀ (j : Nat) (q : Nat × Nat × AV), rs[j]? = some q → ∃ p, (ps.map fun x => (x.1, a.eval x.2))[j]? = some p ∧ place p.1 = some (q.1, q.2.1) ∧ V g q.2.2 p.2
  | [], [], rs, h, _, _ => by simp [evParts] at h; subst h; exact ⟨rfl, fun j q hj => by simp at hj⟩
  | [], _ :: _, _, _, hl, _ => by simp at hl
  | _ :: _, [], _, _, hl, _ => by simp at hl
  | p :: ps, q :: qs, rs, h, hl, hq => by
    obtain ⟨off, n, x⟩ := q
    simp only [evParts] at h
    cases hx : ev s x with
    | none => simp [hx] at h
    | some u =>
      cases hr : evParts s qs with
      | none => simp [hx, hr] at h
      | some r =>
        simp [hx, hr] at h; subst h
        obtain ⟨p', e0, e1, e2⟩ := hq 0 _ rfl
        simp at e0; subst e0
        obtain ⟨l1, l2⟩ := evParts_V hS place ps qs r hr (by simpa using hl) (fun j q hj => by simpa using hq (j + 1) q (by simpa using hj))
        refine ⟨by simp [l1], fun j q hj => ?_⟩
        cases j with
        | zero => simp at hj; subst hj; exact ⟨_, rfl, e1, ev_V hS e2 hx⟩
        | succ j => simp at hj; simpa using l2 j q hj

theorem partsS_spec {fs : Array Field} : ∀ (ps : List (Nat × Operand)) (qs : List (Nat × Nat × Opd)), partsS P fs ps qs = true → ps.length = qs.length ∧
    ∀ (j : Nat) (q : Nat × Nat × Opd), qs[j]? = some q → ∃ p, ps[j]? = some p ∧ ((fs[p.1]?).map fun f => (f.offset, P.cellsOf f.type)) = some (q.1, q.2.1) ∧ matchOpd p.2 q.2.2 = true
  | [], [], _ => ⟨rfl, fun j q hj => by simp at hj⟩
  | [], _ :: _, h => by simp [partsS] at h
  | _ :: _, [], h => by simp [partsS] at h
  | p :: ps, q :: qs, h => by
    simp only [partsS, Bool.and_eq_true] at h
    obtain ⟨⟨h1, h2⟩, h3⟩ := h
    obtain ⟨l1, l2⟩ := partsS_spec ps qs h3
    refine ⟨by simp [l1], fun j q' hj => ?_⟩
    cases j with
    | zero =>
      simp at hj; subst hj
      refine ⟨p, rfl, ?_, h2⟩
      split at h1
      · next f hf => simp at h1; simp [hf, h1]
      · cases h1
    | succ j => simp at hj; simpa using l2 j q' hj

theorem partsA_spec {k : Nat} : ∀ (ps : List (Nat × Operand)) (qs : List (Nat × Nat × Opd)), partsA k ps qs = true → ps.length = qs.length ∧
    ∀ (j : Nat) (q : Nat × Nat × Opd), qs[j]? = some q → ∃ p, ps[j]? = some p ∧ some (p.1 * k, k) = some (q.1, q.2.1) ∧ matchOpd p.2 q.2.2 = true
  | [], [], _ => ⟨rfl, fun j q hj => by simp at hj⟩
  | [], _ :: _, h => by simp [partsA] at h
  | _ :: _, [], h => by simp [partsA] at h
  | p :: ps, q :: qs, h => by
    simp only [partsA, Bool.and_eq_true] at h
    obtain ⟨⟨⟨h1, h1'⟩, h2⟩, h3⟩ := h
    obtain ⟨l1, l2⟩ := partsA_spec ps qs h3
    refine ⟨by simp [l1], fun j q' hj => ?_⟩
    cases j with
    | zero =>
      simp at hj; subst hj
      refine ⟨p, rfl, ?_, h2⟩
      have e1 : p.1 * k = q.1 := by simpa using h1
      have e2 : q.2.1 = k := by simpa using h1'
      rw [e1, ← e2]
    | succ j => simp at hj; simpa using l2 j q' hj

theorem evPartsR_V (hS : SlotsOk g s a.tmps) {n : Nat} : ∀ (ps : List (Nat × Operand)) (qs : List (Nat × Opd)) (rs : List (Nat × AV)), evPartsR s qs = some rs → partsL n ps qs = true →
    ps.length = rs.length ∧ ∀ (j : Nat) (q : Nat × AV), rs[j]? = some q → ∃ p, (ps.map fun x => (x.1, a.eval x.2))[j]? = some p ∧ p.1 = q.1 ∧ V g q.2 p.2
  | [], [], rs, h, _ => by simp [evPartsR] at h; subst h; exact ⟨rfl, fun j q hj => by simp at hj⟩
  | [], _ :: _, _, _, hm => by simp [partsL] at hm
  | _ :: _, [], _, _, hm => by simp [partsL] at hm
  | p :: ps, q :: qs, rs, h, hm => by
    simp only [partsL, Bool.and_eq_true] at hm
    obtain ⟨⟨⟨m1, m2⟩, m3⟩, m4⟩ := hm
    obtain ⟨i, x⟩ := q
    simp only [evPartsR] at h
    cases hx : ev s x with
    | none => simp [hx] at h
    | some u =>
      cases hr : evPartsR s qs with
      | none => simp [hx, hr] at h
      | some r =>
        simp [hx, hr] at h; subst h
        obtain ⟨l1, l2⟩ := evPartsR_V hS ps qs r hr m4
        refine ⟨by simp [l1], fun j q hj => ?_⟩
        cases j with
        | zero => simp at hj; subst hj; exact ⟨_, rfl, by simpa using m1, ev_V hS m3 hx⟩
        | succ j => simp at hj; simpa using l2 j q hj

theorem run_mapM {α β : Type} {f : α → Sem β} {h : α → β} {w : World} : ∀ (l : List α), (∀ x ∈ l, (f x).run P w = .ok (h x) w) → (l.mapM f).run P w = .ok (l.map h) w
  | [], _ => by simp
  | x :: l, hx => by
    rw [List.mapM_cons]
    simp only [Sem.run_bind, hx x (by simp), Result.andThen_ok, run_mapM l (fun y hy => hx y (by simp [hy]))]
    rfl

theorem p_build {z : List AV} {qs : List (Nat × Nat × Opd)} (hm : matchOp P o.op (.build z qs) = true) (hS : SlotsOk g s a.tmps) (h : prim c n0 s H (.build z qs) = some (v, H')) : Still P a o w g v H H' := by
  simp only [matchOp] at hm
  split at hm
  · next t ps hop =>
    simp only [Bool.and_eq_true] at hm
    obtain ⟨h1, h2⟩ := hm
    obtain ⟨i, zv, hi, hz, hC, hk⟩ := zeroIs_spec h1 g
    simp only [prim] at h
    cases hp : evParts s qs with
    | none => simp [hp] at h
    | some rs =>
      cases hf : fillC z rs with
      | none => simp [hp, hf] at h
      | some cs =>
        simp [hp, hf] at h; obtain ⟨rfl, rfl⟩ := h
        have fin : ∀ cells', (Instr.build t (ps.map fun (i, x) => (i, a.eval x))).run P w = .ok (.agg cells') w → CellsV g cs cells' → Still P a o w g (.agg cs) H H := by
          intro cells' hr hV
          refine ⟨rfl, .agg cells', by simp [execOp, hop, hr], ?_⟩
          exact .agg _ _ hV.1 (fun j x hj => let ⟨u, e1, e2, _⟩ := hV.2 j x hj; by simpa [e1] using e2) (fun j x hj => let ⟨u, e1, _, e3⟩ := hV.2 j x hj; by simpa [e1] using e3)
        have hzr : (zeroValue t).run P w = .ok zv w := by simp [zeroValue, typeInfo, hi, hz]
        have hlist : (ps.map fun (i, x) => (i, a.eval x)).toList = ps.toList.map fun x => (x.1, a.eval x.2) := by simp
        split at h2
        · next fs hu =>
          simp only [Bool.and_eq_true] at h2
          obtain ⟨h3, h4⟩ := h2
          obtain ⟨l1, l2⟩ := partsS_spec _ _ h4
          obtain ⟨m1, m2⟩ := evParts_V hS (fun i => (fs[i]?).map fun f => (f.offset, P.cellsOf f.type)) _ _ _ hp l1 l2
          obtain ⟨cells', e1, e2⟩ := fill_spec (fun i => (fs[i]?).map fun f => (f.offset, P.cellsOf f.type)) (ps.toList.map fun x => (x.1, a.eval x.2)) rs _ _ cs hC hf (by rw [List.length_map]; exact m1) m2
          refine fin cells' ?_ e2
          have hpl : (fs.mapM fun f => (do pure (f.offset, ← Go.sizeOf f.type) : Sem (Nat × Nat))).run P w = .ok (fs.map fun f => (f.offset, P.cellsOf f.type)) w := by
            rw [Array.mapM_eq_mapM_toList]
            have := run_mapM (P := P) (w := w) (f := fun f : Field => (do pure (f.offset, ← Go.sizeOf f.type) : Sem (Nat × Nat))) (h := fun f => (f.offset, P.cellsOf f.type)) fs.toList (fun f hf => by
              have := List.all_eq_true.1 h3 f hf
              simp [run_sizeOf (known_info this)])
            simp only [Sem.run_map, this, Result.andThen_ok]
            congr 1
            apply Array.ext'
            simp
          have e1' : Instr.fill (fun i => (fs.map fun f => (f.offset, P.cellsOf f.type))[i]?) zv.cells (ps.toList.map fun x => (x.1, a.eval x.2)) = some cells' := by
            rw [← e1]; congr 1; funext i; simp
          simp only [Instr.build, Sem.run_bind, hzr, Result.andThen_ok, run_underlying hu, hpl, hlist, e1']
          rfl
        · next n e hu =>
          simp only [Bool.and_eq_true] at h2
          obtain ⟨h3, h4⟩ := h2
          obtain ⟨l1, l2⟩ := partsA_spec _ _ h4
          obtain ⟨m1, m2⟩ := evParts_V hS (fun i => some (i * P.cellsOf e, P.cellsOf e)) _ _ _ hp l1 l2
          obtain ⟨cells', e1, e2⟩ := fill_spec (fun i => some (i * P.cellsOf e, P.cellsOf e)) (ps.toList.map fun x => (x.1, a.eval x.2)) rs _ _ cs hC hf (by rw [List.length_map]; exact m1) m2
          refine fin cells' ?_ e2
          simp only [Instr.build, Sem.run_bind, hzr, Result.andThen_ok, run_underlying hu, run_sizeOf (known_info h3), hlist, e1]
          rfl
        · cases h2
  · cases hm

/-- A new block that never turns. -/
theorem Rel.frozen (hR : Rel MC P B0 H g w) (cur : Array Value) (e : TypeId) :
    Rel MC P B0 H ⟨g.L, fun β o => if β = w.heap.size then cur[o]? else g.Φ β o⟩ (w.alloc (.cells cur e)) ∧
    Ext H g w H ⟨g.L, fun β o => if β = w.heap.size then cur[o]? else g.Φ β o⟩ (w.alloc (.cells cur e)) := by
  have hle : g.le ⟨g.L, fun β o => if β = w.heap.size then cur[o]? else g.Φ β o⟩ :=
    ⟨fun _ => GB.le_refl _, fun β off u h => by have := hR.phi_lt h; simp only; rw [if_neg (by omega)]; exact h⟩
  refine ⟨⟨?_, ?_, hR.inj, ?_, hR.nolive, ?_⟩, ⟨Nat.le_refl _, rfl, rfl, rfl, by simp, hle, fun _ _ h => .inl h, fun _ _ _ _ _ => rfl, fun i o h k => .inr ⟨o, h, k⟩, ?_⟩⟩
  · intro β off u h
    simp only at h
    split at h
    · next e' => subst e'; simp [h]
    · rw [World.cell?_alloc_lt _ _ _ (hR.phi_lt h)]; exact hR.phi β off u h
  · intro i β h
    obtain ⟨h1, h2⟩ := hR.base i β h
    exact ⟨h1, by simp; omega⟩
  · intro i o hi
    refine (hR.box i o hi).mono hle (fun β hb => ?_)
    have := (hR.base i β hb).2
    exact ⟨heap_alloc_old w _ β this, fun off => by simp only; rw [if_neg (by omega)]⟩
  · simp; have := hR.b0; omega
  · intro β hβ _
    exact ⟨heap_alloc_old w _ β hβ, fun off => by simp only; rw [if_neg (by omega)]⟩

theorem frz_den {x : AV} {u : Value} (hx : x.frz = true) (h : V g x u) : Den g.Φ x u := by
  cases h with
  | den _ _ hd => exact hd
  | _ => simp [AV.frz] at hx
theorem frzR_get {rows : List (List AV)} (h : frzR rows = true) {i j : Nat} {r : List AV} {x : AV} (hi : rows[i]? = some r) (hj : r[j]? = some x) : x.frz = true := by
  have h1 := List.all_eq_true.1 h r (List.mem_of_getElem? hi)
  exact List.all_eq_true.1 h1 x (List.mem_of_getElem? hj)

/-- What 'buildSlice' does. -/
theorem run_lits {t e : TypeId} {k n : Nat} {z : List AV} {ps : Array (Nat × Operand)} {qs : List (Nat × Opd)} {rs : List (Nat × AV)} {rows : List (List AV)} (hsl : sliceOf P t = some e) (hk : P.cellsOf e = k)
    (hz : zeroIs P e z = true) (hpos : 0 < k) (hle : n * k ≤ 2 ^ 24) (hm : partsL n ps.toList qs = true) (hS : SlotsOk g s a.tmps) (hp : evPartsR s qs = some rs) (hf : fillR k (List.replicate n z) rs = some rows) (w : World) :
    ∃ cur : Array Value, (Instr.buildSlice t n (ps.map fun (i, x) => (i, a.eval x))).run P w = .ok (.slice (some ⟨w.heap.size, 0, none⟩) n n) (w.alloc (.cells cur e)) ∧ RowsV g k rows cur ∧ rows.length = n := by
  have hu := sliceOf_spec hsl
  obtain ⟨i, zv, hi, hz', hC, hkz⟩ := zeroIs_spec hz g
  obtain ⟨m1, m2⟩ := evPartsR_V hS _ _ _ hp hm
  have hrz := rows_zero (n := n) hC (by omega) hpos
  obtain ⟨cur, e1, e2, e3⟩ := fillR_spec k hpos (ps.toList.map fun x => (x.1, a.eval x.2)) rs _ _ rows hrz hf (by rw [List.length_map]; exact m1) m2
  refine ⟨cur, ?_, e2, by rw [e3]; simp⟩
  have hlist : (ps.map fun (i, x) => (i, a.eval x)).toList = ps.toList.map fun x => (x.1, a.eval x.2) := by simp
  have hzr : (zeroValue e).run P w = .ok zv w := by simp [zeroValue, typeInfo, hi, hz']
  have hsz : (Go.sizeOf e).run P w = .ok k w := by rw [run_sizeOf (by simp [hi]), hk]
  have hng : ¬ n * k > 2 ^ 24 := by omega
  by_cases h0 : n * k = 0
  · have hn0 : n = 0 := by rcases Nat.mul_eq_zero.1 h0 with h | h <;> omega
    subst hn0
    have : ((Array.range (0 * k)).map (zv.cells[· % zv.cells.size]!)) = #[] := by simp
    rw [this] at e1
    have h0' : 0 * k = 0 := by simp
    simp only [Instr.buildSlice, Sem.run_bind, run_underlying hu, Result.andThen_ok, hsz, if_neg hng, if_pos h0', Sem.run_pure, hlist]
    have hr0 : Array.range (0 * k) = #[] := by simp
    simp only [hr0, Array.map_empty, e1]
    simp [newRow]
    try rfl
  · simp only [Instr.buildSlice, Sem.run_bind, run_underlying hu, Result.andThen_ok, hsz, if_neg hng, if_neg h0, hzr, Sem.run_pure, hlist, e1]
    simp [newRow]
    try rfl

theorem m_lits {k n : Nat} {z : List AV} {qs : List (Nat × Opd)} {own : Option Nat} (hm : matchOp P o.op (.lits k z n qs own) = true) (hR : Rel MC P B0 H g w) (hS : SlotsOk g s a.tmps) (hF : Free H g n0 (ranksOf (.lits k z n qs own)))
    (h : prim c n0 s H (.lits k z n qs own) = some (v, H')) : Does MC P B0 a o ((ranksOf (.lits k z n qs own)).map (n0 + ·)) H g w v H' := by
  simp only [matchOp] at hm
  split at hm
  · next t n' ps hop =>
    split at hm
    · next e hsl =>
      simp only [Bool.and_eq_true] at hm
      obtain ⟨⟨⟨⟨⟨h1, h2⟩, h3⟩, h4⟩, h5⟩, h6⟩ := hm
      have e3 : n' = n := by simpa using h3
      subst e3
      have hpos : 0 < k := by simpa using h4
      simp only [prim] at h
      cases hp : evPartsR s qs with
      | none => simp [hp] at h
      | some rs =>
        cases hf : fillR k (List.replicate n' z) rs with
        | none => simp [hp, hf] at h
        | some rows =>
          simp only [hp, hf, Option.bind_some] at h
          split at h
          · next hfr =>
            obtain ⟨cur, hrun, ⟨q1, q2, q3⟩, hlen⟩ := run_lits (a := a) hsl (by simpa using h1) h2 hpos (by simpa using h5) h6 hS hp hf w
            have hex : (execOp a.eval o).run P w = .ok (.value (.slice (some ⟨w.heap.size, 0, none⟩) n' n')) (w.alloc (.cells cur e)) := by
              simp [execOp, hop, hrun]
            cases own with
            | none =>
              simp at h; obtain ⟨rfl, rfl⟩ := h
              obtain ⟨r1, r2⟩ := hR.frozen cur e
              refine ⟨_, _, _, .inl hex, ?_, r1, r2, rfl, fun i _ h => h⟩
              refine .den _ _ ?_
              rw [← hlen]
              refine .seq _ _ _ _ (fun i j => (cur[i * k + j]?).getD undef) rfl (Nat.le_refl _) q2 (fun i r j x hi hj => ?_) (fun i r j x hi hj => ?_)
              all_goals obtain ⟨u, hu, hV, ho⟩ := q3 i r j x hi hj
              · simp [hu]
              · simp only [hu, Option.getD_some]
                exact (frz_den (frzR_get hfr hi hj) hV).mono r2.le.Φ
            | some r =>
              simp at h; obtain ⟨rfl, rfl⟩ := h
              obtain ⟨hi0, hnn⟩ := hF r (by simp [ranksOf])
              have := hR.alloc hi0 hnn (.cells cur e) (o' := .arr k false rows) (gb' := .arr k (.slice (some ⟨w.heap.size, 0, none⟩) n' n')) rfl
                ⟨rfl, hpos, q2, .inr ⟨w.heap.size, n', e, cur, by rw [hlen], by omega, ?_, heap_alloc_new w _, by rw [q1, hlen], fun i r j x hi hj => ?_, fun _ off => hR.phi_none (Nat.le_refl _), by simp⟩⟩
              · refine ⟨_, _, _, .inl hex, ?_, this.1, this.2, by simp [hset], nn_upd (by simp [ranksOf]) _ _⟩
                exact .asl _ _ k _ _ (by simp [updL]) (by simp [slen]) rfl (fun _ => rfl)
              · have : n' * k ≤ 16777216 := by simpa using h5
                have : n' ≤ n' * k := Nat.le_mul_of_pos_right _ hpos
                simp only [maxLen]; omega
              · obtain ⟨u, hu, hV, ho⟩ := q3 i r j x hi hj
                exact ⟨u, hu, show Den g.Φ x u from frz_den (frzR_get hfr hi hj) hV⟩
          · cases h
    · cases hm
  · cases hm

theorem m_xlits {k n : Nat} {z : List AV} {qs : List (Nat × Opd)} (hm : matchOp P o.op (.xlits k z n qs) = true) (hR : Rel MC P B0 H g w) (hS : SlotsOk g s a.tmps)
    (h : prim c n0 s H (.xlits k z n qs) = some (v, H')) : Does MC P B0 a o [] H g w v H' := by
  simp only [matchOp] at hm
  split at hm
  · next t n' ps hop =>
    split at hm
    · next e hsl =>
      simp only [Bool.and_eq_true] at hm
      obtain ⟨⟨⟨⟨⟨h1, h2⟩, h3⟩, h4⟩, h5⟩, h6⟩ := hm
      have e3 : n' = n := by simpa using h3
      subst e3
      have hpos : 0 < k := by simpa using h4
      simp only [prim] at h
      cases hp : evPartsR s qs with
      | none => simp [hp] at h
      | some rs =>
        cases hf : fillR k (List.replicate n' z) rs with
        | none => simp [hp, hf] at h
        | some rows =>
          simp [hp, hf] at h; obtain ⟨rfl, rfl⟩ := h
          obtain ⟨cur, hrun, ⟨q1, q2, q3⟩, hlen⟩ := run_lits (a := a) hsl (by simpa using h1) h2 hpos (by simpa using h5) h6 hS hp hf w
          have hex : (execOp a.eval o).run P w = .ok (.value (.slice (some ⟨w.heap.size, 0, none⟩) n' n')) (w.alloc (.cells cur e)) := by
            simp [execOp, hop, hrun]
          obtain ⟨r1, r2⟩ := hR.frozen cur e
          refine ⟨_, _, _, .inl hex, ?_, r1, r2, rfl, fun i _ h => h⟩
          rw [← hlen]
          refine .xseq _ _ _ _ (fun i j => (cur[i * k + j]?).getD undef) rfl (Nat.le_refl _) q2 (fun i r j x hi hj => ?_) (fun i r j x hi hj => ?_) (fun i r j x hi hj => ?_)
          all_goals obtain ⟨u, hu, hV, ho⟩ := q3 i r j x hi hj
          · simp [hu]
          · simp only [hu, Option.getD_some]; exact hV.mono r2.le
          · simpa only [hu, Option.getD_some] using ho
    · cases hm
  · cases hm
end
end Am
