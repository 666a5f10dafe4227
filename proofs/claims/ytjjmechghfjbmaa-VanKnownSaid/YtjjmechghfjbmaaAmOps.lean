/- Each abstract operation does what the program's does: operations that touch no memory. -/
import Derived.Test.YtjjmechghfjbmaaAmMatch
import Derived.Laws.StructEq
import Derived.Laws.Rows
import Derived.Laws.CopyRow
set_option linter.unusedVariables false
set_option linter.unusedSimpArgs false
set_option linter.unnecessarySimpa false
namespace Am
open Go

theorem Den.one {Φ : Nat → Nat → Option Value} {x : AV} {v : Value} (h : Den Φ x v) : v.oneCell' = true := by
  cases h <;> first | assumption | rfl

theorem litEq_eq {v w : Value} (h : litEq v w = true) : v = w ∧ w.oneCell' = true := by
  cases v <;> cases w <;> simp [litEq] at h
  · subst h; exact ⟨rfl, rfl⟩
  · obtain ⟨rfl, rfl⟩ := h; exact ⟨rfl, rfl⟩
  · rename_i s s'
    obtain ⟨⟨a⟩⟩ := s; obtain ⟨⟨b⟩⟩ := s'
    simp at h; subst h; exact ⟨rfl, rfl⟩
  · obtain ⟨rfl, rfl⟩ := h; exact ⟨rfl, rfl⟩
  · obtain ⟨rfl, rfl⟩ := h; exact ⟨rfl, rfl⟩
  · exact ⟨rfl, rfl⟩
  · exact ⟨rfl, rfl⟩

mutual
theorem matchV_V (g : Ghost) : (x : AV) → (v : Value) → matchV x v = true → V g x v
  | .lit w, v, h => by
    simp only [matchV] at h
    obtain ⟨rfl, h1⟩ := litEq_eq h
    exact .den _ _ (.lit _ h1)
  | .nils k, v, h => by
    cases v <;> simp [matchV] at h
    obtain ⟨⟨rfl, rfl⟩, rfl⟩ := h
    exact .den _ _ (.nils k)
  | .agg l, v, h => by
    cases v <;> simp [matchV] at h
    rename_i cs
    obtain ⟨h1, h2⟩ := h
    have := matchVs_V g l cs.toList h1
    refine .agg l cs (by simpa using this.1) (fun j x hj => by simpa [List.getD] using this.2 j x hj) (fun j x hj => ?_)
    have hlt : j < cs.size := by have h1 := (List.getElem?_eq_some_iff.1 hj).1; have h2 := this.1; simp at h2; omega
    simpa [hlt] using h2 j hlt
  | .tup l, v, h => by
    cases v <;> simp [matchV] at h
    rename_i cs
    have := matchVs_V g l cs.toList h
    exact .tup l cs (by simpa using this.1) (fun j x hj => by simpa [List.getD] using this.2 j x hj)
  | .seq k rows, v, h => by
    simp only [matchV, Bool.and_eq_true, List.isEmpty_iff] at h
    obtain ⟨rfl, h⟩ := h
    cases v <;> simp at h
    obtain ⟨⟨rfl, rfl⟩, rfl⟩ := h
    exact .den _ _ (.seq0 k _ _)
  | .xseq _ _, v, h => by simp [matchV] at h
  | .ptr _ _, v, h => by simp [matchV] at h
  | .itr _, v, h => by simp [matchV] at h
  | .eptr _ _ _ _, v, h => by simp [matchV] at h
  | .cptr _, v, h => by simp [matchV] at h
  | .asl _ _, v, h => by simp [matchV] at h
  | .csl _ _ _ _, v, h => by simp [matchV] at h
  | .mp _, v, h => by simp [matchV] at h
  | .fn _ _ _, v, h => by simp [matchV] at h
  | .fresh _ _, v, h => by simp [matchV] at h
  | .undef, v, h => by simp [matchV] at h
theorem matchVs_V (g : Ghost) : (m : List AV) → (l : List Value) → matchVs m l = true → l.length = m.length ∧ ∀ j x, m[j]? = some x → V g x (l.getD j undef)
  | [], l, h => by cases l <;> simp [matchVs] at h; exact ⟨rfl, fun j x h => by simp at h⟩
  | x :: m, l, h => by
    cases l with
    | nil => simp [matchVs] at h
    | cons v l =>
      simp [matchVs] at h
      have h1 := matchV_V g x v h.1
      obtain ⟨h2, h3⟩ := matchVs_V g m l h.2
      refine ⟨by simp [h2], fun j y hj => ?_⟩
      cases j with
      | zero => simp at hj; subst hj; simpa using h1
      | succ j => simp at hj; simpa using h3 j y hj
end

theorem V_fun (g : Ghost) (f : Nat) : V g (.fn (.func f) [] []) (.func (.func f) #[] #[]) :=
  .fn _ _ _ _ _ _ rfl rfl rfl (fun j x h => by simp at h) (fun j x h => by simp at h)

section
variable {g : Ghost} {s : Slots} {a : Act}

theorem ev_V (hS : SlotsOk g s a.tmps) {x : Operand} {y : Opd} (hm : matchOpd x y = true) {v : AV} (h : ev s y = some v) : V g v (a.eval x) := by
  cases x <;> cases y <;> simp [matchOpd] at hm
  · subst hm
    obtain ⟨u, hu, hV⟩ := hS _ _ h
    simpa [Act.eval, hu] using hV
  · simp [ev] at h; subst h; exact matchV_V g _ _ hm
  · simp [ev] at h; subst hm; subst h; exact V_fun g _

theorem evs_V (hS : SlotsOk g s a.tmps) : ∀ {xs : List Operand} {ys : List Opd} (hm : matchOpds xs ys = true) {vs : List AV} (h : evs s ys = some vs),
    vs.length = xs.length ∧ ∀ j v, vs[j]? = some v → V g v ((xs.map a.eval).getD j undef)
  | [], [], _, vs, h => by simp [evs] at h; subst h; exact ⟨rfl, fun j v h => by simp at h⟩
  | [], _ :: _, hm, _, _ => by simp [matchOpds] at hm
  | _ :: _, [], hm, _, _ => by simp [matchOpds] at hm
  | x :: xs, y :: ys, hm, vs, h => by
    simp only [matchOpds, Bool.and_eq_true] at hm
    simp only [evs] at h
    cases hv : ev s y with
    | none => simp [hv] at h
    | some v =>
      cases hvs : evs s ys with
      | none => simp [hv, hvs] at h
      | some l =>
        simp [hv, hvs] at h; subst h
        obtain ⟨h1, h2⟩ := evs_V hS hm.2 hvs
        refine ⟨by simp [h1], fun j u hj => ?_⟩
        cases j with
        | zero => simp at hj; subst hj; simpa using ev_V hS hm.1 hv
        | succ j => simp at hj; simpa using h2 j u hj

/-- The abstract value of a literal is that literal. -/
theorem V_lit {v w : Value} (h : V g (.lit v) w) : w = v := by
  cases h with | den _ _ h => cases h; rfl
end

/-- What an operation yields: a value, or nothing (its slot then holds the undefined value). -/
def Gives (r : Result Next) (x : Value) (w : World) : Prop := r = .ok (.value x) w ∨ (r = .ok .skip w ∧ x = undef)

theorem V_skip (g : Ghost) : V g (.tup []) undef := .tup [] #[] rfl (fun j x h => by simp at h)

/-! ### reading -/
section
variable {MC : Nat → Code → ACode → Prop} {P : Program} {B0 : Nat} {H : AHeap} {g : Ghost} {w : World}

theorem hcells_rd {b : Nat} {cs : List AV} (h : hcells H b = some cs) : ∃ o, H[b]? = some o ∧ o.rd = .cells cs := by
  unfold hcells hget at h
  split at h <;> simp at h
  · subst h; exact ⟨_, ‹_›, rfl⟩
  · subst h; exact ⟨_, ‹_›, rfl⟩
theorem harr_rd {b : Nat} {r : Nat × Bool × List (List AV)} (h : harr H b = some r) : ∃ o, H[b]? = some o ∧ o.rd = .arr r.1 r.2.1 r.2.2 := by
  unfold harr hget at h
  split at h <;> simp at h
  · subst h; exact ⟨_, ‹_›, rfl⟩
  · subst h; exact ⟨_, ‹_›, rfl⟩
theorem hmap_rd {b : Nat} {es : List (AV × AV)} (h : hmap H b = some es) : ∃ o, H[b]? = some o ∧ o.rd = .map es := by
  unfold hmap hget at h
  split at h <;> simp at h
  · subst h; exact ⟨_, ‹_›, rfl⟩
  · subst h; exact ⟨_, ‹_›, rfl⟩
theorem hcellsW_get {b : Nat} {cs : List AV} (h : hcellsW H b = some cs) : H[b]? = some (.cells cs) := by
  unfold hcellsW hget at h
  split at h <;> simp at h
  subst h; assumption
theorem harrW_get {b : Nat} {r : Nat × Bool × List (List AV)} (h : harrW H b = some r) : H[b]? = some (.arr r.1 r.2.1 r.2.2) := by
  unfold harrW hget at h
  split at h <;> simp at h
  subst h; assumption
theorem hmapW_get {b : Nat} {es : List (AV × AV)} (h : hmapW H b = some es) : H[b]? = some (.map es) := by
  unfold hmapW hget at h
  split at h <;> simp at h
  subst h; assumption

theorem Rel.cells (hR : Rel MC P B0 H g w) {b : Nat} {cs : List AV} (h : hcells H b = some cs) : ∃ β e, g.L b = .cells β e ∧ BoxOk MC P g w (.cells cs) (.cells β e) := by
  obtain ⟨o, h1, h2⟩ := hcells_rd h
  have := hR.box b o h1
  rw [h2] at this
  cases hL : g.L b <;> rw [hL] at this <;> first | exact this.elim | exact ⟨_, _, rfl, this⟩
theorem Rel.arr (hR : Rel MC P B0 H g w) {b k : Nat} {p : Bool} {rows : List (List AV)} (h : harr H b = some (k, p, rows)) : ∃ v, g.L b = .arr k v ∧ BoxOk MC P g w (.arr k p rows) (.arr k v) := by
  obtain ⟨o, h1, h2⟩ := harr_rd h
  have := hR.box b o h1
  rw [h2] at this
  cases hL : g.L b <;> rw [hL] at this <;> try exact this.elim
  obtain ⟨rfl, h3⟩ := this
  exact ⟨_, rfl, rfl, h3⟩
theorem Rel.map (hR : Rel MC P B0 H g w) {b : Nat} {es : List (AV × AV)} (h : hmap H b = some es) : ∃ β, g.L b = .map β ∧ BoxOk MC P g w (.map es) (.map β) := by
  obtain ⟨o, h1, h2⟩ := hmap_rd h
  have := hR.box b o h1
  rw [h2] at this
  cases hL : g.L b <;> rw [hL] at this <;> first | exact this.elim | exact ⟨_, rfl, this⟩

/-- Memory from p on holds these. -/
def Holds (g : Ghost) (w : World) (p : Addr) (cs : List AV) : Prop :=
  p.spot = none ∧ ∀ (j : Nat) (x : AV), cs[j]? = some x → ∃ v, w.cell? ⟨p.block, p.off + j, none⟩ = some v ∧ V g x v ∧ v.oneCell' = true

theorem ptrCells_holds (hR : Rel MC P B0 H g w) {p : AV} {cs : List AV} (h : ptrCells H p = some cs) {v : Value} (hV : V g p v) (hne : cs ≠ []) :
    ∃ a, v = .pointer (some a) ∧ Holds g w a cs := by
  cases p <;> simp only [ptrCells] at h <;> try (simp at h; done)
  · rename_i b o
    cases hc : hcells H b with
    | none => simp [hc] at h
    | some l =>
      simp [hc] at h; subst h
      obtain ⟨β, e, hL, c, h1, h2, h3, h4⟩ := hR.cells hc
      cases hV with
      | den _ _ hd => cases hd
      | ptr _ _ β' e' hL' =>
        rw [hL] at hL'; cases hL'
        refine ⟨_, rfl, rfl, fun j x hj => ?_⟩
        rw [List.getElem?_drop] at hj
        obtain ⟨v, hv, hV', ho⟩ := h3 _ _ hj
        exact ⟨v, by simpa [World.cell?, h1] using hv, hV', ho⟩
  · rename_i b n i o
    cases hc : harr H b with
    | none => simp [hc] at h
    | some r =>
      obtain ⟨k, pb, rows⟩ := r
      simp only [hc] at h
      by_cases hn : Nat.beq rows.length n = true
      · simp only [hn, if_true] at h
        have hn' : rows.length = n := Nat.eq_of_beq_eq_true hn
        cases hr : rows[i]? with
        | none => simp [hr] at h
        | some r =>
          simp [hr] at h; subst h
          obtain ⟨v0, hL, _, hk, hlen, hv0⟩ := hR.arr hc
          cases hV with
          | den _ _ hd => cases hd
          | eptr _ _ _ _ k' v' p' hL' hle hp =>
            rw [hL] at hL'; cases hL'
            rcases hv0 with ⟨h0, _⟩ | ⟨β, c, e, cur, hv, h5, h6, h7, h8, h9, _⟩
            · subst h0; simp at hr
            · subst hv
              obtain ⟨β', c', e1, e2⟩ := hp (by simpa [slen] using hn')
              cases e1
              refine ⟨_, rfl, by rw [e2], fun j x hj => ?_⟩
              rw [List.getElem?_drop] at hj
              obtain ⟨u, hu, hd⟩ := h9 _ _ _ _ hr hj
              refine ⟨u, ?_, .den _ _ hd, hd.one⟩
              subst e2
              simp [World.cell?, h7]
              rw [show i * k + o + j = i * k + (o + j) by omega]
              exact hu
      · simp [hn] at h
  · rename_i l
    simp at h; subst h
    cases hV with
    | den _ _ hd => cases hd
    | cptr _ a vs hs h1 h2 h3 =>
      exact ⟨a, rfl, hs, fun j x hj => ⟨vs j, hR.phi _ _ _ (h1 j x hj), h2 j x hj, h3 j x hj⟩⟩

theorem run_isAgg {t : TypeId} (h : (P.underlying t).isSome = true) (w : World) : (isAgg t).run P w = .ok (isAggB P t) w := by
  obtain ⟨d, hd⟩ := Option.isSome_iff_exists.1 h
  simp only [isAgg, Sem.run_bind, run_underlying hd, Result.andThen_ok, isAggB, hd]
  cases d <;> rfl
theorem run_sizeOf {t : TypeId} (h : (P.info? t).isSome = true) (w : World) : (Go.sizeOf t).run P w = .ok (P.cellsOf t) w := by
  obtain ⟨i, hi⟩ := Option.isSome_iff_exists.1 h
  simp [Go.sizeOf, typeInfo, Program.cellsOf, hi]

theorem known_info {t : TypeId} (h : known P t = true) : (P.info? t).isSome = true := by simp [known] at h; exact h.1
theorem known_und {t : TypeId} (h : known P t = true) : (P.underlying t).isSome = true := by simp [known] at h; exact h.2

theorem Holds.add {p : Addr} {cs : List AV} (h : Holds g w p cs) (n : Nat) : ∀ (j : Nat) (x : AV), (cs.drop n)[j]? = some x → ∃ v, w.cell? ((p.add n).add j) = some v ∧ V g x v ∧ v.oneCell' = true := by
  intro j x hj
  rw [List.getElem?_drop] at hj
  obtain ⟨v, hv, r⟩ := h.2 _ _ hj
  refine ⟨v, ?_, r⟩
  obtain ⟨pb, po, ps⟩ := p
  have hs : ps = none := h.1
  subst hs
  have e1 : ((⟨pb, po, none⟩ : Addr).add n).add j = ⟨pb, po + (n + j), none⟩ := by
    unfold Addr.add; split <;> split <;> simp_all <;> omega
  rw [e1]; exact hv

def takeK : Option Nat → List AV → AV
  | none, cs => cs.headD default
  | some k, cs => .agg (cs.take k)

theorem run_loadVar_holds {t : TypeId} {k : Option Nat} (ht : sizeIs P t k = true) {p : Addr} {cs : List AV} (h : Holds g w p cs) (hl : k.getD 1 ≤ cs.length) :
    ∃ x, (loadVar t p).run P w = .ok x w ∧ V g (takeK k cs) x := by
  have hadd := h.add 0
  obtain ⟨pb, po, ps⟩ := p
  have hs : ps = none := h.1
  subst hs
  cases k with
  | none =>
    simp [sizeIs] at ht
    cases cs with
    | nil => simp at hl
    | cons x l =>
      obtain ⟨v, hv, hV, _⟩ := h.2 0 x rfl
      refine ⟨v, ?_, by simpa [takeK] using hV⟩
      simp only [loadVar, Sem.run_bind, run_isAgg (known_und ht.1), ht.2, Result.andThen_ok, Bool.false_eq_true, if_false, run_load]
      simp only [Nat.add_zero] at hv
      simp [hv]
  | some k =>
    simp [sizeIs] at ht
    simp at hl
    obtain ⟨⟨hk, ha⟩, hc⟩ := ht
    have hex : ∀ j : Nat, ∃ v, j < k → (w.cell? ((⟨pb, po, none⟩ : Addr).add j) = some v ∧ (∀ x, cs[j]? = some x → V g x v ∧ v.oneCell' = true)) := by
      intro j
      by_cases hj : j < k
      · obtain ⟨v, hv, r⟩ := hadd j (cs[j]'(by omega)) (by simp [List.getElem?_eq_getElem (show j < cs.length by omega)])
        refine ⟨v, fun _ => ⟨by simpa [Addr.add] using hv, fun x hx => ?_⟩⟩
        rw [List.getElem?_eq_getElem (by omega)] at hx
        cases hx; exact r
      · exact ⟨undef, fun h => absurd h hj⟩
    obtain ⟨f, hf⟩ := Classical.axiomOfChoice hex
    refine ⟨.agg ((List.range k).map f).toArray, ?_, ?_⟩
    · simp only [loadVar, Sem.run_bind, run_isAgg (known_und hk), ha, Result.andThen_ok, if_true, run_sizeOf (known_info hk), hc, run_loadCells w _ k f (fun j hj => (hf j hj).1)]
      rfl
    · simp only [takeK]
      have hlk : (cs.take k).length = k := by simp; omega
      refine .agg _ _ (by simp; omega) (fun j x hj => ?_) (fun j x hj => ?_)
      all_goals
        have hjk : j < k := by have := (List.getElem?_eq_some_iff.1 hj).1; omega
        rw [List.getElem?_take_of_lt hjk] at hj
        have := (hf j hjk).2 x hj
        simp [hjk]
      · exact this.1
      · exact this.2
end

/-! ### operations that leave memory as it is -/
section
variable {MC : Nat → Code → ACode → Prop} {P : Program} {B0 : Nat} {c : Sc} {n0 : Nat} {H H' : AHeap} {g : Ghost} {w : World} {s : Slots} {a : Act} {o : Oper} {v : AV}

/-- It yields a value that the abstract one stands for, and turns nothing. -/
def Still (P : Program) (a : Act) (o : Oper) (w : World) (g : Ghost) (v : AV) (H H' : AHeap) : Prop :=
  H' = H ∧ ∃ x, (execOp a.eval o).run P w = .ok (.value x) w ∧ V g v x

theorem p_mv {y : Opd} (hm : matchOp P o.op (.mv y) = true) (hS : SlotsOk g s a.tmps) (h : prim c n0 s H (.mv y) = some (v, H')) : Still P a o w g v H H' := by
  simp only [matchOp] at hm
  cases he : ev s y with
  | none => simp [prim, he] at h
  | some u =>
    simp [prim, he] at h
    obtain ⟨rfl, rfl⟩ := h
    refine ⟨rfl, ?_⟩
    split at hm
    · next x hop => exact ⟨_, by simp [execOp, hop], ev_V hS hm he⟩
    · next x hop => exact ⟨_, by simp [execOp, hop], ev_V hS hm he⟩
    · next args argTypes hop =>
      split at hm
      · next n x t h1 h2 =>
        split at hm
        · next m e hu =>
          simp at hm
          simp [ev] at he
          subst he
          have ea : argTypes[0]? = some t := by rw [← Array.getElem?_toList, h2]; rfl
          have eb : (args.map a.eval)[0]? = some (a.eval x) := by rw [Array.getElem?_map, ← Array.getElem?_toList, h1]; rfl
          refine ⟨.int .i64 n, ?_, .den _ _ (.lit _ rfl)⟩
          simp [execOp, hop, resolve, invoke, builtin, Builtin.len_, ea, eb, run_underlying hu, goInt, hm]
        · cases hm
      · cases hm
    · cases hm

theorem p_pick {x y z : Opd} (hm : matchOp P o.op (.pick x y z) = true) (hS : SlotsOk g s a.tmps) (h : prim c n0 s H (.pick x y z) = some (v, H')) : Still P a o w g v H H' := by
  simp only [matchOp] at hm
  split at hm
  · next c' a' b' hop =>
    simp only [Bool.and_eq_true] at hm
    simp only [prim] at h
    split at h
    · next hc =>
      have h1 := V_lit (ev_V hS hm.1.1 hc)
      cases he : ev s y with
      | none => simp [he] at h
      | some u =>
        simp [he] at h; obtain ⟨rfl, rfl⟩ := h
        exact ⟨rfl, _, by simp [execOp, hop, h1, asBool], ev_V hS hm.1.2 he⟩
    · next hc =>
      have h1 := V_lit (ev_V hS hm.1.1 hc)
      cases he : ev s z with
      | none => simp [he] at h
      | some u =>
        simp [he] at h; obtain ⟨rfl, rfl⟩ := h
        exact ⟨rfl, _, by simp [execOp, hop, h1, asBool], ev_V hS hm.2 he⟩
    · cases h
  · cases hm

theorem p_load {k : Option Nat} {y : Opd} (hm : matchOp P o.op (.load k y) = true) (hR : Rel MC P B0 H g w) (hS : SlotsOk g s a.tmps) (hk : k ≠ some 0) (h : prim c n0 s H (.load k y) = some (v, H')) : Still P a o w g v H H' := by
  simp only [matchOp] at hm
  split at hm
  · next t x hop =>
    simp only [Bool.and_eq_true] at hm
    have fin : ∀ p cs, ev s y = some p → ptrCells H p = some cs → k.getD 1 ≤ cs.length → v = takeK k cs → H' = H → Still P a o w g v H H' := by
      intro p cs he hp hl hv hH
      have hne : cs ≠ [] := by
        intro e; subst e
        cases k with
        | none => simp at hl
        | some k => simp at hl; subst hl; exact hk rfl
      obtain ⟨ad, e1, e2⟩ := ptrCells_holds hR hp (ev_V hS hm.2 he) hne
      obtain ⟨u, hu, hV⟩ := run_loadVar_holds hm.1 e2 hl
      refine ⟨hH, u, ?_, by rw [hv]; exact hV⟩
      simp [execOp, hop, Instr.loadAt, Instr.sureAddr, e1, hu]
    cases k with
    | none =>
      simp only [prim] at h
      split at h
      · next p he =>
        split at h
        · next u l hp => simp at h; exact fin p _ he hp (by simp) (by simp [takeK, h.1]) h.2.symm
        · cases h
      · cases h
    | some k =>
      simp only [prim] at h
      split at h
      · next p he =>
        split at h
        · next cs hp =>
          split at h
          · next hle => simp at h; exact fin p _ he hp (by simpa using hle) (by simp [takeK, h.1]) h.2.symm
          · cases h
        · cases h
      · cases h
  · cases hm

theorem p_nilck {y : Opd} (hm : matchOp P o.op (.nilck y) = true) (hS : SlotsOk g s a.tmps) (h : prim c n0 s H (.nilck y) = some (v, H')) : Still P a o w g v H H' := by
  simp only [matchOp] at hm
  split at hm
  · next x hop =>
    simp only [prim] at h
    split at h <;> simp at h
    all_goals
      obtain ⟨rfl, rfl⟩ := h
      have hV := ev_V hS hm ‹_›
      refine ⟨rfl, a.eval x, ?_, hV⟩
      simp only [execOp, hop]
      generalize a.eval x = u at hV ⊢
    · cases hV with
      | den _ _ hd => cases hd
      | ptr _ _ β e hL => simp [*]
    · cases hV with
      | den _ _ hd => cases hd
      | eptr => simp [*]
    · cases hV with
      | den _ _ hd => cases hd
      | cptr => simp [*]
    · cases hV with
      | den _ _ hd => cases hd
      | fn f f' a1 c1 a' c' hf =>
        simp only [FnRel] at hf
        subst hf
        simp [*]
  · cases hm
end
end Am
